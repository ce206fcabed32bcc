/- Parts of one proof, joined: Rkg, Tkc, Tkd, Tke. Conditions: those of each statement. -/
import Derived.Test.YtdjjlmphifgnnaaGreatCc7
namespace Go.Proofs.YtdjjlmphifgnnaaGreat
open Go.RowKit Go.Sort Go.Proofs.YtdjjlmphifgnnaaGreatW.PrintWords Go.Proofs.YtdjjlmphifgnnaaGreatW.PrintLast Go.Proofs.YtdjjlmphifgnnaaGreatW.PrintMore
open Stb (mrg Pre Sorted stb)
open Flt (nanP canP keyP midP)
set_option linter.unusedVariables false
set_option linter.unusedSimpArgs false
/-- a list's tasks in their order -/
def ordP (l : List Tsk) (list : Nat) : List Tsk := stb tle (l.filter fun x => x.list == list)
def endP (o : List Tsk) (at_ : Int) : Nat × Int := if (midP (endsP o at_).1 (endsP o at_).2).2 = false then (0, 100) else ((midP (endsP o at_).1 (endsP o at_).2).1, 0)
def behP (o : List Tsk) (after : Nat) : Nat × Int :=
  if after = 0 then (if o.length = 0 then (0, 0) else endP o (-1))
  else if idxP (fun x : Tsk => x.id == after) o 0 < 0 then (0, 93) else endP o (idxP (fun x : Tsk => x.id == after) o 0)
def betP (ls : List Lst) (l : List Tsk) (list after : Nat) : Nat × Int := if (findL ls list).2 = false then (0, 91) else behP (ordP l list) after
theorem ordP_mem {l : List Tsk} {list : Nat} {x : Tsk} : x ∈ ordP l list ↔ x ∈ l ∧ x.list = list := by
  unfold ordP
  rw [(Stb.stb_perm _).mem_iff, List.mem_filter, beq_iff_eq]
theorem ordP_len (l : List Tsk) (list : Nat) : (ordP l list).length ≤ l.length := by
  unfold ordP
  rw [Stb.stb_length]
  exact List.length_filter_le _ _
theorem getD_mem {o : List Tsk} {i : Nat} (h : i < o.length) : o.getD i zT ∈ o := by
  rw [List.getD_eq_getElem?_getD, List.getElem?_eq_getElem h]
  exact List.getElem_mem h
theorem ends_ok {o : List Tsk} {at_ : Int} (h : ∀ x ∈ o, nanP x.rank.b = false) (ha : -1 ≤ at_ ∧ at_ < o.length) : (endsP o at_).1 < 18446744073709551616 ∧ (endsP o at_).2 < 18446744073709551616 ∧ nanP (endsP o at_).1 = false ∧ nanP (endsP o at_).2 = false := by
  unfold endsP
  refine ⟨?_, ?_, ?_, ?_⟩ <;> simp only [] <;> split
  · exact W64.lt _
  · decide
  · exact W64.lt _
  · decide
  · exact h _ (getD_mem (by omega))
  · decide
  · exact h _ (getD_mem (by omega))
  · decide
def BetQ (w : World) (r : Nat × Int) (e : Ending) (w' : World) : Prop := e = .returned (.tuple #[.float .f64 r.1, .int .i64 r.2]) ∧ Below w.heap.size w w'
theorem ord_reads {w w' : World} {l : List Tsk} {e : Ending} (h : OrdQ w l e w') : ∃ A c, e = .returned (.slice A l.length c) ∧ kT.C w' A l.length l ∧ Below w.heap.size w w' := by
  obtain ⟨A, n, c, rfl, hR, hb⟩ := h
  have h1 := Kd.R_reads' hR
  obtain ⟨A2, c2, e2⟩ := Kd.R_slice hR
  injection e2 with e3 e4 e5
  subst e4
  exact ⟨A, c, rfl, h1.2.2, hb⟩
set_option maxRecDepth 100000 in
set_option maxHeartbeats 4000000 in
theorem between_calls (w : World) (LA TA : Option Addr) (lc tc : Nat) (ls : List Lst) (l : List Tsk) (list after : Nat) (hL : kL.C w LA ls.length ls) (hT : kT.C w TA l.length l) (hln : ls.length ≤ 1000) (hlen : l.length ≤ 1000) (htag : ∀ x ∈ l, x.tags.length ≤ 1000) (hnan : ∀ x ∈ l, nanP x.rank.b = false) :
    Calls Tryz.prog 9 #[.agg #[.slice LA ls.length lc, .slice TA l.length tc], .int .u64 (list : Int), .int .u64 (after : Int)] w (BetQ w (betP ls l list after)) := by
  have hb := (Below.refl w.heap.size w).alloc (Nat.le_refl _) (.cells #[.slice LA ls.length lc, .slice TA l.length tc] 25)
  obtain ⟨⟨⟨xi, xn⟩, b⟩, hf⟩ : ∃ r, findL ls list = r := ⟨_, rfl⟩
  have hli := lists_calls (w.alloc (.cells #[.slice LA ls.length lc, .slice TA l.length tc] 25)) LA TA lc l.length tc ls list (Kd.C_below hL hb) (by omega)
  rw [hf] at hli
  have HLI : Aside0 (Calls Tryz.prog 22 #[.agg #[.slice LA ls.length lc, .slice TA l.length tc], .int .u64 (list : Int)] (w.alloc (.cells #[.slice LA ls.length lc, .slice TA l.length tc] 25)) fun e w' => e = .returned (.tuple #[.agg #[.int .u64 (xi : Int), .string xn], .bool b]) ∧ Below (w.alloc (.cells #[.slice LA ls.length lc, .slice TA l.length tc] 25)).heap.size (w.alloc (.cells #[.slice LA ls.length lc, .slice TA l.length tc] 25)) w') := ⟨hli⟩
  have s0 : (w.alloc (.cells #[.slice LA ls.length lc, .slice TA l.length tc] 25)).cell? ⟨w.heap.size, 0, none⟩ = some (.slice LA ls.length lc) := by simp [go_sem]
  have s1 : (w.alloc (.cells #[.slice LA ls.length lc, .slice TA l.length tc] 25)).cell? ⟨w.heap.size, 1, none⟩ = some (.slice TA l.length tc) := by simp [go_sem]
  have SC := Aside0.mk (And.intro s0 s1)
  have HB1 := Aside0.mk hb
  have HT := Aside0.mk hT
  have HLEN := Aside0.mk hlen
  have HTAG := Aside0.mk htag
  obtain ⟨o, ho⟩ : ∃ o, ordP l list = o := ⟨_, rfl⟩
  have hol : o.length ≤ 1000 := by rw [← ho]; exact Nat.le_trans (ordP_len _ _) hlen
  have hon : ∀ x ∈ o, nanP x.rank.b = false := fun x hx => hnan x (ordP_mem.1 (by rw [ho]; exact hx)).1
  have HOL := Aside0.mk hol
  have HON := Aside0.mk hon
  have HO := Aside0.mk ho
  have HOR := Aside0.mk (fun (W : World) (hC : kT.C W TA l.length l) => order_calls W LA TA ls.length lc tc l list hC hlen htag)
  clear hli hb hL hT hln hlen htag hnan hon
  cases b with
  | false =>
    have HE := Aside0.mk (show betP ls l list after = (0, 91) from by unfold betP; rw [hf]; rfl)
    clear hf ho hol s0 s1
    go_enter Tryz.func9, Tryz.ntmps9
    go_wp2_with (first
      | (go_at_call 22; refine HLI.out.mono ?_; rintro e w2 ⟨rfl, hb⟩; have HB2 := Aside0.mk (HB1.out.trans (hb.mono HB1.out.size)); clear hb))
    go_ret2
    exact ⟨by rw [HE.out]; rfl, HB2.out.alloc HB2.out.size _⟩
  | true =>
    have HE := Aside0.mk (show betP ls l list after = behP o after from by unfold betP; rw [hf, ho]; rfl)
    have hoz : (o.length : Int) ≤ 1000 := by omega
    clear hf ho s0 s1
    by_cases ha : after = 0
    · subst ha
      have haz : (((0 : Nat) : Int) != 0) = false := rfl
      by_cases h0 : o.length = 0
      · have HZ := Aside0.mk (show behP o 0 = (0, 0) from by unfold behP; rw [if_pos rfl, if_pos h0])
        have h0z : ((o.length : Int) == 0) = true := by simp [h0]
        clear h0
        go_enter Tryz.func9, Tryz.ntmps9
        go_wp2_with (first
          | (go_at_call 22; refine HLI.out.mono ?_; rintro e w2 ⟨rfl, hb⟩; have HB2 := Aside0.mk (HB1.out.trans (hb.mono HB1.out.size)); have t0 := pw_cell_below hb SC.out.1; have t1 := pw_cell_below hb SC.out.2; have hx := (Below.refl w2.heap.size w2).alloc (Nat.le_refl _) (.cells #[.int .u64 (xi : Int), .string xn] 41); replace t0 := pw_cell_below hx t0; replace t1 := pw_cell_below hx t1; clear hx; have HA2 := Aside0.mk (HB2.out.alloc HB2.out.size (.cells #[.int .u64 (xi : Int), .string xn] 41)); clear hb)
          | (go_at_call 8; go_loud (refine (HOR.out _ (Kd.C_below HT.out HA2.out)).mono ?_); intro e w3 hq; obtain ⟨A3, c3, rfl, hC, hb⟩ := ord_reads hq; have HB3 := Aside0.mk (HA2.out.trans (hb.mono HA2.out.size)); replace hC := (show kT.C w3 A3 o.length o from by rw [← HO.out]; exact hC); have HC3 := Aside0.mk hC; have hlo : (stb tle (l.filter fun x => x.list == list)).length = o.length := congrArg List.length HO.out; rw [hlo]; clear hq hC hb hlo))
        go_ret2
        exact ⟨by rw [HE.out, HZ.out]; rfl, HB3.out⟩
      · have HZ := Aside0.mk (show behP o 0 = endP o (-1) from by unfold behP; rw [if_pos rfl, if_neg h0])
        have h0z : ((o.length : Int) == 0) = false := by rw [beq_eq_false_iff_ne]; omega
        clear h0
        have HAT : Aside0 (-1 ≤ (-1) ∧ (-1) < (o.length : Int)) := ⟨by omega⟩
        obtain ⟨q1, q2, q3, q4⟩ := ends_ok HON.out HAT.out
        have HMI := Aside0.mk (fun w => mid_calls (endsP o (-1)).1 (endsP o (-1)).2 q1 q2 q3 q4 w)
        have HEE := Aside0.mk (show endP o (-1) = if (midP (endsP o (-1)).1 (endsP o (-1)).2).2 = false then (0, 100) else ((midP (endsP o (-1)).1 (endsP o (-1)).2).1, 0) from rfl)
        generalize midP (endsP o (-1)).1 (endsP o (-1)).2 = m at HMI HEE
        obtain ⟨mf, mb⟩ := m
        clear q1 q2 q3 q4
        cases mb with
        | false =>
          replace HEE := Aside0.mk (show endP o (-1) = (0, 100) from by rw [HEE.out]; rfl)
          go_enter Tryz.func9, Tryz.ntmps9
          go_wp2_with (first
            | (go_at_call 22; refine HLI.out.mono ?_; rintro e w2 ⟨rfl, hb⟩; have HB2 := Aside0.mk (HB1.out.trans (hb.mono HB1.out.size)); have t0 := pw_cell_below hb SC.out.1; have t1 := pw_cell_below hb SC.out.2; have hx := (Below.refl w2.heap.size w2).alloc (Nat.le_refl _) (.cells #[.int .u64 (xi : Int), .string xn] 41); replace t0 := pw_cell_below hx t0; replace t1 := pw_cell_below hx t1; clear hx; have HA2 := Aside0.mk (HB2.out.alloc HB2.out.size (.cells #[.int .u64 (xi : Int), .string xn] 41)); clear hb)
            | (go_at_call 8; go_loud (refine (HOR.out _ (Kd.C_below HT.out HA2.out)).mono ?_); intro e w3 hq; obtain ⟨A3, c3, rfl, hC, hb⟩ := ord_reads hq; have HB3 := Aside0.mk (HA2.out.trans (hb.mono HA2.out.size)); replace hC := (show kT.C w3 A3 o.length o from by rw [← HO.out]; exact hC); have HC3 := Aside0.mk hC; have hlo : (stb tle (l.filter fun x => x.list == list)).length = o.length := congrArg List.length HO.out; rw [hlo]; clear hq hC hb hlo)
            | (go_at_call 23; refine (ends_calls w3 A3 c3 o (-1) o.length rfl HC3.out (by omega) HAT.out).mono ?_; rintro e w5 ⟨rfl, hd⟩; have HB5 := Aside0.mk (HB3.out.trans (hd.below.mono HB3.out.size)); clear hd)
            | (go_at_call 24; refine (HMI.out _).mono ?_; rintro e w6 ⟨rfl, hd⟩; have HB6 := Aside0.mk (HB5.out.trans (hd.below.mono HB5.out.size)); clear hd))
          go_ret2
          exact ⟨by rw [HE.out, HZ.out, HEE.out]; rfl, HB6.out⟩
        | true =>
          replace HEE := Aside0.mk (show endP o (-1) = (mf, 0) from by rw [HEE.out]; rfl)
          go_enter Tryz.func9, Tryz.ntmps9
          go_wp2_with (first
            | (go_at_call 22; refine HLI.out.mono ?_; rintro e w2 ⟨rfl, hb⟩; have HB2 := Aside0.mk (HB1.out.trans (hb.mono HB1.out.size)); have t0 := pw_cell_below hb SC.out.1; have t1 := pw_cell_below hb SC.out.2; have hx := (Below.refl w2.heap.size w2).alloc (Nat.le_refl _) (.cells #[.int .u64 (xi : Int), .string xn] 41); replace t0 := pw_cell_below hx t0; replace t1 := pw_cell_below hx t1; clear hx; have HA2 := Aside0.mk (HB2.out.alloc HB2.out.size (.cells #[.int .u64 (xi : Int), .string xn] 41)); clear hb)
            | (go_at_call 8; go_loud (refine (HOR.out _ (Kd.C_below HT.out HA2.out)).mono ?_); intro e w3 hq; obtain ⟨A3, c3, rfl, hC, hb⟩ := ord_reads hq; have HB3 := Aside0.mk (HA2.out.trans (hb.mono HA2.out.size)); replace hC := (show kT.C w3 A3 o.length o from by rw [← HO.out]; exact hC); have HC3 := Aside0.mk hC; have hlo : (stb tle (l.filter fun x => x.list == list)).length = o.length := congrArg List.length HO.out; rw [hlo]; clear hq hC hb hlo)
            | (go_at_call 23; refine (ends_calls w3 A3 c3 o (-1) o.length rfl HC3.out (by omega) HAT.out).mono ?_; rintro e w5 ⟨rfl, hd⟩; have HB5 := Aside0.mk (HB3.out.trans (hd.below.mono HB3.out.size)); clear hd)
            | (go_at_call 24; refine (HMI.out _).mono ?_; rintro e w6 ⟨rfl, hd⟩; have HB6 := Aside0.mk (HB5.out.trans (hd.below.mono HB5.out.size)); clear hd))
          go_ret2
          exact ⟨by rw [HE.out, HZ.out, HEE.out]; rfl, HB6.out⟩
    · have haz : ((after : Int) != 0) = true := by rw [bne_iff_ne]; omega
      rcases idxP_spec (fun x : Tsk => x.id == after) o 0 with ⟨h1, _, _⟩ | ⟨j, x, h1, h2, _⟩
      · have HZ := Aside0.mk (show behP o after = (0, 93) from by unfold behP; rw [if_neg ha, if_pos (by rw [h1]; decide)])
        have HIX := Aside0.mk h1
        clear h1 ha
        go_enter Tryz.func9, Tryz.ntmps9
        go_wp2_with (first
          | (go_at_call 22; refine HLI.out.mono ?_; rintro e w2 ⟨rfl, hb⟩; have HB2 := Aside0.mk (HB1.out.trans (hb.mono HB1.out.size)); have t0 := pw_cell_below hb SC.out.1; have t1 := pw_cell_below hb SC.out.2; have hx := (Below.refl w2.heap.size w2).alloc (Nat.le_refl _) (.cells #[.int .u64 (xi : Int), .string xn] 41); replace t0 := pw_cell_below hx t0; replace t1 := pw_cell_below hx t1; clear hx; have HA2 := Aside0.mk (HB2.out.alloc HB2.out.size (.cells #[.int .u64 (xi : Int), .string xn] 41)); clear hb)
          | (go_at_call 8; go_loud (refine (HOR.out _ (Kd.C_below HT.out HA2.out)).mono ?_); intro e w3 hq; obtain ⟨A3, c3, rfl, hC, hb⟩ := ord_reads hq; have HB3 := Aside0.mk (HA2.out.trans (hb.mono HA2.out.size)); replace hC := (show kT.C w3 A3 o.length o from by rw [← HO.out]; exact hC); have HC3 := Aside0.mk hC; have hlo : (stb tle (l.filter fun x => x.list == list)).length = o.length := congrArg List.length HO.out; rw [hlo]; clear hq hC hb hlo)
          | (go_at_call 15; refine (place_calls2 w3 A3 c3 o after HC3.out (by omega)).mono ?_; rintro e w4 ⟨rfl, hb⟩; have HB4 := Aside0.mk (HB3.out.trans (hb.mono HB3.out.size)); have HC4 := Aside0.mk (Kd.C_below HC3.out hb); rw [HIX.out]; clear hb))
        go_ret2
        exact ⟨by rw [HE.out, HZ.out]; rfl, HB4.out⟩
      · have hj := (List.getElem?_eq_some_iff.1 h2).1
        rw [Nat.zero_add] at h1
        have HZ := Aside0.mk (show behP o after = endP o (j : Int) from by unfold behP; rw [if_neg ha, if_neg (by rw [h1]; omega), h1])
        have HIX := Aside0.mk h1
        have h0z : ((o.length : Int) == 0) = false := by rw [beq_eq_false_iff_ne]; omega
        have hjz : ¬ ((j : Int) < 0) := by omega
        have hjo : (j : Int) < (o.length : Int) := by omega
        clear h1 h2 ha
        have HAT : Aside0 (-1 ≤ (j : Int) ∧ (j : Int) < (o.length : Int)) := ⟨by omega⟩
        obtain ⟨q1, q2, q3, q4⟩ := ends_ok HON.out HAT.out
        have HMI := Aside0.mk (fun w => mid_calls (endsP o (j : Int)).1 (endsP o (j : Int)).2 q1 q2 q3 q4 w)
        have HEE := Aside0.mk (show endP o (j : Int) = if (midP (endsP o (j : Int)).1 (endsP o (j : Int)).2).2 = false then (0, 100) else ((midP (endsP o (j : Int)).1 (endsP o (j : Int)).2).1, 0) from rfl)
        generalize midP (endsP o (j : Int)).1 (endsP o (j : Int)).2 = m at HMI HEE
        obtain ⟨mf, mb⟩ := m
        clear q1 q2 q3 q4
        cases mb with
        | false =>
          replace HEE := Aside0.mk (show endP o (j : Int) = (0, 100) from by rw [HEE.out]; rfl)
          go_enter Tryz.func9, Tryz.ntmps9
          go_wp2_with (first
            | (go_at_call 22; refine HLI.out.mono ?_; rintro e w2 ⟨rfl, hb⟩; have HB2 := Aside0.mk (HB1.out.trans (hb.mono HB1.out.size)); have t0 := pw_cell_below hb SC.out.1; have t1 := pw_cell_below hb SC.out.2; have hx := (Below.refl w2.heap.size w2).alloc (Nat.le_refl _) (.cells #[.int .u64 (xi : Int), .string xn] 41); replace t0 := pw_cell_below hx t0; replace t1 := pw_cell_below hx t1; clear hx; have HA2 := Aside0.mk (HB2.out.alloc HB2.out.size (.cells #[.int .u64 (xi : Int), .string xn] 41)); clear hb)
            | (go_at_call 8; go_loud (refine (HOR.out _ (Kd.C_below HT.out HA2.out)).mono ?_); intro e w3 hq; obtain ⟨A3, c3, rfl, hC, hb⟩ := ord_reads hq; have HB3 := Aside0.mk (HA2.out.trans (hb.mono HA2.out.size)); replace hC := (show kT.C w3 A3 o.length o from by rw [← HO.out]; exact hC); have HC3 := Aside0.mk hC; have hlo : (stb tle (l.filter fun x => x.list == list)).length = o.length := congrArg List.length HO.out; rw [hlo]; clear hq hC hb hlo)
            | (go_at_call 15; refine (place_calls2 w3 A3 c3 o after HC3.out (by omega)).mono ?_; rintro e w4 ⟨rfl, hb⟩; have HB4 := Aside0.mk (HB3.out.trans (hb.mono HB3.out.size)); have HC4 := Aside0.mk (Kd.C_below HC3.out hb); rw [HIX.out]; clear hb)
            | (go_at_call 23; refine (ends_calls w4 A3 c3 o (j : Int) o.length rfl HC4.out (by omega) HAT.out).mono ?_; rintro e w5 ⟨rfl, hd⟩; have HB5 := Aside0.mk (HB4.out.trans (hd.below.mono HB4.out.size)); clear hd)
            | (go_at_call 24; refine (HMI.out _).mono ?_; rintro e w6 ⟨rfl, hd⟩; have HB6 := Aside0.mk (HB5.out.trans (hd.below.mono HB5.out.size)); clear hd))
          go_ret2
          exact ⟨by rw [HE.out, HZ.out, HEE.out]; rfl, HB6.out⟩
        | true =>
          replace HEE := Aside0.mk (show endP o (j : Int) = (mf, 0) from by rw [HEE.out]; rfl)
          go_enter Tryz.func9, Tryz.ntmps9
          go_wp2_with (first
            | (go_at_call 22; refine HLI.out.mono ?_; rintro e w2 ⟨rfl, hb⟩; have HB2 := Aside0.mk (HB1.out.trans (hb.mono HB1.out.size)); have t0 := pw_cell_below hb SC.out.1; have t1 := pw_cell_below hb SC.out.2; have hx := (Below.refl w2.heap.size w2).alloc (Nat.le_refl _) (.cells #[.int .u64 (xi : Int), .string xn] 41); replace t0 := pw_cell_below hx t0; replace t1 := pw_cell_below hx t1; clear hx; have HA2 := Aside0.mk (HB2.out.alloc HB2.out.size (.cells #[.int .u64 (xi : Int), .string xn] 41)); clear hb)
            | (go_at_call 8; go_loud (refine (HOR.out _ (Kd.C_below HT.out HA2.out)).mono ?_); intro e w3 hq; obtain ⟨A3, c3, rfl, hC, hb⟩ := ord_reads hq; have HB3 := Aside0.mk (HA2.out.trans (hb.mono HA2.out.size)); replace hC := (show kT.C w3 A3 o.length o from by rw [← HO.out]; exact hC); have HC3 := Aside0.mk hC; have hlo : (stb tle (l.filter fun x => x.list == list)).length = o.length := congrArg List.length HO.out; rw [hlo]; clear hq hC hb hlo)
            | (go_at_call 15; refine (place_calls2 w3 A3 c3 o after HC3.out (by omega)).mono ?_; rintro e w4 ⟨rfl, hb⟩; have HB4 := Aside0.mk (HB3.out.trans (hb.mono HB3.out.size)); have HC4 := Aside0.mk (Kd.C_below HC3.out hb); rw [HIX.out]; clear hb)
            | (go_at_call 23; refine (ends_calls w4 A3 c3 o (j : Int) o.length rfl HC4.out (by omega) HAT.out).mono ?_; rintro e w5 ⟨rfl, hd⟩; have HB5 := Aside0.mk (HB4.out.trans (hd.below.mono HB4.out.size)); clear hd)
            | (go_at_call 24; refine (HMI.out _).mono ?_; rintro e w6 ⟨rfl, hd⟩; have HB6 := Aside0.mk (HB5.out.trans (hd.below.mono HB5.out.size)); clear hd))
          go_ret2
          exact ⟨by rw [HE.out, HZ.out, HEE.out]; rfl, HB6.out⟩
end Go.Proofs.YtdjjlmphifgnnaaGreat
namespace Go.Proofs.YtdjjlmphifgnnaaGreat
open Go.RowKit Go.Sort Go.Proofs.YtdjjlmphifgnnaaGreatW.PrintWords Go.Proofs.YtdjjlmphifgnnaaGreatW.PrintLast Go.Proofs.YtdjjlmphifgnnaaGreatW.PrintMore
open Flt (nanP canP keyP midP)
set_option linter.unusedVariables false
set_option linter.unusedSimpArgs false
def bys (s : ByteArray) : List Nat := s.data.toList.map (·.toNat)
theorem bys_len (s : ByteArray) : (bys s).length = s.size := by
  unfold bys
  rw [List.length_map, Array.length_toList]
  rfl
theorem bys_lt {s : ByteArray} {c : Nat} (h : c ∈ bys s) : c < 256 := by
  obtain ⟨b, _, rfl⟩ := List.mem_map.1 h
  exact b.toNat_lt
theorem bys_at {s : ByteArray} {j : Nat} (h : j < s.size) : ∃ c, (bys s)[j]? = some c ∧ c < 256 ∧ (s.data.toList.getD j 0).toNat = c := by
  have h2 : j < s.data.toList.length := by rw [Array.length_toList]; exact h
  have e : (bys s)[j]? = some (s.data.toList.getD j 0).toNat := by
    unfold bys
    rw [List.getElem?_map, List.getElem?_eq_getElem h2, List.getD_eq_getElem?_getD, List.getElem?_eq_getElem h2]
    rfl
  exact ⟨_, e, bys_lt (List.mem_of_getElem? e), rfl⟩
theorem bytes_below1 (w : World) (s : ByteArray) : Below w.heap.size w (Lib.bytesWorld w 5 s) := bytes_below (Below.refl _ _) (Nat.le_refl _) 5 s
def prn (c : Nat) : Bool := decide (32 ≤ c) && decide (c ≤ 126)
theorem printable_calls (c : Nat) (w : World) : Calls Tryz.prog 28 #[.int .u8 (c : Int)] w fun e w' => e = .returned (.bool (prn c)) ∧ Drawn0 w w' := by
  by_cases h1 : 32 ≤ c
  · by_cases h2 : c ≤ 126
    · have HP := Aside0.mk (show prn c = true from by unfold prn; rw [decide_eq_true h1, decide_eq_true h2]; rfl)
      have c1 : (32 : Int) ≤ (c : Int) := by omega
      have c2 : (c : Int) ≤ 126 := by omega
      go_enter Tryz.func28, Tryz.ntmps28
      go_wp2
      go_ret
      exact ⟨by rw [HP.out]; rfl, Drawn0.refl _⟩
    · have HP := Aside0.mk (show prn c = false from by unfold prn; rw [decide_eq_false h2, Bool.and_false])
      have c1 : (32 : Int) ≤ (c : Int) := by omega
      have c2 : ¬ ((c : Int) ≤ 126) := by omega
      go_enter Tryz.func28, Tryz.ntmps28
      go_wp2
      go_ret
      exact ⟨by rw [HP.out]; rfl, Drawn0.refl _⟩
  · have HP := Aside0.mk (show prn c = false from by unfold prn; rw [decide_eq_false h1, Bool.false_and])
    have c1 : ¬ ((32 : Int) ≤ (c : Int)) := by omega
    go_enter Tryz.func28, Tryz.ntmps28
    go_wp2
    go_ret
    exact ⟨by rw [HP.out]; rfl, Drawn0.refl _⟩
theorem title1_calls (c : Nat) (w : World) : Calls Tryz.prog 27 #[.int .u8 (c : Int)] w fun e w' => e = .returned (.bool (!prn c)) ∧ Drawn0 w w' := by
  have HP := Aside0.mk (fun w => printable_calls c w)
  generalize prn c = b at *
  go_enter Tryz.func27, Tryz.ntmps27
  go_wp2_with (first
    | (go_at_call 28; refine (HP.out _).mono ?_; rintro e w1 ⟨rfl, hd⟩; have D1 := Aside0.mk hd; clear hd))
  go_ret
  exact ⟨rfl, D1.out⟩
set_option maxRecDepth 100000 in
set_option maxHeartbeats 1000000 in
theorem idxB_calls (w : World) (B : Nat) (s : ByteArray) (n c : Nat) (hn : s.size = n) (hlen : n ≤ 100000) (hX : ∀ j, j < n → w.cell? ⟨B, j, none⟩ = some (.int .u8 ((s.data.toList.getD j 0).toNat : Int))) :
    Calls Tryz.prog 48 #[.slice (some ⟨B, 0, none⟩) n c, .func (.func 27) #[] #[]] w fun e w' => e = .returned (.int .i64 (idxP (fun c => !prn c) (bys s) 0)) ∧ Drawn0 w w' := by
  have HX := Aside0.mk hX
  have HN := Aside0.mk (show (bys s).length = n from by rw [bys_len]; exact hn)
  have HSN := Aside0.mk hn
  have hxn : (n : Int) ≤ 9223372036854775807 := by omega
  clear hX hlen hn
  go_enter Tryz.func48, Tryz.ntmps48
  go_wp2
  go_loopg [5, 8] n (fun kq v5 v8 w' => ∃ (i : Nat), v8 = .int .i64 (i : Int) ∧ Aside0 (i + kq = n) ∧ Aside0 (idxP (fun c => !prn c) ((bys s).drop i) i = idxP (fun c => !prn c) (bys s) 0) ∧ Aside0 (Drawn0 w w'))
  case atStart => exact ⟨0, rfl, ⟨by omega⟩, ⟨rfl⟩, ⟨Drawn0.refl _⟩⟩
  case round =>
    obtain ⟨i, rfl, HI, HP, HB⟩ := hrel
    by_cases hi : i < n
    · have hi0 := HI.out
      obtain ⟨x, hx, hx2, hx3⟩ := bys_at (s := s) (j := i) (by rw [HSN.out]; exact hi)
      have y0 := cell_drawn HB.out (HX.out i hi)
      rw [hx3] at y0
      have hiz : (i : Int) < (n : Int) := by omega
      obtain ⟨gq, rfl⟩ : ∃ gq, gk = gq + 1 := ⟨gk - 1, by omega⟩
      have HC := Aside0.mk (fun w => title1_calls x w)
      cases hq : (!prn x) with
      | true =>
        have HE := Aside0.mk ((idxP_found (fun c => !prn c) hx hq).symm.trans HP.out)
        rw [hq] at HC
        clear hq hx hx2 hx3
        go_wp2_with (first
          | (go_at_call 27; refine (HC.out _).mono ?_; rintro e w2 ⟨rfl, hd⟩; have HB2 := Aside0.mk (drawn_trans HB.out hd); clear hd))
        go_ret
        exact ⟨by rw [← HE.out]; rfl, HB2.out⟩
      | false =>
        have HE := Aside0.mk ((idxP_step (fun c => !prn c) hx hq).symm.trans HP.out)
        rw [hq] at HC
        clear hq hx hx2 hx3
        go_wp2_with (first
          | (go_at_call 27; refine (HC.out _).mono ?_; rintro e w2 ⟨rfl, hd⟩; have HB2 := Aside0.mk (drawn_trans HB.out hd); clear hd))
        go_roundg gq
        case rel => exact ⟨i + 1, by go_num, ⟨by omega⟩, HE, HB2⟩
        case measure => omega
    · have hi0 := HI.out
      obtain rfl : gk = 0 := by omega
      obtain rfl : i = n := by omega
      clear hi0
      have hm : ¬ ((i : Int) < (i : Int)) := by omega
      go_wp2
      go_ret
      exact ⟨by rw [← HP.out, ← HN.out, idxP_end]; rfl, HB.out⟩
theorem contB_calls (w : World) (B : Nat) (s : ByteArray) (n c : Nat) (hn : s.size = n) (hlen : n ≤ 100000) (hX : ∀ j, j < n → w.cell? ⟨B, j, none⟩ = some (.int .u8 ((s.data.toList.getD j 0).toNat : Int))) :
    Calls Tryz.prog 26 #[.slice (some ⟨B, 0, none⟩) n c, .func (.func 27) #[] #[]] w fun e w' => e = .returned (.bool (!(bys s).all prn)) ∧ Drawn0 w w' := by
  have HI := Aside0.mk (idxB_calls w B s n c hn hlen hX)
  clear hn hlen hX
  rcases idxP_spec (fun c => !prn c) (bys s) 0 with ⟨h1, h2, h3⟩ | ⟨j, x, h1, h2, h3, _⟩
  · have HA := Aside0.mk (show (bys s).all prn = true from List.all_eq_true.2 fun x hx => by have := h3 x hx; simpa using this)
    rw [h1] at HI
    clear h1 h2 h3
    go_enter Tryz.func26, Tryz.ntmps26
    go_wp2_with (first
      | (go_at_call 48; refine HI.out.mono ?_; rintro e w1 ⟨rfl, hd⟩; have D1 := Aside0.mk hd; clear hd))
    go_ret
    exact ⟨by rw [HA.out]; rfl, D1.out⟩
  · have HA := Aside0.mk (show (bys s).all prn = false from by
      rw [List.all_eq_false]
      exact ⟨x, List.mem_of_getElem? h2, by simpa using h3⟩)
    rw [h1] at HI
    have hj : (0 : Int) ≤ ((0 + j : Nat) : Int) := by omega
    clear h1 h2 h3
    go_enter Tryz.func26, Tryz.ntmps26
    go_wp2_with (first
      | (go_at_call 48; refine HI.out.mono ?_; rintro e w1 ⟨rfl, hd⟩; have D1 := Aside0.mk hd; clear hd))
    go_ret
    exact ⟨by rw [HA.out]; rfl, D1.out⟩
theorem conv_bytes (w : World) (s : ByteArray) : (convert 9 63 (.string s)).run Tryz.prog w = .ok (.slice (some ⟨w.heap.size, 0, none⟩) s.size (grownCap w s.size 0 5)) (Lib.bytesWorld w 5 s) := Lib.run_convert_string_bytes (P := Tryz.prog) w 9 63 5 s Tryz.underlying9 Tryz.underlying63 Tryz.underlying5
def titleP (s : ByteArray) : Bool := decide (1 ≤ s.size) && decide (s.size ≤ 60) && (bys s).all prn
set_option maxHeartbeats 1000000 in
theorem title_calls (s : ByteArray) (w : World) (hs : s.size ≤ 100000) : Calls Tryz.prog 12 #[.string s] w fun e w' => e = .returned (.bool (titleP s)) ∧ Below w.heap.size w w' := by
  by_cases h1 : s.size < 1
  · have HT := Aside0.mk (show titleP s = false from by unfold titleP; rw [decide_eq_false (show ¬ 1 ≤ s.size by omega)]; rfl)
    have c1 : (s.size : Int) < 1 := by omega
    clear h1
    go_enter Tryz.func12, Tryz.ntmps12
    go_wp2
    go_ret
    exact ⟨by rw [HT.out]; rfl, Below.refl _ _⟩
  · by_cases h2 : 60 < s.size
    · have HT := Aside0.mk (show titleP s = false from by unfold titleP; rw [decide_eq_false (show ¬ s.size ≤ 60 by omega), Bool.and_false]; rfl)
      have c1 : ¬ ((s.size : Int) < 1) := by omega
      have c2 : (60 : Int) < (s.size : Int) := by omega
      clear h1 h2
      go_enter Tryz.func12, Tryz.ntmps12
      go_wp2
      go_ret
      exact ⟨by rw [HT.out]; rfl, Below.refl _ _⟩
    · have HT := Aside0.mk (show titleP s = (bys s).all prn from by unfold titleP; rw [decide_eq_true (show 1 ≤ s.size by omega), decide_eq_true (show s.size ≤ 60 by omega)]; rfl)
      have c1 : ¬ ((s.size : Int) < 1) := by omega
      have c2 : ¬ ((60 : Int) < (s.size : Int)) := by omega
      have HC := Aside0.mk (fun c => contB_calls (Lib.bytesWorld w 5 s) w.heap.size s s.size c rfl hs (fun j hj => Lib.bytesWorld_cell w 5 s j hj))
      have HB := Aside0.mk (bytes_below1 w s)
      generalize (bys s).all prn = b at HC HT
      have hcv := conv_bytes w s
      clear h1 h2
      go_enter Tryz.func12, Tryz.ntmps12
      go_wp2_with (first
        | (go_at_call 26; go_loud (refine (HC.out _).mono ?_); rintro e w1 ⟨rfl, hd⟩; have HB1 := Aside0.mk (HB.out.trans (hd.below.mono HB.out.size)); clear hd))
      go_ret
      exact ⟨by rw [HT.out]; cases b <;> rfl, HB1.out⟩
end Go.Proofs.YtdjjlmphifgnnaaGreat
namespace Go.Proofs.YtdjjlmphifgnnaaGreat
open Go.RowKit Go.Sort Go.Proofs.YtdjjlmphifgnnaaGreatW.PrintWords Go.Proofs.YtdjjlmphifgnnaaGreatW.PrintLast Go.Proofs.YtdjjlmphifgnnaaGreatW.PrintMore
open Flt (nanP canP keyP midP)
set_option linter.unusedVariables false
set_option linter.unusedSimpArgs false
def tgb (c : Nat) : Bool := (decide (97 ≤ c) && decide (c ≤ 122)) || (decide (48 ≤ c) && decide (c ≤ 57)) || decide (c = 45)
def tagP (s : ByteArray) : Bool := decide (1 ≤ s.size) && decide (s.size ≤ 16) && (bys s).all tgb
theorem all_step {α : Type} {q : α → Bool} {l : List α} {i : Nat} {x : α} (h : (l.take i).all q = true) (hx : l[i]? = some x) (hq : q x = true) : (l.take (i + 1)).all q = true := by
  rw [List.take_add_one, hx, List.all_append, h]
  simp [hq]
theorem all_bad {α : Type} {q : α → Bool} {l : List α} {i : Nat} {x : α} (hx : l[i]? = some x) (hq : q x = false) : l.all q = false := by
  rw [List.all_eq_false]
  exact ⟨x, List.mem_of_getElem? hx, by rw [hq]; decide⟩
set_option maxRecDepth 100000 in
set_option maxHeartbeats 4000000 in
theorem tag_calls (s : ByteArray) (w : World) (hs : s.size ≤ 100000) : Calls Tryz.prog 50 #[.string s] w fun e w' => e = .returned (.bool (tagP s)) ∧ Below w.heap.size w w' := by
  by_cases h1 : s.size < 1
  · have HT := Aside0.mk (show tagP s = false from by unfold tagP; rw [decide_eq_false (show ¬ 1 ≤ s.size by omega)]; rfl)
    have c1 : (s.size : Int) < 1 := by omega
    clear h1
    go_enter Tryz.func50, Tryz.ntmps50
    go_wp2
    go_ret
    exact ⟨by rw [HT.out]; rfl, Below.refl _ _⟩
  · by_cases h2 : 16 < s.size
    · have HT := Aside0.mk (show tagP s = false from by unfold tagP; rw [decide_eq_false (show ¬ s.size ≤ 16 by omega), Bool.and_false]; rfl)
      have c1 : ¬ ((s.size : Int) < 1) := by omega
      have c2 : (16 : Int) < (s.size : Int) := by omega
      clear h1 h2
      go_enter Tryz.func50, Tryz.ntmps50
      go_wp2
      go_ret
      exact ⟨by rw [HT.out]; rfl, Below.refl _ _⟩
    · have HT := Aside0.mk (show tagP s = (bys s).all tgb from by unfold tagP; rw [decide_eq_true (show 1 ≤ s.size by omega), decide_eq_true (show s.size ≤ 16 by omega)]; rfl)
      have c1 : ¬ ((s.size : Int) < 1) := by omega
      have c2 : ¬ ((16 : Int) < (s.size : Int)) := by omega
      have HX := Aside0.mk (fun j hj => Lib.bytesWorld_cell w 5 s j hj)
      have HBW := Aside0.mk (bytes_below1 w s)
      have hcv := conv_bytes w s
      have HN := Aside0.mk (bys_len s)
      obtain ⟨n, hn⟩ : ∃ n, s.size = n := ⟨_, rfl⟩
      have HSN := Aside0.mk hn
      rw [hn] at HX c1 c2 hcv HN hs
      have hxn : (n : Int) ≤ 9223372036854775807 := by omega
      clear h1 h2
      go_enter Tryz.func50, Tryz.ntmps50
      go_wp2
      clear c1 c2 hcv hn
      go_loopg [4, 5, 6, 18] n (fun kq v4 v5 v6 v18 w' => ∃ (i : Nat), v18 = .int .i64 (i : Int) ∧ Aside0 (i + kq = n) ∧ Aside0 (((bys s).take i).all tgb = true) ∧ Aside0 (Drawn0 (Lib.bytesWorld w 5 s) w'))
      case atStart => exact ⟨0, rfl, ⟨by omega⟩, ⟨by rw [List.take_zero]; rfl⟩, ⟨Drawn0.refl _⟩⟩
      case round =>
        obtain ⟨i, rfl, HI, HP, HB⟩ := hrel
        have HBB := Aside0.mk (HBW.out.trans (HB.out.below.mono HBW.out.size))
        by_cases hi : i < n
        · have hi0 := HI.out
          obtain ⟨x, hx, hx2, hx3⟩ := bys_at (s := s) (j := i) (by rw [HSN.out]; exact hi)
          have y0 := cell_drawn HB.out (HX.out i hi)
          rw [hx3] at y0
          have hiz : (i : Int) < (n : Int) := by omega
          obtain ⟨gq, rfl⟩ : ∃ gq, gk = gq + 1 := ⟨gk - 1, by omega⟩
          rcases (show (97 ≤ x ∧ x ≤ 122) ∨ 122 < x ∨ (57 < x ∧ x < 97) ∨ (48 ≤ x ∧ x ≤ 57) ∨ x = 45 ∨ (x < 48 ∧ x ≠ 45) by omega) with hc | hc | hc | hc | hc | hc
          · have hq : tgb x = true := by unfold tgb; simp; omega
            have e0 : ((97 : Int) ≤ (x : Int)) := by omega
            have e1 : ((x : Int) ≤ 122) := by omega
            have e2 : ((48 : Int) ≤ (x : Int)) := by omega
            have e3 : ¬ ((x : Int) ≤ 57) := by omega
            have HE := Aside0.mk (all_step HP.out hx hq)
            clear hq hx hx2 hx3 hc
            go_wp2
            go_roundg gq
            case rel => exact ⟨i + 1, by go_num, ⟨by omega⟩, HE, HB⟩
            case measure => omega
          · have hq : tgb x = false := by unfold tgb; simp; omega
            have e0 : ((97 : Int) ≤ (x : Int)) := by omega
            have e1 : ¬ ((x : Int) ≤ 122) := by omega
            have e2 : ((48 : Int) ≤ (x : Int)) := by omega
            have e3 : ¬ ((x : Int) ≤ 57) := by omega
            have e4 : ((x : Int) != 45) = true := by simp; omega
            have HE := Aside0.mk (all_bad hx hq)
            clear hq hx hx2 hx3 hc
            go_wp2
            go_ret
            exact ⟨by rw [HT.out, HE.out]; rfl, HBB.out⟩
          · have hq : tgb x = false := by unfold tgb; simp; omega
            have e0 : ¬ ((97 : Int) ≤ (x : Int)) := by omega
            have e2 : ((48 : Int) ≤ (x : Int)) := by omega
            have e3 : ¬ ((x : Int) ≤ 57) := by omega
            have e4 : ((x : Int) != 45) = true := by simp; omega
            have HE := Aside0.mk (all_bad hx hq)
            clear hq hx hx2 hx3 hc
            go_wp2
            go_ret
            exact ⟨by rw [HT.out, HE.out]; rfl, HBB.out⟩
          · have hq : tgb x = true := by unfold tgb; simp; omega
            have e0 : ¬ ((97 : Int) ≤ (x : Int)) := by omega
            have e2 : ((48 : Int) ≤ (x : Int)) := by omega
            have e3 : ((x : Int) ≤ 57) := by omega
            have HE := Aside0.mk (all_step HP.out hx hq)
            clear hq hx hx2 hx3 hc
            go_wp2
            go_roundg gq
            case rel => exact ⟨i + 1, by go_num, ⟨by omega⟩, HE, HB⟩
            case measure => omega
          · have hq : tgb x = true := by unfold tgb; simp; omega
            have e0 : ¬ ((97 : Int) ≤ (x : Int)) := by omega
            have e2 : ¬ ((48 : Int) ≤ (x : Int)) := by omega
            have e4 : ((x : Int) != 45) = false := by simp; omega
            have HE := Aside0.mk (all_step HP.out hx hq)
            clear hq hx hx2 hx3 hc
            go_wp2
            go_roundg gq
            case rel => exact ⟨i + 1, by go_num, ⟨by omega⟩, HE, HB⟩
            case measure => omega
          · have hq : tgb x = false := by unfold tgb; simp; omega
            have e0 : ¬ ((97 : Int) ≤ (x : Int)) := by omega
            have e2 : ¬ ((48 : Int) ≤ (x : Int)) := by omega
            have e4 : ((x : Int) != 45) = true := by simp; omega
            have HE := Aside0.mk (all_bad hx hq)
            clear hq hx hx2 hx3 hc
            go_wp2
            go_ret
            exact ⟨by rw [HT.out, HE.out]; rfl, HBB.out⟩
        · have hi0 := HI.out
          obtain rfl : gk = 0 := by omega
          obtain rfl : i = n := by omega
          clear hi0
          have hm : ¬ ((i : Int) < (i : Int)) := by omega
          have HE := Aside0.mk (show (bys s).all tgb = true from by have h := HP.out; rwa [List.take_of_length_le (by rw [HN.out]; exact Nat.le_refl _)] at h)
          go_wp2
          go_ret
          exact ⟨by rw [HT.out, HE.out]; rfl, HBB.out⟩
/-! ### floats as Canon tells them -/
def cnP (b : Nat) : Bool := canP b == b
theorem bits_calls (b : Nat) (w : World) : Calls Tryz.prog 49 #[.float .f64 b] w fun e w' => e = .returned (.int .u64 (b : Int)) ∧ Drawn0 w w' := by
  have hfb := fbits b
  go_enter Tryz.func49, Tryz.ntmps49
  go_wp2
  go_ret
  exact ⟨rfl, Drawn0.refl _⟩
theorem canonT_calls (b : Nat) (hb : b < 18446744073709551616) (w : World) : Calls Tryz.prog 29 #[.float .f64 b] w fun e w' => e = .returned (.bool (cnP b)) ∧ Drawn0 w w' := by
  have HC := Aside0.mk (fun w => canon_calls b hb w)
  have HB1 := Aside0.mk (fun w => bits_calls (canP b) w)
  have HB2 := Aside0.mk (fun w => bits_calls b w)
  have HE : ((canP b : Int) == (b : Int)) = cnP b := by
    unfold cnP
    rw [Bool.eq_iff_iff]
    simp
    omega
  generalize cnP b = r at *
  generalize canP b = d at *
  clear hb
  go_enter Tryz.func29, Tryz.ntmps29
  go_wp2_with (first
    | (go_at_call 41; refine (HC.out _).mono ?_; rintro e w1 ⟨rfl, hd⟩; have D1 := Aside0.mk hd; clear hd HC)
    | (go_at_call 49; refine (HB1.out _).mono ?_; rintro e w2 ⟨rfl, hd⟩; have D2 := Aside0.mk hd; clear hd HB1)
    | (go_at_call 49; refine (HB2.out _).mono ?_; rintro e w3 ⟨rfl, hd⟩; have D3 := Aside0.mk hd; clear hd HB2))
  go_ret
  exact ⟨rfl, drawn_trans D1.out (drawn_trans D2.out D3.out)⟩
end Go.Proofs.YtdjjlmphifgnnaaGreat
namespace Go.Proofs.YtdjjlmphifgnnaaGreat
open Go.RowKit Go.Sort Go.Proofs.YtdjjlmphifgnnaaGreatW.PrintWords Go.Proofs.YtdjjlmphifgnnaaGreatW.PrintLast Go.Proofs.YtdjjlmphifgnnaaGreatW.PrintMore
open Flt (nanP canP keyP midP)
set_option linter.unusedVariables false
set_option linter.unusedSimpArgs false
/-- one text ahead of another one -/
def ltS (a b : ByteArray) : Bool := Op.bytesLess a.toList b.toList
def tgGo : Option ByteArray → List ByteArray → Bool
  | _, [] => true
  | p, t :: r => tagP t && (match p with | none => true | some q => ltS q t) && tgGo (some t) r
def tagsP (l : List ByteArray) : Int := if 4 < l.length then 95 else if tgGo none l then 0 else 94
def prevS (l : List ByteArray) (i : Nat) : Option ByteArray := if i = 0 then none else l[i - 1]?
theorem tgGo_at {l : List ByteArray} {i : Nat} {t : ByteArray} (ht : l[i]? = some t) : tgGo (prevS l i) (l.drop i) = (tagP t && (match prevS l i with | none => true | some q => ltS q t) && tgGo (prevS l (i + 1)) (l.drop (i + 1))) := by
  rw [List.drop_eq_getElem_cons (List.getElem?_eq_some_iff.1 ht).1, (List.getElem?_eq_some_iff.1 ht).2]
  have e : prevS l (i + 1) = some t := by unfold prevS; rw [if_neg (by omega), Nat.add_sub_cancel, ht]
  rw [e]
  rfl
theorem strs_get {w : World} {A : Option Addr} {l : List ByteArray} {n : Nat} (h : Kd.string.C w A n l) {i : Nat} {x : ByteArray} (hx : l[i]? = some x) : ∃ ad, A = some ad ∧ w.cell? (ad.add i) = some (.string x) := by
  have hlt := (List.getElem?_eq_some_iff.1 hx).1
  have hn : l.length = n := h.1
  obtain ⟨ad, c, e, _, hK, hc0⟩ := Kd.C_get h x (i : Int) (by omega) (by omega)
  rw [Int.toNat_natCast, List.getD_eq_getElem?_getD, hx] at hK
  have hK : c = [.string x] := hK
  subst hK
  have := hc0 0 _ rfl
  rw [Int.toNat_natCast] at this
  exact ⟨ad, e, by
    have e2 : i * Kd.string.sz + 0 = i := by show i * 1 + 0 = i; omega
    rwa [e2] at this⟩
theorem add_succ_addr (ad : Addr) (i : Nat) : ad.add (i + 1) = ⟨ad.block, ad.off + (i + 1), none⟩ := by
  unfold Addr.add
  simp
set_option maxRecDepth 100000 in
set_option maxHeartbeats 2000000 in
theorem tags_calls (w : World) (A : Option Addr) (c : Nat) (l : List ByteArray) (hC : Kd.string.C w A l.length l) (hlen : l.length ≤ 100000) (hs : ∀ t ∈ l, t.size ≤ 100000) :
    Calls Tryz.prog 30 #[.slice A l.length c] w fun e w' => e = .returned (.int .i64 (tagsP l)) ∧ Below w.heap.size w w' := by
  by_cases h4 : 4 < l.length
  · have HT := Aside0.mk (show tagsP l = 95 from by unfold tagsP; rw [if_pos h4])
    have c1 : (4 : Int) < (l.length : Int) := by omega
    clear hC hlen hs h4
    go_enter Tryz.func30, Tryz.ntmps30
    go_wp2
    go_ret
    exact ⟨by rw [HT.out]; rfl, Below.refl _ _⟩
  · have HT := Aside0.mk (show tagsP l = if tgGo none l then 0 else 94 from by unfold tagsP; rw [if_neg h4])
    have c1 : ¬ ((4 : Int) < (l.length : Int)) := by omega
    have HC := Aside0.mk hC
    have HS := Aside0.mk hs
    have hxn : (l.length : Int) ≤ 9223372036854775807 := by omega
    have hln : (l.length : Int) ≤ 4 := by omega
    clear hC hlen hs h4
    go_enter Tryz.func30, Tryz.ntmps30
    go_wp2
    clear c1
    go_loopg [3, 4, 10] l.length (fun kq v3 v4 v10 w' => ∃ (i : Nat), v10 = .int .i64 (i : Int) ∧ Aside0 (i + kq = l.length) ∧ Aside0 (tgGo (prevS l i) (l.drop i) = tgGo none l) ∧ Aside0 (Below w.heap.size w w'))
    case atStart => exact ⟨0, rfl, ⟨by omega⟩, ⟨rfl⟩, ⟨Below.refl _ _⟩⟩
    case round =>
      obtain ⟨i, rfl, HI, HP, HB⟩ := hrel
      by_cases hi : i < l.length
      · have hi0 := HI.out
        obtain ⟨t, ht⟩ : ∃ t, l[i]? = some t := ⟨l[i]'hi, List.getElem?_eq_getElem _⟩
        obtain ⟨ad, e, y0⟩ := strs_get HC.out ht
        replace y0 := pw_cell_below (HB.out.mono (Nat.le_refl _)) y0
        have hts := HS.out t (List.mem_of_getElem? ht)
        have HTG := Aside0.mk (fun w => tag_calls t w hts)
        have HG := Aside0.mk ((tgGo_at ht).symm.trans HP.out)
        have hiz : (i : Int) < (l.length : Int) := by omega
        obtain ⟨gq, rfl⟩ : ∃ gq, gk = gq + 1 := ⟨gk - 1, by omega⟩
        subst e
        cases hq : tagP t with
        | false =>
          have HE := Aside0.mk (show tgGo none l = false from by rw [← HG.out, hq]; rfl)
          rw [hq] at HTG
          clear hq ht hts
          go_wp2_with (first
            | (go_at_call 50; refine (HTG.out _).mono ?_; rintro e w2 ⟨rfl, hb⟩; have HB2 := Aside0.mk (HB.out.trans (hb.mono HB.out.size)); clear hb))
          go_ret
          exact ⟨by rw [HT.out, HE.out]; rfl, HB2.out⟩
        | true =>
          rw [hq] at HTG
          by_cases h0 : i = 0
          · subst h0
            rw [add_zero_addr] at y0
            have HE := Aside0.mk (show tgGo (prevS l (0 + 1)) (l.drop (0 + 1)) = tgGo none l from by rw [← HG.out, hq]; rfl)
            clear hq ht hts
            go_wp2_with (first
              | (go_at_call 50; refine (HTG.out _).mono ?_; rintro e w2 ⟨rfl, hb⟩; have HB2 := Aside0.mk (HB.out.trans (hb.mono HB.out.size)); clear hb))
            go_roundg gq
            case rel => exact ⟨1, by go_num, ⟨by omega⟩, HE, HB2⟩
            case measure => omega
          · obtain ⟨i, rfl⟩ : ∃ j, i = j + 1 := ⟨i - 1, by omega⟩
            rw [add_succ_addr] at y0
            obtain ⟨p, hp⟩ : ∃ p, l[i]? = some p := ⟨l[i]'(by omega), List.getElem?_eq_getElem _⟩
            obtain ⟨ad', e, z0⟩ := strs_get HC.out hp
            injection e with e
            subst e
            have HZ := Aside0.mk z0
            have hpr : prevS l (i + 1) = some p := by unfold prevS; rw [if_neg (by omega), Nat.add_sub_cancel, hp]
            have r1 : IntKind.i64.wrap (i : Int) = (i : Int) := by rw [IntKind.wrap_i64]; omega
            have r2 : (0 : Int) < (i : Int) + 1 := by omega
            have r3 : (i : Int) < (l.length : Int) := by omega
            have r4 : (i : Int) + 1 < (l.length : Int) := by omega
            have r5 : ((i : Int) + 1).toNat = i + 1 := by omega
            have r6 : (0 : Int) ≤ (i : Int) + 1 := by omega
            cases hl : ltS p t with
            | false =>
              have HE := Aside0.mk (show tgGo none l = false from by rw [← HG.out, hq, hpr]; simp only [hl]; rfl)
              have hl2 : Op.bytesLess p.toList t.toList = false := hl
              clear hq ht hts hp hpr z0 hl
              go_wp2_with (first
                | (go_at_call 50; refine (HTG.out _).mono ?_; rintro e w2 ⟨rfl, hb⟩; have HB2 := Aside0.mk (HB.out.trans (hb.mono HB.out.size)); have z1 := pw_cell_below HB2.out HZ.out; clear hb))
              go_ret
              exact ⟨by rw [HT.out, HE.out]; rfl, HB2.out⟩
            | true =>
              have HE := Aside0.mk (show tgGo (prevS l (i + 1 + 1)) (l.drop (i + 1 + 1)) = tgGo none l from by rw [← HG.out, hq, hpr]; simp only [hl]; rfl)
              have hl2 : Op.bytesLess p.toList t.toList = true := hl
              clear hq ht hts hp hpr z0 hl
              go_wp2_with (first
                | (go_at_call 50; refine (HTG.out _).mono ?_; rintro e w2 ⟨rfl, hb⟩; have HB2 := Aside0.mk (HB.out.trans (hb.mono HB.out.size)); have z1 := pw_cell_below HB2.out HZ.out; clear hb))
              go_roundg gq
              case rel => exact ⟨i + 1 + 1, by go_num, ⟨by omega⟩, HE, HB2⟩
              case measure => omega
      · have hi0 := HI.out
        obtain rfl : gk = 0 := by omega
        obtain rfl : i = l.length := by omega
        clear hi0
        have hm : ¬ ((l.length : Int) < (l.length : Int)) := by omega
        have HE := Aside0.mk (show tgGo none l = true from by rw [← HP.out, List.drop_length]; rfl)
        go_wp2
        go_ret
        exact ⟨by rw [HT.out, HE.out]; rfl, HB.out⟩
end Go.Proofs.YtdjjlmphifgnnaaGreat
