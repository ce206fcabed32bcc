/- DiskKeeps walked. Conditions: those of each statement. -/
import Derived.Test.YtlepcmljmibdnaaDkp
namespace Go.Proofs.Ytlepcmljmibdnaa
open Go.RowKit Go.Proofs.YtlepcmljmibdnaaW.PrintWords Go.Proofs.YtlepcmljmibdnaaW.PrintLast Go.Proofs.YtlepcmljmibdnaaW.PrintMore PDiskArms
set_option linter.unusedVariables false
set_option linter.unusedSimpArgs false
theorem at_size {w0 w : World} {F : Nat → Prop} {B M Bd : Nat} {vc : Value} {D : PD} (n : Int) (hn : D.n = n) (h : At w0 F w B M Bd vc D) :
    Calls Try.prog 22 #[.pointer (some ⟨B, 0, none⟩)] w fun e w' => e = .returned (.int .i64 n) ∧ w = w' := by
  obtain ⟨⟨g0, g1, _⟩, _⟩ := cells7 h.dk.blk
  rw [hn] at g0
  exact size_calls w B M n g0 g1
theorem at_cached {w0 w : World} {F : Nat → Prop} {B M Bd : Nat} {vc : Value} {D : PD} (m : Nat) (hm : D.cache.length = m) (h : At w0 F w B M Bd vc D) :
    Calls Try.prog 24 #[.pointer (some ⟨B, 0, none⟩)] w fun e w' => e = .returned (.int .i64 m) ∧ w = w' := by
  have := cached_calls w 0 B M Bd vc D h.dk
  rw [hm] at this
  exact this
theorem wrs_len (D : PD) (l : List S31) : (wrs D l).cache.length ≤ D.cache.length + l.length := by
  induction l generalizing D with
  | nil => exact Nat.le_refl _
  | cons x l ih =>
    have h1 := ih (writeP D x.f1 x.f2).1
    have h2 := writeP_cache D x.f1 x.f2
    simp only [List.length_cons]
    show (wrs (writeP D x.f1 x.f2).1 l).cache.length ≤ _
    omega
def keepsAt (s t : List Int) (i : Int) (l : List S31) : Bool := ((strOfNums s).toList == (strOfNums t).toList) || l.any fun x => decide (x.f1 = i) && decide (x.f2.length ≤ 64) && ((strOfNums s).toList == (strOfNums (pad x.f2)).toList)
theorem keepsAt_succ (s t : List Int) (i : Int) (l : List S31) (k : Nat) (x : S31) (h : l[k]? = some x) :
    keepsAt s t i (l.take (k + 1)) = (keepsAt s t i (l.take k) || (decide (x.f1 = i) && decide (x.f2.length ≤ 64) && ((strOfNums s).toList == (strOfNums (pad x.f2)).toList))) := by
  unfold keepsAt
  rw [List.take_add_one, h, List.any_append]
  simp [Bool.or_assoc]
theorem keepsAt_true (s t : List Int) (i : Int) (l : List S31) (h : s = t ∨ ∃ x ∈ l, x.f1 = i ∧ x.f2.length ≤ 64 ∧ s = pad x.f2) : keepsAt s t i l = true := by
  unfold keepsAt
  rcases h with rfl | ⟨x, hx, h1, h2, rfl⟩
  · simp
  · rw [Bool.or_eq_true]
    right
    rw [List.any_eq_true]
    exact ⟨x, hx, by simp [h1, h2]⟩
theorem str_at0 {w : World} {b c : Nat} {A : Option Addr} {s : List Int} (h : Kd.R (Kd.int .u8) 5 w b (fun k => b ≤ k) (.slice A s.length c) s) : (convert 29 9 (.slice A s.length c)).run Try.prog w = .ok (.string (strOfNums s)) w :=
  Kd.C_string Try.underlying29 Try.underlying5 Try.underlying9 (Kd.R_reads' h).2.2
theorem rd_get (l : List S31) (i : Nat) (hi : i < l.length) : l[i]? = some (rd_T31 l (i : Int)) := by
  simp [rd_T31, hi]
theorem Below_after {b : Nat} {w0 w w' : World} (h : Below b w0 w) (k : Below b w0 w') (hs : w.heap.size ≤ w'.heap.size) : Below b w w' :=
  ⟨k.os.trans h.os.symm, k.tape.trans h.tape.symm, k.output.trans h.output.symm, hs, fun i hi => (k.block i hi).trans (h.block i hi).symm⟩
theorem info5d : (Try.prog.info? 5).map (fun i => (i.zero, i.size, i.bytes)) = some (some (.int .u8 0), (Kd.int .u8).sz, 1) := by kernel_rfl
theorem deed_cells (w : World) (a0 a1 a2 a3 a4 : Value) : (w.alloc (.cells #[a0, a1, a2, a3, a4] 31)).drew.cell? ⟨w.heap.size, 1, none⟩ = some a1 ∧ (w.alloc (.cells #[a0, a1, a2, a3, a4] 31)).drew.cell? ⟨w.heap.size, 2, none⟩ = some a2 := by
  have h : (w.alloc (.cells #[a0, a1, a2, a3, a4] 31)).drew.heap[w.heap.size]? = some (.cells #[a0, a1, a2, a3, a4] 31 (0, 0)) := heap_alloc_new w _
  constructor <;> (unfold World.cell?; rw [h]; rfl)
set_option maxRecDepth 100000 in
set_option maxHeartbeats 4000000 in
theorem keeps_walk (n : Int) (A1 : Option Addr) (c1 : Nat) (l1 : List S31) (A2 : Option Addr) (c2 : Nat) (l2 : List S31) (A3 : Option Addr) (c3 : Nat) (ks : List Bool) (w : World) (h1 : Kd.C k31 w A1 l1.length l1) (hc1 : l1.length ≤ c1) (h2 : Kd.C k31 w A2 l2.length l2) (hc2 : l2.length ≤ c2) (h3 : Kd.bool.C w A3 ks.length ks) :
    Calls Try.prog 4 #[.int .i64 n, .slice A1 l1.length c1, .slice A2 l2.length c2, .slice A3 ks.length c3] w fun e w' => e = .returned (.bool true) ∧ Below w.heap.size w w' := by
  have hm1 := h1.2.1
  have hm2 := h2.2.1
  have H1 := Aside0.mk h1
  have HC1 := Aside0.mk hc1
  have H2 := Aside0.mk h2
  have HC2 := Aside0.mk hc2
  have H3 := Aside0.mk h3
  obtain ⟨r1, hr1, hrt1⟩ := few_f l1 hm1
  obtain ⟨r2, hr2, hrt2⟩ := few_f l2 hm2
  have HR1 := Aside0.mk hr1
  have HRT1 := Aside0.mk hrt1
  have HR2 := Aside0.mk hr2
  have HRT2 := Aside0.mk hrt2
  clear h1 hc1 h2 hc2 h3 hr1 hrt1 hr2 hrt2 hm1 hm2
  cases r1 with
  | false =>
    go_enter Try.func4, Try.ntmps4
    go_wp2_with (first | (go_at_call 13; refine (awake_calls _).mono ?_; rintro e w1 ⟨rfl, hb⟩; have HB1 := Aside0.mk hb; clear hb)  | (go_at_call 14; with_reducible refine (factotumlaw05_few.calls (l1.length + 1) A1 c1 l1 false _ (Kd.C_below H1.out HB1.out) HC1.out HR1.out).mono ?_; rintro e w2 ⟨rfl, hb⟩; have HB2 := Aside0.mk (HB1.out.trans (hb.mono HB1.out.size)); clear hb) )
    go_ret
    exact ⟨rfl, HB2.out⟩
  | true =>
  cases r2 with
  | false =>
    go_enter Try.func4, Try.ntmps4
    go_wp2_with (first | (go_at_call 13; refine (awake_calls _).mono ?_; rintro e w1 ⟨rfl, hb⟩; have HB1 := Aside0.mk hb; clear hb) | (go_at_call 14; with_reducible refine (factotumlaw05_few.calls (l1.length + 1) A1 c1 l1 true _ (Kd.C_below H1.out HB1.out) HC1.out HR1.out).mono ?_; rintro e w2 ⟨rfl, hb⟩; have HB2 := Aside0.mk (HB1.out.trans (hb.mono HB1.out.size)); clear hb) | (go_at_call 14; with_reducible refine (factotumlaw05_few.calls (l2.length + 1) A2 c2 l2 false _ (Kd.C_below H2.out HB2.out) HC2.out HR2.out).mono ?_; rintro e w3 ⟨rfl, hb⟩; have HB3 := Aside0.mk (HB2.out.trans (hb.mono HB2.out.size)); clear hb))
    go_ret
    exact ⟨rfl, HB3.out⟩
  | true =>
  have hf1 := HRT1.out rfl
  have hf2 := HRT2.out rfl
  by_cases hn50 : 50 < n
  · go_enter Try.func4, Try.ntmps4
    go_wp2_with (first | (go_at_call 13; refine (awake_calls _).mono ?_; rintro e w1 ⟨rfl, hb⟩; have HB1 := Aside0.mk hb; clear hb) | (go_at_call 14; with_reducible refine (factotumlaw05_few.calls (l1.length + 1) A1 c1 l1 true _ (Kd.C_below H1.out HB1.out) HC1.out HR1.out).mono ?_; rintro e w2 ⟨rfl, hb⟩; have HB2 := Aside0.mk (HB1.out.trans (hb.mono HB1.out.size)); clear hb) | (go_at_call 14; with_reducible refine (factotumlaw05_few.calls (l2.length + 1) A2 c2 l2 true _ (Kd.C_below H2.out HB2.out) HC2.out HR2.out).mono ?_; rintro e w3 ⟨rfl, hb⟩; have HB3 := Aside0.mk (HB2.out.trans (hb.mono HB2.out.size)); clear hb))
    go_ret
    exact ⟨rfl, HB3.out⟩
  by_cases hk100 : 100 < ks.length
  · have hk100' : (100 : Int) < (ks.length : Int) := by omega
    clear hk100
    go_enter Try.func4, Try.ntmps4
    go_wp2_with (first | (go_at_call 13; refine (awake_calls _).mono ?_; rintro e w1 ⟨rfl, hb⟩; have HB1 := Aside0.mk hb; clear hb) | (go_at_call 14; with_reducible refine (factotumlaw05_few.calls (l1.length + 1) A1 c1 l1 true _ (Kd.C_below H1.out HB1.out) HC1.out HR1.out).mono ?_; rintro e w2 ⟨rfl, hb⟩; have HB2 := Aside0.mk (HB1.out.trans (hb.mono HB1.out.size)); clear hb) | (go_at_call 14; with_reducible refine (factotumlaw05_few.calls (l2.length + 1) A2 c2 l2 true _ (Kd.C_below H2.out HB2.out) HC2.out HR2.out).mono ?_; rintro e w3 ⟨rfl, hb⟩; have HB3 := Aside0.mk (HB2.out.trans (hb.mono HB2.out.size)); clear hb))
    go_ret
    exact ⟨rfl, HB3.out⟩
  have hk100' : ¬ (100 : Int) < (ks.length : Int) := by omega
  have hl1 : l1.length ≤ 40 := hf1.1
  have hl2 : l2.length ≤ 40 := hf2.1
  have HF1 := Aside0.mk hf1
  have HF2 := Aside0.mk hf2
  obtain ⟨D1, hd1⟩ : ∃ D, wrs (newP n) l1 = D := ⟨_, rfl⟩
  have q1 := wrs_wr (newP n) ⟨rfl, rfl⟩ l1 l1.length (Nat.le_refl _)
  rw [List.take_length, hd1] at q1
  obtain ⟨D2, hd2⟩ : ∃ D, flushP D1 = (D, 0) := ⟨_, flush_quiet q1.q⟩
  obtain ⟨D3, hd3⟩ : ∃ D, wrs D2 l2 = D := ⟨_, rfl⟩
  obtain ⟨D4, hd4⟩ : ∃ D, crashP D3 ks = D := ⟨_, rfl⟩
  have HP : Aside0 (∀ i : Int, inB i D2.n = true → ∃ s t, readP D4 i = (s, 0) ∧ readP (cloneP D2) i = (t, 0) ∧ (s = t ∨ ∃ x ∈ l2, x.f1 = i ∧ x.f2.length ≤ 64 ∧ s = pad x.f2)) := ⟨fun i hi => keeps_pure n l1 l2 ks i D1 D2 D3 D4 hd1 hd2 hd3 hd4 hi⟩
  have HL1 : Aside0 (∀ i, (wrs (newP n) (l1.take i)).cache.length ≤ 1000) := ⟨fun i => by have := wrs_len (newP n) (l1.take i); have h0 : (newP n).cache.length = 0 := rfl; have h1 : (l1.take i).length ≤ l1.length := List.length_take_le' _ _; omega⟩
  have hc2 : D2.cache = [] := by have := flush_quiet q1.q; rw [hd2] at this; rw [(Prod.mk.inj this).1]
  have HL2 : Aside0 (∀ i, (wrs D2 (l2.take i)).cache.length ≤ 1000) := ⟨fun i => by have := wrs_len D2 (l2.take i); rw [hc2] at this; simp only [List.length_nil] at this; have h1 : (l2.take i).length ≤ l2.length := List.length_take_le' _ _; omega⟩
  have HL0 := Aside0.mk (show D1.cache.length ≤ 1000 by have := HL1.out l1.length; rwa [List.take_length, hd1] at this)
  have HL3 := Aside0.mk (show D3.cache.length ≤ 1000 by have := HL2.out l2.length; rwa [List.take_length, hd3] at this)
  have HLC := Aside0.mk (show (cloneP D2).cache.length ≤ 1000 from Nat.zero_le _)
  have hn2 : 0 ≤ D2.n ∧ D2.n ≤ 4096 := by
    have := flush_quiet q1.q
    rw [hd2] at this
    rw [(Prod.mk.inj this).1]
    show 0 ≤ (keepAll D1 D1.cache).n ∧ (keepAll D1 D1.cache).n ≤ 4096
    rw [(keepAll_more D1 D1.cache).1, q1.n]
    show 0 ≤ min (max n 0) 4096 ∧ min (max n 0) 4096 ≤ 4096
    omega
  have hn4 : D4.n = D2.n := by
    have q2 : Quiet D2 := by
      have := flush_quiet q1.q
      rw [hd2] at this
      rw [(Prod.mk.inj this).1]
      exact ⟨(keepAll_same D1 D1.cache).1.trans q1.q.dead, (keepAll_same D1 D1.cache).2.1.trans q1.q.armed⟩
    have w3 := wrs_wr D2 q2 l2 l2.length (Nat.le_refl _)
    rw [List.take_length, hd3] at w3
    rw [← hd4]
    exact (sel_same D3 D3.cache ks _).1.trans w3.n
  obtain ⟨N, hN⟩ : ∃ N : Nat, D2.n = (N : Int) := ⟨D2.n.toNat, by omega⟩
  have HN : Aside0 (D2.n = (N : Int)) := ⟨hN⟩
  have HN4 : Aside0 (D4.n = (N : Int)) := ⟨hn4.trans hN⟩
  have hNm : N ≤ 4096 := by omega
  have HD1 := Aside0.mk hd1
  have HD2 := Aside0.mk hd2
  have HD3 := Aside0.mk hd3
  have HD4 := Aside0.mk hd4
  have HDc4 := Aside0.mk (show D4.cache.length = 0 by rw [← hd4]; rfl)
  clear hd1 q1 hd2 hd3 hd4 hn2 hn4 hN hc2 hf1 hf2 hk100
  go_enter Try.func4, Try.ntmps4
  go_wp2_with (first | (go_at_call 13; refine (awake_calls _).mono ?_; rintro e w1 ⟨rfl, hb⟩; have HB1 := Aside0.mk hb; clear hb) | (go_at_call 14; with_reducible refine (factotumlaw05_few.calls (l1.length + 1) A1 c1 l1 true _ (Kd.C_below H1.out HB1.out) HC1.out HR1.out).mono ?_; rintro e w2 ⟨rfl, hb⟩; have HB2 := Aside0.mk (HB1.out.trans (hb.mono HB1.out.size)); clear hb) | (go_at_call 14; with_reducible refine (factotumlaw05_few.calls (l2.length + 1) A2 c2 l2 true _ (Kd.C_below H2.out HB2.out) HC2.out HR2.out).mono ?_; rintro e w3 ⟨rfl, hb⟩; have HB3 := Aside0.mk (HB2.out.trans (hb.mono HB2.out.size)); clear hb) | (go_at_call 15; refine (new_at w w3 n HB3.out).mono ?_; rintro e w4 ⟨B, M, Bd, rfl, hd⟩; have HDN := Aside0.mk hd; clear hd))
  go_loopg [46] l1.length (fun kq v46 w' => ∃ (i : Nat) (vc : Value), v46 = .int .i64 (i : Int) ∧ Aside0 (i + kq = l1.length) ∧ Aside0 (At w (fun _ => False) w' B M Bd vc (wrs (newP n) (l1.take i))))
  case atStart => exact ⟨0, _, rfl, ⟨by omega⟩, HDN⟩
  case round =>
    obtain ⟨i, vc, rfl, HI, HDi⟩ := hrel
    by_cases hi : i < l1.length
    · obtain ⟨ad, Ab, cb, Ac, cc, e, x0, x1, x2, x3, x4, hl2', hi2, hl4, hi4⟩ := at_T31 H1.out (i : Int) (by omega) (by omega)
      subst e
      have hx := rd_get l1 i hi
      generalize rd_T31 l1 (i : Int) = x at x0 x1 x2 x3 x4 hl2' hi2 hl4 hi4 hx
      rw [Int.toNat_natCast] at x0 x1 x2 x3 x4
      replace x0 := (HDi.out.below.cell (World.block_lt_of_cell? w _ x0)).trans x0
      replace x1 := (HDi.out.below.cell (World.block_lt_of_cell? w _ x1)).trans x1
      replace x2 := (HDi.out.below.cell (World.block_lt_of_cell? w _ x2)).trans x2
      replace x3 := (HDi.out.below.cell (World.block_lt_of_cell? w _ x3)).trans x3
      replace x4 := (HDi.out.below.cell (World.block_lt_of_cell? w _ x4)).trans x4
      have HX := Aside0.mk hx
      have HCA : Aside0 (∀ w', Chg w w' (fun _ => False) → (Kd.int .u8).C w' Ab x.f2.length x.f2) := ⟨fun w' hc => Kd.C_below hi2 (hc.below (Nat.le_refl _) (fun _ h => h.elim))⟩
      have HG := Aside0.mk (HDi.out.grow ((Chg.refl wr _).alloc (Obj.cells #[.int .i64 x.f0, .int .i64 x.f1, .slice Ab x.f2.length cb, .int .i64 x.f3, .slice Ac x.f4.length cc] 31)))
      obtain ⟨D5, e5, hwe⟩ : ∃ D5 e5, writeP (wrs (newP n) (l1.take i)) x.f1 x.f2 = (D5, e5) := ⟨_, _, rfl⟩
      have HWE := Aside0.mk hwe
      have HLi := Aside0.mk (HL1.out i)
      clear hl2' hi2 hl4 hi4 hx hwe
      go_wp2_with (first | (go_at_call 17; with_reducible refine (at_write x.f1 e5 Ab cb x.f2 HWE.out HLi.out HCA.out HG.out).mono ?_; rintro e w5 ⟨rfl, vc5, hd⟩; have HD5 := Aside0.mk hd; clear hd))
      have hk1 := HI.out
      obtain ⟨gq, rfl⟩ : ∃ gq, gk = gq + 1 := ⟨gk - 1, by omega⟩
      go_roundg gq
      case rel => exact ⟨i + 1, vc5, by go_num, ⟨by omega⟩, ⟨by rw [wrs_succ (newP n) l1 i x HX.out, HWE.out]; exact HD5.out⟩⟩
      case measure => omega
    · have hi0 := HI.out
      obtain rfl : gk = 0 := by omega
      obtain rfl : i = l1.length := by omega
      clear hi0
      have hm : ¬ ((l1.length : Int) < (l1.length : Int)) := by omega
      have HDA : Aside0 (At w (fun _ => False) wr B M Bd vc D1) := ⟨by have := HDi.out; rwa [List.take_length, HD1.out] at this⟩
      go_wp2_with (first
        | (go_at_call 18; with_reducible refine (at_flush (w := wr) 0 HD2.out HL0.out HDA.out).mono ?_; rintro e w4 ⟨rfl, vc4, hd⟩; have HDB := Aside0.mk hd; clear hd)
        | (go_at_call 21; with_reducible refine (at_clone (w := w4) HDB.out).mono ?_; rintro e w5 ⟨B', M', Bd', rfl, hd, hk, hb⟩; have HDC := Aside0.mk hd; have HK5 := Aside0.mk hk; have HB5 := Aside0.mk hb; clear hd hk hb))
      have HD4a := Aside0.mk HDB.out.dk
      go_loopg [64] l2.length (fun kq v64 w' => ∃ (i : Nat) (vc : Value), v64 = .int .i64 (i : Int) ∧ Aside0 (i + kq = l2.length) ∧ Aside0 (At w5 (FP B M Bd vc4) w' B M Bd vc (wrs D2 (l2.take i))))
      case atStart => exact ⟨0, vc4, rfl, ⟨by omega⟩, ⟨At.refl HDC.out.dk⟩⟩
      case round =>
        clear HI HDi
        obtain ⟨i, vc, rfl, HI, HDi⟩ := hrel
        have HBr := Aside0.mk ((HDC.out.reach HDi.out.chg).below (Nat.le_refl _) (fun _ h => h.elim))
        by_cases hi : i < l2.length
        · obtain ⟨ad, Ab, cb, Ac, cc, e, x0, x1, x2, x3, x4, hl2', hi2, hl4, hi4⟩ := at_T31 H2.out (i : Int) (by omega) (by omega)
          subst e
          have hx := rd_get l2 i hi
          generalize rd_T31 l2 (i : Int) = x at x0 x1 x2 x3 x4 hl2' hi2 hl4 hi4 hx
          rw [Int.toNat_natCast] at x0 x1 x2 x3 x4
          replace x0 := (HBr.out.cell (World.block_lt_of_cell? w _ x0)).trans x0
          replace x1 := (HBr.out.cell (World.block_lt_of_cell? w _ x1)).trans x1
          replace x2 := (HBr.out.cell (World.block_lt_of_cell? w _ x2)).trans x2
          replace x3 := (HBr.out.cell (World.block_lt_of_cell? w _ x3)).trans x3
          replace x4 := (HBr.out.cell (World.block_lt_of_cell? w _ x4)).trans x4
          have HX := Aside0.mk hx
          have HCA : Aside0 (∀ w', Chg w5 w' (FP B M Bd vc4) → (Kd.int .u8).C w' Ab x.f2.length x.f2) := ⟨fun w' hc => Kd.C_below hi2 ((HDC.out.reach hc).below (Nat.le_refl _) (fun _ h => h.elim))⟩
          have HG := Aside0.mk (HDi.out.grow ((Chg.refl wr _).alloc (Obj.cells #[.int .i64 x.f0, .int .i64 x.f1, .slice Ab x.f2.length cb, .int .i64 x.f3, .slice Ac x.f4.length cc] 31)))
          obtain ⟨D5, e5, hwe⟩ : ∃ D5 e5, writeP (wrs D2 (l2.take i)) x.f1 x.f2 = (D5, e5) := ⟨_, _, rfl⟩
          have HWE := Aside0.mk hwe
          have HLi := Aside0.mk (HL2.out i)
          clear hl2' hi2 hl4 hi4 hx hwe
          go_wp2_with (first | (go_at_call 17; with_reducible refine (at_write x.f1 e5 Ab cb x.f2 HWE.out HLi.out HCA.out HG.out).mono ?_; rintro e w6 ⟨rfl, vc5, hd⟩; have HD5 := Aside0.mk hd; clear hd))
          have hk1 := HI.out
          obtain ⟨gq, rfl⟩ : ∃ gq, gk = gq + 1 := ⟨gk - 1, by omega⟩
          go_roundg gq
          case rel => exact ⟨i + 1, vc5, by go_num, ⟨by omega⟩, ⟨by rw [wrs_succ D2 l2 i x HX.out, HWE.out]; exact HD5.out⟩⟩
          case measure => omega
        · have hi0 := HI.out
          obtain rfl : gk = 0 := by omega
          obtain rfl : i = l2.length := by omega
          clear hi0
          have hm : ¬ ((l2.length : Int) < (l2.length : Int)) := by omega
          have HDE : Aside0 (At w5 (FP B M Bd vc4) wr B M Bd vc D3) := ⟨by have := HDi.out; rwa [List.take_length, HD3.out] at this⟩
          have HCK : Aside0 (∀ w', Chg w5 w' (FP B M Bd vc4) → Kd.bool.C w' A3 ks.length ks) := ⟨fun w' hc => Kd.C_below H3.out ((HDC.out.reach hc).below (Nat.le_refl _) (fun _ h => h.elim))⟩
          go_wp2_with (first
            | (go_at_call 20; with_reducible refine (at_crash A3 c3 ks HD4.out HL3.out HCK.out HDE.out).mono ?_; rintro e w6 ⟨rfl, hd⟩; have HDF := Aside0.mk hd; clear hd))
          have HB6 := Aside0.mk ((HDC.out.reach HDF.out.chg).below (Nat.le_refl _) (fun _ h => h.elim))
          clear HI HDi HBr
          go_loopg [15] N (fun kq v15 w' => ∃ (i : Nat), v15 = .int .i64 (i : Int) ∧ Aside0 (i + kq = N) ∧ Aside0 (At w5 (FP B M Bd vc4) w' B M Bd (.slice none 0 0) D4))
          case atStart => exact ⟨0, rfl, ⟨by omega⟩, HDF⟩
          case round =>
            obtain ⟨i, rfl, HI, HDi⟩ := hrel
            obtain ⟨wq, rfl⟩ : ∃ wq : World, wq = wr := ⟨_, rfl⟩
            by_cases hi : i < N
            · have hk1 := HI.out
              obtain ⟨gp, rfl⟩ : ∃ gq, gk = gq + 1 := ⟨gk - 1, by omega⟩
              obtain ⟨s, t, hs, ht, hst⟩ := HP.out (i : Int) (by rw [HN.out]; simp [inB]; omega)
              have HS := Aside0.mk hs
              have HT := Aside0.mk ht
              have HST := Aside0.mk hst
              have HLD := Aside0.mk (show D4.cache.length ≤ 1000 by rw [HDc4.out]; decide)
              clear hs ht hst
              go_wp2_with (first
                | (go_at_call 22; with_reducible refine (at_size (w := wq) (N : Int) HN4.out HDi.out).mono ?_; rintro e w' ⟨rfl, rfl⟩)
                | (go_at_call 23; with_reducible refine (at_read (w := wq) (i : Int) 0 s HS.out HLD.out HDi.out).mono ?_; rintro e w7 ⟨A6, c6, rfl, hr, hd, hb⟩; have HR7 := Aside0.mk hr; have HD7 := Aside0.mk hd; have HB7 := Aside0.mk hb; have HK7 := Aside0.mk (keeps_new HD4a.out HK5.out rfl hd.chg); clear hr hd hb)
                | (go_at_call 23; with_reducible refine (at_read (w := w7) (i : Int) 0 t HT.out HLC.out (At.refl HK7.out)).mono ?_; rintro e w8 ⟨A8, c8, rfl, hr, hd, hb⟩; have HR8 := Aside0.mk hr; have HD8 := Aside0.mk (HD7.out.grow (.of_below hb)); have HR78 := Aside0.mk (Kd.R_below HR7.out hb); have hs7 := str_at0 HR78.out; have hs8 := str_at0 hr; clear hr hd hb))
              clear hs7 hs8
              go_loopg [20, 109] l2.length (fun kq v20 v109 w' => ∃ (k : Nat) (b : Bool), v20 = .bool b ∧ v109 = .int .i64 (k : Int) ∧ Aside0 (k + kq = l2.length) ∧ Aside0 (At w5 (FP B M Bd vc4) w' B M Bd (.slice none 0 0) D4) ∧ Aside0 (Below w8.heap.size w8 w') ∧ Aside0 (keepsAt s t i (l2.take k) = b))
              case atStart => exact ⟨0, _, rfl, rfl, ⟨by omega⟩, HD8, ⟨Below.refl _ _⟩, ⟨by simp [keepsAt]⟩⟩
              case round =>
                obtain ⟨k, b, rfl, rfl, HKi, HDk, HB8, HKA⟩ := hrel
                have HBr := Aside0.mk ((HDC.out.reach HDk.out.chg).below (Nat.le_refl _) (fun _ h => h.elim))
                by_cases hk : k < l2.length
                · obtain ⟨ad, Ab, cb, Ac, cc, e, x0, x1, x2, x3, x4, hl2', hi2, hl4, hi4⟩ := at_T31 H2.out (k : Int) (by omega) (by omega)
                  subst e
                  have hx := rd_get l2 k hk
                  generalize rd_T31 l2 (k : Int) = x at x0 x1 x2 x3 x4 hl2' hi2 hl4 hi4 hx
                  rw [Int.toNat_natCast] at x0 x1 x2 x3 x4
                  replace x0 := (HBr.out.cell (World.block_lt_of_cell? w _ x0)).trans x0
                  replace x1 := (HBr.out.cell (World.block_lt_of_cell? w _ x1)).trans x1
                  replace x2 := (HBr.out.cell (World.block_lt_of_cell? w _ x2)).trans x2
                  replace x3 := (HBr.out.cell (World.block_lt_of_cell? w _ x3)).trans x3
                  replace x4 := (HBr.out.cell (World.block_lt_of_cell? w _ x4)).trans x4
                  have HX := Aside0.mk hx
                  have HCA := Aside0.mk hi2
                  clear hl2' hi2 hl4 hi4 hx
                  go_wp2
                  have hy := deed_cells wr (.int .i64 x.f0) (.int .i64 x.f1) (.slice Ab x.f2.length cb) (.int .i64 x.f3) (.slice Ac x.f4.length cc)
                  obtain ⟨y1, y2⟩ := hy
                  have hbw := Below.alloc (Below.refl wr.heap.size wr) (Nat.le_refl _) (.cells #[.int .i64 x.f0, .int .i64 x.f1, .slice Ab x.f2.length cb, .int .i64 x.f3, .slice Ac x.f4.length cc] 31)
                  generalize wr.alloc (.cells #[.int .i64 x.f0, .int .i64 x.f1, .slice Ab x.f2.length cb, .int .i64 x.f3, .slice Ac x.f4.length cc] 31) = W1 at y1 y2 hbw ⊢
                  have HBW := Aside0.mk hbw.drew
                  clear hbw x0 x1 x2 x3 x4
                  cases b with
                  | true =>
                    refine Fork.wp_fork 0 [] (.one 0 0 (.one 1 0 (.one 2 0 (.one 4 0 (.one 3 1 (.one 5 0 (.one 6 0 (.one 7 0 (.one 8 1 (.one 9 0 (.one 10 0 (.one 11 0 (.one 12 0 (.one 13 0 (.one 14 0 (.one 15 0 (.one 18 0 (.one 16 1 (.one 17 0 (.one 19 1 (.one 20 0 (.one 21 0 (.one 22 0 (.one 23 0 (.one 24 0 (.one 25 0 (.one 26 0 (.one 27 0 .nil)))))))))))))))))))))))))))) (by kernel_rfl) (by kernel_rfl) ?_
                    generalize hops : List.toArray (_ : List Oper) = ops
                    have HO := Aside0.mk hops
                    clear hops
                    iterate 2 ((refine Fork.plain (Fork.at_ HO.out rfl) _ rfl (fun W => by go_simp; exact rfl) ?_); simp only [Act.put, List.setIfInBounds_toArray, List.set_cons_succ, List.set_cons_zero])
                    refine Fork.skip (Fork.at_ HO.out rfl) (.inl rfl) (by have q := Fork.at_ (i := 1) HO.out rfl; simp [Region.wanted, yielded, q, undef]) ?_
                    simp only [Act.put, List.setIfInBounds_toArray, List.set_cons_succ, List.set_cons_zero]
                    refine Fork.skip (Fork.at_ HO.out rfl) (.inl rfl) (by have q := Fork.at_ (i := 1) HO.out rfl; simp [Region.wanted, yielded, q, undef]) ?_
                    simp only [Act.put, List.setIfInBounds_toArray, List.set_cons_succ, List.set_cons_zero]
                    refine Fork.skip (Fork.at_ HO.out rfl) (.inr <| .inl rfl) (by have q := Fork.at_ (i := 1) HO.out rfl; simp [Region.wanted, yielded, q, undef]) ?_
                    simp only [Act.put, List.setIfInBounds_toArray, List.set_cons_succ, List.set_cons_zero]
                    refine Fork.skip (Fork.at_ HO.out rfl) (.inl rfl) (by have q := Fork.at_ (i := 1) HO.out rfl; simp [Region.wanted, yielded, q, undef]) ?_
                    simp only [Act.put, List.setIfInBounds_toArray, List.set_cons_succ, List.set_cons_zero]
                    refine Fork.skip (Fork.at_ HO.out rfl) (.inl rfl) (by have q := Fork.at_ (i := 1) HO.out rfl; simp [Region.wanted, yielded, q, undef]) ?_
                    simp only [Act.put, List.setIfInBounds_toArray, List.set_cons_succ, List.set_cons_zero]
                    refine Fork.skip (Fork.at_ HO.out rfl) (.inl rfl) (by have q := Fork.at_ (i := 6) HO.out rfl; simp [Region.wanted, yielded, q, undef]) ?_
                    simp only [Act.put, List.setIfInBounds_toArray, List.set_cons_succ, List.set_cons_zero]
                    refine Fork.skip (Fork.at_ HO.out rfl) (.inr <| .inl rfl) (by have q := Fork.at_ (i := 6) HO.out rfl; simp [Region.wanted, yielded, q, undef]) ?_
                    simp only [Act.put, List.setIfInBounds_toArray, List.set_cons_succ, List.set_cons_zero]
                    refine Fork.skip (Fork.at_ HO.out rfl) (.inl rfl) (by have q := Fork.at_ (i := 6) HO.out rfl; simp [Region.wanted, yielded, q, undef]) ?_
                    simp only [Act.put, List.setIfInBounds_toArray, List.set_cons_succ, List.set_cons_zero]
                    refine Fork.skip (Fork.at_ HO.out rfl) (.inl rfl) (by have q := Fork.at_ (i := 6) HO.out rfl; simp [Region.wanted, yielded, q, undef]) ?_
                    simp only [Act.put, List.setIfInBounds_toArray, List.set_cons_succ, List.set_cons_zero]
                    refine Fork.skip (Fork.at_ HO.out rfl) (.inl rfl) (by have q := Fork.at_ (i := 1) HO.out rfl; simp [Region.wanted, yielded, q, undef]) ?_
                    simp only [Act.put, List.setIfInBounds_toArray, List.set_cons_succ, List.set_cons_zero]
                    refine Fork.skip (Fork.at_ HO.out rfl) (.inl rfl) (by have q := Fork.at_ (i := 1) HO.out rfl; simp [Region.wanted, yielded, q, undef]) ?_
                    simp only [Act.put, List.setIfInBounds_toArray, List.set_cons_succ, List.set_cons_zero]
                    refine Fork.skip (Fork.at_ HO.out rfl) (.inl rfl) (by have q := Fork.at_ (i := 12) HO.out rfl; simp [Region.wanted, yielded, q, undef]) ?_
                    simp only [Act.put, List.setIfInBounds_toArray, List.set_cons_succ, List.set_cons_zero]
                    refine Fork.skip (Fork.at_ HO.out rfl) (.inl rfl) (by have q := Fork.at_ (i := 12) HO.out rfl; simp [Region.wanted, yielded, q, undef]) ?_
                    simp only [Act.put, List.setIfInBounds_toArray, List.set_cons_succ, List.set_cons_zero]
                    refine Fork.skip (Fork.at_ HO.out rfl) (.inl rfl) (by have q := Fork.at_ (i := 12) HO.out rfl; simp [Region.wanted, yielded, q, undef]) ?_
                    simp only [Act.put, List.setIfInBounds_toArray, List.set_cons_succ, List.set_cons_zero]
                    refine Fork.skip (Fork.at_ HO.out rfl) (.inl rfl) (by have q := Fork.at_ (i := 12) HO.out rfl; simp [Region.wanted, yielded, q, undef]) ?_
                    simp only [Act.put, List.setIfInBounds_toArray, List.set_cons_succ, List.set_cons_zero]
                    refine Fork.skip (Fork.at_ HO.out rfl) (.inr <| .inl rfl) (by have q := Fork.at_ (i := 12) HO.out rfl; simp [Region.wanted, yielded, q, undef]) ?_
                    simp only [Act.put, List.setIfInBounds_toArray, List.set_cons_succ, List.set_cons_zero]
                    refine Fork.skip (Fork.at_ HO.out rfl) (.inl rfl) (by have q := Fork.at_ (i := 12) HO.out rfl; simp [Region.wanted, yielded, q, undef]) ?_
                    simp only [Act.put, List.setIfInBounds_toArray, List.set_cons_succ, List.set_cons_zero]
                    refine Fork.skip (Fork.at_ HO.out rfl) (.inr <| .inl rfl) (by have q := Fork.at_ (i := 12) HO.out rfl; simp [Region.wanted, yielded, q, undef]) ?_
                    simp only [Act.put, List.setIfInBounds_toArray, List.set_cons_succ, List.set_cons_zero]
                    refine Fork.skip (Fork.at_ HO.out rfl) (.inl rfl) (by have q := Fork.at_ (i := 12) HO.out rfl; simp [Region.wanted, yielded, q, undef]) ?_
                    simp only [Act.put, List.setIfInBounds_toArray, List.set_cons_succ, List.set_cons_zero]
                    refine Fork.skip (Fork.at_ HO.out rfl) (.inl rfl) (by have q := Fork.at_ (i := 12) HO.out rfl; simp [Region.wanted, yielded, q, undef]) ?_
                    simp only [Act.put, List.setIfInBounds_toArray, List.set_cons_succ, List.set_cons_zero]
                    refine Fork.skip (Fork.at_ HO.out rfl) (.inl rfl) (by have q := Fork.at_ (i := 12) HO.out rfl; simp [Region.wanted, yielded, q, undef]) ?_
                    simp only [Act.put, List.setIfInBounds_toArray, List.set_cons_succ, List.set_cons_zero]
                    refine Fork.skip (Fork.at_ HO.out rfl) (.inl rfl) (by have q := Fork.at_ (i := 12) HO.out rfl; simp [Region.wanted, yielded, q, undef]) ?_
                    simp only [Act.put, List.setIfInBounds_toArray, List.set_cons_succ, List.set_cons_zero]
                    refine Fork.skip (Fork.at_ HO.out rfl) (.inl rfl) (by have q := Fork.at_ (i := 12) HO.out rfl; simp [Region.wanted, yielded, q, undef]) ?_
                    simp only [Act.put, List.setIfInBounds_toArray, List.set_cons_succ, List.set_cons_zero]
                    refine Fork.skip (Fork.at_ HO.out rfl) (.inl rfl) (by have q := Fork.at_ (i := 1) HO.out rfl; simp [Region.wanted, yielded, q, undef]) ?_
                    simp only [Act.put, List.setIfInBounds_toArray, List.set_cons_succ, List.set_cons_zero]
                    iterate 2 ((refine Fork.plain (Fork.at_ HO.out rfl) _ rfl (fun W => by go_simp; exact rfl) ?_); simp only [Act.put, List.setIfInBounds_toArray, List.set_cons_succ, List.set_cons_zero])
                    refine Fork.done ?_
                    (go_wp2; have hk1' := HKi.out; obtain ⟨gq, rfl⟩ : ∃ gq, gk = gq + 1 := ⟨gk - 1, by omega⟩; go_roundg gq; (case rel => exact ⟨k + 1, _, rfl, by go_num, ⟨by omega⟩, ⟨HDk.out.grow (.of_below HBW.out)⟩, ⟨HB8.out.trans (HBW.out.mono HB8.out.size)⟩, ⟨by rw [keepsAt_succ s t i l2 k x HX.out, HKA.out]; first | rfl | (rw [hxi']; simp) | (rw [h64n]; simp)⟩⟩); (case measure => omega))
                  | false =>
                    by_cases hxi : x.f1 = (i : Int)
                    · have heq : (x.f1 == (i : Int)) = true := by simpa using hxi
                      by_cases h64 : x.f2.length ≤ 64
                      · have h64' : decide ((x.f2.length : Int) ≤ 64) = true := by simp; omega
                        have HRX := Aside0.mk (Kd.R_below (Kd.R_below HR78.out HB8.out) HBW.out)
                        have HCX := Aside0.mk (Kd.C_below (Kd.C_below HCA.out HBr.out) HBW.out)
                        have h64i : (x.f2.length : Int) ≤ 64 := by omega
                        clear hi hk100'
                        refine Fork.wp_fork W1.heap.size [22] (.one 0 0 (.one 1 0 (.one 2 0 (.one 4 0 (.one 3 1 (.one 5 0 (.one 6 0 (.one 7 0 (.one 8 1 (.one 9 0 (.one 10 0 (.one 11 0 (.one 12 0 (.one 13 0 (.one 15 0 (.one 18 0 (.one 14 3 (.one 16 1 (.one 19 1 (.one 20 0 (.one 21 0 (.one 17 2 (.one 22 2 (.one 23 1 (.one 24 0 (.one 25 0 (.one 26 0 (.one 27 0 .nil)))))))))))))))))))))))))))) (by kernel_rfl) (by kernel_rfl) ?_
                        generalize hops : List.toArray (_ : List Oper) = ops
                        have HO := Aside0.mk hops
                        clear hops
                        iterate 2 ((refine Fork.plain (Fork.at_ HO.out rfl) _ rfl (fun W => by go_simp; exact rfl) ?_); simp only [Act.put, List.setIfInBounds_toArray, List.set_cons_succ, List.set_cons_zero])
                        refine Fork.plain (Fork.at_ HO.out rfl) _ (by have q := Fork.at_ (i := 1) HO.out rfl; simp [Region.wanted, yielded, q, undef]) (fun W => by go_simp; exact rfl) ?_
                        simp only [Act.put, List.setIfInBounds_toArray, List.set_cons_succ, List.set_cons_zero]
                        refine Fork.plain (Fork.at_ HO.out rfl) _ (by have q := Fork.at_ (i := 1) HO.out rfl; simp [Region.wanted, yielded, q, undef]) (fun W => by go_simp; exact rfl) ?_
                        simp only [Act.put, List.setIfInBounds_toArray, List.set_cons_succ, List.set_cons_zero]
                        refine Fork.reads (Fork.at_ HO.out rfl) _ (by have q := Fork.at_ (i := 1) HO.out rfl; simp [Region.wanted, yielded, q, undef]) (fun W hW => Arr.ex_load1 rfl rfl (by kernel_rfl) (Fork.bel_cell hW (by assumption))) ?_
                        simp only [Act.put, List.setIfInBounds_toArray, List.set_cons_succ, List.set_cons_zero]
                        refine Fork.plain (Fork.at_ HO.out rfl) _ (by have q := Fork.at_ (i := 1) HO.out rfl; simp [Region.wanted, yielded, q, undef]) (fun W => by go_simp; exact rfl) ?_
                        simp only [Act.put, List.setIfInBounds_toArray, List.set_cons_succ, List.set_cons_zero]
                        refine Fork.plain (Fork.at_ HO.out rfl) _ (by have q := Fork.at_ (i := 1) HO.out rfl; simp [Region.wanted, yielded, q, undef]) (fun W => by go_simp; exact rfl) ?_
                        simp only [Act.put, List.setIfInBounds_toArray, List.set_cons_succ, List.set_cons_zero]
                        refine Fork.plain (Fork.at_ HO.out rfl) _ (by have q := Fork.at_ (i := 6) HO.out rfl; simp [Region.wanted, yielded, q, undef]) (fun W => by go_simp; exact rfl) ?_
                        simp only [Act.put, List.setIfInBounds_toArray, List.set_cons_succ, List.set_cons_zero]
                        refine Fork.reads (Fork.at_ HO.out rfl) _ (by have q := Fork.at_ (i := 6) HO.out rfl; simp [Region.wanted, yielded, q, undef]) (fun W hW => Arr.ex_load1 rfl rfl (by kernel_rfl) (Fork.bel_cell hW (by assumption))) ?_
                        simp only [Act.put, List.setIfInBounds_toArray, List.set_cons_succ, List.set_cons_zero]
                        refine Fork.plain (Fork.at_ HO.out rfl) _ (by have q := Fork.at_ (i := 6) HO.out rfl; simp [Region.wanted, yielded, q, undef]) (fun W => by go_simp; exact rfl) ?_
                        simp only [Act.put, List.setIfInBounds_toArray, List.set_cons_succ, List.set_cons_zero]
                        refine Fork.plain (Fork.at_ HO.out rfl) _ (by have q := Fork.at_ (i := 6) HO.out rfl; simp [Region.wanted, yielded, q, undef]) (fun W => by go_simp; exact rfl) ?_
                        simp only [Act.put, List.setIfInBounds_toArray, List.set_cons_succ, List.set_cons_zero]
                        refine Fork.plain (Fork.at_ HO.out rfl) _ (by have q := Fork.at_ (i := 1) HO.out rfl; simp [Region.wanted, yielded, q, undef]) (fun W => by go_simp; exact rfl) ?_
                        simp only [Act.put, List.setIfInBounds_toArray, List.set_cons_succ, List.set_cons_zero]
                        refine Fork.plain (Fork.at_ HO.out rfl) _ (by have q := Fork.at_ (i := 1) HO.out rfl; simp [Region.wanted, yielded, q, undef]) (fun W => by go_simp; exact rfl) ?_
                        simp only [Act.put, List.setIfInBounds_toArray, List.set_cons_succ, List.set_cons_zero]
                        refine Fork.plain (Fork.at_ HO.out rfl) _ (by have q := Fork.at_ (i := 12) HO.out rfl; simp [Region.wanted, yielded, q, undef]) (fun W => by go_simp; exact rfl) ?_
                        simp only [Act.put, List.setIfInBounds_toArray, List.set_cons_succ, List.set_cons_zero]
                        refine Fork.plain (Fork.at_ HO.out rfl) _ (by have q := Fork.at_ (i := 12) HO.out rfl; simp [Region.wanted, yielded, q, undef]) (fun W => by go_simp; exact rfl) ?_
                        simp only [Act.put, List.setIfInBounds_toArray, List.set_cons_succ, List.set_cons_zero]
                        refine Fork.plain (Fork.at_ HO.out rfl) _ (by have q := Fork.at_ (i := 12) HO.out rfl; simp [Region.wanted, yielded, q, undef]) (fun W => by go_simp; exact rfl) ?_
                        simp only [Act.put, List.setIfInBounds_toArray, List.set_cons_succ, List.set_cons_zero]
                        refine Fork.olds (Fork.at_ HO.out rfl) _ (by have q := Fork.at_ (i := 12) HO.out rfl; simp [Region.wanted, yielded, q, undef]) (fun W hW => by have q := Kd.C_string (P := Try.prog) (c := c6) Try.underlying29 Try.underlying5 Try.underlying9 (Kd.R_reads' (Kd.R_below HRX.out hW)).2.2; go_simp; exact rfl) ?_
                        simp only [Act.put, List.setIfInBounds_toArray, List.set_cons_succ, List.set_cons_zero]
                        refine Fork.reads (Fork.at_ HO.out rfl) _ (by have q := Fork.at_ (i := 12) HO.out rfl; simp [Region.wanted, yielded, q, undef]) (fun W hW => Arr.ex_load1 rfl rfl (by kernel_rfl) (Fork.bel_cell hW (by assumption))) ?_
                        simp only [Act.put, List.setIfInBounds_toArray, List.set_cons_succ, List.set_cons_zero]
                        refine Fork.reads (Fork.at_ HO.out rfl) _ (by have q := Fork.at_ (i := 12) HO.out rfl; simp [Region.wanted, yielded, q, undef]) (fun W hW => Arr.ex_load1 rfl rfl (by kernel_rfl) (Fork.bel_cell hW (by assumption))) ?_
                        simp only [Act.put, List.setIfInBounds_toArray, List.set_cons_succ, List.set_cons_zero]
                        refine Fork.plain (Fork.at_ HO.out rfl) _ (by have q := Fork.at_ (i := 12) HO.out rfl; simp [Region.wanted, yielded, q, undef]) (fun W => by go_simp; exact rfl) ?_
                        simp only [Act.put, List.setIfInBounds_toArray, List.set_cons_succ, List.set_cons_zero]
                        refine Fork.plain (Fork.at_ HO.out rfl) _ (by have q := Fork.at_ (i := 12) HO.out rfl; simp [Region.wanted, yielded, q, undef]) (fun W => by have q := IntWalk.i64_in (64 - (x.f2.length : Int)) (by omega); go_simp; exact rfl) ?_
                        simp only [Act.put, List.setIfInBounds_toArray, List.set_cons_succ, List.set_cons_zero]
                        refine Fork.step (Fork.at_ HO.out rfl) (fun K hK => ?_)
                        refine Kd.R_append_rows_step (Kd.int .u8) (w0 := W1.drew) W1.heap.size (by have q := Fork.at_ (i := 12) HO.out rfl; simp [Region.wanted, yielded, q, undef]) (.const (.slice none 0 0)) (.tmp 129) 29 5 (.int .u8 0) 1 rfl Try.underlying29 info5d rfl (by decide) (by decide) (.slice none 0 0) [] x.f2 Ab x.f2.length cb (fun _ => True) (fun _ => False) rfl rfl (Kd.R_nil _ _ _ _ _) HCX.out (fun _ _ h => h) (fun _ h => h.elim) (fun _ _ => trivial) (Below.refl _ _) (Nat.le_refl _) (by simp; omega) ?_
                        intro v1 w10 ho hb hg hat
                        refine hK _ _ (.of_new hb (Nat.le_refl _)) ?_
                        clear hK K
                        have HR10 := Aside0.mk ho
                        have HB10 := Aside0.mk hb
                        obtain ⟨A10, c10, hv10⟩ := Kd.R_slice ho
                        clear ho hb hg hat
                        try simp only [Act.put, List.setIfInBounds_toArray, List.set_cons_succ, List.set_cons_zero]
                        refine Fork.step (Fork.at_ HO.out rfl) (fun K hK => ?_)
                        refine Kd.R_append_zeros_step (Kd.int .u8) (w0 := W1.drew) W1.heap.size (by have q := Fork.at_ (i := 12) HO.out rfl; simp [Region.wanted, yielded, q, undef]) (.tmp 130) (.tmp 134) 29 3 5 (.int .u8 0) 1 rfl Try.underlying29 Try.underlying3 info5d rfl (by decide) (by decide) v1 ([] ++ x.f2) 0 (64 - (x.f2.length : Int)) (fun _ => True) rfl rfl rfl (fun _ _ => trivial) HR10.out (by omega) HB10.out HB10.out.size (by simp; omega) ?_
                        intro v2 w11 ho hb hg hat
                        refine hK _ _ (.of_old (Below_after HB10.out hb hg.size) rfl) ?_
                        clear hK K
                        have e64 : (64 - (x.f2.length : Int)).toNat = 64 - x.f2.length := by omega
                        rw [List.nil_append, e64] at ho
                        have hpl : (x.f2 ++ List.replicate (64 - x.f2.length) 0) = pad x.f2 := rfl
                        rw [hpl] at ho
                        have HR11 := Aside0.mk ho
                        have HB11 := Aside0.mk hb
                        obtain ⟨A11, c11, hv11⟩ := Kd.R_slice ho
                        subst hv11
                        clear ho hb hg hat e64 hpl
                        try simp only [Act.put, List.setIfInBounds_toArray, List.set_cons_succ, List.set_cons_zero]
                        refine Fork.reads (Fork.at_ HO.out rfl) _ (by have q := Fork.at_ (i := 12) HO.out rfl; simp [Region.wanted, yielded, q, undef]) (fun W hW => by have q := Kd.C_string (P := Try.prog) (c := c11) Try.underlying29 Try.underlying5 Try.underlying9 (Kd.R_reads' (Kd.R_below HR11.out hW)).2.2; go_simp; exact rfl) ?_
                        simp only [Act.put, List.setIfInBounds_toArray, List.set_cons_succ, List.set_cons_zero]
                        refine Fork.plain (Fork.at_ HO.out rfl) _ (by have q := Fork.at_ (i := 12) HO.out rfl; simp [Region.wanted, yielded, q, undef]) (fun W => by go_simp; exact rfl) ?_
                        simp only [Act.put, List.setIfInBounds_toArray, List.set_cons_succ, List.set_cons_zero]
                        refine Fork.plain (Fork.at_ HO.out rfl) _ (by have q := Fork.at_ (i := 1) HO.out rfl; simp [Region.wanted, yielded, q, undef]) (fun W => by go_simp; exact rfl) ?_
                        simp only [Act.put, List.setIfInBounds_toArray, List.set_cons_succ, List.set_cons_zero]
                        iterate 2 ((refine Fork.plain (Fork.at_ HO.out rfl) _ rfl (fun W => by go_simp; exact rfl) ?_); simp only [Act.put, List.setIfInBounds_toArray, List.set_cons_succ, List.set_cons_zero])
                        refine Fork.done ?_
                        (go_wp2; have hk1' := HKi.out; obtain ⟨gq, rfl⟩ : ∃ gq, gk = gq + 1 := ⟨gk - 1, by omega⟩; go_roundg gq; (case rel => exact ⟨k + 1, _, rfl, by go_num, ⟨by omega⟩, ⟨HDk.out.grow (.of_below (HBW.out.trans (HB11.out.mono HBW.out.size)))⟩, ⟨HB8.out.trans ((HBW.out.trans (HB11.out.mono HBW.out.size)).mono HB8.out.size)⟩, ⟨by rw [keepsAt_succ s t i l2 k x HX.out, HKA.out]; simp [hxi, h64]⟩⟩); (case measure => omega))
                      · have h64' : decide ((x.f2.length : Int) ≤ 64) = false := by simp; omega
                        have h64n : decide (x.f2.length ≤ 64) = false := by simpa using h64
                        refine Fork.wp_fork 0 [] (.one 0 0 (.one 1 0 (.one 2 0 (.one 4 0 (.one 3 1 (.one 5 0 (.one 6 0 (.one 7 0 (.one 8 1 (.one 9 0 (.one 10 0 (.one 11 0 (.one 12 0 (.one 13 0 (.one 14 0 (.one 15 0 (.one 18 0 (.one 16 1 (.one 17 0 (.one 19 1 (.one 20 0 (.one 21 0 (.one 22 0 (.one 23 0 (.one 24 0 (.one 25 0 (.one 26 0 (.one 27 0 .nil)))))))))))))))))))))))))))) (by kernel_rfl) (by kernel_rfl) ?_
                        generalize hops : List.toArray (_ : List Oper) = ops
                        have HO := Aside0.mk hops
                        clear hops
                        iterate 2 ((refine Fork.plain (Fork.at_ HO.out rfl) _ rfl (fun W => by go_simp; exact rfl) ?_); simp only [Act.put, List.setIfInBounds_toArray, List.set_cons_succ, List.set_cons_zero])
                        refine Fork.plain (Fork.at_ HO.out rfl) _ (by have q := Fork.at_ (i := 1) HO.out rfl; simp [Region.wanted, yielded, q, undef]) (fun W => by go_simp; exact rfl) ?_
                        simp only [Act.put, List.setIfInBounds_toArray, List.set_cons_succ, List.set_cons_zero]
                        refine Fork.plain (Fork.at_ HO.out rfl) _ (by have q := Fork.at_ (i := 1) HO.out rfl; simp [Region.wanted, yielded, q, undef]) (fun W => by go_simp; exact rfl) ?_
                        simp only [Act.put, List.setIfInBounds_toArray, List.set_cons_succ, List.set_cons_zero]
                        refine Fork.reads (Fork.at_ HO.out rfl) _ (by have q := Fork.at_ (i := 1) HO.out rfl; simp [Region.wanted, yielded, q, undef]) (fun W hW => Arr.ex_load1 rfl rfl (by kernel_rfl) (Fork.bel_cell hW (by assumption))) ?_
                        simp only [Act.put, List.setIfInBounds_toArray, List.set_cons_succ, List.set_cons_zero]
                        refine Fork.plain (Fork.at_ HO.out rfl) _ (by have q := Fork.at_ (i := 1) HO.out rfl; simp [Region.wanted, yielded, q, undef]) (fun W => by go_simp; exact rfl) ?_
                        simp only [Act.put, List.setIfInBounds_toArray, List.set_cons_succ, List.set_cons_zero]
                        refine Fork.plain (Fork.at_ HO.out rfl) _ (by have q := Fork.at_ (i := 1) HO.out rfl; simp [Region.wanted, yielded, q, undef]) (fun W => by go_simp; exact rfl) ?_
                        simp only [Act.put, List.setIfInBounds_toArray, List.set_cons_succ, List.set_cons_zero]
                        refine Fork.plain (Fork.at_ HO.out rfl) _ (by have q := Fork.at_ (i := 6) HO.out rfl; simp [Region.wanted, yielded, q, undef]) (fun W => by go_simp; exact rfl) ?_
                        simp only [Act.put, List.setIfInBounds_toArray, List.set_cons_succ, List.set_cons_zero]
                        refine Fork.reads (Fork.at_ HO.out rfl) _ (by have q := Fork.at_ (i := 6) HO.out rfl; simp [Region.wanted, yielded, q, undef]) (fun W hW => Arr.ex_load1 rfl rfl (by kernel_rfl) (Fork.bel_cell hW (by assumption))) ?_
                        simp only [Act.put, List.setIfInBounds_toArray, List.set_cons_succ, List.set_cons_zero]
                        refine Fork.plain (Fork.at_ HO.out rfl) _ (by have q := Fork.at_ (i := 6) HO.out rfl; simp [Region.wanted, yielded, q, undef]) (fun W => by go_simp; exact rfl) ?_
                        simp only [Act.put, List.setIfInBounds_toArray, List.set_cons_succ, List.set_cons_zero]
                        refine Fork.plain (Fork.at_ HO.out rfl) _ (by have q := Fork.at_ (i := 6) HO.out rfl; simp [Region.wanted, yielded, q, undef]) (fun W => by go_simp; exact rfl) ?_
                        simp only [Act.put, List.setIfInBounds_toArray, List.set_cons_succ, List.set_cons_zero]
                        refine Fork.plain (Fork.at_ HO.out rfl) _ (by have q := Fork.at_ (i := 1) HO.out rfl; simp [Region.wanted, yielded, q, undef]) (fun W => by go_simp; exact rfl) ?_
                        simp only [Act.put, List.setIfInBounds_toArray, List.set_cons_succ, List.set_cons_zero]
                        refine Fork.plain (Fork.at_ HO.out rfl) _ (by have q := Fork.at_ (i := 1) HO.out rfl; simp [Region.wanted, yielded, q, undef]) (fun W => by go_simp; exact rfl) ?_
                        simp only [Act.put, List.setIfInBounds_toArray, List.set_cons_succ, List.set_cons_zero]
                        refine Fork.skip (Fork.at_ HO.out rfl) (.inl rfl) (by have q := Fork.at_ (i := 12) HO.out rfl; simp [Region.wanted, yielded, q, undef]) ?_
                        simp only [Act.put, List.setIfInBounds_toArray, List.set_cons_succ, List.set_cons_zero]
                        refine Fork.skip (Fork.at_ HO.out rfl) (.inl rfl) (by have q := Fork.at_ (i := 12) HO.out rfl; simp [Region.wanted, yielded, q, undef]) ?_
                        simp only [Act.put, List.setIfInBounds_toArray, List.set_cons_succ, List.set_cons_zero]
                        refine Fork.skip (Fork.at_ HO.out rfl) (.inl rfl) (by have q := Fork.at_ (i := 12) HO.out rfl; simp [Region.wanted, yielded, q, undef]) ?_
                        simp only [Act.put, List.setIfInBounds_toArray, List.set_cons_succ, List.set_cons_zero]
                        refine Fork.skip (Fork.at_ HO.out rfl) (.inl rfl) (by have q := Fork.at_ (i := 12) HO.out rfl; simp [Region.wanted, yielded, q, undef]) ?_
                        simp only [Act.put, List.setIfInBounds_toArray, List.set_cons_succ, List.set_cons_zero]
                        refine Fork.skip (Fork.at_ HO.out rfl) (.inr <| .inl rfl) (by have q := Fork.at_ (i := 12) HO.out rfl; simp [Region.wanted, yielded, q, undef]) ?_
                        simp only [Act.put, List.setIfInBounds_toArray, List.set_cons_succ, List.set_cons_zero]
                        refine Fork.skip (Fork.at_ HO.out rfl) (.inl rfl) (by have q := Fork.at_ (i := 12) HO.out rfl; simp [Region.wanted, yielded, q, undef]) ?_
                        simp only [Act.put, List.setIfInBounds_toArray, List.set_cons_succ, List.set_cons_zero]
                        refine Fork.skip (Fork.at_ HO.out rfl) (.inr <| .inl rfl) (by have q := Fork.at_ (i := 12) HO.out rfl; simp [Region.wanted, yielded, q, undef]) ?_
                        simp only [Act.put, List.setIfInBounds_toArray, List.set_cons_succ, List.set_cons_zero]
                        refine Fork.skip (Fork.at_ HO.out rfl) (.inl rfl) (by have q := Fork.at_ (i := 12) HO.out rfl; simp [Region.wanted, yielded, q, undef]) ?_
                        simp only [Act.put, List.setIfInBounds_toArray, List.set_cons_succ, List.set_cons_zero]
                        refine Fork.skip (Fork.at_ HO.out rfl) (.inl rfl) (by have q := Fork.at_ (i := 12) HO.out rfl; simp [Region.wanted, yielded, q, undef]) ?_
                        simp only [Act.put, List.setIfInBounds_toArray, List.set_cons_succ, List.set_cons_zero]
                        refine Fork.skip (Fork.at_ HO.out rfl) (.inl rfl) (by have q := Fork.at_ (i := 12) HO.out rfl; simp [Region.wanted, yielded, q, undef]) ?_
                        simp only [Act.put, List.setIfInBounds_toArray, List.set_cons_succ, List.set_cons_zero]
                        refine Fork.skip (Fork.at_ HO.out rfl) (.inl rfl) (by have q := Fork.at_ (i := 12) HO.out rfl; simp [Region.wanted, yielded, q, undef]) ?_
                        simp only [Act.put, List.setIfInBounds_toArray, List.set_cons_succ, List.set_cons_zero]
                        refine Fork.skip (Fork.at_ HO.out rfl) (.inl rfl) (by have q := Fork.at_ (i := 12) HO.out rfl; simp [Region.wanted, yielded, q, undef]) ?_
                        simp only [Act.put, List.setIfInBounds_toArray, List.set_cons_succ, List.set_cons_zero]
                        refine Fork.plain (Fork.at_ HO.out rfl) _ (by have q := Fork.at_ (i := 1) HO.out rfl; simp [Region.wanted, yielded, q, undef]) (fun W => by go_simp; exact rfl) ?_
                        simp only [Act.put, List.setIfInBounds_toArray, List.set_cons_succ, List.set_cons_zero]
                        iterate 2 ((refine Fork.plain (Fork.at_ HO.out rfl) _ rfl (fun W => by go_simp; exact rfl) ?_); simp only [Act.put, List.setIfInBounds_toArray, List.set_cons_succ, List.set_cons_zero])
                        refine Fork.done ?_
                        (go_wp2; have hk1' := HKi.out; obtain ⟨gq, rfl⟩ : ∃ gq, gk = gq + 1 := ⟨gk - 1, by omega⟩; go_roundg gq; (case rel => exact ⟨k + 1, _, rfl, by go_num, ⟨by omega⟩, ⟨HDk.out.grow (.of_below HBW.out)⟩, ⟨HB8.out.trans (HBW.out.mono HB8.out.size)⟩, ⟨by rw [keepsAt_succ s t i l2 k x HX.out, HKA.out]; first | rfl | (rw [hxi']; simp) | (rw [h64n]; simp)⟩⟩); (case measure => omega))
                    · have hne : (x.f1 == (i : Int)) = false := by simpa using hxi
                      have hxi' : decide (x.f1 = (i : Int)) = false := by simpa using hxi
                      refine Fork.wp_fork 0 [] (.one 0 0 (.one 1 0 (.one 2 0 (.one 4 0 (.one 3 1 (.one 5 0 (.one 6 0 (.one 7 0 (.one 8 1 (.one 9 0 (.one 10 0 (.one 11 0 (.one 12 0 (.one 13 0 (.one 14 0 (.one 15 0 (.one 18 0 (.one 16 1 (.one 17 0 (.one 19 1 (.one 20 0 (.one 21 0 (.one 22 0 (.one 23 0 (.one 24 0 (.one 25 0 (.one 26 0 (.one 27 0 .nil)))))))))))))))))))))))))))) (by kernel_rfl) (by kernel_rfl) ?_
                      generalize hops : List.toArray (_ : List Oper) = ops
                      have HO := Aside0.mk hops
                      clear hops
                      iterate 2 ((refine Fork.plain (Fork.at_ HO.out rfl) _ rfl (fun W => by go_simp; exact rfl) ?_); simp only [Act.put, List.setIfInBounds_toArray, List.set_cons_succ, List.set_cons_zero])
                      refine Fork.plain (Fork.at_ HO.out rfl) _ (by have q := Fork.at_ (i := 1) HO.out rfl; simp [Region.wanted, yielded, q, undef]) (fun W => by go_simp; exact rfl) ?_
                      simp only [Act.put, List.setIfInBounds_toArray, List.set_cons_succ, List.set_cons_zero]
                      refine Fork.plain (Fork.at_ HO.out rfl) _ (by have q := Fork.at_ (i := 1) HO.out rfl; simp [Region.wanted, yielded, q, undef]) (fun W => by go_simp; exact rfl) ?_
                      simp only [Act.put, List.setIfInBounds_toArray, List.set_cons_succ, List.set_cons_zero]
                      refine Fork.reads (Fork.at_ HO.out rfl) _ (by have q := Fork.at_ (i := 1) HO.out rfl; simp [Region.wanted, yielded, q, undef]) (fun W hW => Arr.ex_load1 rfl rfl (by kernel_rfl) (Fork.bel_cell hW (by assumption))) ?_
                      simp only [Act.put, List.setIfInBounds_toArray, List.set_cons_succ, List.set_cons_zero]
                      refine Fork.plain (Fork.at_ HO.out rfl) _ (by have q := Fork.at_ (i := 1) HO.out rfl; simp [Region.wanted, yielded, q, undef]) (fun W => by go_simp; exact rfl) ?_
                      simp only [Act.put, List.setIfInBounds_toArray, List.set_cons_succ, List.set_cons_zero]
                      refine Fork.plain (Fork.at_ HO.out rfl) _ (by have q := Fork.at_ (i := 1) HO.out rfl; simp [Region.wanted, yielded, q, undef]) (fun W => by go_simp; exact rfl) ?_
                      simp only [Act.put, List.setIfInBounds_toArray, List.set_cons_succ, List.set_cons_zero]
                      refine Fork.skip (Fork.at_ HO.out rfl) (.inl rfl) (by have q := Fork.at_ (i := 6) HO.out rfl; simp [Region.wanted, yielded, q, undef]) ?_
                      simp only [Act.put, List.setIfInBounds_toArray, List.set_cons_succ, List.set_cons_zero]
                      refine Fork.skip (Fork.at_ HO.out rfl) (.inr <| .inl rfl) (by have q := Fork.at_ (i := 6) HO.out rfl; simp [Region.wanted, yielded, q, undef]) ?_
                      simp only [Act.put, List.setIfInBounds_toArray, List.set_cons_succ, List.set_cons_zero]
                      refine Fork.skip (Fork.at_ HO.out rfl) (.inl rfl) (by have q := Fork.at_ (i := 6) HO.out rfl; simp [Region.wanted, yielded, q, undef]) ?_
                      simp only [Act.put, List.setIfInBounds_toArray, List.set_cons_succ, List.set_cons_zero]
                      refine Fork.skip (Fork.at_ HO.out rfl) (.inl rfl) (by have q := Fork.at_ (i := 6) HO.out rfl; simp [Region.wanted, yielded, q, undef]) ?_
                      simp only [Act.put, List.setIfInBounds_toArray, List.set_cons_succ, List.set_cons_zero]
                      refine Fork.plain (Fork.at_ HO.out rfl) _ (by have q := Fork.at_ (i := 1) HO.out rfl; simp [Region.wanted, yielded, q, undef]) (fun W => by go_simp; exact rfl) ?_
                      simp only [Act.put, List.setIfInBounds_toArray, List.set_cons_succ, List.set_cons_zero]
                      refine Fork.plain (Fork.at_ HO.out rfl) _ (by have q := Fork.at_ (i := 1) HO.out rfl; simp [Region.wanted, yielded, q, undef]) (fun W => by go_simp; exact rfl) ?_
                      simp only [Act.put, List.setIfInBounds_toArray, List.set_cons_succ, List.set_cons_zero]
                      refine Fork.skip (Fork.at_ HO.out rfl) (.inl rfl) (by have q := Fork.at_ (i := 12) HO.out rfl; simp [Region.wanted, yielded, q, undef]) ?_
                      simp only [Act.put, List.setIfInBounds_toArray, List.set_cons_succ, List.set_cons_zero]
                      refine Fork.skip (Fork.at_ HO.out rfl) (.inl rfl) (by have q := Fork.at_ (i := 12) HO.out rfl; simp [Region.wanted, yielded, q, undef]) ?_
                      simp only [Act.put, List.setIfInBounds_toArray, List.set_cons_succ, List.set_cons_zero]
                      refine Fork.skip (Fork.at_ HO.out rfl) (.inl rfl) (by have q := Fork.at_ (i := 12) HO.out rfl; simp [Region.wanted, yielded, q, undef]) ?_
                      simp only [Act.put, List.setIfInBounds_toArray, List.set_cons_succ, List.set_cons_zero]
                      refine Fork.skip (Fork.at_ HO.out rfl) (.inl rfl) (by have q := Fork.at_ (i := 12) HO.out rfl; simp [Region.wanted, yielded, q, undef]) ?_
                      simp only [Act.put, List.setIfInBounds_toArray, List.set_cons_succ, List.set_cons_zero]
                      refine Fork.skip (Fork.at_ HO.out rfl) (.inr <| .inl rfl) (by have q := Fork.at_ (i := 12) HO.out rfl; simp [Region.wanted, yielded, q, undef]) ?_
                      simp only [Act.put, List.setIfInBounds_toArray, List.set_cons_succ, List.set_cons_zero]
                      refine Fork.skip (Fork.at_ HO.out rfl) (.inl rfl) (by have q := Fork.at_ (i := 12) HO.out rfl; simp [Region.wanted, yielded, q, undef]) ?_
                      simp only [Act.put, List.setIfInBounds_toArray, List.set_cons_succ, List.set_cons_zero]
                      refine Fork.skip (Fork.at_ HO.out rfl) (.inr <| .inl rfl) (by have q := Fork.at_ (i := 12) HO.out rfl; simp [Region.wanted, yielded, q, undef]) ?_
                      simp only [Act.put, List.setIfInBounds_toArray, List.set_cons_succ, List.set_cons_zero]
                      refine Fork.skip (Fork.at_ HO.out rfl) (.inl rfl) (by have q := Fork.at_ (i := 12) HO.out rfl; simp [Region.wanted, yielded, q, undef]) ?_
                      simp only [Act.put, List.setIfInBounds_toArray, List.set_cons_succ, List.set_cons_zero]
                      refine Fork.skip (Fork.at_ HO.out rfl) (.inl rfl) (by have q := Fork.at_ (i := 12) HO.out rfl; simp [Region.wanted, yielded, q, undef]) ?_
                      simp only [Act.put, List.setIfInBounds_toArray, List.set_cons_succ, List.set_cons_zero]
                      refine Fork.skip (Fork.at_ HO.out rfl) (.inl rfl) (by have q := Fork.at_ (i := 12) HO.out rfl; simp [Region.wanted, yielded, q, undef]) ?_
                      simp only [Act.put, List.setIfInBounds_toArray, List.set_cons_succ, List.set_cons_zero]
                      refine Fork.skip (Fork.at_ HO.out rfl) (.inl rfl) (by have q := Fork.at_ (i := 12) HO.out rfl; simp [Region.wanted, yielded, q, undef]) ?_
                      simp only [Act.put, List.setIfInBounds_toArray, List.set_cons_succ, List.set_cons_zero]
                      refine Fork.skip (Fork.at_ HO.out rfl) (.inl rfl) (by have q := Fork.at_ (i := 12) HO.out rfl; simp [Region.wanted, yielded, q, undef]) ?_
                      simp only [Act.put, List.setIfInBounds_toArray, List.set_cons_succ, List.set_cons_zero]
                      refine Fork.plain (Fork.at_ HO.out rfl) _ (by have q := Fork.at_ (i := 1) HO.out rfl; simp [Region.wanted, yielded, q, undef]) (fun W => by go_simp; exact rfl) ?_
                      simp only [Act.put, List.setIfInBounds_toArray, List.set_cons_succ, List.set_cons_zero]
                      iterate 2 ((refine Fork.plain (Fork.at_ HO.out rfl) _ rfl (fun W => by go_simp; exact rfl) ?_); simp only [Act.put, List.setIfInBounds_toArray, List.set_cons_succ, List.set_cons_zero])
                      refine Fork.done ?_
                      (go_wp2; have hk1' := HKi.out; obtain ⟨gq, rfl⟩ : ∃ gq, gk = gq + 1 := ⟨gk - 1, by omega⟩; go_roundg gq; (case rel => exact ⟨k + 1, _, rfl, by go_num, ⟨by omega⟩, ⟨HDk.out.grow (.of_below HBW.out)⟩, ⟨HB8.out.trans (HBW.out.mono HB8.out.size)⟩, ⟨by rw [keepsAt_succ s t i l2 k x HX.out, HKA.out]; first | rfl | (rw [hxi']; simp) | (rw [h64n]; simp)⟩⟩); (case measure => omega))
                · have hi0 := HKi.out
                  obtain rfl : gk = 0 := by omega
                  obtain rfl : k = l2.length := by omega
                  clear hi0
                  have hm : ¬ ((l2.length : Int) < (l2.length : Int)) := by omega
                  obtain rfl : true = b := by have := HKA.out; rw [List.take_length] at this; exact (keepsAt_true s t i l2 HST.out).symm.trans this
                  go_wp2
                  go_roundg gp
                  case rel => exact ⟨i + 1, by go_num, ⟨by omega⟩, HDk⟩
                  case measure => omega
            · have hi0 := HI.out
              obtain rfl : gk = 0 := by omega
              obtain rfl : i = N := by omega
              clear hi0
              have hm : ¬ ((i : Int) < (i : Int)) := by omega
              go_wp2_with (first
                | (go_at_call 22; with_reducible refine (at_size (w := wq) (i : Int) HN4.out HDi.out).mono ?_; rintro e w' ⟨rfl, rfl⟩)
                | (go_at_call 24; with_reducible refine (at_cached (w := wq) 0 HDc4.out HDi.out).mono ?_; rintro e w' ⟨rfl, rfl⟩))
              go_ret
              exact ⟨rfl, (HDC.out.reach HDi.out.chg).below (Nat.le_refl _) (fun _ h => h.elim)⟩
end Go.Proofs.Ytlepcmljmibdnaa
