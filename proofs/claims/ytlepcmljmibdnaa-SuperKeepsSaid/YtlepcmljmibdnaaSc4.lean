/- Parts of one proof, joined: Da, Dy. Conditions: those of each statement. -/
import Derived.Test.YtlepcmljmibdnaaSc2
import Derived.Test.YtlepcmljmibdnaaSc3
namespace Go.Proofs.Ytlepcmljmibdnaa
open Go.RowKit Go.Proofs.YtlepcmljmibdnaaW.PrintWords Go.Proofs.YtlepcmljmibdnaaW.PrintLast Go.Proofs.YtlepcmljmibdnaaW.PrintMore PDiskArms
set_option linter.unusedVariables false
set_option linter.unusedSimpArgs false
def Few (l : List S31) : Prop := l.length ≤ 40 ∧ ∀ x ∈ l, x.f2.length ≤ 100 ∧ x.f4.length ≤ 50
theorem few_loop (l : List S31) (hl : l.length ≤ 9223372036854775807) : ∀ (m i : Nat), i + m = l.length → (∀ j, j < i → ((l.getD j z31).f2.length ≤ 100 ∧ (l.getD j z31).f4.length ≤ 50)) →
    ∃ r, factotumlaw05_few.l0 (m + 1) l l (l.length : Int) (i : Int) = some r ∧ (r = true → Few l)
  | 0, i, hi, hall => by
    refine ⟨decide ((l.length : Int) ≤ 40), ?_, fun h => ⟨by have := of_decide_eq_true h; omega, fun x hx => ?_⟩⟩
    · rw [factotumlaw05_few.l0, if_neg (by omega)]
    · obtain ⟨j, hj, rfl⟩ := List.mem_iff_getElem.1 hx
      have := hall j (by omega)
      simpa [List.getD, hj] using this
  | m + 1, i, hi, hall => by
    rw [factotumlaw05_few.l0, if_pos (by omega), if_pos (by omega), if_pos (by omega)]
    have e : rd_T31 l (i : Int) = l.getD i z31 := by simp [rd_T31]
    rw [e]
    by_cases h1 : ((l.getD i z31).f2.length : Int) > 100
    · exact ⟨false, by rw [if_pos h1], fun h => by cases h⟩
    · rw [if_neg h1]
      by_cases h2 : ((l.getD i z31).f4.length : Int) > 50
      · exact ⟨false, by rw [if_pos h2], fun h => by cases h⟩
      · rw [if_neg h2, show wrap64 ((i : Int) + 1) = ((i + 1 : Nat) : Int) by unfold wrap64; omega]
        exact few_loop l hl m (i + 1) (by omega) (fun j hj => by
          by_cases hji : j < i
          · exact hall j hji
          · obtain rfl : j = i := by omega
            omega)
theorem few_f (l : List S31) (hl : l.length ≤ 9223372036854775807) : ∃ r, factotumlaw05_few.f (l.length + 1) l = some r ∧ (r = true → Few l) := few_loop l hl l.length 0 (by omega) (by omega)
theorem Few.at {l : List S31} (h : Few l) (i : Nat) (hi : i < l.length) : (rd_T31 l (i : Int)).f2.length ≤ 100 ∧ (rd_T31 l (i : Int)).f4.length ≤ 50 := by
  have : rd_T31 l (i : Int) = l[i] := by simp [rd_T31, hi]
  rw [this]
  exact h.2 _ (List.getElem_mem hi)
theorem crash_dead (D : PD) (ks : List Bool) : (crashP D ks).dead = false := rfl
theorem crash_flush (D : PD) (ks : List Bool) : (flushP (crashP D ks)).2 = 0 := rfl
theorem crash_cache (D : PD) (ks : List Bool) : (crashP D ks).cache = [] := rfl
/-- what the deeds keep -/
structure Arms (arm left : Int) (i : Nat) (D : PD) : Prop where
  dead : D.dead = false
  armd : D.armed = decide (0 ≤ arm)
  lft : 0 ≤ arm → D.left = left
  neg : arm < 0 → left = arm
  len : D.cache.length ≤ i
theorem arms_act {arm left : Int} {i : Nat} {D : PD} (h : Arms arm left i D) (hl : 0 ≤ D.left) :
    ((actP D).2 = 50 ∧ (actP D).1.dead = true ∧ 0 ≤ arm ∧ left ≤ 0 ∧ (actP D).1.cache = D.cache) ∨ ((actP D).2 = 0 ∧ Arms arm (if 0 < left then left - 1 else left) i (actP D).1 ∧ ¬ (0 ≤ arm ∧ left ≤ 0)) := by
  obtain ⟨n, kept, cache, bad, armed, lf, dead⟩ := D
  obtain ⟨h1, h2, h3, h4, h5⟩ := h
  simp only at h1 h2 h3 h5 hl
  subst h1
  by_cases ha : 0 ≤ arm
  · have ha' : armed = true := by rw [h2]; simpa using ha
    subst ha'
    have := h3 ha
    subst this
    by_cases hz : lf = 0
    · subst hz
      left
      refine ⟨?_, ?_, ha, by omega, ?_⟩ <;> simp [actP]
    · right
      have e : actP { n := n, kept := kept, cache := cache, bad := bad, armed := true, left := lf, dead := false } = ({ n := n, kept := kept, cache := cache, bad := bad, armed := true, left := lf - 1, dead := false }, 0) := by simp [actP, hz]
      rw [e, if_pos (by omega)]
      exact ⟨rfl, ⟨rfl, h2, fun _ => rfl, fun h => by omega, h5⟩, by omega⟩
  · have ha' : armed = false := by rw [h2]; simpa using ha
    subst ha'
    right
    have e : actP { n := n, kept := kept, cache := cache, bad := bad, armed := false, left := lf, dead := false } = ({ n := n, kept := kept, cache := cache, bad := bad, armed := false, left := lf, dead := false }, 0) := by simp [actP]
    have := h4 (by omega)
    rw [e, if_neg (by omega)]
    exact ⟨rfl, ⟨rfl, h2, fun h => absurd h ha, h4, h5⟩, fun h => ha h.1⟩
theorem arms_mono {arm left : Int} {i j : Nat} {D : PD} (h : Arms arm left i D) (hj : i ≤ j) : Arms arm left j D := ⟨h.dead, h.armd, h.lft, h.neg, Nat.le_trans h.len hj⟩
theorem arms_write {arm left : Int} {i : Nat} {D : PD} (at_ : Int) (b : List Int) (h : Arms arm left i D) (hl : 0 ≤ D.left) :
    (((writeP D at_ b).2 = 1 ∨ (writeP D at_ b).2 = 2) ∧ (writeP D at_ b).1 = D) ∨ ((writeP D at_ b).2 = 50 ∧ (writeP D at_ b).1.dead = true ∧ 0 ≤ arm ∧ left ≤ 0 ∧ (writeP D at_ b).1.cache.length ≤ i) ∨
      ((writeP D at_ b).2 = 0 ∧ Arms arm (if 0 < left then left - 1 else left) (i + 1) (writeP D at_ b).1 ∧ ¬ (0 ≤ arm ∧ left ≤ 0)) := by
  unfold writeP
  rw [h.dead, if_neg (by simp)]
  by_cases h1 : inB at_ D.n = false
  · rw [if_pos h1]; exact .inl ⟨.inl rfl, rfl⟩
  rw [if_neg h1]
  by_cases h2 : 64 < b.length
  · rw [if_pos h2]; exact .inl ⟨.inr rfl, rfl⟩
  rw [if_neg h2]
  right
  rcases arms_act h hl with ⟨e, e1, e2, e3, e4⟩ | ⟨e, e1, e2⟩
  · rw [if_pos (by rw [e]; decide)]; exact .inl ⟨e, e1, e2, e3, by rw [e4]; exact h.len⟩
  · rw [if_neg (by rw [e]; decide)]
    refine .inr ⟨rfl, ⟨e1.dead, e1.armd, e1.lft, e1.neg, ?_⟩, e2⟩
    have := e1.len
    simp only [List.length_append, List.length_cons, List.length_nil]
    omega
theorem keepAll_same (D : PD) (l : List (Int × List Int)) : (keepAll D l).dead = D.dead ∧ (keepAll D l).armed = D.armed ∧ (keepAll D l).left = D.left := by
  induction l generalizing D with
  | nil => exact ⟨rfl, rfl, rfl⟩
  | cons x l ih => exact ih (keepP D x)
theorem arms_flush {arm left : Int} {i : Nat} {D : PD} (h : Arms arm left i D) (hl : 0 ≤ D.left) :
    ((flushP D).2 = 50 ∧ (flushP D).1.dead = true ∧ 0 ≤ arm ∧ left ≤ 0 ∧ (flushP D).1.cache.length ≤ i) ∨ ((flushP D).2 = 0 ∧ Arms arm (if 0 < left then left - 1 else left) i (flushP D).1 ∧ ¬ (0 ≤ arm ∧ left ≤ 0)) := by
  unfold flushP
  rcases arms_act h hl with ⟨e, e1, e2, e3, e4⟩ | ⟨e, e1, e2⟩
  · rw [if_pos (by rw [e]; decide)]; exact .inl ⟨e, e1, e2, e3, by rw [e4]; exact h.len⟩
  · rw [if_neg (by rw [e]; decide)]
    obtain ⟨k1, k2, k3⟩ := keepAll_same (actP D).1 (actP D).1.cache
    exact .inr ⟨rfl, ⟨k1.trans e1.dead, k2.trans e1.armd, fun h => k3.trans (e1.lft h), e1.neg, Nat.zero_le _⟩, e2⟩
theorem arms_start (n arm : Int) : Arms arm arm 0 (armP (newP n) arm) := by
  refine ⟨rfl, rfl, fun h => ?_, fun _ => rfl, Nat.le_refl _⟩
  show max arm 0 = arm
  omega
theorem crash_at (w0 w : World) (B M Bd : Nat) (vc : Value) (D D' : PD) (A3 : Option Addr) (c3 : Nat) (ks : List Bool) (hD : crashP D ks = D') (hC : Kd.bool.C w0 A3 ks.length ks) (hb : Below w0.heap.size w0 w) (hl : D.cache.length ≤ 1000) (h : DK w w0.heap.size B M Bd vc D) :
    Calls Try.prog 20 #[.pointer (some ⟨B, 0, none⟩), .slice A3 ks.length c3] w fun e w' => e = .returned (.tuple #[]) ∧ DK w' w0.heap.size B M Bd (.slice none 0 0) D' ∧ Below w0.heap.size w0 w' := by
  subst hD
  have hs : ∀ w', Chg w w' (fun k => k = B ∨ k = M) → Below w0.heap.size w0 w' := fun w' hc => hb.trans ((hc.mono fun k hk => hk.elim .inl (fun h => .inr (.inl h))).fpbelow h)
  refine (crash_calls w w0.heap.size B M Bd vc D A3 c3 ks hl h.base_le h (fun w' hc => Kd.C_below hC (hs w' hc))).mono ?_
  rintro e w' ⟨rfl, hd, hc⟩
  exact ⟨rfl, hd, hs w' hc⟩
theorem dead_at (w : World) (base B M Bd : Nat) (vc : Value) (D : PD) (d : Bool) (hd : D.dead = d) (h : DK w base B M Bd vc D) : Calls Try.prog 19 #[.pointer (some ⟨B, 0, none⟩)] w fun e w' => e = .returned (.bool d) ∧ w = w' := by
  obtain ⟨⟨g0, g1, g2, g3, g4, g5, g6⟩, _⟩ := cells7 h.blk
  rw [hd] at g6
  exact dead_calls w B M d g1 g6
theorem flush_at (w0 w : World) (B M Bd : Nat) (vc : Value) (D D' : PD) (e : Int) (hD : flushP D = (D', e)) (hb : Below w0.heap.size w0 w) (hl : D.cache.length ≤ 1000) (h : DK w w0.heap.size B M Bd vc D) :
    Calls Try.prog 18 #[.pointer (some ⟨B, 0, none⟩)] w fun r w' => r = .returned (.int .i64 e) ∧ ∃ vc', DK w' w0.heap.size B M Bd vc' D' ∧ Below w0.heap.size w0 w' := by
  refine (flush_calls w w0.heap.size B M Bd vc D hl h.base_le h).mono ?_
  rw [hD]
  rintro r w' ⟨rfl, vc', hd, _, hc⟩
  exact ⟨rfl, vc', hd, hb.trans ((hc.mono fun k hk => hk.elim .inl (fun h => .inr (.inl h))).fpbelow h)⟩
theorem write_at (w0 w : World) (B M Bd : Nat) (vc : Value) (D D' : PD) (at_ e : Int) (A : Option Addr) (c : Nat) (b : List Int) (hD : writeP D at_ b = (D', e)) (hC : (Kd.int .u8).C w0 A b.length b) (hb : Below w0.heap.size w0 w) (hl : D.cache.length ≤ 1000) (h : DK w w0.heap.size B M Bd vc D) :
    Calls Try.prog 17 #[.pointer (some ⟨B, 0, none⟩), .int .i64 at_, .slice A b.length c] w fun r w' => r = .returned (.int .i64 e) ∧ ∃ vc', DK w' w0.heap.size B M Bd vc' D' ∧ Below w0.heap.size w0 w' := by
  refine (write_calls w w0.heap.size B M Bd vc D at_ A c b hl h.base_le h (fun w' hc => Kd.C_below hC (hb.trans (hc.fpbelow h)))).mono ?_
  rw [hD]
  rintro r w' ⟨rfl, vc', hd, _, hc⟩
  exact ⟨rfl, vc', hd, hb.trans (hc.fpbelow h)⟩
set_option maxHeartbeats 4000000 in
theorem arms_walk (n : Int) (A1 : Option Addr) (c1 : Nat) (l : List S31) (arm : Int) (A3 : Option Addr) (c3 : Nat) (ks : List Bool) (w : World) (hn : -9223372036854775808 ≤ n ∧ n ≤ 9223372036854775807) (ha : -9223372036854775808 ≤ arm ∧ arm ≤ 9223372036854775807)
    (hl1 : l.length ≤ 9223372036854775807) (h1 : Kd.C k31 w A1 l.length l) (hc1 : l.length ≤ c1) (h3 : Kd.bool.C w A3 ks.length ks) :
    Calls Try.prog 3 #[.int .i64 n, .slice A1 l.length c1, .int .i64 arm, .slice A3 ks.length c3] w fun e w' => e = .returned (.bool true) ∧ Below w.heap.size w w' := by
  have H1 := Aside0.mk h1
  have HC1 := Aside0.mk hc1
  have H3 := Aside0.mk h3
  obtain ⟨r, hr, hrt⟩ := few_f l hl1
  have HR := Aside0.mk hr
  have HRT := Aside0.mk hrt
  clear h1 hc1 h3 hr hrt hl1
  cases r with
  | false =>
    go_enter Try.func3, Try.ntmps3
    go_wp2_with (first | (go_at_call 13; refine (awake_calls _).mono ?_; rintro e w1 ⟨rfl, hb⟩; have HB1 := Aside0.mk hb; clear hb) | (go_at_call 14; refine (factotumlaw05_few.calls (l.length + 1) A1 c1 l false _ (Kd.C_below H1.out HB1.out) HC1.out HR.out).mono ?_; rintro e w2 ⟨rfl, hb⟩; have HB2 := Aside0.mk hb; clear hb))
    go_ret
    exact ⟨rfl, HB1.out.trans (HB2.out.mono HB1.out.size)⟩
  | true =>
    have HFew := Aside0.mk (HRT.out rfl)
    clear HRT
    by_cases hn50 : 50 < n
    · go_enter Try.func3, Try.ntmps3
      go_wp2_with (first | (go_at_call 13; refine (awake_calls _).mono ?_; rintro e w1 ⟨rfl, hb⟩; have HB1 := Aside0.mk hb; clear hb) | (go_at_call 14; refine (factotumlaw05_few.calls (l.length + 1) A1 c1 l true _ (Kd.C_below H1.out HB1.out) HC1.out HR.out).mono ?_; rintro e w2 ⟨rfl, hb⟩; have HB2 := Aside0.mk hb; clear hb))
      go_ret
      exact ⟨rfl, HB1.out.trans (HB2.out.mono HB1.out.size)⟩
    by_cases hk100 : 100 < ks.length
    · go_enter Try.func3, Try.ntmps3
      go_wp2_with (first | (go_at_call 13; refine (awake_calls _).mono ?_; rintro e w1 ⟨rfl, hb⟩; have HB1 := Aside0.mk hb; clear hb) | (go_at_call 14; refine (factotumlaw05_few.calls (l.length + 1) A1 c1 l true _ (Kd.C_below H1.out HB1.out) HC1.out HR.out).mono ?_; rintro e w2 ⟨rfl, hb⟩; have HB2 := Aside0.mk hb; clear hb))
      go_ret
      exact ⟨rfl, HB1.out.trans (HB2.out.mono HB1.out.size)⟩
    have hl40 : l.length ≤ 40 := HFew.out.1
    go_enter Try.func3, Try.ntmps3
    go_wp2_with (first | (go_at_call 13; refine (awake_calls _).mono ?_; rintro e w1 ⟨rfl, hb⟩; have HB1 := Aside0.mk hb; clear hb) | (go_at_call 14; refine (factotumlaw05_few.calls (l.length + 1) A1 c1 l true _ (Kd.C_below H1.out HB1.out) HC1.out HR.out).mono ?_; rintro e w2 ⟨rfl, hb⟩; have HB2 := Aside0.mk (HB1.out.trans (hb.mono HB1.out.size)); clear hb HB1) | (go_at_call 15; refine (new_calls w2 w.heap.size HB2.out.size n).mono ?_; rintro e w3 ⟨B, M, Bd, rfl, hd, hb⟩; have HD3 := Aside0.mk hd; have HB3 := Aside0.mk (HB2.out.trans hb); clear hd hb HB2) | (go_at_call 16; refine (arm_calls w3 w.heap.size B M Bd _ _ arm ha HD3.out).mono ?_; rintro e w4 ⟨rfl, hd, ho⟩; have HD4 := Aside0.mk hd; have HB4 := Aside0.mk (HB3.out.trans (ho.below HD3.out.hB)); clear hd ho HB3 HD3))
    go_loopg [10, 36] l.length (fun kq v10 v36 w' => ∃ (i : Nat) (left : Int) (vc : Value) (D : PD), v36 = .int .i64 (i : Int) ∧ v10 = .int .i64 left ∧ Aside0 (i + kq = l.length) ∧ Aside0 (DK w' w.heap.size B M Bd vc D) ∧ Aside0 (Below w.heap.size w w') ∧ Aside0 (Arms arm left i D) ∧ Aside0 (-9223372036854775808 ≤ left ∧ left ≤ 9223372036854775807))
    case atStart => exact ⟨0, arm, _, _, rfl, rfl, ⟨by omega⟩, HD4, HB4, ⟨arms_start n arm⟩, ⟨ha⟩⟩
    case round =>
      obtain ⟨i, left, vc, D, rfl, rfl, HI, HDi, HBr, HA, HLr⟩ := hrel
      by_cases hi : i < l.length
      · obtain ⟨ad, A2, c2, A4, c4, e, x0, x1, x2, x3, x4, hl2, hi2, hl4, hi4⟩ := at_T31 H1.out (i : Int) (by omega) (by omega)
        subst e
        rw [Int.toNat_natCast] at x0 x1 x2 x3 x4
        obtain ⟨x, hx⟩ : ∃ x, rd_T31 l (i : Int) = x := ⟨_, rfl⟩
        rw [hx] at x0 x1 x2 x3 x4 hl2 hi2 hl4 hi4
        clear hx hl2 hl4 hi4
        have HI2 := Aside0.mk hi2
        clear hi2
        replace x0 := (HBr.out.cell (World.block_lt_of_cell? w _ x0)).trans x0
        replace x1 := (HBr.out.cell (World.block_lt_of_cell? w _ x1)).trans x1
        replace x2 := (HBr.out.cell (World.block_lt_of_cell? w _ x2)).trans x2
        replace x3 := (HBr.out.cell (World.block_lt_of_cell? w _ x3)).trans x3
        replace x4 := (HBr.out.cell (World.block_lt_of_cell? w _ x4)).trans x4
        by_cases hk0 : x.f0 = 0
        · rw [hk0] at x0
          clear hk0
          have HG := Aside0.mk (HDi.out.grow (Obj.cells #[Value.int IntKind.i64 0, Value.int IntKind.i64 x.f1, Value.slice A2 x.f2.length c2, Value.int IntKind.i64 x.f3, Value.slice A4 x.f4.length c4] 31))
          have HBG := Aside0.mk (Below.alloc HBr.out HBr.out.size (Obj.cells #[Value.int IntKind.i64 0, Value.int IntKind.i64 x.f1, Value.slice A2 x.f2.length c2, Value.int IntKind.i64 x.f3, Value.slice A4 x.f4.length c4] 31))
          have hD0 := HDi.out.hl.1
          obtain ⟨D5, e5, hwe⟩ : ∃ D5 e5, writeP D x.f1 x.f2 = (D5, e5) := ⟨_, _, rfl⟩
          have hcs := arms_write x.f1 x.f2 HA.out hD0
          rw [hwe] at hcs
          simp only at hcs
          have HWE := Aside0.mk hwe
          clear hwe hD0
          rcases hcs with ⟨h12, hDD⟩ | ⟨rfl, hdd, ha0, hl0, h5l⟩ | ⟨rfl, ha5, hna2⟩
          · have HDD := Aside0.mk hDD
            clear hDD
            rcases h12 with rfl | rfl
            all_goals
              go_wp2_with (first | (go_at_call 17; go_loud (refine (write_at w _ B M Bd vc D D5 x.f1 _ A2 c2 x.f2 HWE.out HI2.out HBG.out (by have := HA.out.len; omega) HG.out).mono ?_); rintro e w5 ⟨rfl, vc5, hd, hb⟩; have HD5 := Aside0.mk hd; have HB5 := Aside0.mk hb; clear hd hb))
              all_goals
                have hk1 := HI.out
                obtain ⟨gq, rfl⟩ : ∃ gq, gk = gq + 1 := ⟨gk - 1, by omega⟩
                go_roundg gq
                case rel => exact ⟨i + 1, left, _, D5, by go_num, rfl, ⟨by omega⟩, HD5, HB5, ⟨by rw [HDD.out]; exact arms_mono HA.out (by omega)⟩, HLr⟩
              case measure => omega
          ·
            have HDD := Aside0.mk hdd
            have H5L := Aside0.mk h5l
            clear hdd h5l
            go_wp2_with (first | (go_at_call 17; go_loud (refine (write_at w _ B M Bd vc D D5 x.f1 _ A2 c2 x.f2 HWE.out HI2.out HBG.out (by have := HA.out.len; omega) HG.out).mono ?_); rintro e w5 ⟨rfl, vc5, hd, hb⟩; have HD5 := Aside0.mk hd; have HB5 := Aside0.mk hb; clear hd hb) | (go_at_call 19; refine (dead_at w5 w.heap.size B M Bd _ D5 true HDD.out HD5.out).mono ?_; rintro e w6 ⟨rfl, rfl⟩) | (go_at_call 20; refine (crash_at w w5 B M Bd _ D5 _ A3 c3 ks rfl H3.out HB5.out (by have := H5L.out; omega) HD5.out).mono ?_; rintro e w7 ⟨rfl, hd, hb⟩; have HD7 := Aside0.mk hd; have HB7 := Aside0.mk hb; clear hd hb) | (go_at_call 19; refine (dead_at w7 w.heap.size B M Bd _ _ false (crash_dead D5 ks) HD7.out).mono ?_; rintro e w8 ⟨rfl, rfl⟩) | (go_at_call 18; refine (flush_at w w7 B M Bd _ _ _ 0 (Prod.ext rfl (crash_flush D5 ks)) HB7.out (by rw [crash_cache]; exact Nat.zero_le _) HD7.out).mono ?_; rintro e w9 ⟨rfl, vc9, hd, hb⟩; have HB9 := Aside0.mk hb; clear hd hb))
            go_ret
            exact ⟨rfl, HB9.out⟩
          ·
            have HA5 := Aside0.mk ha5
            clear ha5
            by_cases hlp : 0 < left
            · have hle : ¬ (left ≤ 0) := by omega
              have hlr := HLr.out
              go_wp2_with (first | (go_at_call 17; go_loud (refine (write_at w _ B M Bd vc D D5 x.f1 _ A2 c2 x.f2 HWE.out HI2.out HBG.out (by have := HA.out.len; omega) HG.out).mono ?_); rintro e w5 ⟨rfl, vc5, hd, hb⟩; have HD5 := Aside0.mk hd; have HB5 := Aside0.mk hb; clear hd hb) | (go_at_call 19; refine (dead_at w5 w.heap.size B M Bd _ D5 false HA5.out.dead HD5.out).mono ?_; rintro e w6 ⟨rfl, rfl⟩))
              all_goals
                have hk1 := HI.out
                obtain ⟨gq, rfl⟩ : ∃ gq, gk = gq + 1 := ⟨gk - 1, by omega⟩
                go_roundg gq
                case rel => exact ⟨i + 1, left - 1, _, D5, by go_num, by go_num, ⟨by omega⟩, HD5, HB5, ⟨by have := HA5.out; rw [if_pos (by omega)] at this; exact arms_mono this (by omega)⟩, ⟨by omega⟩⟩
                case measure => omega
            · have hna : ¬ (0 ≤ arm) := by omega
              go_wp2_with (first | (go_at_call 17; go_loud (refine (write_at w _ B M Bd vc D D5 x.f1 _ A2 c2 x.f2 HWE.out HI2.out HBG.out (by have := HA.out.len; omega) HG.out).mono ?_); rintro e w5 ⟨rfl, vc5, hd, hb⟩; have HD5 := Aside0.mk hd; have HB5 := Aside0.mk hb; clear hd hb) | (go_at_call 19; refine (dead_at w5 w.heap.size B M Bd _ D5 false HA5.out.dead HD5.out).mono ?_; rintro e w6 ⟨rfl, rfl⟩))
              all_goals
                have hk1 := HI.out
                obtain ⟨gq, rfl⟩ : ∃ gq, gk = gq + 1 := ⟨gk - 1, by omega⟩
                go_roundg gq
                case rel => exact ⟨i + 1, left, _, D5, by go_num, by go_num, ⟨by omega⟩, HD5, HB5, ⟨by have := HA5.out; rw [if_neg (by omega)] at this; exact arms_mono this (by omega)⟩, HLr⟩
                case measure => omega
        by_cases hk2 : x.f0 = 2
        · rw [hk2] at x0
          clear hk2 hk0
          have HG := Aside0.mk (HDi.out.grow (Obj.cells #[Value.int IntKind.i64 2, Value.int IntKind.i64 x.f1, Value.slice A2 x.f2.length c2, Value.int IntKind.i64 x.f3, Value.slice A4 x.f4.length c4] 31))
          have HBG := Aside0.mk (Below.alloc HBr.out HBr.out.size (Obj.cells #[Value.int IntKind.i64 2, Value.int IntKind.i64 x.f1, Value.slice A2 x.f2.length c2, Value.int IntKind.i64 x.f3, Value.slice A4 x.f4.length c4] 31))
          have hD0 := HDi.out.hl.1
          obtain ⟨D5, e5, hwe⟩ : ∃ D5 e5, flushP D = (D5, e5) := ⟨_, _, rfl⟩
          have hcs := arms_flush HA.out hD0
          rw [hwe] at hcs
          simp only at hcs
          have HWE := Aside0.mk hwe
          clear hwe hD0
          rcases hcs with ⟨rfl, hdd, ha0, hl0, h5l⟩ | ⟨rfl, ha5, hna2⟩
          ·
            have HDD := Aside0.mk hdd
            have H5L := Aside0.mk h5l
            clear hdd h5l
            go_wp2_with (first | (go_at_call 18; refine (flush_at w _ B M Bd vc D D5 _ HWE.out HBG.out (by have := HA.out.len; omega) HG.out).mono ?_; rintro e w5 ⟨rfl, vc5, hd, hb⟩; have HD5 := Aside0.mk hd; have HB5 := Aside0.mk hb; clear hd hb) | (go_at_call 19; refine (dead_at w5 w.heap.size B M Bd _ D5 true HDD.out HD5.out).mono ?_; rintro e w6 ⟨rfl, rfl⟩) | (go_at_call 20; refine (crash_at w w5 B M Bd _ D5 _ A3 c3 ks rfl H3.out HB5.out (by have := H5L.out; omega) HD5.out).mono ?_; rintro e w7 ⟨rfl, hd, hb⟩; have HD7 := Aside0.mk hd; have HB7 := Aside0.mk hb; clear hd hb) | (go_at_call 19; refine (dead_at w7 w.heap.size B M Bd _ _ false (crash_dead D5 ks) HD7.out).mono ?_; rintro e w8 ⟨rfl, rfl⟩) | (go_at_call 18; refine (flush_at w w7 B M Bd _ _ _ 0 (Prod.ext rfl (crash_flush D5 ks)) HB7.out (by rw [crash_cache]; exact Nat.zero_le _) HD7.out).mono ?_; rintro e w9 ⟨rfl, vc9, hd, hb⟩; have HB9 := Aside0.mk hb; clear hd hb))
            go_ret
            exact ⟨rfl, HB9.out⟩
          ·
            have HA5 := Aside0.mk ha5
            clear ha5
            by_cases hlp : 0 < left
            · have hle : ¬ (left ≤ 0) := by omega
              have hlr := HLr.out
              go_wp2_with (first | (go_at_call 18; refine (flush_at w _ B M Bd vc D D5 _ HWE.out HBG.out (by have := HA.out.len; omega) HG.out).mono ?_; rintro e w5 ⟨rfl, vc5, hd, hb⟩; have HD5 := Aside0.mk hd; have HB5 := Aside0.mk hb; clear hd hb) | (go_at_call 19; refine (dead_at w5 w.heap.size B M Bd _ D5 false HA5.out.dead HD5.out).mono ?_; rintro e w6 ⟨rfl, rfl⟩))
              all_goals
                have hk1 := HI.out
                obtain ⟨gq, rfl⟩ : ∃ gq, gk = gq + 1 := ⟨gk - 1, by omega⟩
                go_roundg gq
                case rel => exact ⟨i + 1, left - 1, _, D5, by go_num, by go_num, ⟨by omega⟩, HD5, HB5, ⟨by have := HA5.out; rw [if_pos (by omega)] at this; exact arms_mono this (by omega)⟩, ⟨by omega⟩⟩
                case measure => omega
            · have hna : ¬ (0 ≤ arm) := by omega
              go_wp2_with (first | (go_at_call 18; refine (flush_at w _ B M Bd vc D D5 _ HWE.out HBG.out (by have := HA.out.len; omega) HG.out).mono ?_; rintro e w5 ⟨rfl, vc5, hd, hb⟩; have HD5 := Aside0.mk hd; have HB5 := Aside0.mk hb; clear hd hb) | (go_at_call 19; refine (dead_at w5 w.heap.size B M Bd _ D5 false HA5.out.dead HD5.out).mono ?_; rintro e w6 ⟨rfl, rfl⟩))
              all_goals
                have hk1 := HI.out
                obtain ⟨gq, rfl⟩ : ∃ gq, gk = gq + 1 := ⟨gk - 1, by omega⟩
                go_roundg gq
                case rel => exact ⟨i + 1, left, _, D5, by go_num, by go_num, ⟨by omega⟩, HD5, HB5, ⟨by have := HA5.out; rw [if_neg (by omega)] at this; exact arms_mono this (by omega)⟩, HLr⟩
                case measure => omega
        · have HG := Aside0.mk (HDi.out.grow (Obj.cells #[Value.int IntKind.i64 x.f0, Value.int IntKind.i64 x.f1, Value.slice A2 x.f2.length c2, Value.int IntKind.i64 x.f3, Value.slice A4 x.f4.length c4] 31))
          have HBG := Aside0.mk (Below.alloc HBr.out HBr.out.size (Obj.cells #[Value.int IntKind.i64 x.f0, Value.int IntKind.i64 x.f1, Value.slice A2 x.f2.length c2, Value.int IntKind.i64 x.f3, Value.slice A4 x.f4.length c4] 31))
          have hk0' : (x.f0 == 0) = false := by simpa using hk0
          have hk2' : (x.f0 == 2) = false := by simpa using hk2
          clear hk0 hk2
          go_wp2
          have hk1 := HI.out
          obtain ⟨gq, rfl⟩ : ∃ gq, gk = gq + 1 := ⟨gk - 1, by omega⟩
          go_roundg gq
          case rel => exact ⟨i + 1, left, _, D, by go_num, rfl, ⟨by omega⟩, HG, HBG, ⟨arms_mono HA.out (by omega)⟩, HLr⟩
          case measure => omega
      · have hi0 := HI.out
        obtain rfl : gk = 0 := by omega
        obtain rfl : i = l.length := by omega
        clear hi0
        have hm : ¬ ((l.length : Int) < (l.length : Int)) := by omega
        go_wp2_with (first | (go_at_call 20; refine (crash_at w wr B M Bd _ D _ A3 c3 ks rfl H3.out HBr.out (by have := HA.out.len; omega) HDi.out).mono ?_; rintro e w7 ⟨rfl, hd, hb⟩; have HD7 := Aside0.mk hd; have HB7 := Aside0.mk hb; clear hd hb) | (go_at_call 19; refine (dead_at w7 w.heap.size B M Bd _ _ false (crash_dead D ks) HD7.out).mono ?_; rintro e w8 ⟨rfl, rfl⟩) | (go_at_call 18; refine (flush_at w w7 B M Bd _ _ _ 0 (Prod.ext rfl (crash_flush D ks)) HB7.out (by rw [crash_cache]; exact Nat.zero_le _) HD7.out).mono ?_; rintro e w9 ⟨rfl, vc9, hd, hb⟩; have HB9 := Aside0.mk hb; clear hd hb))
        go_ret
        exact ⟨rfl, HB9.out⟩
end Go.Proofs.Ytlepcmljmibdnaa
namespace Go.Proofs.Ytlepcmljmibdnaa
open Go.RowKit Go.Proofs.YtlepcmljmibdnaaW.PrintWords Go.Proofs.YtlepcmljmibdnaaW.PrintLast Go.Proofs.YtlepcmljmibdnaaW.PrintMore PDiskArms
set_option linter.unusedVariables false
set_option linter.unusedSimpArgs false
theorem DK.low {w : World} {base B M Bd : Nat} {vc : Value} {D : PD} (h : DK w base B M Bd vc D) (b : Nat) (hb : b ≤ base) : DK w b B M Bd vc D :=
  ⟨h.blk, h.kept, h.bad, Kd.R_lower h.cache hb, Nat.le_trans hb h.hB, Nat.le_trans hb h.hM, Nat.le_trans hb h.hBd, h.hne, h.sec, h.hn, h.hl⟩
theorem DK.away0 {w w' : World} {base B M Bd : Nat} {D : PD} {S : Nat → Prop} (h : DK w base B M Bd (.slice none 0 0) D) (he : D.cache = []) (hc : Chg w w' S) (hd : ∀ k, (k = B ∨ k = M ∨ k = Bd) → ¬ S k) : DK w' base B M Bd (.slice none 0 0) D :=
  ⟨(hc.block B (Array.getElem?_eq_some_iff.1 h.blk).1 (hd B (.inl rfl))).trans h.blk, h.kept.same (hc.block M h.kept.lt (hd M (.inr (.inl rfl)))), h.bad.same (hc.block Bd h.bad.lt (hd Bd (.inr (.inr rfl)))), by rw [he]; exact Kd.R_nil _ _ _ _ _, h.hB, h.hM, h.hBd, h.hne, h.sec, h.hn, h.hl⟩
/-- a disk, seen from an elder world: nothing of it but F has changed -/
structure At (w0 : World) (F : Nat → Prop) (w : World) (B M Bd : Nat) (vc : Value) (D : PD) : Prop where
  dk : DK w 0 B M Bd vc D
  chg : Chg w0 w F
  fp : ∀ k, k < w0.heap.size → FP B M Bd vc k → F k
theorem At.refl {w : World} {base B M Bd : Nat} {vc : Value} {D : PD} (h : DK w base B M Bd vc D) : At w (FP B M Bd vc) w B M Bd vc D := ⟨h.low 0 (Nat.zero_le _), Chg.refl _ _, fun _ _ h => h⟩
section
variable {w0 w w' : World} {F : Nat → Prop} {B M Bd : Nat} {vc vc' : Value} {D D' : PD}
theorem At.reach (h : At w0 F w B M Bd vc D) (hc : Chg w w' (FP B M Bd vc)) : Chg w0 w' F :=
  ⟨hc.os.trans h.chg.os, hc.tape.trans h.chg.tape, hc.output.trans h.chg.output, Nat.le_trans h.chg.size hc.size, fun k hk hn => (hc.block k (Nat.lt_of_lt_of_le hk h.chg.size) (fun e => hn (h.fp k hk e))).trans (h.chg.block k hk hn)⟩
theorem At.next (h : At w0 F w B M Bd vc D) (hd : DK w' 0 B M Bd vc' D') (hc : Chg w w' (FP B M Bd vc)) (hf : ∀ k, k < w.heap.size → FP B M Bd vc' k → FP B M Bd vc k) : At w0 F w' B M Bd vc' D' :=
  ⟨hd, h.reach hc, fun k hk e => h.fp k hk (hf k (Nat.lt_of_lt_of_le hk h.chg.size) e)⟩
theorem At.then_ {w1 : World} (h : At w0 F w B M Bd vc D) (k : At w (FP B M Bd vc) w1 B M Bd vc' D') : At w0 F w1 B M Bd vc' D' := h.next k.dk k.chg k.fp
theorem At.grow (h : At w0 F w B M Bd vc D) (hc : Chg w w' (fun _ => False)) : At w0 F w' B M Bd vc D := h.next (h.dk.chg hc) (hc.mono fun _ h => h.elim) (fun _ _ h => h)
theorem fp_old {k : Nat} (ho : vc'.ownBlock = vc.ownBlock ∨ ∃ j, vc'.ownBlock = some j ∧ w.heap.size ≤ j) (hk : k < w.heap.size) (h : FP B M Bd vc' k) : FP B M Bd vc k := by
  rcases h with h | h | h | h
  · exact .inl h
  · exact .inr (.inl h)
  · exact .inr (.inr (.inl h))
  · rcases ho with ho | ⟨j, hj, hjl⟩
    · exact .inr (.inr (.inr (h.trans ho)))
    · rw [hj] at h
      have := Option.some.inj h
      omega
theorem fp_nil {k : Nat} (h : FP B M Bd (.slice none 0 0) k) : FP B M Bd vc k := by
  rcases h with h | h | h | h
  · exact .inl h
  · exact .inr (.inl h)
  · exact .inr (.inr (.inl h))
  · simp [Value.ownBlock] at h
theorem at_write (at_ e : Int) (A : Option Addr) (c : Nat) (b : List Int) (hw : writeP D at_ b = (D', e)) (hl : D.cache.length ≤ 1000) (hb : ∀ w', Chg w0 w' F → (Kd.int .u8).C w' A b.length b) (h : At w0 F w B M Bd vc D) :
    Calls Try.prog 17 #[.pointer (some ⟨B, 0, none⟩), .int .i64 at_, .slice A b.length c] w fun r w' => r = .returned (.int .i64 e) ∧ ∃ vc', At w0 F w' B M Bd vc' D' := by
  refine (write_calls w 0 B M Bd vc D at_ A c b hl (Nat.zero_le _) h.dk (fun w' hc => hb w' (h.reach hc))).mono ?_
  rw [hw]
  rintro r w' ⟨rfl, vc', hd, ho, hc⟩
  exact ⟨rfl, vc', h.next hd hc fun k hk => fp_old ho hk⟩
theorem at_flush (e : Int) (hw : flushP D = (D', e)) (hl : D.cache.length ≤ 1000) (h : At w0 F w B M Bd vc D) :
    Calls Try.prog 18 #[.pointer (some ⟨B, 0, none⟩)] w fun r w' => r = .returned (.int .i64 e) ∧ ∃ vc', At w0 F w' B M Bd vc' D' := by
  refine (flush_calls w 0 B M Bd vc D hl (Nat.zero_le _) h.dk).mono ?_
  rw [hw]
  rintro r w' ⟨rfl, vc', hd, ho, hc⟩
  refine ⟨rfl, vc', h.next hd (hc.mono fun k hk => hk.elim .inl (fun h => .inr (.inl h))) fun k hk hf => ?_⟩
  rcases ho with rfl | rfl
  · exact hf
  · exact fp_nil hf
theorem at_crash (A : Option Addr) (c : Nat) (ks : List Bool) (hw : crashP D ks = D') (hl : D.cache.length ≤ 1000) (hb : ∀ w', Chg w0 w' F → Kd.bool.C w' A ks.length ks) (h : At w0 F w B M Bd vc D) :
    Calls Try.prog 20 #[.pointer (some ⟨B, 0, none⟩), .slice A ks.length c] w fun r w' => r = .returned (.tuple #[]) ∧ At w0 F w' B M Bd (.slice none 0 0) D' := by
  have hm : ∀ w', Chg w w' (fun k => k = B ∨ k = M) → Chg w w' (FP B M Bd vc) := fun w' hc => hc.mono fun k hk => hk.elim .inl (fun h => .inr (.inl h))
  refine (crash_calls w 0 B M Bd vc D A c ks hl (Nat.zero_le _) h.dk (fun w' hc => hb w' (h.reach (hm w' hc)))).mono ?_
  rw [hw]
  rintro r w' ⟨rfl, hd, hc⟩
  exact ⟨rfl, h.next hd (hm w' hc) fun k hk => fp_nil⟩
theorem at_read (at_ r : Int) (s : List Int) (hr : readP D at_ = (s, r)) (hl : D.cache.length ≤ 1000) (h : At w0 F w B M Bd vc D) :
    Calls Try.prog 23 #[.pointer (some ⟨B, 0, none⟩), .int .i64 at_] w fun e w' => ∃ A c, e = .returned (.tuple #[.slice A s.length c, .int .i64 r]) ∧ Kd.R (Kd.int .u8) 5 w' w.heap.size (fun k => w.heap.size ≤ k) (.slice A s.length c) s ∧ At w0 F w' B M Bd vc D ∧ Below w.heap.size w w' := by
  refine (read_calls w 0 B M Bd vc D at_ hl h.dk).mono ?_
  rw [hr]
  rintro e w' ⟨v, rfl, hR, hb⟩
  obtain ⟨A, c, rfl⟩ := Kd.R_slice hR
  exact ⟨A, c, rfl, Kd.R_mono (Kd.R_bound hR) (fun k hk => hk.2.1), h.grow (.of_below hb), hb⟩
theorem at_dead (d : Bool) (hd : D.dead = d) (h : At w0 F w B M Bd vc D) : Calls Try.prog 19 #[.pointer (some ⟨B, 0, none⟩)] w fun e w' => e = .returned (.bool d) ∧ w = w' := dead_at w 0 B M Bd vc D d hd h.dk
theorem at_clone (h : At w0 F w B M Bd vc D) :
    Calls Try.prog 21 #[.pointer (some ⟨B, 0, none⟩)] w fun e w' => ∃ B' M' Bd', e = .returned (.pointer (some ⟨B', 0, none⟩)) ∧ At w0 F w' B M Bd vc D ∧ DK w' w.heap.size B' M' Bd' (.slice none 0 0) (cloneP D) ∧ Below w.heap.size w w' := by
  refine (dclone_calls w 0 w.heap.size B M Bd vc D (Nat.le_refl _) h.dk).mono ?_
  rintro e w' ⟨B', M', Bd', rfl, hd, hb, h1, h2, h3⟩
  exact ⟨B', M', Bd', rfl, h.grow (.of_below hb), hd, hb⟩
/-- what was made behind a world, where a disk of that world is turned -/
theorem keeps_new {w1 w2 : World} {B' M' Bd' : Nat} {D' : PD} (h : DK w 0 B M Bd vc D) (hd : DK w1 w.heap.size B' M' Bd' (.slice none 0 0) D') (he : D'.cache = []) (hc : Chg w1 w2 (FP B M Bd vc)) : DK w2 w.heap.size B' M' Bd' (.slice none 0 0) D' := by
  refine hd.away0 he hc fun k hk hf => ?_
  have h1 := (hd.fp k (hk.elim .inl fun h => .inr (h.elim .inl fun h => .inr (.inl h)))).1
  have h2 := (h.fp k hf).2
  omega
theorem keeps_row {w1 w2 : World} {b : Nat} {v : Value} {s : List Int} (h : DK w 0 B M Bd vc D) (hb : w.heap.size ≤ b) (hr : Kd.R (Kd.int .u8) 5 w1 b (fun k => b ≤ k) v s) (hc : Chg w1 w2 (FP B M Bd vc)) : Kd.R (Kd.int .u8) 5 w2 b (fun k => b ≤ k) v s :=
  Kd.R_step hr fun k hk hl => hc.block k hl fun hf => by
    have h2 := (h.fp k hf).2
    omega
end
def other : List Int := [111, 116, 104, 101, 114]
theorem at_other {w0 w : World} {F : Nat → Prop} {B M Bd : Nat} {vc : Value} {D D' : PD} (at_ e : Int) (hw : writeP D at_ other = (D', e)) (hl : D.cache.length ≤ 1000) (h : At w0 F w B M Bd vc D) :
    Calls Try.prog 17 #[.pointer (some ⟨B, 0, none⟩), .int .i64 at_, .slice (some ⟨w.heap.size, 0, none⟩) 5 5] (w.alloc (.cells #[.int .u8 111, .int .u8 116, .int .u8 104, .int .u8 101, .int .u8 114] 5 (5, 6))) fun r w' => r = .returned (.int .i64 e) ∧ ∃ vc', At w0 F w' B M Bd vc' D' := by
  have hS : ¬ FP B M Bd vc w.heap.size := fun hk => absurd (h.dk.fp _ hk).2 (Nat.lt_irrefl _)
  have h1 := (At.refl h.dk).grow ((Chg.refl w _).alloc (.cells #[.int .u8 111, .int .u8 116, .int .u8 104, .int .u8 101, .int .u8 114] 5 (5, 6)))
  have h2 : At (w.alloc (.cells (encs (Value.int .u8) other).toArray 5 (5, 6))) (FP B M Bd vc) (w.alloc (.cells (encs (Value.int .u8) other).toArray 5 (5, 6))) B M Bd vc D := At.refl h1.dk
  refine (at_write at_ e (some ⟨w.heap.size, 0, none⟩) 5 other hw hl (fun w' hc => lit_C w other (5, 6) _ (by decide) hS w' hc) h2).mono ?_
  rintro r w' ⟨rfl, vc', hd⟩
  exact ⟨rfl, vc', h.then_ (h1.then_ hd)⟩
theorem At.below {w0 w : World} {B M Bd : Nat} {vc : Value} {D : PD} (h : At w0 (fun _ => False) w B M Bd vc D) : Below w0.heap.size w0 w := h.chg.below (Nat.le_refl _) (fun _ h => h.elim)
theorem new_at (w0 w : World) (n : Int) (hb : Below w0.heap.size w0 w) :
    Calls Try.prog 15 #[.int .i64 n] w fun e w' => ∃ B M Bd, e = .returned (.pointer (some ⟨B, 0, none⟩)) ∧ At w0 (fun _ => False) w' B M Bd (.slice none 0 0) (newP n) := by
  refine (new_calls w w0.heap.size hb.size n).mono ?_
  rintro e w' ⟨B, M, Bd, rfl, hd, hb'⟩
  exact ⟨B, M, Bd, rfl, hd.low 0 (Nat.zero_le _), .of_below (hb.trans hb'), fun k hk hf => by have := (hd.fp k hf).1; omega⟩
theorem writeP_cache (D : PD) (at_ : Int) (b : List Int) : (writeP D at_ b).1.cache.length ≤ D.cache.length + 1 := by
  unfold writeP
  split
  · exact Nat.le_succ _
  · split
    · exact Nat.le_succ _
    · split
      · exact Nat.le_succ _
      · split
        · rw [actP_cache]; omega
        · rw [actP_cache]; simp
theorem flushP_cache (D : PD) : (flushP D).1.cache.length ≤ D.cache.length := by
  unfold flushP
  split
  · rw [actP_cache]; omega
  · simp
theorem write_none (w : World) (at_ : Int) (v : Value) : Calls Try.prog 17 #[.pointer none, .int .i64 at_, v] w fun e w' => e = .returned (.int .i64 1) ∧ w = w' := by
  go_enter Try.func17, Try.ntmps17
  go_wp2_with (first | (go_at_call 19; refine (dead_none _).mono ?_; rintro e w' ⟨rfl, rfl⟩) | (go_at_call 64; refine (has_none _ at_).mono ?_; rintro e w' ⟨rfl, rfl⟩))
  go_ret
  exact ⟨rfl, rfl⟩
theorem read_none (w : World) (at_ : Int) : Calls Try.prog 23 #[.pointer none, .int .i64 at_] w fun e w' => e = .returned (.tuple #[.slice none 0 0, .int .i64 1]) ∧ w = w' := by
  go_enter Try.func23, Try.ntmps23
  go_wp2_with (first | (go_at_call 19; refine (dead_none _).mono ?_; rintro e w' ⟨rfl, rfl⟩) | (go_at_call 64; refine (has_none _ at_).mono ?_; rintro e w' ⟨rfl, rfl⟩))
  go_ret2
  exact ⟨rfl, rfl⟩
theorem str_at {w : World} {b c : Nat} {A : Option Addr} {s : List Int} (o : Obj) (h : Kd.R (Kd.int .u8) 5 w b (fun k => b ≤ k) (.slice A s.length c) s) : (convert 29 9 (.slice A s.length c)).run Try.prog (w.alloc o) = .ok (.string (strOfNums s)) (w.alloc o) :=
  Kd.C_string Try.underlying29 Try.underlying5 Try.underlying9 (Kd.C_below (Kd.R_reads' h).2.2 (Below.alloc (Below.refl _ _) (Nat.le_refl _) o))
set_option maxRecDepth 100000 in
set_option maxHeartbeats 2000000 in
theorem own_walk (n : Int) (A1 : Option Addr) (c1 : Nat) (b : List Int) (at_ : Int) (w : World) (hC : (Kd.int .u8).C w A1 b.length b) :
    Calls Try.prog 6 #[.int .i64 n, .slice A1 b.length c1, .int .i64 at_] w fun e w' => e = .returned (.bool true) ∧ Below w.heap.size w w' := by
  have HC := Aside0.mk hC
  clear hC
  have hcv := fun (w : World) (C : Array Value) (n c : Nat) => Lib.run_convert_bytes_const (P := Try.prog) w 29 5 C n c Try.underlying29 Try.underlying5
  by_cases hn50 : 50 < n
  · go_enter Try.func6, Try.ntmps6
    go_wp2_with (first | (go_at_call 13; refine (awake_calls _).mono ?_; rintro e w1 ⟨rfl, hb⟩; have HB1 := Aside0.mk hb; clear hb))
    go_ret
    exact ⟨rfl, HB1.out⟩
  by_cases hb64 : 64 < b.length
  · have hb64' : (64 : Int) < (b.length : Int) := by omega
    clear hb64
    go_enter Try.func6, Try.ntmps6
    go_wp2_with (first | (go_at_call 13; refine (awake_calls _).mono ?_; rintro e w1 ⟨rfl, hb⟩; have HB1 := Aside0.mk hb; clear hb))
    go_ret
    exact ⟨rfl, HB1.out⟩
  have hb64' : ¬ (64 : Int) < (b.length : Int) := by omega
  clear hb64
  obtain ⟨D3, e3, h3⟩ : ∃ D3 e3, writeP (newP n) at_ b = (D3, e3) := ⟨_, _, rfl⟩
  obtain ⟨D4, e4, h4⟩ : ∃ D4 e4, flushP D3 = (D4, e4) := ⟨_, _, rfl⟩
  have hl3 : D3.cache.length ≤ 1 := by have := writeP_cache (newP n) at_ b; rw [h3] at this; exact this
  have hl4 : D4.cache.length ≤ 1 := by have := flushP_cache D3; rw [h4] at this; exact Nat.le_trans this hl3
  have hl7 : (writeP D4 at_ other).1.cache.length ≤ 1000 := by have := writeP_cache D4 at_ other; omega
  obtain ⟨D7, e7, h7⟩ : ∃ D7 e7, writeP D4 at_ other = (D7, e7) := ⟨_, _, rfl⟩
  obtain ⟨D8, e8, h8⟩ : ∃ D8 e8, flushP D7 = (D8, e8) := ⟨_, _, rfl⟩
  rw [h7] at hl7
  have H7 := Aside0.mk h7
  have H8 := Aside0.mk h8
  clear h7 h8
  have HCC : Aside0 (∀ w', Chg w w' (fun _ => False) → (Kd.int .u8).C w' A1 b.length b) := Aside0.mk fun w' hc => Kd.C_below HC.out (hc.below (Nat.le_refl _) (fun _ h => h.elim))
  have HLC := Aside0.mk (show (cloneP D4).cache.length ≤ 1000 from Nat.zero_le _)
  obtain ⟨s6, r6, h6⟩ : ∃ s r, readP (cloneP D4) at_ = (s, r) := ⟨_, _, rfl⟩
  have H6 := Aside0.mk h6
  clear h6
  have H3 := Aside0.mk h3
  have H4 := Aside0.mk h4
  have HL2 := Aside0.mk (show (newP n).cache.length ≤ 1000 from Nat.zero_le _)
  have HL3 := Aside0.mk (show D3.cache.length ≤ 1000 by omega)
  have HL4 := Aside0.mk (show D4.cache.length ≤ 1000 by omega)
  have HL7 := Aside0.mk hl7
  clear h3 h4 hl3 hl4 hl7
  go_enter Try.func6, Try.ntmps6
  go_wp2_with (first
    | (go_at_call 13; refine (awake_calls _).mono ?_; rintro e w1 ⟨rfl, hb⟩; have HB1 := Aside0.mk hb; clear hb)
    | (go_at_call 15; refine (new_at w w1 n HB1.out).mono ?_; rintro e w2 ⟨B, M, Bd, rfl, hd⟩; have HD2 := Aside0.mk hd; clear hd)
    | (go_at_call 17; with_reducible refine (at_write (w := w2) at_ e3 A1 c1 b H3.out HL2.out HCC.out HD2.out).mono ?_; rintro e w3 ⟨rfl, vc3, hd⟩; have HD3 := Aside0.mk hd; clear hd)
    | (go_at_call 18; with_reducible refine (at_flush (w := w3) e4 H4.out HL3.out HD3.out).mono ?_; rintro e w4 ⟨rfl, vc4, hd⟩; have HD4 := Aside0.mk hd; clear hd)
    | (go_at_call 21; with_reducible refine (at_clone (w := w4) HD4.out).mono ?_; rintro e w5 ⟨B', M', Bd', rfl, hd, hk, hb⟩; have HD5 := Aside0.mk hd; have HK5 := Aside0.mk hk; have HB5 := Aside0.mk hb; clear hd hk hb)
    | (go_at_call 23; with_reducible refine (at_read (w := w5) at_ r6 s6 H6.out HLC.out (At.refl HK5.out)).mono ?_; rintro e w6 ⟨A6, c6, rfl, hr, hk, hb⟩; have HR6 := Aside0.mk hr; have HK6 := Aside0.mk (HK5.out.chg (.of_below hb)); have HD6 := Aside0.mk (HD5.out.grow (.of_below hb)); have HA6 := Aside0.mk (At.refl HD6.out.dk); clear hr hk hb)
    | (go_at_call 17; with_reducible refine (at_other (w := w6) at_ e7 H7.out HL4.out HA6.out).mono ?_; rintro e w7 ⟨rfl, vc7, hd⟩; have HD7 := Aside0.mk hd; clear hd)
    | (go_at_call 18; with_reducible refine (at_flush (w := w7) e8 H8.out HL7.out HD7.out).mono ?_; rintro e w8 ⟨rfl, vc8, hd⟩; have HD8 := Aside0.mk hd; have HK8 := Aside0.mk (keeps_new HD4.out.dk HK6.out rfl hd.chg); clear hd)
    | (go_at_call 23; with_reducible refine (at_read (w := w8) at_ r6 s6 H6.out HLC.out (At.refl HK8.out)).mono ?_; rintro e w9 ⟨A9, c9, rfl, hr, hk, hb⟩; have HD9 := Aside0.mk (HD6.out.then_ (HD8.out.grow (.of_below hb))); have HR9 := Aside0.mk hr; have hc9 := (HD8.out.grow (.of_below hb)).chg; have HR69 := Aside0.mk (keeps_row HD4.out.dk HB5.out.size HR6.out hc9); clear hr hk hb hc9)
    | (go_at_call 16; with_reducible refine (arm_none _ _).mono ?_; rintro e w' ⟨rfl, rfl⟩)
    | (go_at_call 20; with_reducible refine (crash_none _ _).mono ?_; rintro e w' ⟨rfl, rfl⟩)
    | (go_at_call 31; with_reducible refine (fault_none _ _ _).mono ?_; rintro e w' ⟨rfl, rfl⟩)
    | (go_at_call 33; with_reducible refine (wipe_none _).mono ?_; rintro e w' ⟨rfl, rfl⟩)
    | (go_at_call 23; with_reducible refine (read_none _ _).mono ?_; rintro e w' ⟨rfl, rfl⟩; have hs6 := fun o => str_at o HR69.out; have hs9 := fun o => str_at o HR9.out)
    | (go_at_call 17; with_reducible refine (write_none _ _ _).mono ?_; rintro e w' ⟨rfl, rfl⟩)
    | (go_at_call 18; with_reducible refine (flush_none _).mono ?_; rintro e w' ⟨rfl, rfl⟩)
    | (go_at_call 22; with_reducible refine (size_none _).mono ?_; rintro e w' ⟨rfl, rfl⟩)
    | (go_at_call 24; with_reducible refine (cached_none _).mono ?_; rintro e w' ⟨rfl, rfl⟩)
    | (go_at_call 19; with_reducible refine (dead_none _).mono ?_; rintro e w' ⟨rfl, rfl⟩)
    | (go_at_call 21; with_reducible refine (dclone_none _).mono ?_; rintro e w' ⟨rfl, rfl⟩))
  go_ret
  exact ⟨rfl, HD9.out.below.trans (Below.alloc (Below.refl _ _) HD9.out.chg.size _)⟩
end Go.Proofs.Ytlepcmljmibdnaa
