/- Parts of one proof, joined: Ur, Sv, Dkp. Conditions: those of each statement. -/
import Derived.Test.YtlepcmljmibdnaaSb8
import Derived.Test.YtlepcmljmibdnaaSb4
namespace Go.Proofs.Ytlepcmljmibdnaa
open Go.RowKit Go.Proofs.YtlepcmljmibdnaaW.PrintWords Go.Proofs.YtlepcmljmibdnaaW.PrintLast Go.Proofs.YtlepcmljmibdnaaW.PrintMore PWalOpens
set_option linter.unusedVariables false
set_option linter.unusedSimpArgs false
theorem un_short (w : World) (A : Option Addr) (c : Nat) (b : List Int) (hl : b.length < 2) :
    Calls Try.prog 40 #[.slice A b.length c] w fun e w' => e = .returned (.tuple #[.int .u64 0, .slice none 0 0, .int .i64 60]) ∧ w = w' := by
  have h1 : decide ((b.length : Int) < 2) = true := by simp; omega
  go_enter Try.func40, Try.ntmps40
  go_wp2_with fail
  go_ret3
  exact ⟨rfl, rfl⟩
theorem un_first (w : World) (A : Option Addr) (c : Nat) (b : List Int) (x : Int) (hl : 2 ≤ b.length) (hx : b[0]? = some x) (hne : x ≠ 70) (hC : (Kd.int .u8).C w A b.length b) :
    Calls Try.prog 40 #[.slice A b.length c] w fun e w' => e = .returned (.tuple #[.int .u64 0, .slice none 0 0, .int .i64 60]) ∧ w = w' := by
  have h1 : decide ((b.length : Int) < 2) = false := by simp; omega
  obtain ⟨ad, e, x0⟩ := Kd.at_int hC (0 : Int) (by omega) (by omega)
  subst e
  rw [show rd b 0 = x by simp [rd, List.getD, hx], show ad.add (Int.toNat 0) = ad from rfl] at x0
  have hq : (x == 70) = false := by simpa using hne
  have hq2 : (x != 70) = true := by simpa using hne
  have hl0 : 0 < b.length := by omega
  clear hx hC
  go_enter Try.func40, Try.ntmps40
  go_wp2_with fail
  go_ret3
  exact ⟨rfl, rfl⟩
theorem un_second (w : World) (A : Option Addr) (c : Nat) (b : List Int) (x : Int) (hl : 2 ≤ b.length) (hx0 : b[0]? = some 70) (hx : b[1]? = some x) (hne : x ≠ 83) (hC : (Kd.int .u8).C w A b.length b) :
    Calls Try.prog 40 #[.slice A b.length c] w fun e w' => e = .returned (.tuple #[.int .u64 0, .slice none 0 0, .int .i64 60]) ∧ w = w' := by
  have h1 : decide ((b.length : Int) < 2) = false := by simp; omega
  obtain ⟨ad, e, x0⟩ := Kd.at_int hC (0 : Int) (by omega) (by omega)
  obtain ⟨ad1, e1, x1⟩ := Kd.at_int hC (1 : Int) (by omega) (by omega)
  subst e
  obtain rfl := Option.some.inj e1
  rw [show rd b 0 = 70 by simp [rd, List.getD, hx0], show ad.add (Int.toNat 0) = ad from rfl] at x0
  rw [show rd b 1 = x by simp [rd, List.getD, hx], show ad.add (Int.toNat 1) = { block := ad.block, off := ad.off + 1 } from rfl] at x1
  have hq : (x == 83) = false := by simpa using hne
  have hl0 : 0 < b.length := by omega
  have hl1 : 1 < b.length := by omega
  clear hx0 hx hne hC e1
  go_enter Try.func40, Try.ntmps40
  go_wp2_with fail
  go_ret3
  exact ⟨rfl, rfl⟩
theorem HX_new {w : World} {ad : Addr} {c : Nat} {b : List Int} {A1 : Option Addr} (h : SB w (some ad) c b) (hk : 2 ≤ b.length) (hA : (if c = 2 then some ad else some { block := ad.block, off := ad.off + 2 }) = A1) :
    HX (w.alloc (.cells #[.slice A1 (b.length - 2) (c - 2), .bool false] 124)) w.heap.size w.heap.size (b.drop 2) false := by
  have hT := h.tail (by decide) hk hA
  have hc0 : ∃ v, w.cell? ad = some v := by
    obtain ⟨a2, e, x0⟩ := Kd.at_int h.C (0 : Int) (by omega) (by omega)
    cases e
    exact ⟨_, x0⟩
  obtain ⟨v, hv⟩ := hc0
  have hlt := block_lt_of_cell hv
  refine ⟨A1, c - 2, ⟨by rw [len_tail]; exact heap_alloc_new w _, Kd.C_below hT.C (Below.alloc (Below.refl _ _) (Nat.le_refl _) _), hT.cap, fun a e => ?_, Nat.le_refl _⟩, hT.c63, fun e => List.eq_nil_of_length_eq_zero (hT.none_ e).1⟩
  subst e
  split at hA
  · cases hA; exact hlt
  · cases hA; exact hlt
theorem HX.hB {w : World} {base B : Nat} {xs : List Int} {bad : Bool} (h : HX w base B xs bad) : base ≤ B := by
  obtain ⟨A, c, hk, _⟩ := h
  exact hk.hB
theorem SB.tail' {w : World} {ad : Addr} {c k : Nat} {b : List Int} {A1 : Option Addr} (h : SB w (some ad) c b) (hk0 : 0 < k) (hk : k ≤ b.length) (hA : (if c = k then some ad else some (ad.add k)) = A1) : SB w A1 (c - k) (b.drop k) := by
  refine h.tail hk0 hk ?_
  rw [← hA]
  unfold Addr.add
  rw [if_neg (show ¬ k = 0 by omega)]
theorem be4_bytes (c : Int) : isBytes (be4 c) := by rw [← lowB4]; exact lowB_bytes c 4
theorem slotB_bytes (g : Int) (l : List Int) (hg : 0 ≤ g ∧ g < 18446744073709551616) (hn : ∀ n ∈ l, 0 ≤ n ∧ n < 18446744073709551616) (hl : l.length ≤ 4) : isBytes (slotB g l) := by
  intro x hx
  unfold slotB at hx
  rcases List.mem_append.1 hx with hx | hx
  · exact fs_bytes g l hg hn hl x hx
  · exact be4_bytes _ x hx
theorem slotB_ne (g : Int) (l : List Int) : slotB g l ≠ [] := by
  intro h
  have := congrArg List.length h
  rw [slotB_len] at this
  simp at this
def UnQ (w : World) (b : List Int) (e : Ending) (w' : World) : Prop := ∃ A c, e = .returned (.tuple #[.int .u64 (unP b).1, .slice A (unP b).2.1.length c, .int .i64 (unP b).2.2]) ∧ Kd.R (Kd.int .u64) 56 w' w.heap.size (fun k => w.heap.size ≤ k) (.slice A (unP b).2.1.length c) (unP b).2.1 ∧ Below w.heap.size w w'
set_option maxRecDepth 100000 in
set_option maxHeartbeats 1000000 in
theorem un_main (w : World) (ad : Addr) (c : Nat) (b : List Int) (hl : 2 ≤ b.length) (hl2 : b.length ≤ 1000000) (h : SB w (some ad) c b) (hby : isBytes b) (hm : b.take 2 = [70, 83]) :
    Calls Try.prog 40 #[.slice (some ad) b.length c] w (UnQ w b) := by
  have h1 : decide ((b.length : Int) < 2) = false := by simp; omega
  have hcap := h.cap
  obtain ⟨ad0, e, x0⟩ := Kd.at_int h.C (0 : Int) (by omega) (by omega)
  obtain ⟨ad1, e1, x1⟩ := Kd.at_int h.C (1 : Int) (by omega) (by omega)
  cases e
  cases e1
  have hb0 : b[0]? = some 70 := by have := congrArg (·[0]?) hm; simpa [List.getElem?_take] using this
  have hb1 : b[1]? = some 83 := by have := congrArg (·[1]?) hm; simpa [List.getElem?_take] using this
  rw [show rd b 0 = 70 by simp [rd, List.getD, hb0], show ad.add (Int.toNat 0) = ad from rfl] at x0
  rw [show rd b 1 = 83 by simp [rd, List.getD, hb1], show ad.add (Int.toNat 1) = { block := ad.block, off := ad.off + 1 } from rfl] at x1
  have hl0 : 0 < b.length := by omega
  have hl1 : 1 < b.length := by omega
  have hc2 : (2 : Int) ≤ (c : Int) := by omega
  have hl2' : (2 : Int) ≤ (b.length : Int) := by omega
  obtain ⟨A1, hA1⟩ : ∃ A1, (if c = 2 then some ad else some { block := ad.block, off := ad.off + 2 }) = A1 := ⟨_, rfl⟩
  have HG1 := Aside0.mk (⟨HX_new h hl hA1, Chg.refl _ _, hby.drop 2, fun h => (by cases h)⟩ : HS _ _ w.heap.size w.heap.size (b.drop 2) false)
  have HB1 := Aside0.mk (Below.alloc (Below.refl w.heap.size w) (Nat.le_refl _) (.cells #[.slice A1 (b.length - 2) (c - 2), .bool false] 124))
  have H := Aside0.mk h
  have HBY := Aside0.mk hby
  have HM := Aside0.mk hm
  obtain ⟨pg, p4, pn, pl, pb⟩ := slot_parts b hby
  obtain ⟨g, r1, b1, e1⟩ : ∃ g r1 b1, slotG b = (g, r1, b1) := ⟨_, _, _, rfl⟩
  obtain ⟨n, r2, b2, e3⟩ : ∃ n r2 b2, slotC b = (n, r2, b2) := ⟨_, _, _, rfl⟩
  have E1 := Aside0.mk (show rdN (b.drop 2) false 18446744073709551615 = (g, r1, b1) from e1)
  have E2 := Aside0.mk (show rdN r1 b1 4 = (n, r2, b2) from by have := e3; unfold slotC at this; rwa [e1] at this)
  have EL := Aside0.mk (show slotL b = readK n.toNat r2 b2 from by unfold slotL; rw [e3])
  rw [e1] at pg
  rw [e3] at p4
  simp only at pg p4
  obtain ⟨N, rfl⟩ := Int.eq_ofNat_of_zero_le p4.1
  have hN4 : N ≤ 4 := by omega
  rw [Int.toNat_natCast] at EL
  have PG := Aside0.mk pg
  have PN := Aside0.mk pn
  have PL := Aside0.mk pl
  have PB := Aside0.mk pb
  have E0 := Aside0.mk e1
  have HN4 := Aside0.mk hN4
  clear h hm hby hl hcap pg p4 pn pl pb e1 e3 hb0 hb1
  go_enter Try.func40, Try.ntmps40
  go_wp2_with (first
    | (go_at_call 83; (with_reducible refine (HS.n (by decide) E1.out HG1.out).mono ?_); rintro e w2 ⟨rfl, hg⟩; have HG2 := Aside0.mk hg; clear hg)
    | (go_at_call 83; (with_reducible refine (HS.n (by decide) E2.out HG2.out).mono ?_); rintro e w3 ⟨rfl, hg⟩; have HG3 := Aside0.mk hg; clear hg))
  have HG4 := Aside0.mk (⟨HG3.out.x, Chg.refl _ _, HG3.out.bytes, HG3.out.nb⟩ : HS w3 w3 _ _ _ _)
  have HB3 := Aside0.mk (HB1.out.trans (HG3.out.chg.below HB1.out.size (fun k hk => by subst hk; exact HG3.out.x.hB)))
  have HBL := Aside0.mk HG3.out.x.lt
  go_loopg [8, 9] N (fun kq v8 v9 w' => ∃ (i : Nat), v9 = .int .u64 (i : Int) ∧ Aside0 (i + kq = N) ∧ Aside0 (HS w3 w' w.heap.size w.heap.size (readK i r2 b2).2.1 (readK i r2 b2).2.2) ∧ Aside0 (Kd.R (Kd.int .u64) 56 w' w3.heap.size (fun _ => True) v8 (readK i r2 b2).1))
  case atStart => exact ⟨0, rfl, ⟨by omega⟩, HG4, ⟨Kd.R_nil _ _ _ _ _⟩⟩
  case round =>
    obtain ⟨i, rfl, HI, HGr, HRr⟩ := hrel
    obtain ⟨A3, c3, rfl⟩ := Kd.R_slice HRr.out
    by_cases hk0 : gk = 0
    · subst hk0
      obtain rfl : i = N := by have := HI.out; omega
      have EQ := EL.out
      rw [← EQ] at HGr HRr ⊢
      have HRD := Aside0.mk (slot_read b HBY.out HM.out)
      have HUN := Aside0.mk (show unP b = if slotV b then ((slotG b).1, (slotL b).1, 0) else (0, [], 60) by unfold unP; rw [if_pos HM.out])
      have HVV := Aside0.mk (show slotV b = (!(slotL b).2.2 && (slotB (slotG b).1 (slotL b).1).isPrefixOf b && allZ (b.drop (slotB (slotG b).1 (slotL b).1).length)) from rfl)
      rw [E0.out] at HRD HUN HVV
      simp only at HRD HUN HVV
      obtain ⟨l, hL1⟩ : ∃ l, (slotL b).1 = l := ⟨_, rfl⟩
      obtain ⟨r3, hL2⟩ : ∃ r3, (slotL b).2.1 = r3 := ⟨_, rfl⟩
      obtain ⟨b3, hL3⟩ : ∃ b3, (slotL b).2.2 = b3 := ⟨_, rfl⟩
      rw [hL1] at HRr HRD HUN PN PL HVV ⊢
      rw [hL2] at HGr HRD PB
      rw [hL3] at HGr HRD PB HVV
      clear EQ EL E0 E1 E2 hL1 hL2 hL3
      have HBr := Aside0.mk (HB3.out.trans (HGr.out.chg.below HB3.out.size (fun k hk => by subst hk; exact HGr.out.x.hB)))
      have hz : ¬ ((i : Int) < (i : Int)) := by omega
      obtain ⟨want, hwant⟩ : ∃ want, slotB g l = want := ⟨_, rfl⟩
      have HSL := Aside0.mk (rslot_calls wr g l A3 c3 PG.out PN.out PL.out (Kd.R_reads' HRr.out).2.2)
      rw [hwant] at HSL HVV
      cases b3 with
      | true =>
        have HU := Aside0.mk (show unP b = (0, [], 60) from by rw [HUN.out, HVV.out]; simp)
        go_wp2_with (first
          | (go_at_call 38; (with_reducible refine HSL.out.mono ?_); rintro e w7 ⟨A7, c7, rfl, hr, hb⟩; have HR7 := Aside0.mk hr; have HB7 := Aside0.mk hb; have HW7 := Aside0.mk (HBr.out.trans (hb.mono HBr.out.size)); have HG7 := (HGr.out.x.keep (Chg.of_below hb) (fun _ _ h => h)).badc; clear hr hb))
        go_quiet (fail)
        go_wp2
        go_ret3
        unfold UnQ
        rw [HU.out]
        exact ⟨none, 0, rfl, Kd.R_nil _ _ _ _ _, bel_drewN HW7.out _⟩
      | false =>
        by_cases hwl : b.length < want.length
        · have HU := Aside0.mk (show unP b = (0, [], 60) from by
            have : want.isPrefixOf b = false := by
              rw [← Bool.not_eq_true, List.isPrefixOf_iff_prefix]
              intro hp
              have := hp.length_le
              omega
            rw [HUN.out, HVV.out, this]; simp)
          have hwl1 : decide (b.length < want.length) = true := by simpa using hwl
          have hwl2 : (b.length : Int) < (want.length : Int) := by omega
          clear hwl
          go_wp2_with (first
            | (go_at_call 38; (with_reducible refine HSL.out.mono ?_); rintro e w7 ⟨A7, c7, rfl, hr, hb⟩; have HR7 := Aside0.mk hr; have HB7 := Aside0.mk hb; have HW7 := Aside0.mk (HBr.out.trans (hb.mono HBr.out.size)); have HG7 := (HGr.out.x.keep (Chg.of_below hb) (fun _ _ h => h)).badc; clear hr hb))
          go_quiet (fail)
          go_wp2
          go_ret3
          unfold UnQ
          rw [HU.out]
          exact ⟨none, 0, rfl, Kd.R_nil _ _ _ _ _, bel_drewN HW7.out _⟩
        · have hwl0 : want.length ≤ b.length := by omega
          have HWB := Aside0.mk (show isBytes want from by rw [← hwant]; exact slotB_bytes g l PG.out PN.out PL.out)
          have hwl1 : decide (b.length < want.length) = false := by simpa using hwl0
          have hwl2 : (want.length : Int) ≤ (b.length : Int) := by omega
          have hwc : (want.length : Int) ≤ (c : Int) := by have := H.out.cap; omega
          have HC4 := Aside0.mk (Kd.C_take H.out.C hwl0)
          have hl4 : (b.take want.length).length = want.length := by rw [List.length_take]; omega
          rw [hl4] at HC4
          have HWL := Aside0.mk hwl0
          obtain ⟨b4, hb4⟩ : ∃ b4, b.take want.length = b4 := ⟨_, rfl⟩
          rw [hb4] at HC4
          have HBY4 := Aside0.mk (show isBytes b4 from by rw [← hb4]; exact HBY.out.take _)
          have HWP := Aside0.mk (List.length_pos_iff.2 (slotB_ne g l))
          rw [hwant] at HWP
          have HPF := Aside0.mk (show want.isPrefixOf b = decide (want = b4) from by
            rw [Bool.eq_iff_iff, List.isPrefixOf_iff_prefix, decide_eq_true_eq, ← hb4]
            exact List.prefix_iff_eq_take)
          clear hwl hwl0 hl4 hb4 hwant
          go_wp2_with (first
            | (go_at_call 38; (with_reducible refine HSL.out.mono ?_); rintro e w7 ⟨A7, c7, rfl, hr, hb⟩; have HR7 := Aside0.mk hr; have HB7 := Aside0.mk hb; have HW7 := Aside0.mk (HBr.out.trans (hb.mono HBr.out.size)); have HG7 := (HGr.out.x.keep (Chg.of_below hb) (fun _ _ h => h)).badc; clear hr hb))
          have hC1 := (Kd.R_reads' HR7.out).2.2
          have hcv1 : ∀ k, (convert 29 9 (.slice A7 want.length c7)).run Try.prog (w7.drewN k) = .ok (.string (strOfNums want)) (w7.drewN k) := fun k => Kd.C_string Try.underlying29 Try.underlying5 Try.underlying9 (Kd.C_drewN hC1 k)
          have hC2 := Kd.C_below HC4.out HW7.out
          have hcv2 : ∀ k, (convert 29 9 (.slice (some ad) want.length c)).run Try.prog (w7.drewN k) = .ok (.string (strOfNums b4)) (w7.drewN k) := fun k => Kd.C_string Try.underlying29 Try.underlying5 Try.underlying9 (Kd.C_drewN hC2 k)
          have hse := str_eq want b4 HWB.out HBY4.out
          obtain ⟨s1, hs1⟩ : ∃ s1, strOfNums want = s1 := ⟨_, rfl⟩
          obtain ⟨s2, hs2⟩ : ∃ s2, strOfNums b4 = s2 := ⟨_, rfl⟩
          rw [hs1] at hcv1 hse
          rw [hs2] at hcv2 hse
          clear hs1 hs2 hC1 hC2
          by_cases hq : want = b4
          · have hse' : (s1.toList == s2.toList) = true := by rw [hse]; simpa using hq
            have HPF2 := Aside0.mk (show want.isPrefixOf b = true from by rw [HPF.out]; simpa using hq)
            obtain ⟨A5, hA5⟩ : ∃ A5, (if c = want.length then some ad else some (ad.add want.length)) = A5 := ⟨_, rfl⟩
            have HT5 := Aside0.mk ((H.out.tail' HWP.out HWL.out hA5).move HW7.out)
            have HUN2 := Aside0.mk (show unP b = if allZ (b.drop want.length) then (g, l, 0) else (0, [], 60) from by rw [HUN.out, HVV.out, HPF2.out]; simp)
            obtain ⟨zs, hzs⟩ : ∃ zs, b.drop want.length = zs := ⟨_, rfl⟩
            have hzl : b.length - want.length = zs.length := by rw [← hzs, len_tail]
            rw [hzs] at HT5 HUN2
            have HZL := Aside0.mk (show zs.length ≤ 1000000 by rw [← hzl]; omega)
            have HZE := Aside0.mk hzl
            clear hse hq hzs
            go_quiet (fail)
            go_wp2
            obtain ⟨wq, hwq⟩ : ∃ wq, w7.drewN nq = wq := ⟨_, rfl⟩
            have HTQ := Aside0.mk (Kd.C_drewN HT5.out.C nq)
            have HWQ := Aside0.mk (bel_drewN HW7.out nq)
            have HRQ := Aside0.mk (Kd.R_below (Kd.R_below HRr.out HB7.out) (drewN_below w7 nq))
            rw [hwq] at HTQ HWQ HRQ ⊢
            clear hwq
            go_loopg [79] zs.length (fun kq v79 w' => ∃ i : Nat, v79 = .int .i64 (i : Int) ∧ Aside0 (i + kq = zs.length) ∧ Aside0 (∀ j y, j < i → zs[j]? = some y → y = 0) ∧ w' = wq)
            case atStart => exact ⟨0, rfl, ⟨by omega⟩, ⟨fun j y h => by omega⟩, rfl⟩
            case round =>
              obtain ⟨i, rfl, HI, HZ, rfl⟩ := hrel
              by_cases hi : i < zs.length
              · obtain ⟨x, hnn⟩ : ∃ x, zs[i]? = some x := ⟨_, List.getElem?_eq_getElem hi⟩
                obtain ⟨a2, e, x0⟩ := Kd.at_int HTQ.out (i : Int) (by omega) (by omega)
                subst e
                rw [show rd zs (i : Int) = x by simp [rd, List.getD, hnn], Int.toNat_natCast] at x0
                have HNN := Aside0.mk hnn
                clear hnn
                by_cases h : x = 0
                · subst h
                  go_wp2
                  have hk1 := HI.out
                  obtain ⟨gq, rfl⟩ : ∃ gq, gk = gq + 1 := ⟨gk - 1, by omega⟩
                  go_roundg gq
                  case rel => exact ⟨i + 1, by go_num, ⟨by omega⟩, ⟨fun j y hj hy => by
                    by_cases hji : j = i
                    · subst hji; rw [HNN.out] at hy; exact (Option.some.inj hy).symm
                    · exact HZ.out j y (by omega) hy⟩, rfl⟩
                  case measure => omega
                · have HU := Aside0.mk (show unP b = (0, [], 60) from by
                    rw [HUN2.out, if_neg]
                    intro hz
                    unfold allZ at hz
                    rw [List.all_eq_true] at hz
                    exact h (by simpa using hz x (List.mem_of_getElem? HNN.out)))
                  have h2 : (x != 0) = true := by simpa using h
                  have h3 : (x == 0) = false := by simpa using h
                  go_wp2
                  go_ret3
                  unfold UnQ
                  rw [HU.out]
                  exact ⟨none, 0, rfl, Kd.R_nil _ _ _ _ _, HWQ.out⟩
              · have hi0 := HI.out
                obtain rfl : gk = 0 := by omega
                obtain rfl : i = zs.length := by omega
                clear hi0
                have hm : ¬ ((zs.length : Int) < (zs.length : Int)) := by omega
                have HU := Aside0.mk (show unP b = (g, l, 0) from by
                  rw [HUN2.out, if_pos]
                  unfold allZ
                  rw [List.all_eq_true]
                  intro x hx
                  obtain ⟨j, hj⟩ := List.mem_iff_getElem?.1 hx
                  simpa using HZ.out j x (List.getElem?_eq_some_iff.1 hj).1 hj)
                go_wp2
                go_ret3
                unfold UnQ
                rw [HU.out]
                exact ⟨A3, c3, rfl, Kd.R_mono (Kd.R_bound (Kd.R_lower HRQ.out HB3.out.size)) (fun k hk => hk.2.1), HWQ.out⟩
          · have hse' : (s1.toList == s2.toList) = false := by rw [hse]; simpa using hq
            have HU := Aside0.mk (show unP b = (0, [], 60) from by rw [HUN.out, HVV.out, HPF.out]; simp [hq])
            clear hse hq
            go_quiet (fail)
            go_wp2
            go_ret3
            unfold UnQ
            rw [HU.out]
            exact ⟨none, 0, rfl, Kd.R_nil _ _ _ _ _, bel_drewN HW7.out _⟩
    obtain ⟨x, rx, bx, hx⟩ : ∃ x rx bx, rdN (readK i r2 b2).2.1 (readK i r2 b2).2.2 18446744073709551615 = (x, rx, bx) := ⟨_, _, _, rfl⟩
    have HXX := Aside0.mk hx
    have HSN := Aside0.mk (show readK (i + 1) r2 b2 = ((readK i r2 b2).1 ++ [x], rx, bx) from by rw [readK_snoc]; show (_ ++ [(rdN _ _ 18446744073709551615).1], (rdN _ _ 18446744073709551615).2) = _; rw [hx])
    clear hx
    have HLN := Aside0.mk (show ((readK i r2 b2).1.length + 1) * 8 ≤ 140737488355328 by rw [readK_len]; have := HI.out; omega)
    generalize readK i r2 b2 = st at *
    obtain ⟨l, xs, bad⟩ := st
    simp only at HXX HSN HLN HGr HRr
    obtain ⟨gq, rfl⟩ : ∃ gq, gk = gq + 1 := ⟨gk - 1, by omega⟩
    clear hk0
    have hpos : (i : Int) < (N : Int) := by have := HI.out; omega
    have hgq : (i : Int) ≤ 4 := by have := HI.out; have := HN4.out; omega
    go_wp2_with (first
      | (go_at_call 83; with_reducible refine (HS.step (by decide) HXX.out HGr.out).mono ?_; rintro e w5 ⟨rfl, hg, hc⟩; have HG5 := Aside0.mk hg; have HR5 := Aside0.mk (R_at_B HRr.out hc HBL.out); clear hg hc)
      | ((with_reducible refine gate_builtin (b := .append) (xs := #[.tmp 42, .tmp 45]) rfl ?_); at_builtin; go_loud (refine Kd.R_append (Kd.int .u64) (W := w5) (w0 := w5) w3.heap.size rfl (.tmp 42) (.tmp 45) 57 56 (.int .u64 0) 8 rfl Try.underlying57 info56 rfl (by decide) (by decide) _ l _ [.int .u64 _] (fun _ => True) (fun _ => False) rfl rfl rfl (fun _ h => h.elim) (fun _ _ => trivial) HR5.out (Below.refl _ _) HG5.out.chg.size HLN.out ?_); intro v1 w6 ho hb hg hat; have HG6 := Aside0.mk (HG5.out.grow HBL.out (chg_grown hg fun _ h => h) (fun k hk he => own_not HR5.out k hk he)); have HR6 := Aside0.mk ho; clear ho hb hg hat))
    go_roundg gq
    case rel => exact ⟨i + 1, by go_num, ⟨by have := HI.out; omega⟩, ⟨by rw [HSN.out]; exact HG6.out⟩, ⟨by rw [HSN.out]; exact HR6.out⟩⟩
    case measure => omega
theorem un_calls (w : World) (A : Option Addr) (c : Nat) (b : List Int) (hl2 : b.length ≤ 1000000) (h : SB w A c b) (hby : isBytes b) :
    Calls Try.prog 40 #[.slice A b.length c] w (UnQ w b) := by
  have bad : b.take 2 ≠ [70, 83] → ∀ e w', (e = .returned (.tuple #[.int .u64 0, .slice none 0 0, .int .i64 60]) ∧ w = w') → UnQ w b e w' := by
    intro hm e w' h
    obtain ⟨rfl, rfl⟩ := h
    have hu : unP b = (0, [], 60) := by unfold unP; rw [if_neg hm]
    unfold UnQ
    rw [hu]
    exact ⟨none, 0, rfl, Kd.R_nil _ _ _ _ _, Below.refl _ _⟩
  by_cases hl : b.length < 2
  · have hm : b.take 2 ≠ [70, 83] := fun e => by
      have := congrArg List.length e
      rw [List.length_take] at this
      simp at this
      omega
    exact (un_short w A c b hl).mono (bad hm)
  · obtain ⟨x, hx⟩ : ∃ x, b[0]? = some x := ⟨_, List.getElem?_eq_getElem (by omega)⟩
    obtain ⟨y, hy⟩ : ∃ y, b[1]? = some y := ⟨_, List.getElem?_eq_getElem (by omega)⟩
    have ht : b.take 2 = [x, y] := by
      rw [show (2 : Nat) = 1 + 1 from rfl, List.take_add_one, hy, show (1 : Nat) = 0 + 1 from rfl, List.take_add_one, hx]
      rfl
    by_cases h1 : x = 70
    · subst h1
      by_cases h2 : y = 83
      · subst h2
        cases A with
        | none => have := (h.none_ rfl).1; omega
        | some ad => exact un_main w ad c b (by omega) hl2 h hby ht
      · exact (un_second w A c b y (by omega) hx hy h2 h.C).mono (bad (by rw [ht]; simp [h2]))
    · exact (un_first w A c b x (by omega) hx h1 h.C).mono (bad (by rw [ht]; simp [h1]))
end Go.Proofs.Ytlepcmljmibdnaa
namespace Go.Proofs.Ytlepcmljmibdnaa
open Go.RowKit Go.Proofs.YtlepcmljmibdnaaW.PrintWords Go.Proofs.YtlepcmljmibdnaaW.PrintLast Go.Proofs.YtlepcmljmibdnaaW.PrintMore PWalOpens
set_option linter.unusedVariables false
set_option linter.unusedSimpArgs false
theorem ex_copy {P : Program} {W w1 : World} {o : Oper} {ρ : Operand → Value} {d s : Operand} {t : TypeId} {v : Value} (ho : o.op = .call { callee := .builtin .copy, args := #[d, s], argTypes := #[t, t] }) {vd vs : Value} (hd : ρ d = vd) (hs : ρ s = vs)
    (hrun : (Builtin.copy_ #[t, t] o.type #[vd, vs]).run P W = .ok v w1) : (execOp ρ o).run P W = .ok (.value v) w1 := by
  subst hd; subst hs
  simp [execOp, ho, resolve, invoke, builtin, hrun, Result.andThen]
/-- bytes copied into sixty-four noughts -/
theorem run_copy_sec (W : World) (b : List Int) (hb : b.length ≤ 64) (A : Option Addr) (c : Nat) (ty : TypeId) (hC : (Kd.int .u8).C (W.alloc (.cells (secC zsec) 98)) A b.length b) :
    (Builtin.copy_ #[29, 29] ty #[.slice (some ⟨W.heap.size, 0, none⟩) 64 64, .slice A b.length c]).run Try.prog (W.alloc (.cells (secC zsec) 98)) = .ok (goInt b.length) (W.alloc (.cells (secC (pad b)) 98)) := by
  have hR := Kd.reads_of_C (enc := Value.int .u8) (d := (0 : Int)) (h1 := fun _ => rfl) hC
  by_cases h0 : b.length = 0
  · obtain rfl : b = [] := List.eq_nil_of_length_eq_zero h0
    exact run_copy_none (P := Try.prog) _ 29 29 ty 5 _ A 64 64 0 c Try.underlying29 (by kernel_rfl) rfl
  · obtain ⟨ad, rfl, hc⟩ := hR.2.2 (by omega)
    have hl : (encs (Value.int .u8) b).length = b.length := encs_length _
    have h := run_copy_row (P := Try.prog) (W.alloc (.cells (secC zsec) 98)) 29 29 ty 5 W.heap.size 0 64 64 ad b.length c (secC zsec) 98 (encs (Value.int .u8) b) Try.underlying29 (by kernel_rfl) (heap_alloc_new W _)
      (by rw [hl]; exact (Nat.min_eq_left hb).symm) (by
        intro j v hj
        have hj' : j < b.length := by have := (List.getElem?_eq_some_iff.1 hj).1; omega
        rw [encs_get (d := 0) b j hj'] at hj
        obtain rfl := Option.some.inj hj
        exact hc j hj') (by rw [hl, sec_size _ (by rfl)]; omega) (by intro v hv; simp only [encs, List.mem_map] at hv; obtain ⟨a, _, rfl⟩ := hv; rfl)
    rw [h, Arr.setRow_alloc, hl]
    have e : ((secC zsec).toList.take 0 ++ encs (Value.int .u8) b ++ (secC zsec).toList.drop (0 + b.length)).toArray = secC (pad b) := by
      unfold secC pad
      rw [Nat.zero_add]
      simp only [List.take_zero, List.nil_append, encs_append]
      rw [show (encs (Value.int .u8) zsec).drop b.length = encs (Value.int .u8) (List.replicate (64 - b.length) 0) by unfold encs zsec; rw [List.map_replicate, List.drop_replicate, List.map_replicate]]
    rw [e]
theorem pad_take (b : List Int) : (pad b).take b.length = b := by
  unfold pad
  rw [List.take_append_of_le_length (Nat.le_refl _), List.take_length]
theorem slotB_64 (g : Int) (l : List Int) (hl : l.length ≤ 4) : (slotB g l).length ≤ 64 := by
  have h1 := encNs_len l
  have h2 := encNs_len [g, (l.length : Int)]
  rw [slotB_len]
  unfold slotF
  simp only [List.length_append, List.length_cons, List.length_nil] at h2 ⊢
  omega
noncomputable def saveP (D : PD) (g : Int) (l : List Int) : PD × Int :=
  if 4 < l.length then (D, 2) else if (flushP D).2 ≠ 0 then flushP D else
    if (writeP (flushP D).1 (g % 2) (slotB g l)).2 ≠ 0 then writeP (flushP D).1 (g % 2) (slotB g l) else flushP (writeP (flushP D).1 (g % 2) (slotB g l)).1
def SvQ (w : World) (B M Bd : Nat) (vc : Value) (D' : PD) (e : Int) (r : Ending) (w' : World) : Prop := r = .returned (.int .i64 e) ∧ ∃ vc', At w (FP B M Bd vc) w' B M Bd vc' D'
section
variable {w : World} {base B M Bd : Nat} {vc : Value} {D D1 D2 D3 : PD} {g : Int} {l : List Int} {A : Option Addr} {c : Nat} {e : Int}
theorem save_long (hl : 4 < l.length) (h : DK w base B M Bd vc D) : Calls Try.prog 42 #[.pointer (some ⟨B, 0, none⟩), .int .u64 g, .slice A l.length c] w (SvQ w B M Bd vc D 2) := by
  have HD := Aside0.mk (At.refl h)
  have HS := Aside0.mk (slot_long w g l A c hl)
  clear h hl
  go_enter Try.func42, Try.ntmps42
  go_wp2_with (first
    | (go_at_call 37; (with_reducible refine HS.out.mono ?_); rintro e w2 ⟨rfl, rfl⟩))
  go_ret
  exact ⟨rfl, vc, HD.out⟩
theorem save_f1 (he : e ≠ 0) (hf : flushP D = (D1, e)) (hg : 0 ≤ g ∧ g < 18446744073709551616) (hn : ∀ n ∈ l, 0 ≤ n ∧ n < 18446744073709551616) (hl : l.length ≤ 4) (hC : (Kd.int .u64).C w A l.length l) (hc : D.cache.length ≤ 1000) (h : DK w base B M Bd vc D) : Calls Try.prog 42 #[.pointer (some ⟨B, 0, none⟩), .int .u64 g, .slice A l.length c] w (SvQ w B M Bd vc D1 e) := by
  have HD := Aside0.mk (At.refl h)
  have HS := Aside0.mk (slot_calls w g l A c hg hn hl hC)
  have HC := Aside0.mk hc
  have HF := Aside0.mk hf
  have hb : (e != 0) = true := by simpa using he
  clear h hl hg hn hC hc hf
  go_enter Try.func42, Try.ntmps42
  go_wp2_with (first
    | (go_at_call 37; (with_reducible refine HS.out.mono ?_); rintro e w2 ⟨A2, c2, rfl, hr, hb⟩; have HR2 := Aside0.mk hr; have HD2 := Aside0.mk (HD.out.grow (.of_below hb)); clear hr hb)
    | (go_at_call 18; (with_reducible refine (at_flush _ HF.out HC.out HD2.out).mono ?_); rintro e w3 ⟨rfl, vc3, hd⟩; have HD3 := Aside0.mk hd; clear hd))
  go_ret
  exact ⟨rfl, vc3, HD3.out⟩
theorem R_past {α : Type} {d : Kd α} {e : Nat} {w0 w w' : World} {v : Value} {xs : List α} {S : Nat → Prop} (h : d.R e w w0.heap.size (fun k => w0.heap.size ≤ k) v xs) (hc : Chg w w' S) (hs : ∀ k, S k → k < w0.heap.size) : d.R e w' w0.heap.size (fun k => w0.heap.size ≤ k) v xs :=
  Kd.R_step h (fun k hk hl => hc.block k hl (fun hf => absurd (hs k hf) (Nat.not_lt.2 hk)))
theorem sec_pad {w w' : World} {B M Bd : Nat} {vc : Value} {D : PD} {b : List Int} (hb : b.length ≤ 64) (h : DK w 0 B M Bd vc D) (hc : Chg (w.alloc (.cells (secC (pad b)) 98)) w' (FP B M Bd vc)) : (Kd.int .u8).C w' (some ⟨w.heap.size, 0, none⟩) b.length b := by
  have hl : (pad b).length = 64 := pad_length b hb
  have h1 : w'.heap[w.heap.size]? = some (.cells (secC (pad b)) 98 (0, 0)) := (hc.block _ (by rw [alloc_size]; exact Nat.lt_succ_self _) (fun hf => Nat.lt_irrefl _ (h.fp _ hf).2)).trans (heap_alloc_new w _)
  have h2 := Kd.C_take (m := b.length) (sec_C w' w.heap.size (pad b) 98 (0, 0) (by omega) h1) (by omega)
  rwa [pad_take] at h2
set_option maxRecDepth 100000 in
theorem save_go (hf : flushP D = (D1, 0)) (hw : writeP D1 (g % 2) (slotB g l) = (D2, 0)) (hf3 : flushP D2 = (D3, e)) (hg : 0 ≤ g ∧ g < 18446744073709551616) (hn : ∀ n ∈ l, 0 ≤ n ∧ n < 18446744073709551616) (hl : l.length ≤ 4) (hC : (Kd.int .u64).C w A l.length l) (hc : D.cache.length ≤ 1000) (hc3 : D1.cache.length ≤ 1000 ∧ D2.cache.length ≤ 1000) (h : DK w base B M Bd vc D) : Calls Try.prog 42 #[.pointer (some ⟨B, 0, none⟩), .int .u64 g, .slice A l.length c] w (SvQ w B M Bd vc D3 e) := by
  have HD := Aside0.mk (At.refl h)
  have HFP := Aside0.mk (fun k hk => (h.fp k hk).2)
  have HC3 := Aside0.mk hc3
  have HW := Aside0.mk hw
  have HF3 := Aside0.mk hf3
  have hw64 := slotB_64 g l hl
  obtain ⟨want, hwant⟩ : ∃ want, slotB g l = want := ⟨_, rfl⟩
  have HS := Aside0.mk (slot_calls w g l A c hg hn hl hC)
  rw [hwant] at HS HW hw64
  have HW64 := Aside0.mk hw64
  have hw64i : (want.length : Int) ≤ 64 := by omega
  have HC := Aside0.mk hc
  have HF := Aside0.mk hf
  obtain ⟨hg0, hg1⟩ := hg
  clear h hl hn hC hc hf hc3 hw hf3 hwant hw64
  go_enter Try.func42, Try.ntmps42
  go_wp2_with (first
    | (go_at_call 37; (with_reducible refine HS.out.mono ?_); rintro e w2 ⟨A2, c2, rfl, hr, hb⟩; have HR2 := Aside0.mk hr; have HD2 := Aside0.mk (HD.out.grow (.of_below hb)); clear hr hb)
    | (go_at_call 18; (with_reducible refine (at_flush _ HF.out HC.out (At.refl HD2.out.dk)).mono ?_); rintro e w3 ⟨rfl, vc3, hd⟩; have HD3 := Aside0.mk (HD2.out.then_ hd); have HR3 := Aside0.mk (R_past HR2.out hd.chg HFP.out); clear hd)
    | ((with_reducible refine gate_builtin (b := .copy) (xs := #[.tmp 28, .tmp 29]) rfl ?_); go_loud (refine Kd.event_run rfl (ex_copy rfl rfl rfl (run_copy_sec w3 want HW64.out A2 c2 3 (Kd.C_below (Kd.R_reads' HR3.out).2.2 (Below.alloc (Below.refl _ _) (Nat.le_refl _) _)))) ?_); simp only [Act.put, List.setIfInBounds_toArray, List.set_cons_succ, List.set_cons_zero]; have HD4 := Aside0.mk (HD3.out.grow (.of_below (Below.alloc (Below.refl _ _) (Nat.le_refl _) (.cells (secC (pad want)) 98)))); have HK4 := Aside0.mk (At.refl HD4.out.dk); have HB4 := Aside0.mk (fun (w' : World) (hc : Chg (w3.alloc (.cells (secC (pad want)) 98)) w' (FP B M Bd vc3)) => sec_pad HW64.out HD3.out.dk hc))
    | (go_at_call 17; go_loud (refine (at_write (g % 2) 0 (some ⟨w3.heap.size, 0, none⟩) 64 want HW.out HC3.out.1 HB4.out HK4.out).mono ?_); rintro e w5 ⟨rfl, vc5, hd⟩; have HD5 := Aside0.mk (HD4.out.then_ hd); clear hd)
    | (go_at_call 18; (with_reducible refine (at_flush _ HF3.out HC3.out.2 HD5.out).mono ?_); rintro e w6 ⟨rfl, vc6, hd⟩; have HD6 := Aside0.mk hd; clear hd))
  go_ret
  exact ⟨rfl, vc6, HD6.out⟩
set_option maxRecDepth 100000 in
theorem save_w (he : e ≠ 0) (hf : flushP D = (D1, 0)) (hw : writeP D1 (g % 2) (slotB g l) = (D2, e)) (hg : 0 ≤ g ∧ g < 18446744073709551616) (hn : ∀ n ∈ l, 0 ≤ n ∧ n < 18446744073709551616) (hl : l.length ≤ 4) (hC : (Kd.int .u64).C w A l.length l) (hc : D.cache.length ≤ 1000) (hc3 : D1.cache.length ≤ 1000 ∧ D2.cache.length ≤ 1000) (h : DK w base B M Bd vc D) : Calls Try.prog 42 #[.pointer (some ⟨B, 0, none⟩), .int .u64 g, .slice A l.length c] w (SvQ w B M Bd vc D2 e) := by
  have HD := Aside0.mk (At.refl h)
  have HFP := Aside0.mk (fun k hk => (h.fp k hk).2)
  have HC3 := Aside0.mk hc3
  have HW := Aside0.mk hw
  have hbe : (e != 0) = true := by simpa using he
  have hw64 := slotB_64 g l hl
  obtain ⟨want, hwant⟩ : ∃ want, slotB g l = want := ⟨_, rfl⟩
  have HS := Aside0.mk (slot_calls w g l A c hg hn hl hC)
  rw [hwant] at HS HW hw64
  have HW64 := Aside0.mk hw64
  have hw64i : (want.length : Int) ≤ 64 := by omega
  have HC := Aside0.mk hc
  have HF := Aside0.mk hf
  obtain ⟨hg0, hg1⟩ := hg
  clear h hl hn hC hc hf hc3 hw hwant hw64
  go_enter Try.func42, Try.ntmps42
  go_wp2_with (first
    | (go_at_call 37; (with_reducible refine HS.out.mono ?_); rintro e w2 ⟨A2, c2, rfl, hr, hb⟩; have HR2 := Aside0.mk hr; have HD2 := Aside0.mk (HD.out.grow (.of_below hb)); clear hr hb)
    | (go_at_call 18; (with_reducible refine (at_flush _ HF.out HC.out (At.refl HD2.out.dk)).mono ?_); rintro e w3 ⟨rfl, vc3, hd⟩; have HD3 := Aside0.mk (HD2.out.then_ hd); have HR3 := Aside0.mk (R_past HR2.out hd.chg HFP.out); clear hd)
    | ((with_reducible refine gate_builtin (b := .copy) (xs := #[.tmp 28, .tmp 29]) rfl ?_); go_loud (refine Kd.event_run rfl (ex_copy rfl rfl rfl (run_copy_sec w3 want HW64.out A2 c2 3 (Kd.C_below (Kd.R_reads' HR3.out).2.2 (Below.alloc (Below.refl _ _) (Nat.le_refl _) _)))) ?_); simp only [Act.put, List.setIfInBounds_toArray, List.set_cons_succ, List.set_cons_zero]; have HD4 := Aside0.mk (HD3.out.grow (.of_below (Below.alloc (Below.refl _ _) (Nat.le_refl _) (.cells (secC (pad want)) 98)))); have HK4 := Aside0.mk (At.refl HD4.out.dk); have HB4 := Aside0.mk (fun (w' : World) (hc : Chg (w3.alloc (.cells (secC (pad want)) 98)) w' (FP B M Bd vc3)) => sec_pad HW64.out HD3.out.dk hc))
    | (go_at_call 17; go_loud (refine (at_write (g % 2) e (some ⟨w3.heap.size, 0, none⟩) 64 want HW.out HC3.out.1 HB4.out HK4.out).mono ?_); rintro e' w5 ⟨rfl, vc5, hd⟩; have HD5 := Aside0.mk (HD4.out.then_ hd); clear hd))
  go_ret
  exact ⟨rfl, vc5, HD5.out⟩
theorem save_calls (hsv : saveP D g l = (D1, e)) (hg : 0 ≤ g ∧ g < 18446744073709551616) (hn : ∀ n ∈ l, 0 ≤ n ∧ n < 18446744073709551616) (hC : (Kd.int .u64).C w A l.length l) (hc : D.cache.length ≤ 900) (h : DK w base B M Bd vc D) :
    Calls Try.prog 42 #[.pointer (some ⟨B, 0, none⟩), .int .u64 g, .slice A l.length c] w (SvQ w B M Bd vc D1 e) := by
  unfold saveP at hsv
  split at hsv
  · cases hsv
    exact save_long (by assumption) h
  · rename_i hl
    have q1 := flushP_cache D
    have q2 := writeP_cache (flushP D).1 (g % 2) (slotB g l)
    obtain ⟨Da, ea, hf⟩ : ∃ Da ea, flushP D = (Da, ea) := ⟨_, _, rfl⟩
    rw [hf] at hsv q1 q2
    simp only at hsv q1 q2
    obtain ⟨Db, eb, hw⟩ : ∃ Db eb, writeP Da (g % 2) (slotB g l) = (Db, eb) := ⟨_, _, rfl⟩
    rw [hw] at hsv q2
    simp only at hsv q2
    split at hsv
    · cases hsv
      exact save_f1 (by assumption) hf hg hn (by omega) hC (by omega) h
    · rename_i he
      obtain rfl : ea = 0 := by simpa using he
      split at hsv
      · cases hsv
        exact save_w (by assumption) hf hw hg hn (by omega) hC (by omega) ⟨by omega, by omega⟩ h
      · rename_i he
        obtain rfl : eb = 0 := by simpa using he
        exact save_go hf hw hsv hg hn (by omega) hC (by omega) ⟨by omega, by omega⟩ h
end
end Go.Proofs.Ytlepcmljmibdnaa
namespace Go.Proofs.Ytlepcmljmibdnaa
open Go.RowKit Go.Proofs.YtlepcmljmibdnaaW.PrintWords Go.Proofs.YtlepcmljmibdnaaW.PrintLast Go.Proofs.YtlepcmljmibdnaaW.PrintMore PDiskArms
set_option linter.unusedVariables false
set_option linter.unusedSimpArgs false
def wrs (D : PD) (l : List S31) : PD := l.foldl (fun D x => (writeP D x.f1 x.f2).1) D
theorem wrs_succ (D : PD) (l : List S31) (i : Nat) (x : S31) (h : l[i]? = some x) : wrs D (l.take (i + 1)) = (writeP (wrs D (l.take i)) x.f1 x.f2).1 := by
  unfold wrs
  rw [List.take_add_one, h, List.foldl_append]
  rfl
structure Quiet (D : PD) : Prop where
  dead : D.dead = false
  armed : D.armed = false
theorem act_quiet {D : PD} (h : Quiet D) : actP D = (D, 0) := by
  obtain ⟨n, kept, cache, bad, armed, left, dead⟩ := D
  obtain ⟨h1, h2⟩ := h
  simp only at h1 h2
  subst h1; subst h2
  simp [actP]
theorem write_quiet {D : PD} (h : Quiet D) (at_ : Int) (b : List Int) :
    (writeP D at_ b).1 = D ∨ (b.length ≤ 64 ∧ (writeP D at_ b).1 = { D with cache := D.cache ++ [(at_, pad b)] }) := by
  unfold writeP
  rw [h.dead, if_neg (by simp), act_quiet h]
  by_cases h1 : inB at_ D.n = false
  · rw [if_pos h1]; exact .inl rfl
  rw [if_neg h1]
  by_cases h2 : 64 < b.length
  · rw [if_pos h2]; exact .inl rfl
  rw [if_neg h2]
  exact .inr ⟨by omega, by simp [h.dead]⟩
structure Wr (D0 D : PD) (l : List S31) : Prop where
  q : Quiet D
  kept : D.kept = D0.kept
  n : D.n = D0.n
  bad : D.bad = D0.bad
  len : D.cache.length ≤ D0.cache.length + l.length
  cache : ∀ p ∈ D.cache, p ∈ D0.cache ∨ ∃ x ∈ l, p.1 = x.f1 ∧ x.f2.length ≤ 64 ∧ p.2 = pad x.f2
theorem wrs_wr (D0 : PD) (h : Quiet D0) (l : List S31) : ∀ i, i ≤ l.length → Wr D0 (wrs D0 (l.take i)) (l.take i)
  | 0, _ => by rw [List.take_zero]; exact ⟨h, rfl, rfl, rfl, by simp [wrs], fun p hp => .inl hp⟩
  | i + 1, hi => by
    have ih := wrs_wr D0 h l i (by omega)
    obtain ⟨x, hx⟩ : ∃ x, l[i]? = some x := ⟨_, List.getElem?_eq_getElem (by omega)⟩
    rw [wrs_succ D0 l i x hx]
    have ht : l.take (i + 1) = l.take i ++ [x] := by rw [List.take_add_one, hx]; rfl
    rw [ht]
    generalize wrs D0 (l.take i) = D at ih
    rcases write_quiet ih.q x.f1 x.f2 with e | ⟨h64, e⟩
    · rw [e]
      refine ⟨ih.q, ih.kept, ih.n, ih.bad, by have := ih.len; simp at this ⊢; omega, fun p hp => ?_⟩
      rcases ih.cache p hp with h1 | ⟨y, hy, h2⟩
      · exact .inl h1
      · exact .inr ⟨y, by simp [hy], h2⟩
    · rw [e]
      refine ⟨⟨ih.q.dead, ih.q.armed⟩, ih.kept, ih.n, ih.bad, by have := ih.len; simp at this ⊢; omega, fun p hp => ?_⟩
      simp only [List.mem_append, List.mem_singleton] at hp
      rcases hp with hp | hp
      · rcases ih.cache p hp with h1 | ⟨y, hy, h2⟩
        · exact .inl h1
        · exact .inr ⟨y, by simp [hy], h2⟩
      · exact .inr ⟨x, by simp, by rw [hp], h64, by rw [hp]⟩
theorem flush_quiet {D : PD} (h : Quiet D) : flushP D = ({ keepAll D D.cache with cache := [] }, 0) := by
  unfold flushP
  rw [act_quiet h]
  simp
theorem keepAll_more (D : PD) (l : List (Int × List Int)) : (keepAll D l).n = D.n ∧ (keepAll D l).bad = D.bad := by
  induction l generalizing D with
  | nil => exact ⟨rfl, rfl⟩
  | cons x l ih => exact ih (keepP D x)
theorem keepP_at (D : PD) (p : Int × List Int) (i : Int) : ((keepP D p).kept i).getD zsec = if i = p.1 then p.2 else (D.kept i).getD zsec := by
  unfold keepP
  simp only
  by_cases h : i = p.1
  · rw [if_pos h, if_pos h]
    by_cases hz : p.2 = zsec
    · rw [if_pos hz, hz]; rfl
    · rw [if_neg hz]; rfl
  · rw [if_neg h, if_neg h]
theorem sel_same (D : PD) (l : List (Int × List Int)) (ks : List Bool) (k : Nat) : (sel D l ks k).n = D.n ∧ (sel D l ks k).bad = D.bad := by
  induction k with
  | zero => exact ⟨rfl, rfl⟩
  | succ k ih => unfold sel; split <;> exact ih
theorem sel_at (D : PD) (l : List (Int × List Int)) (ks : List Bool) (i : Int) : ∀ k, k ≤ l.length → ((sel D l ks k).kept i).getD zsec = (D.kept i).getD zsec ∨ ∃ p ∈ l, p.1 = i ∧ p.2 = ((sel D l ks k).kept i).getD zsec
  | 0, _ => .inl rfl
  | k + 1, hk => by
    have ih := sel_at D l ks i k (by omega)
    unfold sel
    split
    · rw [keepP_at]
      split
      · rename_i h
        refine .inr ⟨l.getD k (0, []), ?_, h.symm, rfl⟩
        rw [show l.getD k (0, []) = l[k] by simp [List.getD, List.getElem?_eq_getElem (show k < l.length by omega)]]
        exact List.getElem_mem _
      · exact ih
    · exact ih
/-- what DiskKeeps says of a sector -/
theorem keeps_pure (n : Int) (l1 l2 : List S31) (ks : List Bool) (i : Int) (D1 D2 D3 D4 : PD) (h1 : wrs (newP n) l1 = D1) (h2 : flushP D1 = (D2, 0)) (h3 : wrs D2 l2 = D3) (h4 : crashP D3 ks = D4) (hi : inB i D2.n = true) :
    ∃ s t, readP D4 i = (s, 0) ∧ readP (cloneP D2) i = (t, 0) ∧ (s = t ∨ ∃ x ∈ l2, x.f1 = i ∧ x.f2.length ≤ 64 ∧ s = pad x.f2) := by
  have q0 : Quiet (newP n) := ⟨rfl, rfl⟩
  have w1 := wrs_wr (newP n) q0 l1 l1.length (Nat.le_refl _)
  rw [List.take_length, h1] at w1
  have e2 := flush_quiet w1.q
  rw [h2] at e2
  have e2 := (Prod.mk.inj e2).1
  have q2 : Quiet D2 := by rw [e2]; exact ⟨(keepAll_same D1 D1.cache).1.trans w1.q.dead, (keepAll_same D1 D1.cache).2.1.trans w1.q.armed⟩
  have b2 : D2.bad = fun _ => false := by rw [e2]; exact (keepAll_more D1 D1.cache).2.trans w1.bad
  have c2 : D2.cache = [] := by rw [e2]
  have w3 := wrs_wr D2 q2 l2 l2.length (Nat.le_refl _)
  rw [List.take_length, h3] at w3
  have r4 : readP D4 i = ((D4.kept i).getD zsec, 0) := by
    rw [← h4]
    unfold readP crashP restP
    rw [(sel_same D3 D3.cache ks _).1, (sel_same D3 D3.cache ks _).2, w3.n, w3.bad, b2]
    simp [hi, readL]
  have rc : readP (cloneP D2) i = ((D2.kept i).getD zsec, 0) := by
    unfold readP cloneP
    simp [hi, readL]
  refine ⟨_, _, r4, rc, ?_⟩
  have k4 : D4.kept = (sel D3 D3.cache ks D3.cache.length).kept := by rw [← h4]; rfl
  rw [k4]
  rcases sel_at D3 D3.cache ks i _ (Nat.le_refl _) with e | ⟨p, hp, e, e'⟩
  · left; rw [e, w3.kept]
  · right
    rcases w3.cache p hp with h | ⟨x, hx, a, b, c⟩
    · rw [c2] at h; cases h
    · exact ⟨x, hx, a.symm.trans e, b, by rw [← e', c]⟩
end Go.Proofs.Ytlepcmljmibdnaa
