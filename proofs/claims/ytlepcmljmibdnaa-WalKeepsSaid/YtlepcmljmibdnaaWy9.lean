/- Parts of one proof, joined: Ff, So, Wl, Wr. Conditions: those of each statement. -/
import Derived.Test.YtlepcmljmibdnaaWy8
namespace Go.Proofs.Ytlepcmljmibdnaa
open Go.RowKit Go.Proofs.YtlepcmljmibdnaaW.PrintWords Go.Proofs.YtlepcmljmibdnaaW.PrintLast Go.Proofs.YtlepcmljmibdnaaW.PrintMore PWalOpens
set_option linter.unusedVariables false
set_option linter.unusedSimpArgs false
def FfQ (w : World) (b : List Int) (e : Ending) (w' : World) : Prop := ∃ A c, e = .returned (.tuple #[.slice A (unF b).1.length c, .int .i64 (unF b).2.1, .int .i64 (unF b).2.2]) ∧ OwnB w' w.heap.size (.slice A (unF b).1.length c) (unF b).1 ∧ Below w.heap.size w w'
theorem ff_bad {w w' : World} {b : List Int} {e : Ending} (hu : unF b = ([], 0, 40)) (he : e = .returned (.tuple #[.slice none 0 0, .int .i64 0, .int .i64 40])) (hb : Below w.heap.size w w') : FfQ w b e w' := by
  unfold FfQ
  rw [hu, he]
  exact ⟨none, 0, rfl, Kd.R_nil _ _ _ _ _, hb⟩
theorem ff_short (w : World) (A : Option Addr) (c : Nat) (b : List Int) (hl : b.length < 7) : Calls Try.prog 113 #[.slice A b.length c] w (FfQ w b) := by
  have HU := Aside0.mk (show unF b = ([], 0, 40) from by unfold unF unV; rw [if_neg]; simp; omega)
  have h1 : decide ((b.length : Int) < 7) = true := by simp; omega
  go_enter Try.func113, Try.ntmps113
  go_wp2_with fail
  go_ret3
  exact ff_bad HU.out rfl (Below.refl _ _)
theorem ff_mark (w : World) (A : Option Addr) (c : Nat) (b : List Int) (hl : 7 ≤ b.length) (h0 : rd b 0 ≠ 165) (hC : (Kd.int .u8).C w A b.length b) : Calls Try.prog 113 #[.slice A b.length c] w (FfQ w b) := by
  have HU := Aside0.mk (show unF b = ([], 0, 40) from by unfold unF unV; rw [if_neg]; simp [h0])
  have h1 : decide ((b.length : Int) < 7) = false := by simp; omega
  obtain ⟨ad, e, x0⟩ := Kd.at_int hC (0 : Int) (by omega) (by omega)
  subst e
  rw [show ad.add (Int.toNat 0) = ad from rfl] at x0
  obtain ⟨x, hx⟩ : ∃ x, rd b 0 = x := ⟨_, rfl⟩
  rw [hx] at x0 h0
  have hq : (x == 165) = false := by simpa using h0
  have hq2 : (x != 165) = true := by simpa using h0
  have hl0 : 0 < b.length := by omega
  clear hx hC
  go_enter Try.func113, Try.ntmps113
  go_wp2_with fail
  go_ret3
  exact ff_bad HU.out rfl (Below.refl _ _)
theorem or_bytes (a b : Nat) (ha : a < 256) (hb : b < 256) : Go.bits .or .i64 ((a : Int) * 256) (b : Int) = ((a * 256 + b : Nat) : Int) := by
  unfold Go.bits
  have e : ∀ x : Nat, BitVec.ofInt IntKind.i64.bits (x : Int) = BitVec.ofNat 64 x := fun x => by
    show BitVec.ofInt 64 (x : Int) = _
    rw [BitVec.ofInt_natCast]
  rw [show ((a : Int) * 256) = ((a * 256 : Nat) : Int) by omega]
  simp only [e]
  have e3 : (BitVec.ofNat 64 (a * 256) ||| BitVec.ofNat 64 b).toNat = a * 256 + b := by
    rw [BitVec.toNat_or]
    simp only [BitVec.toNat_ofNat]
    rw [Nat.mod_eq_of_lt (by omega), Nat.mod_eq_of_lt (by omega)]
    have := Nat.shiftLeft_add_eq_or_of_lt (i := 8) (b := b) hb a
    rw [Nat.shiftLeft_eq] at this
    exact this.symm
  refine (show IntKind.i64.wrap (((BitVec.ofNat 64 (a * 256) ||| BitVec.ofNat 64 b).toNat : Nat) : Int) = _ from ?_)
  rw [e3]
  exact IntWalk.i64_in _ (by omega)
theorem be4_at (c : Int) (i : Nat) (hi : i < 4) : (be4 c)[i]? = some (c / 2 ^ (24 - 8 * i) % 256) := by
  have : i = 0 ∨ i = 1 ∨ i = 2 ∨ i = 3 := by omega
  rcases this with rfl | rfl | rfl | rfl
  · rfl
  · rfl
  · rfl
  · show some (c % 256) = some (c / 1 % 256)
    rw [Int.ediv_one]
theorem sum_calls (w : World) (A : Option Addr) (c m : Nat) (l : List Int) (r : Int) (hr : crcB l = r) (hm : l.length = m) (hb : isBytes l) (hl : m ≤ 1000000) (hc : m ≤ c) (hC : (Kd.int .u8).C w A m l) :
    Calls Try.prog 74 #[.slice A m c] w fun e w' => e = .returned (.int .u32 r) ∧ Drawn0 w w' := by
  subst hr hm
  refine (crc_Sum.calls (l.length + 10) A c l (crcB l) w hC hc (crc_f l hb (by omega))).mono ?_
  rintro e w' ⟨rfl, hd⟩
  exact ⟨rfl, hd⟩
set_option maxRecDepth 100000 in
theorem ff_main (w : World) (A : Option Addr) (c : Nat) (b : List Int) (hl : 7 ≤ b.length) (hl2 : b.length ≤ 1000000) (h0 : rd b 0 = 165) (hby : isBytes b) (hcap : b.length ≤ c) (hc63 : c ≤ 9223372036854775807) (hC : (Kd.int .u8).C w A b.length b) : Calls Try.prog 113 #[.slice A b.length c] w (FfQ w b) := by
  have h1 : decide ((b.length : Int) < 7) = false := by simp; omega
  obtain ⟨ad, e, x0⟩ := Kd.at_int hC (0 : Int) (by omega) (by omega)
  subst e
  obtain ⟨ad1, e1, x1⟩ := Kd.at_int hC (1 : Int) (by omega) (by omega)
  cases e1
  obtain ⟨ad2, e2, x2⟩ := Kd.at_int hC (2 : Int) (by omega) (by omega)
  cases e2
  rw [show ad.add (Int.toNat 0) = ad from rfl, h0] at x0
  obtain ⟨p1, p2⟩ := rd_byte hby 1
  obtain ⟨p3, p4⟩ := rd_byte hby 2
  obtain ⟨k1, hk1⟩ := Int.eq_ofNat_of_zero_le p1
  obtain ⟨k2, hk2⟩ := Int.eq_ofNat_of_zero_le p3
  have hk1' : rd b 1 = (k1 : Int) := hk1
  have hk2' : rd b 2 = (k2 : Int) := hk2
  rw [hk1', show ad.add (Int.toNat 1) = { block := ad.block, off := ad.off + 1 } from rfl] at x1
  rw [hk2', show ad.add (Int.toNat 2) = { block := ad.block, off := ad.off + 2 } from rfl] at x2
  have hfr : frN b = k1 * 256 + k2 := by unfold frN; rw [hk1', hk2']; omega
  have q1 : k1 < 256 := by rw [hk1] at p2; omega
  have q2 : k2 < 256 := by rw [hk2] at p4; omega
  have hor := or_bytes k1 k2 q1 q2
  obtain ⟨n, hnn⟩ : ∃ n, k1 * 256 + k2 = n := ⟨_, rfl⟩
  rw [hnn] at hor hfr
  have hl0 : 0 < b.length := by omega
  have hl1 : 1 < b.length := by omega
  have hl2' : 2 < b.length := by omega
  have hI1 : (1 : Int) < (b.length : Int) := by omega
  have hI2 : (2 : Int) < (b.length : Int) := by omega
  have HC := Aside0.mk hC
  have HFR := Aside0.mk hfr
  have H0 := Aside0.mk h0
  have HBY := Aside0.mk hby
  clear hC hk1 hk2 hk1' hk2' p1 p2 p3 p4 hfr hby h0
  by_cases hn6 : 60000 < n
  · have HU := Aside0.mk (show unF b = ([], 0, 40) from by unfold unF unV; rw [HFR.out, if_neg]; simp; omega)
    have hn6' : (60000 : Int) < (n : Int) := by omega
    clear hn6
    go_enter Try.func113, Try.ntmps113
    go_wp2_with fail
    go_quiet (fail)
    go_wp2_with fail
    go_ret3
    exact ff_bad HU.out rfl (bel_drewN (Below.refl _ _) _)
  by_cases hn7 : b.length < n + 7
  · have HU := Aside0.mk (show unF b = ([], 0, 40) from by unfold unF unV; rw [HFR.out, if_neg]; simp; omega)
    have hn6' : (n : Int) ≤ 60000 := by omega
    have hn7' : (b.length : Int) - 7 < (n : Int) := by omega
    clear hn6 hn7
    go_enter Try.func113, Try.ntmps113
    go_wp2_with fail
    go_quiet (fail)
    go_wp2_with fail
    go_ret3
    exact ff_bad HU.out rfl (bel_drewN (Below.refl _ _) _)
  have hn6' : (n : Int) ≤ 60000 := by omega
  have hn7' : (n : Int) ≤ (b.length : Int) - 7 := by omega
  have hc1 : ¬ c = 1 := by omega
  have hnc : (n : Int) + 7 ≤ (c : Int) := by omega
  have hc3 : ¬ c = 3 + n := by omega
  obtain ⟨cs, hcs⟩ : ∃ cs, (b.drop 1).take (2 + n) = cs := ⟨_, rfl⟩
  obtain ⟨cr, hcr⟩ : ∃ cr, crcB cs = cr := ⟨_, rfl⟩
  have hcrl := crcB_lt cs
  rw [hcr] at hcrl
  obtain ⟨hcr0, hcr1⟩ := hcrl
  have hC1 := Kd.C_drop (m := 1) HC.out (by omega) hcap
  rw [if_neg hc1] at hC1
  have hC2 := Kd.C_take (m := 2 + n) hC1 (by rw [List.length_drop]; omega)
  rw [hcs] at hC2
  have hcsl : cs.length = 2 + n := by rw [← hcs, List.length_take, List.length_drop]; omega
  rw [hcsl] at hC2
  have HCS := Aside0.mk (show (Kd.int .u8).C w (some { block := ad.block, off := ad.off + 1 }) (2 + n) cs from hC2)
  have HCSL := Aside0.mk hcsl
  have HCR := Aside0.mk hcr
  have HCSB := Aside0.mk (show isBytes cs from by rw [← hcs]; exact (HBY.out.drop 1).take _)
  have HCSM := Aside0.mk (show 2 + n ≤ 1000000 by omega)
  have HCSC := Aside0.mk (show 2 + n ≤ c - 1 by omega)
  have HCS0 := Aside0.mk hcs
  have he4 : 7 + n - (3 + n) = 4 := by omega
  obtain ⟨t, ht⟩ : ∃ t, (b.drop (3 + n)).take 4 = t := ⟨_, rfl⟩
  have hD1 := Kd.C_drop (m := 3 + n) HC.out (by omega) hcap
  rw [if_neg hc3] at hD1
  have hD2 := Kd.C_take (m := 4) hD1 (by rw [List.length_drop]; omega)
  rw [ht] at hD2
  have htl : t.length = 4 := by rw [← ht, List.length_take, List.length_drop]; omega
  rw [htl] at hD2
  have HT := Aside0.mk (show (Kd.int .u8).C w (some (ad.add (3 + n))) 4 t from by have hz : (3 + n) * (Kd.int .u8).sz = 3 + n := Nat.mul_one _; simpa only [Option.map_some, hz] using hD2)
  have HTL := Aside0.mk htl
  have HTE := Aside0.mk ht
  clear hn6 hn7 hcs hcr hC1 hC2 hcsl ht hD1 hD2 htl
  go_enter Try.func113, Try.ntmps113
  go_wp2_with fail
  go_quiet (fail)
  go_wp2_with (first
    | (go_at_call 74; (with_reducible refine (sum_calls _ (some { block := ad.block, off := ad.off + 1 }) (c - 1) (2 + n) cs cr HCR.out HCSL.out HCSB.out HCSM.out HCSC.out (Kd.C_drewN HCS.out _)).mono ?_); rintro e w2 ⟨rfl, hd⟩; obtain ⟨nd, rfl⟩ := hd))
  obtain ⟨wq, hwq⟩ : ∃ wq, w.drewN (nq + nd) = wq := ⟨_, rfl⟩
  have HBQ := Aside0.mk (show Below w.heap.size w wq from by rw [← hwq]; exact bel_drewN (Below.refl _ _) _)
  rw [hwq]
  clear hwq
  go_loopg [49] 4 (fun kq v49 w' => ∃ i : Nat, v49 = .int .i64 (i : Int) ∧ Aside0 (i + kq = 4) ∧ Aside0 (t.take i = (be4 cr).take i) ∧ w' = wq)
  case atStart => exact ⟨0, rfl, ⟨by omega⟩, ⟨rfl⟩, rfl⟩
  case round =>
    obtain ⟨i, rfl, HI, HE, rfl⟩ := hrel
    by_cases hi : i < 4
    · have hit : i < t.length := by have := HTL.out; omega
      obtain ⟨x, hx⟩ : ∃ x, t[i]? = some x := ⟨_, List.getElem?_eq_getElem hit⟩
      obtain ⟨a2, e, x9⟩ := Kd.at_int (Kd.C_below HT.out HBQ.out) (i : Int) (by omega) (by omega)
      cases e
      rw [show rd t (i : Int) = x by simp [rd, List.getD, hx], Int.toNat_natCast] at x9
      have hi4 : (i : Int) < 4 := by omega
      have hi0 : (0 : Int) ≤ (i : Int) := by omega
      have HX := Aside0.mk hx
      clear hx hit
      have HBE := Aside0.mk (be4_at cr i hi)
      obtain ⟨y, hy⟩ : ∃ y, cr / 2 ^ (24 - 8 * i) % 256 = y := ⟨_, rfl⟩
      rw [hy] at HBE
      by_cases hxy : y = x
      · subst hxy
        have hyx : (cr / 2 ^ (24 - 8 * i) % 256 != y) = false := by rw [hy]; simp
        clear hy
        go_wp2_with fail
        have hk1 := HI.out
        obtain ⟨gq, rfl⟩ : ∃ gq, gk = gq + 1 := ⟨gk - 1, by omega⟩
        go_roundg gq
        case rel => exact ⟨i + 1, by go_num, ⟨by omega⟩, ⟨by rw [List.take_add_one, List.take_add_one, HX.out, HBE.out, HE.out]⟩, rfl⟩
        case measure => omega
      · have hyx : (cr / 2 ^ (24 - 8 * i) % 256 != x) = true := by rw [hy]; simpa using hxy
        have HU := Aside0.mk (show unF b = ([], 0, 40) from by
          unfold unF unV
          rw [HFR.out, HCS0.out, HCR.out, HTE.out, if_neg]
          intro hh
          simp only [Bool.and_eq_true, decide_eq_true_eq] at hh
          have h1 := hh.2
          rw [h1] at HBE
          exact hxy (Option.some.inj (HBE.out.symm.trans HX.out)))
        clear hy hxy
        go_wp2_with fail
        go_ret3
        exact ff_bad HU.out rfl HBQ.out
    · have hi0 := HI.out
      obtain rfl : gk = 0 := by omega
      obtain rfl : i = 4 := by omega
      clear hi0 hi
      have hte : t = be4 cr := by
        have h1 := HE.out
        rw [List.take_of_length_le (by rw [HTL.out]; exact Nat.le_refl _), List.take_of_length_le (by simp [be4])] at h1
        exact h1
      obtain ⟨bd, hbd⟩ : ∃ bd, (b.drop 3).take n = bd := ⟨_, rfl⟩
      have HU := Aside0.mk (show unF b = (bd, 7 + (n : Int), 0) from by
        unfold unF unV
        rw [HFR.out, HCS0.out, HCR.out, HTE.out, if_pos, hbd]
        simp only [Bool.and_eq_true, decide_eq_true_eq]
        exact ⟨⟨⟨⟨by omega, H0.out⟩, by omega⟩, by omega⟩, hte.symm⟩)
      have hbl : bd.length = n := by rw [← hbd, List.length_take, List.length_drop]; omega
      have hc33 : ¬ c = 3 := by omega
      have hB1 := Kd.C_drop (m := 3) (Kd.C_below HC.out HBQ.out) (by omega) hcap
      rw [if_neg hc33] at hB1
      have hB2 := Kd.C_take (m := n) hB1 (by rw [List.length_drop]; omega)
      rw [hbd] at hB2
      have HCL := Aside0.mk (clone_any wr (some { block := ad.block, off := ad.off + 3 }) (c - 3) bd (by omega) (fun h => by cases h) hB2)
      have HBL := Aside0.mk hbl
      rw [hbl] at HCL
      have hm4 : ¬ ((4 : Int) < 4) := by omega
      clear hte hbd hbl hB1 hB2
      go_wp2_with (first
        | (go_at_call 69; (with_reducible refine HCL.out.mono ?_); rintro e w3 ⟨A3, c3, rfl, hr, hb⟩; have HR3 := Aside0.mk hr; have HB3 := Aside0.mk (HBQ.out.trans (hb.mono HBQ.out.size)); clear hr hb))
      go_ret3
      unfold FfQ
      rw [HU.out]
      simp only
      rw [HBL.out]
      exact ⟨A3, c3, rfl, OwnB.low HR3.out HBQ.out.size, HB3.out⟩
theorem ff_calls (w : World) (A : Option Addr) (c : Nat) (b : List Int) (hl2 : b.length ≤ 1000000) (hby : isBytes b) (h : SB w A c b) : Calls Try.prog 113 #[.slice A b.length c] w (FfQ w b) := by
  by_cases hl : b.length < 7
  · exact ff_short w A c b hl
  · by_cases h0 : rd b 0 = 165
    · exact ff_main w A c b (by omega) hl2 h0 hby h.cap h.c63 h.C
    · exact ff_mark w A c b (by omega) h0 h.C
end Go.Proofs.Ytlepcmljmibdnaa
namespace Go.Proofs.Ytlepcmljmibdnaa
open Go.RowKit Go.Proofs.YtlepcmljmibdnaaW.PrintWords Go.Proofs.YtlepcmljmibdnaaW.PrintLast Go.Proofs.YtlepcmljmibdnaaW.PrintMore PWalOpens
set_option linter.unusedVariables false
set_option linter.unusedSimpArgs false
theorem own_raise {w : World} {b b' e size n : Nat} {v : Value} {xs : List Value} (h : w.ownsRow b e size v n xs) (hb : ∀ k, v.ownBlock = some k → b' ≤ k) : w.ownsRow b' e size v n xs := by
  obtain ⟨h1, h2⟩ := h
  refine ⟨h1, ?_⟩
  rcases h2 with h2 | ⟨g, cap, cur, he, hg, hr⟩
  · exact .inl h2
  · exact .inr ⟨g, cap, cur, he, hb g (by subst he; rfl), hr⟩
theorem DK.raise {w : World} {b b' B M Bd : Nat} {vc : Value} {D : PD} (h : DK w b B M Bd vc D) (hb : ∀ k, FP B M Bd vc k → b' ≤ k) : DK w b' B M Bd vc D := by
  refine ⟨h.blk, h.kept, h.bad, ?_, hb B (.inl rfl), hb M (.inr (.inl rfl)), hb Bd (.inr (.inr (.inl rfl))), h.hne, h.sec, h.hn, h.hl⟩
  obtain ⟨h0, inner, ho, hr⟩ := h.cache
  exact ⟨h0, inner, own_raise ho (fun k hk => hb k (.inr (.inr (.inr hk.symm)))), hr⟩
theorem At.based {w w' : World} {base B M Bd : Nat} {vc vc' : Value} {D D' : PD} (h0 : DK w base B M Bd vc D) (h : At w (FP B M Bd vc) w' B M Bd vc' D') : DK w' base B M Bd vc' D' :=
  h.dk.raise fun k hk => by
    by_cases hl : k < w.heap.size
    · exact (h0.fp k (h.fp k hl hk)).1
    · have := h0.base_le
      omega
section
variable {w0 w w' : World} {B M Bd R : Nat} {vc vS vC vB : Value} {D D' : PD} {X X' : RX}
end
theorem saveP_cache (D : PD) (g : Int) (l : List Int) : (saveP D g l).1.cache.length ≤ D.cache.length + 1 := by
  have q1 := flushP_cache D
  have q2 := writeP_cache (flushP D).1 (g % 2) (slotB g l)
  have q3 := flushP_cache (writeP (flushP D).1 (g % 2) (slotB g l)).1
  unfold saveP
  repeat' split
  all_goals (first | (dsimp only; omega) | omega)
/-- after so many saves -/
noncomputable def savesP (D : PD) (l : List Int) : List Int → PD
  | [] => D
  | g :: gs => savesP (saveP D g l).1 l gs
structure Pair (D : PD) (X : RX) (m : Nat) : Prop where
  corr : Corr D X
  ok : OKD D
  cache : D.cache.length ≤ m
end Go.Proofs.Ytlepcmljmibdnaa
namespace Go.Proofs.Ytlepcmljmibdnaa
open Go.RowKit Go.Proofs.YtlepcmljmibdnaaW.PrintWords Go.Proofs.YtlepcmljmibdnaaW.PrintLast Go.Proofs.YtlepcmljmibdnaaW.PrintMore PWalOpens
attribute [local go_sem] max2_int min2_int max_two min_two
set_option linter.unusedVariables false
set_option linter.unusedSimpArgs false
def ringP (D : PD) : Int := max (D.n - 2) 0
theorem ring_calls (w : World) (base B M Bd : Nat) (vc : Value) (D : PD) (r : Int) (hr : ringP D = r) (h : DK w base B M Bd vc D) :
    Calls Try.prog 84 #[.pointer (some ⟨B, 0, none⟩)] w fun e w' => e = .returned (.int .i64 r) ∧ w = w' := by
  obtain ⟨⟨h0, h1, h2, h3, h4, h5, h6⟩, f2, f4, f5, f6⟩ := cells7 h.blk
  have hn := h.hn
  obtain ⟨n, hnn⟩ : ∃ n, D.n = n := ⟨_, rfl⟩
  rw [hnn] at h0 hn
  obtain ⟨hn0, hn1⟩ := hn
  have HS := Aside0.mk (size_calls w B M n h0 h1)
  clear h h0 h1 h2 h3 h4 h5 h6 f2 f4 f5 f6
  by_cases h2 : n < 2
  · have HR := Aside0.mk (show r = 0 by rw [← hr]; unfold ringP; rw [hnn]; omega)
    clear hr hnn
    go_enter Try.func84, Try.ntmps84
    go_wp2_with (go_at_call 22; (with_reducible refine HS.out.mono ?_); rintro e w' ⟨rfl, rfl⟩)
    go_ret
    rw [HR.out]
    exact ⟨rfl, rfl⟩
  · have HR := Aside0.mk (show r = n - 2 by rw [← hr]; unfold ringP; rw [hnn]; omega)
    clear hr hnn
    go_enter Try.func84, Try.ntmps84
    go_wp2_with (go_at_call 22; (with_reducible refine HS.out.mono ?_); rintro e w' ⟨rfl, rfl⟩)
    go_ret
    rw [HR.out]
    exact ⟨rfl, rfl⟩
theorem ringP_le {w : World} {base B M Bd : Nat} {vc : Value} {D : PD} (h : DK w base B M Bd vc D) : 0 ≤ ringP D ∧ ringP D ≤ 4094 := by
  have := h.hn
  unfold ringP
  omega
def sectP (r p : Int) : Int := 2 + p % r
theorem sector_calls (w : World) (base B M Bd : Nat) (vc : Value) (D : PD) (r p s : Int) (hr : ringP D = r) (h1 : 1 ≤ r) (hp : 0 ≤ p ∧ p < 18446744073709551616) (hs : sectP r p = s) (h : DK w base B M Bd vc D) :
    Calls Try.prog 112 #[.pointer (some ⟨B, 0, none⟩), .int .u64 p] w fun e w' => e = .returned (.int .i64 s) ∧ w = w' := by
  subst hs
  have HR := Aside0.mk (ring_calls w base B M Bd vc D r hr h)
  have hl := (ringP_le h).2
  rw [hr] at hl
  obtain ⟨hp0, hp1⟩ := hp
  have q0 : 0 ≤ p % r := Int.emod_nonneg _ (by omega)
  have q1 : p % r < r := Int.emod_lt_of_pos _ (by omega)
  have q2 : p % r ≤ 4094 := by omega
  have HE := Aside0.mk (show sectP r p = 2 + p % r from rfl)
  clear h hr
  go_enter Try.func112, Try.ntmps112
  go_wp2_with (go_at_call 84; (with_reducible refine HR.out.mono ?_); rintro e w' ⟨rfl, rfl⟩)
  go_ret
  rw [HE.out]
  exact ⟨rfl, rfl⟩
noncomputable def wformatP (D : PD) : PD × Int := if ringP D < 1 then (D, 51) else formatP D [0, 0]
section
variable {w0 w : World} {F : Nat → Prop} {B M Bd : Nat} {vc : Value} {D D1 : PD}
theorem format_two (x y e : Int) (hf : formatP D [x, y] = (D1, e)) (hx : 0 ≤ x ∧ x < 18446744073709551616) (hy : 0 ≤ y ∧ y < 18446744073709551616) (hc : D.cache.length ≤ 800) (h : At w0 F w B M Bd vc D) :
    Calls Try.prog 46 #[.pointer (some ⟨B, 0, none⟩), .slice (some ⟨w.heap.size, 0, none⟩) 2 2] (w.alloc (.cells #[.int .u64 x, .int .u64 y] 56)) fun r w' => r = .returned (.int .i64 e) ∧ ∃ vc', At w0 F w' B M Bd vc' D1 :=
  at_format (l := [x, y]) (A := some ⟨w.heap.size, 0, none⟩) (c := 2) hf hc (by simp; exact ⟨hx, hy⟩) (fun w' hc' => lit_Cu w [x, y] (FP B M Bd vc) (by simp) (fun hk => absurd (h.dk.fp _ hk).2 (Nat.lt_irrefl _)) w' hc') (h.grow (.of_below (Below.alloc (Below.refl w.heap.size w) (Nat.le_refl _) (.cells #[.int .u64 x, .int .u64 y] 56))))
theorem at_wformat (e : Int) (hf : wformatP D = (D1, e)) (hc : D.cache.length ≤ 800) (h : At w0 F w B M Bd vc D) :
    Calls Try.prog 49 #[.pointer (some ⟨B, 0, none⟩)] w fun r w' => r = .returned (.int .i64 e) ∧ ∃ vc', At w0 F w' B M Bd vc' D1 := by
  unfold wformatP at hf
  obtain ⟨r, hr⟩ : ∃ r, ringP D = r := ⟨_, rfl⟩
  rw [hr] at hf
  have HR := Aside0.mk (ring_calls w 0 B M Bd vc D r hr h.dk)
  have HA := Aside0.mk h
  have H0 := Aside0.mk (show (0 : Int) ≤ 0 ∧ (0 : Int) < 18446744073709551616 by omega)
  have HC := Aside0.mk hc
  clear h hr hc
  by_cases h1 : r < 1
  · rw [if_pos h1] at hf
    cases hf
    go_enter Try.func49, Try.ntmps49
    go_wp2_with (go_at_call 84; (with_reducible refine HR.out.mono ?_); rintro e w' ⟨rfl, rfl⟩)
    go_ret
    exact ⟨rfl, vc, HA.out⟩
  · rw [if_neg h1] at hf
    have HF := Aside0.mk hf
    have h1' : 1 ≤ r := by omega
    clear hf h1
    go_enter Try.func49, Try.ntmps49
    go_wp2_with (first
      | (go_at_call 84; (with_reducible refine HR.out.mono ?_); rintro e w' ⟨rfl, rfl⟩)
      | (go_at_call 46; (with_reducible refine (format_two 0 0 e HF.out H0.out H0.out HC.out HA.out).mono ?_); rintro e w2 ⟨rfl, vc2, hd⟩; have HD2 := Aside0.mk hd; clear hd))
    go_ret
    exact ⟨rfl, vc2, HD2.out⟩
end
end Go.Proofs.Ytlepcmljmibdnaa
namespace Go.Proofs.Ytlepcmljmibdnaa
open Go.RowKit Go.Proofs.YtlepcmljmibdnaaW.PrintWords Go.Proofs.YtlepcmljmibdnaaW.PrintLast Go.Proofs.YtlepcmljmibdnaaW.PrintMore PWalOpens
set_option linter.unusedVariables false
set_option linter.unusedSimpArgs false
/-- a wal at block Wb: its disk, its cells -/
structure WlB (w : World) (Wb B : Nat) (A : Option Addr) (n c : Nat) (gen head tail : Int) (made over : Bool) : Prop where
  blk : w.heap[Wb]? = some (.cells #[.pointer (some ⟨B, 0, none⟩), .int .u64 gen, .int .u64 head, .int .u64 tail, .slice A n c, .bool made, .bool over] 129 (0, 0))
theorem WlB.below {w w' : World} {Wb B n c : Nat} {A : Option Addr} {gen head tail : Int} {made over : Bool} (h : WlB w Wb B A n c gen head tail made over) (hb : Below w.heap.size w w') : WlB w' Wb B A n c gen head tail made over :=
  ⟨(hb.block _ (Array.getElem?_eq_some_iff.1 h.blk).1).trans h.blk⟩
/-- the record that begins at p: with k sectors to go from q on, all of those before read -/
def recGo (D : PD) (r p : Int) : Nat → List Int → Int → List Int × Int × Int
  | 0, _, _ => ([], 0, 70)
  | k + 1, all, q =>
    if (readP D (sectP r q)).2 ≠ 0 then ([], 0, (readP D (sectP r q)).2) else
      if (unF (all ++ (readP D (sectP r q)).1)).2.2 = 0 then ((unF (all ++ (readP D (sectP r q)).1)).1, p + ((unF (all ++ (readP D (sectP r q)).1)).2.1 + 63) / 64, 0)
      else recGo D r p k (all ++ (readP D (sectP r q)).1) (q + 1)
theorem unF_size {b : List Int} (h : (unF b).2.2 = 0) : ∃ n : Nat, (unF b).2.1 = (n : Int) ∧ 7 ≤ n ∧ n ≤ b.length := by
  unfold unF at h ⊢
  split at h
  · rename_i hv
    rw [if_pos hv]
    unfold unV at hv
    simp only [Bool.and_eq_true, decide_eq_true_eq] at hv
    exact ⟨7 + frN b, by simp, by omega, by omega⟩
  · cases h
theorem unF_err (b : List Int) : (unF b).2.2 = 0 ∨ (unF b).2.2 = 40 := by
  unfold unF
  split
  · exact .inl rfl
  · exact .inr rfl
theorem readP_64 {w : World} {base B M Bd : Nat} {vc : Value} {D : PD} (h : DK w base B M Bd vc D) (hc : ∀ p ∈ D.cache, p.2.length = 64) {at_ : Int} {s : List Int} (hr : readP D at_ = (s, 0)) : s.length = 64 := by
  unfold readP at hr
  split at hr
  · cases hr
  · split at hr
    · cases hr
    · split at hr
      · cases hr
      · cases hr
        have key : ∀ (l : List (Int × List Int)), (∀ p ∈ l, p.2.length = 64) → ∀ s : List Int, s.length = 64 → (readL s l at_).length = 64 := by
          intro l
          induction l with
          | nil => intro _ s hs; exact hs
          | cons p l ih =>
            intro hl s hs
            unfold readL
            rw [List.foldl_cons]
            refine ih (fun q hq => hl q (by simp [hq])) _ ?_
            split
            · exact hl p (by simp)
            · exact hs
        refine key _ hc _ ?_
        cases hk : D.kept at_ with
        | none => rfl
        | some s => exact h.sec _ _ hk
def RcQ (w : World) (res : List Int × Int × Int) (e : Ending) (w' : World) : Prop := ∃ A c, e = .returned (.tuple #[.slice A res.1.length c, .int .u64 res.2.1, .int .i64 res.2.2]) ∧ OwnB w' w.heap.size (.slice A res.1.length c) res.1 ∧ Below w.heap.size w w'
set_option maxRecDepth 100000 in
set_option maxHeartbeats 1000000 in
theorem record_calls (w : World) (Wb B M Bd : Nat) (vc : Value) (D : PD) (A : Option Addr) (n c : Nat) (gen head tail : Int) (made over : Bool) (r p : Int) (k0 : Nat) (res : List Int × Int × Int)
    (hr : ringP D = r) (h1 : 1 ≤ r) (hp : 0 ≤ p ∧ p + k0 = tail ∧ tail < 18446744073709551616) (hk : k0 ≤ 4094) (hres : recGo D r p k0 [] p = res)
    (ho : OKD D) (hl : D.cache.length ≤ 1000) (hd0 : DK w 0 B M Bd vc D) (hw : WlB w Wb B A n c gen head tail made over) :
    Calls Try.prog 87 #[.pointer (some ⟨Wb, 0, none⟩), .int .u64 p] w (RcQ w res) := by
  have HW := Aside0.mk hw
  have hd := At.refl hd0
  have HD := Aside0.mk hd
  have HOK := Aside0.mk ho
  have HL := Aside0.mk hl
  have HR := Aside0.mk hr
  have HRES := Aside0.mk hres
  obtain ⟨hp0, hpk, hpt⟩ := hp
  have HPK := Aside0.mk hpk
  clear hw hd hd0 ho hl hr hres hpk
  go_enter Try.func87, Try.ntmps87
  go_wp2
  go_loopg [7, 8] k0 (fun kq v7 v8 w' => ∃ (q : Int) (all : List Int), v8 = .int .u64 q ∧ Aside0 (q + kq = tail) ∧ Aside0 (p ≤ q) ∧ Aside0 (OwnB w' w.heap.size v7 all) ∧ Aside0 ((all.length : Int) = 64 * (q - p)) ∧ Aside0 (isBytes all) ∧ Aside0 (recGo D r p kq all q = res) ∧ Aside0 (Below w.heap.size w w'))
  case atStart => exact ⟨p, [], rfl, HPK, ⟨Int.le_refl _⟩, ⟨Kd.R_nil _ _ _ _ _⟩, ⟨by simp⟩, ⟨fun x hx => by cases hx⟩, HRES, ⟨Below.refl _ _⟩⟩
  case round =>
    obtain ⟨q, all, rfl, HQ, HPQ, HA, HAL, HAB, HG, HB⟩ := hrel
    obtain ⟨A7, c7, rfl⟩ := Kd.R_slice HA.out
    have HWr := Aside0.mk (HW.out.below HB.out)
    obtain ⟨⟨q0, q1, q2, q3, q4, q5, q6⟩, _⟩ := cells7 HWr.out.blk
    clear q1 q2 q4 q5 q6
    have hq0 : 0 ≤ q := by have := HPQ.out; omega
    have hqt : q ≤ tail := by have := HQ.out; omega
    by_cases hk0 : gk = 0
    · subst hk0
      have hqe : (q == tail) = true := by have := HQ.out; simp; omega
      have hqn : (q != tail) = false := by have := HQ.out; simp; omega
      have HRE := Aside0.mk (show res = ([], 0, 70) from HG.out.symm)
      go_wp2
      go_ret3
      unfold RcQ
      rw [HRE.out]
      exact ⟨none, 0, rfl, Kd.R_nil _ _ _ _ _, HB.out⟩
    · obtain ⟨gq, rfl⟩ : ∃ gq, gk = gq + 1 := ⟨gk - 1, by omega⟩
      clear hk0
      have hqe : (q == tail) = false := by have := HQ.out; simp; omega
      have hqn : (q != tail) = true := by have := HQ.out; simp; omega
      have hq1 : q < 18446744073709551615 := by have := HQ.out; omega
      obtain ⟨sc, hsc⟩ : ∃ sc, sectP r q = sc := ⟨_, rfl⟩
      obtain ⟨s, er, hse⟩ : ∃ s er, readP D sc = (s, er) := ⟨_, _, rfl⟩
      have HSC := Aside0.mk (sector_calls wr.drew 0 B M Bd vc D r q sc HR.out h1 ⟨hq0, by omega⟩ hsc (HD.out.grow (.of_below HB.out.drew)).dk)
      have HRD := Aside0.mk (at_read sc er s hse HL.out (HD.out.grow (.of_below HB.out.drew)))
      have q0' : wr.drew.cell? ⟨Wb, 0, none⟩ = some (.pointer (some ⟨B, 0, none⟩)) := q0
      have HSB := Aside0.mk (show isBytes s from by have := readP_bytes HOK.out.ok sc; rwa [hse] at this)
      have HGN := Aside0.mk (show (if er ≠ 0 then (([], 0, er) : List Int × Int × Int) else if (unF (all ++ s)).2.2 = 0 then ((unF (all ++ s)).1, p + ((unF (all ++ s)).2.1 + 63) / 64, 0) else recGo D r p gq (all ++ s) (q + 1)) = res from by
        have := HG.out
        unfold recGo at this
        rw [hsc, hse] at this
        exact this)
      have HS64 := Aside0.mk (show er = 0 → s.length = 64 from fun he => readP_64 HD.out.dk HOK.out.c64 (by rw [hse, he]))
      clear hsc hse
      by_cases hz : er = 0
      · subst hz
        have HL64 := Aside0.mk (HS64.out rfl)
        have HBYN := Aside0.mk (show isBytes (all ++ s) from fun x hx => (List.mem_append.1 hx).elim (HAB.out x) (HSB.out x))
        have HALN := Aside0.mk (show ((all ++ s).length : Int) = 64 * (q + 1 - p) from by rw [List.length_append, Int.natCast_add, HAL.out, HL64.out]; omega)
        have HAM := Aside0.mk (show (all ++ s).length ≤ 1000000 from by have h1 := HALN.out; have h2 := HPQ.out; have h3 := HQ.out; have h4 := HPK.out; omega)
        have HAX := Aside0.mk (show (all.length + s.length) * 1 ≤ 140737488355328 from by have := HAM.out; rw [List.length_append] at this; omega)
        have HUS := Aside0.mk (fun h => unF_size (b := all ++ s) h)
        have HUE := Aside0.mk (unF_err (all ++ s))
        obtain ⟨nb, hnb⟩ : ∃ nb, all ++ s = nb := ⟨_, rfl⟩
        have HFF := Aside0.mk (fun (w : World) (A : Option Addr) (c : Nat) (h : SB w A c (all ++ s)) => ff_calls w A c (all ++ s) HAM.out HBYN.out h)
        unfold FfQ at HFF
        rw [hnb] at HUS HUE HGN HBYN HALN HFF HAM
        have HNB := Aside0.mk hnb
        obtain ⟨u, hu⟩ : ∃ u, unF nb = u := ⟨_, rfl⟩
        rw [hu] at HUS HUE HGN HFF
        obtain ⟨ux, un, ue⟩ := u
        simp only [ne_eq, not_true_eq_false, if_false] at HUS HUE HGN HFF
        clear hnb hu
        rcases HUE.out with rfl | rfl
        · obtain ⟨m, hm, hm7, hml⟩ := HUS.out rfl
          subst hm
          obtain ⟨ct, hct⟩ : ∃ ct : Int, ((m : Int) + 63) / 64 = ct := ⟨_, rfl⟩
          have hctb : 0 ≤ ct ∧ ct ≤ q + 1 - p := by have h1 := HALN.out; omega
          obtain ⟨hct0, hct1⟩ := hctb
          have hpc : p + ct < 18446744073709551616 := by have := HQ.out; omega
          have HRE := Aside0.mk (show res = (ux, p + ct, 0) from by rw [← HGN.out, if_pos rfl, hct])
          have HCT := Aside0.mk hct
          have HM1 := Aside0.mk (show m ≤ 1000000 from Nat.le_trans hml HAM.out)
          clear hct hml
          go_wp2
          refine Fork.wp_fork (Fork.Lo.rel 0) [] [] (.one 0 0 (.one 1 0 (.one 2 0 (.one 4 0 (.one 5 0 (.one 6 0 (.one 8 0 (.one 3 1 (.one 7 1 (.one 9 2 (.one 10 2 (.one 11 0 (.one 12 0 (.one 13 0 (.one 14 0 (.one 15 0 .nil)))))))))))))))) (by kernel_rfl) (by kernel_rfl) ?_
          generalize hops : List.toArray (_ : List Oper) = ops
          have HO := Aside0.mk hops
          clear hops
          iterate 7 ((refine Fork.plain (Fork.at_ HO.out rfl) _ rfl (fun W => by go_simp; exact rfl) ?_); simp only [Act.put, List.setIfInBounds_toArray, List.set_cons_succ, List.set_cons_zero])
          refine Fork.reads (Fork.at_ HO.out rfl) _ rfl (fun W hW => Arr.ex_load1 rfl rfl (by kernel_rfl) (Fork.bel_cell hW (by assumption))) ?_
          simp only [Act.put, List.setIfInBounds_toArray, List.set_cons_succ, List.set_cons_zero]
          refine Fork.reads (Fork.at_ HO.out rfl) _ rfl (fun W hW => Arr.ex_load1 rfl rfl (by kernel_rfl) (Fork.bel_cell hW (by assumption))) ?_
          simp only [Act.put, List.setIfInBounds_toArray, List.set_cons_succ, List.set_cons_zero]
          refine Fork.step (Fork.at_ HO.out rfl) (fun K hK => ?_)
          go_simp
          refine HSC.out.mono ?_
          rintro e w' ⟨rfl, rfl⟩
          refine hK _ _ (.of_new (Below.refl _ _) (Nat.zero_le _)) ?_
          clear hK K
          try simp only [Act.put, List.setIfInBounds_toArray, List.set_cons_succ, List.set_cons_zero]
          refine Fork.step (Fork.at_ HO.out rfl) (fun K hK => ?_)
          go_simp
          refine HRD.out.mono ?_
          rintro e w5 ⟨A5, c5, rfl, hr, hdd, hb⟩
          refine hK _ _ (.of_new hb (Nat.zero_le _)) ?_
          clear hK K
          have HR5 := Aside0.mk hr
          have HA5 := Aside0.mk (Kd.R_below HA.out ((Below.refl wr.heap.size wr).drew.trans hb))
          have HB5 := Aside0.mk (HB.out.drew.trans (hb.mono HB.out.size))
          clear hr hdd hb
          try simp only [Act.put, List.setIfInBounds_toArray, List.set_cons_succ, List.set_cons_zero]
          iterate 5 ((refine Fork.plain (Fork.at_ HO.out rfl) _ rfl (fun W => by go_simp; exact rfl) ?_); simp only [Act.put, List.setIfInBounds_toArray, List.set_cons_succ, List.set_cons_zero])
          refine Fork.done ?_
          go_wp2_with (first
            | ((with_reducible refine gate_builtin (b := .append) (xs := #[.tmp 40, .tmp 41]) rfl ?_); at_builtin; go_loud (refine Kd.R_append_rows (Kd.int .u8) (W := w5) (w0 := w5) w.heap.size rfl (.tmp 40) (.tmp 41) 29 5 (.int .u8 0) 1 rfl Try.underlying29 info5w rfl (by decide) (by decide) _ all s A5 s.length c5 (fun k => w.heap.size ≤ k) (fun _ => False) rfl rfl HA5.out (Kd.R_reads' HR5.out).2.2 (fun _ _ h => h) (fun _ h => h.elim) (fun k hk => Nat.le_trans HB5.out.size hk) (Below.refl _ _) HB5.out.size HAX.out ?_); intro v6 w6 ho hb hg hat; rw [HNB.out] at ho; obtain ⟨A6, c6, hv6⟩ := Kd.R_slice ho; subst hv6; have HS6 := Aside0.mk (SB.of_R ho); have HA6 := Aside0.mk ho; have HB6 := Aside0.mk (HB5.out.trans hb); clear ho hb hg hat)
            | (go_at_call 113; (with_reducible refine (HFF.out w6 A6 c6 HS6.out).mono ?_); rintro e w7 ⟨A7, c7, rfl, hr, hb⟩; have HR7 := Aside0.mk hr; have HB7 := Aside0.mk (HB6.out.trans (hb.mono HB6.out.size)); clear hr hb)
            | (go_at_call 96; (with_reducible refine (cut_calls w7 m ct HCT.out HM1.out).mono ?_); rintro e w8 ⟨rfl, hd⟩; obtain ⟨nd, rfl⟩ := hd))
          go_ret3
          unfold RcQ
          rw [HRE.out]
          exact ⟨A7, c7, rfl, OwnB.low HR7.out HB6.out.size, bel_drewN HB7.out nd⟩
        · have HGO := Aside0.mk (show recGo D r p gq nb (q + 1) = res from by rw [← HGN.out, if_neg (by decide)])
          go_wp2
          refine Fork.wp_fork (Fork.Lo.rel 0) [] [] (.one 0 0 (.one 1 0 (.one 2 0 (.one 4 0 (.one 5 0 (.one 6 0 (.one 8 0 (.one 3 1 (.one 7 1 (.one 9 2 (.one 10 2 (.one 11 0 (.one 12 0 (.one 13 0 (.one 14 0 (.one 15 0 .nil)))))))))))))))) (by kernel_rfl) (by kernel_rfl) ?_
          generalize hops : List.toArray (_ : List Oper) = ops
          have HO := Aside0.mk hops
          clear hops
          iterate 7 ((refine Fork.plain (Fork.at_ HO.out rfl) _ rfl (fun W => by go_simp; exact rfl) ?_); simp only [Act.put, List.setIfInBounds_toArray, List.set_cons_succ, List.set_cons_zero])
          refine Fork.reads (Fork.at_ HO.out rfl) _ rfl (fun W hW => Arr.ex_load1 rfl rfl (by kernel_rfl) (Fork.bel_cell hW (by assumption))) ?_
          simp only [Act.put, List.setIfInBounds_toArray, List.set_cons_succ, List.set_cons_zero]
          refine Fork.reads (Fork.at_ HO.out rfl) _ rfl (fun W hW => Arr.ex_load1 rfl rfl (by kernel_rfl) (Fork.bel_cell hW (by assumption))) ?_
          simp only [Act.put, List.setIfInBounds_toArray, List.set_cons_succ, List.set_cons_zero]
          refine Fork.step (Fork.at_ HO.out rfl) (fun K hK => ?_)
          go_simp
          refine HSC.out.mono ?_
          rintro e w' ⟨rfl, rfl⟩
          refine hK _ _ (.of_new (Below.refl _ _) (Nat.zero_le _)) ?_
          clear hK K
          try simp only [Act.put, List.setIfInBounds_toArray, List.set_cons_succ, List.set_cons_zero]
          refine Fork.step (Fork.at_ HO.out rfl) (fun K hK => ?_)
          go_simp
          refine HRD.out.mono ?_
          rintro e w5 ⟨A5, c5, rfl, hr, hdd, hb⟩
          refine hK _ _ (.of_new hb (Nat.zero_le _)) ?_
          clear hK K
          have HR5 := Aside0.mk hr
          have HA5 := Aside0.mk (Kd.R_below HA.out ((Below.refl wr.heap.size wr).drew.trans hb))
          have HB5 := Aside0.mk (HB.out.drew.trans (hb.mono HB.out.size))
          clear hr hdd hb
          try simp only [Act.put, List.setIfInBounds_toArray, List.set_cons_succ, List.set_cons_zero]
          iterate 5 ((refine Fork.plain (Fork.at_ HO.out rfl) _ rfl (fun W => by go_simp; exact rfl) ?_); simp only [Act.put, List.setIfInBounds_toArray, List.set_cons_succ, List.set_cons_zero])
          refine Fork.done ?_
          go_wp2_with (first
            | ((with_reducible refine gate_builtin (b := .append) (xs := #[.tmp 40, .tmp 41]) rfl ?_); at_builtin; go_loud (refine Kd.R_append_rows (Kd.int .u8) (W := w5) (w0 := w5) w.heap.size rfl (.tmp 40) (.tmp 41) 29 5 (.int .u8 0) 1 rfl Try.underlying29 info5w rfl (by decide) (by decide) _ all s A5 s.length c5 (fun k => w.heap.size ≤ k) (fun _ => False) rfl rfl HA5.out (Kd.R_reads' HR5.out).2.2 (fun _ _ h => h) (fun _ h => h.elim) (fun k hk => Nat.le_trans HB5.out.size hk) (Below.refl _ _) HB5.out.size HAX.out ?_); intro v6 w6 ho hb hg hat; rw [HNB.out] at ho; obtain ⟨A6, c6, hv6⟩ := Kd.R_slice ho; subst hv6; have HS6 := Aside0.mk (SB.of_R ho); have HA6 := Aside0.mk ho; have HB6 := Aside0.mk (HB5.out.trans hb); clear ho hb hg hat)
            | (go_at_call 113; (with_reducible refine (HFF.out w6 A6 c6 HS6.out).mono ?_); rintro e w7 ⟨A7, c7, rfl, hr, hb⟩; have HA7 := Aside0.mk (Kd.R_below HA6.out hb); have HB7 := Aside0.mk (HB6.out.trans (hb.mono HB6.out.size)); clear hr hb))
          go_roundg gq
          case rel => exact ⟨q + 1, nb, rfl, ⟨by have := HQ.out; omega⟩, ⟨by have := HPQ.out; omega⟩, HA7, HALN, HBYN, HGO, HB7⟩
          case measure => omega
      · have hzb : (er != 0) = true := by simpa using hz
        have HRE := Aside0.mk (show res = ([], 0, er) from by rw [← HGN.out, if_pos hz])
        clear hz
        go_wp2
        refine Fork.wp_fork (Fork.Lo.rel 0) [] [] (.one 0 0 (.one 1 0 (.one 2 0 (.one 4 0 (.one 5 0 (.one 6 0 (.one 8 0 (.one 3 1 (.one 7 1 (.one 9 2 (.one 10 2 (.one 11 0 (.one 12 0 (.one 13 0 (.one 14 0 (.one 15 0 .nil)))))))))))))))) (by kernel_rfl) (by kernel_rfl) ?_
        generalize hops : List.toArray (_ : List Oper) = ops
        have HO := Aside0.mk hops
        clear hops
        iterate 7 ((refine Fork.plain (Fork.at_ HO.out rfl) _ rfl (fun W => by go_simp; exact rfl) ?_); simp only [Act.put, List.setIfInBounds_toArray, List.set_cons_succ, List.set_cons_zero])
        refine Fork.reads (Fork.at_ HO.out rfl) _ rfl (fun W hW => Arr.ex_load1 rfl rfl (by kernel_rfl) (Fork.bel_cell hW (by assumption))) ?_
        simp only [Act.put, List.setIfInBounds_toArray, List.set_cons_succ, List.set_cons_zero]
        refine Fork.reads (Fork.at_ HO.out rfl) _ rfl (fun W hW => Arr.ex_load1 rfl rfl (by kernel_rfl) (Fork.bel_cell hW (by assumption))) ?_
        simp only [Act.put, List.setIfInBounds_toArray, List.set_cons_succ, List.set_cons_zero]
        refine Fork.step (Fork.at_ HO.out rfl) (fun K hK => ?_)
        go_simp
        refine HSC.out.mono ?_
        rintro e w' ⟨rfl, rfl⟩
        refine hK _ _ (.of_new (Below.refl _ _) (Nat.zero_le _)) ?_
        clear hK K
        try simp only [Act.put, List.setIfInBounds_toArray, List.set_cons_succ, List.set_cons_zero]
        refine Fork.step (Fork.at_ HO.out rfl) (fun K hK => ?_)
        go_simp
        refine HRD.out.mono ?_
        rintro e w5 ⟨A5, c5, rfl, hr, hdd, hb⟩
        refine hK _ _ (.of_new hb (Nat.zero_le _)) ?_
        clear hK K
        have HR5 := Aside0.mk hr
        have HA5 := Aside0.mk (Kd.R_below HA.out ((Below.refl wr.heap.size wr).drew.trans hb))
        have HB5 := Aside0.mk (HB.out.drew.trans (hb.mono HB.out.size))
        clear hr hdd hb
        try simp only [Act.put, List.setIfInBounds_toArray, List.set_cons_succ, List.set_cons_zero]
        iterate 5 ((refine Fork.plain (Fork.at_ HO.out rfl) _ rfl (fun W => by go_simp; exact rfl) ?_); simp only [Act.put, List.setIfInBounds_toArray, List.set_cons_succ, List.set_cons_zero])
        refine Fork.done ?_
        go_wp2
        go_ret3
        unfold RcQ
        rw [HRE.out]
        exact ⟨none, 0, rfl, Kd.R_nil _ _ _ _ _, HB5.out⟩
end Go.Proofs.Ytlepcmljmibdnaa
