/- Parts of one proof, joined: Uo, Us, Ur, Sv, Dkp. Conditions: those of each statement. -/
import Derived.Test.YtlepcmljmibdnaaWy4
import Derived.Test.YtlepcmljmibdnaaWy2
namespace Go.Proofs.Ytlepcmljmibdnaa
open Go.RowKit Go.Proofs.YtlepcmljmibdnaaW.PrintWords Go.Proofs.YtlepcmljmibdnaaW.PrintLast Go.Proofs.YtlepcmljmibdnaaW.PrintMore PWalOpens
set_option linter.unusedVariables false
set_option linter.unusedSimpArgs false
/-- a slice of bytes that came in, or was made: what it reads as, and what its words are -/
structure SB (w : World) (A : Option Addr) (c : Nat) (b : List Int) : Prop where
  C : (Kd.int .u8).C w A b.length b
  cap : b.length ≤ c
  c63 : c ≤ 9223372036854775807
  none_ : A = none → b.length = 0 ∧ c = 0
theorem SB.move {w w' : World} {A : Option Addr} {c : Nat} {b : List Int} (h : SB w A c b) (hb : Below w.heap.size w w') : SB w' A c b := ⟨Kd.C_below h.C hb, h.cap, h.c63, h.none_⟩
theorem of_short (w : World) (A : Option Addr) (c : Nat) (b : List Int) (hl : b.length < 2) :
    Calls Try.prog 39 #[.slice A b.length c] w fun e w' => e = .returned (.tuple #[.int .u64 0, .slice none 0 0, .int .i64 60]) ∧ w = w' := by
  have h1 : decide ((b.length : Int) < 2) = true := by simp; omega
  go_enter Try.func39, Try.ntmps39
  go_wp2_with fail
  go_ret3
  exact ⟨rfl, rfl⟩
theorem u8_inj {a b : Int} (ha : 0 ≤ a ∧ a < 256) (hb : 0 ≤ b ∧ b < 256) (h : UInt8.ofNat a.toNat = UInt8.ofNat b.toNat) : a = b := by
  have := congrArg UInt8.toNat h
  simp only [UInt8.toNat_ofNat'] at this
  omega
theorem bytes_inj : ∀ (x y : List Int), isBytes x → isBytes y → (x.map fun n => UInt8.ofNat n.toNat) = (y.map fun n => UInt8.ofNat n.toNat) → x = y := by
  intro x
  induction x with
  | nil => intro y _ _ h; cases y with | nil => rfl | cons b y => simp at h
  | cons a x ih =>
    intro y hx hy h
    cases y with
    | nil => simp at h
    | cons b y =>
      simp only [List.map_cons, List.cons.injEq] at h
      rw [u8_inj (hx a (by simp)) (hy b (by simp)) h.1, ih y (fun n hn => hx n (by simp [hn])) (fun n hn => hy n (by simp [hn])) h.2]
theorem str_list (x : List Int) : (strOfNums x).toList = x.map fun n => UInt8.ofNat n.toNat := by rw [ByteArray.toList_eq]; rfl
theorem str_eq (x y : List Int) (hx : isBytes x) (hy : isBytes y) : ((strOfNums x).toList == (strOfNums y).toList) = decide (x = y) := by
  rw [str_list, str_list, Bool.eq_iff_iff, beq_iff_eq, decide_eq_true_eq]
  exact ⟨bytes_inj x y hx hy, fun h => by rw [h]⟩
theorem fs_isBytes : isBytes [70, 83] := by intro x hx; simp at hx; omega
set_option maxRecDepth 100000 in
theorem of_magic (w : World) (A : Option Addr) (c : Nat) (b : List Int) (hl : 2 ≤ b.length) (h : SB w A c b) (hby : isBytes b) (hm : b.take 2 ≠ [70, 83]) :
    Calls Try.prog 39 #[.slice A b.length c] w fun e w' => e = .returned (.tuple #[.int .u64 0, .slice none 0 0, .int .i64 60]) ∧ w = w' := by
  have h1 : decide ((b.length : Int) < 2) = false := by simp; omega
  have hcap := h.cap
  have hC := Kd.C_take h.C hl
  have e2 : (b.take 2).length = 2 := by rw [List.length_take]; omega
  rw [e2] at hC
  have hcv := Kd.C_string (c := c) Try.underlying29 Try.underlying5 Try.underlying9 hC
  have hne : ((strOfNums (b.take 2)).toList == (strOfNums [70, 83]).toList) = false := by
    rw [str_eq _ _ (hby.take 2) fs_isBytes]
    simpa using hm
  rw [show (strOfNums [70, 83]).toList = [70, 83] from str_list _] at hne
  obtain ⟨s, hs⟩ : ∃ s, strOfNums (b.take 2) = s := ⟨_, rfl⟩
  rw [hs] at hcv hne
  have hc2 : (2 : Int) ≤ (c : Int) := by omega
  have hl2 : (2 : Int) ≤ (b.length : Int) := by omega
  clear hC e2 h hm hby hs hl hcap
  go_enter Try.func39, Try.ntmps39
  go_wp2_with fail
  go_ret3
  exact ⟨rfl, rfl⟩
theorem SB.tail {w : World} {ad : Addr} {c k : Nat} {b : List Int} {A1 : Option Addr} (h : SB w (some ad) c b) (hk0 : 0 < k) (hk : k ≤ b.length) (hA : (if c = k then some ad else some { block := ad.block, off := ad.off + k }) = A1) : SB w A1 (c - k) (b.drop k) := by
  subst hA
  have C2 := Kd.C_drop (m := k) (c := c) h.C hk h.cap
  have hm : k * (Kd.int .u8).sz = k := Nat.mul_one k
  have e : (if c = k then some ad else Option.map (fun x => x.add (k * (Kd.int .u8).sz)) (some ad)) = (if c = k then some ad else some { block := ad.block, off := ad.off + k }) := by
    rw [hm]
    split
    · rfl
    · unfold Addr.add
      rw [Option.map_some, if_neg (by omega)]
  rw [e] at C2
  refine ⟨C2, by have := h.cap; rw [List.length_drop]; omega, by have := h.c63; omega, fun h0 => ?_⟩
  split at h0 <;> cases h0
theorem len_tail (b : List Int) (k : Nat) : (b.drop k).length = b.length - k := List.length_drop
/-- of numbers: from the reader's head on -/
def OfQ (w : World) (b : List Int) (e : Ending) (w' : World) : Prop := ∃ A c, e = .returned (.tuple #[.int .u64 (unP b).1, .slice A (unP b).2.1.length c, .int .i64 (unP b).2.2]) ∧ Kd.R (Kd.int .u64) 56 w' w.heap.size (fun k => w.heap.size ≤ k) (.slice A (unP b).2.1.length c) (unP b).2.1 ∧ Below w.heap.size w w'
theorem equalB_l : ∀ (k : Nat) (l0 l1 : List Int) (i : Nat), l0.length = l1.length → l0.length ≤ 1000000 → l0.length < k + i → i ≤ l0.length → slices_Equal_byte_byte.l0 k l0 l1 (l0.length : Int) (i : Int) = some (decide (l0.drop i = l1.drop i)) := by
  intro k
  induction k with
  | zero => intro l0 l1 i _ _ h h'; omega
  | succ k ih =>
    intro l0 l1 i he hl h h'
    rw [slices_Equal_byte_byte.l0]
    by_cases hi : i < l0.length
    · rw [if_pos (by omega), if_pos (by omega), if_pos (by omega), if_pos (by omega)]
      have h1 : l0[i]? = some l0[i] := List.getElem?_eq_getElem hi
      have h2 : l1[i]? = some (l1[i]'(by omega)) := List.getElem?_eq_getElem (by omega)
      rw [show rd l0 (i : Int) = l0[i] by simp [rd, List.getD, h1], show rd l1 (i : Int) = l1[i]'(by omega) by simp [rd, List.getD, h2]]
      rw [List.drop_eq_getElem_cons hi, List.drop_eq_getElem_cons (show i < l1.length by omega)]
      by_cases hx : l0[i] = l1[i]'(by omega)
      · rw [if_pos hx, show wrap64 ((i : Int) + 1) = ((i + 1 : Nat) : Int) by unfold wrap64; omega, ih l0 l1 (i + 1) he hl (by omega) (by omega)]
        rw [Option.some.injEq, decide_eq_decide, List.cons.injEq]
        exact ⟨fun h => ⟨hx, h⟩, fun h => h.2⟩
      · rw [if_neg hx, Option.some.injEq, eq_comm, decide_eq_false_iff_not, List.cons.injEq]
        exact fun h => hx h.1
    · rw [if_neg (by omega), List.drop_of_length_le (by omega), List.drop_of_length_le (by omega)]
      simp
theorem equalB_f (l0 l1 : List Int) (he : l0.length = l1.length) (hl : l0.length ≤ 1000000) : slices_Equal_byte_byte.f (l0.length + 1) l0 l1 = some (decide (l0 = l1)) := by
  unfold slices_Equal_byte_byte.f
  rw [if_pos (by omega)]
  have := equalB_l (l0.length + 1) l0 l1 0 he hl (by omega) (by omega)
  simpa using this
theorem ofEq (w : World) (A0 : Option Addr) (c0 : Nat) (l0 l1 : List Int) (r : Bool) (A1 : Option Addr) (c1 n : Nat) (h0 : l0.length = n) (h1 : l1.length = n) {w0 : World} {ok : Nat → Prop} (hr0 : Kd.R (Kd.int .u8) 5 w w0.heap.size ok (.slice A0 n c0) l0) (hr1 : (Kd.int .u8).C w A1 n l1) (hc1 : n ≤ c1) (h : slices_Equal_byte_byte.f (l0.length + 1) l0 l1 = some r) :
    Calls Try.prog 81 #[.slice A0 n c0, .slice A1 n c1] w fun e w' => e = .returned (.bool r) ∧ Drawn0 w w' := by
  obtain ⟨e1, e2, e3⟩ := Kd.R_reads' hr0
  subst h0
  have := slices_Equal_byte_byte.calls (l0.length + 1) A0 c0 l0 A1 c1 l1 r w e3 e2 (by rw [h1]; exact hr1) (by omega) h
  rwa [h1] at this
theorem ofZ (w : World) (A : Option Addr) (c : Nat) (b : List Int) (n : Nat) (z : Bool) (hz : allZ b = z) (hn : b.length = n) (hl : b.length ≤ 1000000) (h : SB w A c b) :
    Calls Try.prog 82 #[.slice A n c] w fun e w' => e = .returned (.bool z) ∧ w = w' := by
  subst hn
  exact noughts_calls w A c b z hz hl h.C
theorem bel_drewN {b : Nat} {w w' : World} (h : Below b w w') (n : Nat) : Below b w (w'.drewN n) := ⟨h.os, h.tape, h.output, h.size, h.block⟩
theorem drewN_below (w : World) (n : Nat) : Below w.heap.size w (w.drewN n) := ⟨rfl, rfl, rfl, Nat.le_refl _, fun _ _ => rfl⟩
theorem info56 : (Try.prog.info? 56).map (fun i => (i.zero, i.size, i.bytes)) = some (some (.int .u64 0), (Kd.int .u64).sz, 8) := by kernel_rfl
theorem GX.hB {w : World} {base B : Nat} {xs : List Int} {bad : Bool} (h : GX w base B xs bad) : base ≤ B := by
  obtain ⟨A, c, hk, _⟩ := h
  exact hk.hB
theorem R_at_B {α : Type} {d : Kd α} {e b1 B : Nat} {w w' : World} {v : Value} {xs : List α} (h : d.R e w b1 (fun _ => True) v xs) (hc : Chg w w' (fun k => k = B)) (hB : B < b1) : d.R e w' b1 (fun _ => True) v xs :=
  Kd.R_mono (Kd.R_step (Kd.R_bound h) (fun k hk hl => hc.block k hl (fun e => by have := hk.2.1; omega))) (fun _ _ => trivial)
theorem own_not {α : Type} {d : Kd α} {e b1 : Nat} {w : World} {v : Value} {xs : List α} (h : d.R e w b1 (fun _ => True) v xs) (k : Nat) (hk : k < b1) (he : some k = v.ownBlock) : False := by
  obtain ⟨inner, ho⟩ := Kd.R_own h
  have := own_base ho k he.symm
  omega
set_option maxRecDepth 100000 in
theorem of_main (w : World) (ad : Addr) (c : Nat) (b : List Int) (hl : 2 ≤ b.length) (hl2 : b.length ≤ 1000000) (h : SB w (some ad) c b) (hby : isBytes b) (hm : b.take 2 = [70, 83]) :
    Calls Try.prog 39 #[.slice (some ad) b.length c] w (OfQ w b) := by
  have h1 : decide ((b.length : Int) < 2) = false := by simp; omega
  have hcap := h.cap
  have hC := Kd.C_take h.C hl
  have e2 : (b.take 2).length = 2 := by rw [List.length_take]; omega
  rw [e2, hm] at hC
  have hcv := Kd.C_string (c := c) Try.underlying29 Try.underlying5 Try.underlying9 hC
  rw [show strOfNums [70, 83] = ⟨#[70, 83]⟩ from rfl] at hcv
  have hc2 : (2 : Int) ≤ (c : Int) := by omega
  have hl2 : (2 : Int) ≤ (b.length : Int) := by omega
  obtain ⟨A1, hA1⟩ : ∃ A1, (if c = 2 then some ad else some { block := ad.block, off := ad.off + 2 }) = A1 := ⟨_, rfl⟩
  have hT := h.tail (by decide) hl hA1
  have hR := gread_calls w A1 (c - 2) (b.drop 2) (by rw [len_tail]; omega) hT.none_ hT.C
  rw [len_tail] at hR
  have HR := Aside0.mk hR
  have H := Aside0.mk h
  have HBY := Aside0.mk hby
  have HM := Aside0.mk hm
  obtain ⟨pg, p4, pn, pl, pb⟩ := slot_parts b hby
  obtain ⟨g, r1, b1, e1⟩ : ∃ g r1 b1, slotG b = (g, r1, b1) := ⟨_, _, _, rfl⟩
  obtain ⟨n, r2, b2, e3⟩ : ∃ n r2 b2, slotC b = (n, r2, b2) := ⟨_, _, _, rfl⟩
  have E1 := Aside0.mk (show rdN (b.drop 2) false 18446744073709551615 = (g, r1, b1) from e1)
  have E2 := Aside0.mk (show rdN r1 b1 4 = (n, r2, b2) from by have := e3; unfold slotC at this; rwa [e1] at this)
  have EL := Aside0.mk (show slotL b = readK n.toNat r2 b2 from by unfold slotL; rw [e3])
  rw [e1] at pg
  rw [e3] at p4
  simp only at pg p4
  obtain ⟨N, rfl⟩ := Int.eq_ofNat_of_zero_le p4.1
  have hN4 : N ≤ 4 := by omega
  rw [Int.toNat_natCast] at EL
  have PG := Aside0.mk pg
  have PN := Aside0.mk pn
  have PL := Aside0.mk pl
  have PB := Aside0.mk pb
  have E0 := Aside0.mk e1
  clear hC e2 h hm hby hl hcap hT hR pg p4 pn pl pb e1 e3
  go_enter Try.func39, Try.ntmps39
  go_wp2_with (first
    | (go_at_call 78; with_reducible refine HR.out.mono ?_; rintro e w1 ⟨B, rfl, hg, hb⟩; have HG1 := Aside0.mk (GS.refl hg (HBY.out.drop 2) (fun h => by cases h)); have HB1 := Aside0.mk hb; clear hg hb)
    | (go_at_call 79; with_reducible refine (GS.n (by decide) E1.out HG1.out).mono ?_; rintro e w2 ⟨rfl, hg⟩; have HG2 := Aside0.mk hg; clear hg)
    | (go_at_call 79; with_reducible refine (GS.n (by decide) E2.out HG2.out).mono ?_; rintro e w3 ⟨rfl, hg⟩; have HG3 := Aside0.mk hg; clear hg))
  have HG4 := Aside0.mk (GS.refl HG3.out.x HG3.out.bytes HG3.out.nb)
  have HB3 := Aside0.mk (HB1.out.trans (HG3.out.chg.below HB1.out.size (fun k hk => by subst hk; exact HG3.out.x.hB)))
  have HBL := Aside0.mk HG3.out.x.lt
  go_loopg [3, 6] N (fun kq v3 v6 w' => ∃ (i : Nat), v6 = .int .u64 (kq : Int) ∧ Aside0 (i + kq = N) ∧ Aside0 (GS w3 w' w.heap.size B (readK i r2 b2).2.1 (readK i r2 b2).2.2) ∧ Aside0 (Kd.R (Kd.int .u64) 56 w' w3.heap.size (fun _ => True) v3 (readK i r2 b2).1))
  case atStart => exact ⟨0, rfl, ⟨by omega⟩, HG4, ⟨Kd.R_nil _ _ _ _ _⟩⟩
  case round =>
    obtain ⟨i, rfl, HI, HGr, HRr⟩ := hrel
    obtain ⟨A3, c3, rfl⟩ := Kd.R_slice HRr.out
    by_cases hk0 : gk = 0
    · subst hk0
      obtain rfl : i = N := by have := HI.out; omega
      have EQ := EL.out
      rw [← EQ] at HGr HRr ⊢
      have HV := Aside0.mk (slotV_short b HBY.out HM.out)
      have HVP := Aside0.mk (slotV_prog b HBY.out HM.out)
      have HRD := Aside0.mk (slot_read b HBY.out HM.out)
      have HUN := Aside0.mk (show unP b = if slotV b then ((slotG b).1, (slotL b).1, 0) else (0, [], 60) by unfold unP; rw [if_pos HM.out])
      rw [E0.out] at HVP HRD HUN
      simp only at HVP HRD HUN
      obtain ⟨l, hL1⟩ : ∃ l, (slotL b).1 = l := ⟨_, rfl⟩
      obtain ⟨r3, hL2⟩ : ∃ r3, (slotL b).2.1 = r3 := ⟨_, rfl⟩
      obtain ⟨b3, hL3⟩ : ∃ b3, (slotL b).2.2 = b3 := ⟨_, rfl⟩
      rw [hL1] at HRr HVP HRD HUN PN PL ⊢
      rw [hL2] at HGr HV HVP HRD PB
      rw [hL3] at HGr HRD PB
      clear EQ EL E0 E1 E2 hL1 hL2 hL3
      have HBr := Aside0.mk (HB3.out.trans (HGr.out.chg.below HB3.out.size (fun k hk => by subst hk; exact HGr.out.x.hB)))
      have hz : ¬ ((0 : Int) < ((0 : Nat) : Int)) := by omega
      by_cases hr4 : r3.length < 4
      · have HU := Aside0.mk (show unP b = (0, [], 60) from by rw [HUN.out, HV.out hr4]; rfl)
        have hr4' : (r3.length : Int) < 4 := by omega
        clear hr4
        go_wp2_with (go_at_call 80; with_reducible refine (GS.left r3.length rfl HGr.out).mono ?_; rintro e w' ⟨rfl, rfl⟩)
        go_ret3
        unfold OfQ
        rw [HU.out]
        exact ⟨none, 0, rfl, Kd.R_nil _ _ _ _ _, HBr.out⟩
      · have hr4' : ¬ ((r3.length : Int) < 4) := by omega
        have hb3 : b3 = false := by
          cases b3 with
          | false => rfl
          | true => rw [PB.out rfl] at hr4; simp at hr4
        obtain ⟨hbs, _⟩ := HRD.out hb3
        have hbl := congrArg List.length hbs
        rw [List.length_append] at hbl
        obtain ⟨sz, hsz⟩ : ∃ sz : Nat, b.length - r3.length = sz := ⟨_, rfl⟩
        have hvp := HVP.out (by omega)
        rw [hsz] at hvp
        have hsI : (b.length : Int) - (r3.length : Int) = (sz : Int) := by omega
        have hszc : (sz : Int) + 4 ≤ (c : Int) := by have := H.out.cap; omega
        have hszb : (sz : Int) + 4 ≤ (b.length : Int) := by omega
        have hlb6 : (b.drop (sz + 4)).length ≤ 1000000 := by rw [List.length_drop]; omega
        have hwl : (slotB g l).length = sz + 4 := by rw [slotB_len]; omega
        have hC4 := Kd.C_take H.out.C (m := sz + 4) (by omega)
        have hl4 : (b.take (sz + 4)).length = sz + 4 := by rw [List.length_take]; omega
        obtain ⟨want, hwant⟩ : ∃ want, slotB g l = want := ⟨_, rfl⟩
        obtain ⟨b4, hb4⟩ : ∃ b4, b.take (sz + 4) = b4 := ⟨_, rfl⟩
        rw [hwant] at hwl hvp
        rw [hb4] at hvp hC4 hl4
        have HEQ := Aside0.mk (equalB_f want b4 (by omega) (by omega))
        have HSL := Aside0.mk (slot_calls wr g l A3 c3 PG.out PN.out PL.out (Kd.R_reads' HRr.out).2.2)
        rw [hwant, hwl] at HSL
        rw [hl4] at hC4
        have HC4 := Aside0.mk hC4
        have HWL := Aside0.mk hwl
        have HL4 := Aside0.mk hl4
        obtain ⟨A5, hA5⟩ : ∃ A5, (if c = sz + 4 then some ad else some { block := ad.block, off := ad.off + (sz + 4) }) = A5 := ⟨_, rfl⟩
        have HT5 := Aside0.mk (H.out.tail (by omega) (by omega) hA5)
        clear hbs hbl hr4 hb3 hsz hwant hb4 hC4 hwl hl4
        have HLB := Aside0.mk hlb6
        by_cases hq : want = b4
        · have HEQ2 := Aside0.mk (show slices_Equal_byte_byte.f (want.length + 1) want b4 = some true from by rw [HEQ.out]; simp [hq])
          by_cases hzz : allZ (b.drop (sz + 4)) = true
          · have HU := Aside0.mk (show unP b = (g, l, 0) from by rw [HUN.out, hvp, hzz]; simp [hq])
            have HZ := Aside0.mk hzz
            clear hq hvp hzz hlb6
            go_wp2_with (first
              | (go_at_call 80; with_reducible refine (GS.left r3.length rfl HGr.out).mono ?_; rintro e w' ⟨rfl, rfl⟩) | (go_at_call 37; with_reducible refine HSL.out.mono ?_; rintro e w7 ⟨A7, c7, rfl, hr, hb⟩; have HR7 := Aside0.mk hr; have HB7 := Aside0.mk hb; have HW7 := Aside0.mk (HBr.out.trans (hb.mono HBr.out.size)); clear hr hb)
              | (go_at_call 81; go_loud (refine (ofEq w7 A7 c7 want b4 true (some ad) c (sz + 4) HWL.out HL4.out HR7.out (Kd.C_below HC4.out HW7.out) (by omega) HEQ2.out).mono ?_); rintro e w8 ⟨rfl, hd⟩; obtain ⟨nd, rfl⟩ := hd.out)
              | (go_at_call 82; go_loud (refine (ofZ (w7.drewN nd) A5 (c - (sz + 4)) (b.drop (sz + 4)) (b.length - (sz + 4)) true HZ.out (len_tail _ _) HLB.out (HT5.out.move (bel_drewN HW7.out nd))).mono ?_); rintro e w8 ⟨rfl, rfl⟩))
            go_ret3
            unfold OfQ
            rw [HU.out]
            exact ⟨A3, c3, rfl, Kd.R_mono (Kd.R_bound (Kd.R_lower (Kd.R_below (Kd.R_below HRr.out HB7.out) (drewN_below w7 nd)) HB3.out.size)) (fun k hk => hk.2.1), bel_drewN HW7.out nd⟩
          · have hzf : allZ (b.drop (sz + 4)) = false := by simpa using hzz
            have HU := Aside0.mk (show unP b = (0, [], 60) from by rw [HUN.out, hvp, hzf]; simp)
            have HZ := Aside0.mk hzf
            clear hq hvp hzz hlb6 hzf
            go_wp2_with (first
              | (go_at_call 80; with_reducible refine (GS.left r3.length rfl HGr.out).mono ?_; rintro e w' ⟨rfl, rfl⟩) | (go_at_call 37; with_reducible refine HSL.out.mono ?_; rintro e w7 ⟨A7, c7, rfl, hr, hb⟩; have HR7 := Aside0.mk hr; have HB7 := Aside0.mk hb; have HW7 := Aside0.mk (HBr.out.trans (hb.mono HBr.out.size)); clear hr hb)
              | (go_at_call 81; go_loud (refine (ofEq w7 A7 c7 want b4 true (some ad) c (sz + 4) HWL.out HL4.out HR7.out (Kd.C_below HC4.out HW7.out) (by omega) HEQ2.out).mono ?_); rintro e w8 ⟨rfl, hd⟩; obtain ⟨nd, rfl⟩ := hd.out)
              | (go_at_call 82; go_loud (refine (ofZ (w7.drewN nd) A5 (c - (sz + 4)) (b.drop (sz + 4)) (b.length - (sz + 4)) false HZ.out (len_tail _ _) HLB.out (HT5.out.move (bel_drewN HW7.out nd))).mono ?_); rintro e w8 ⟨rfl, rfl⟩))
            go_ret3
            unfold OfQ
            rw [HU.out]
            exact ⟨none, 0, rfl, Kd.R_nil _ _ _ _ _, bel_drewN HW7.out nd⟩
        · have HEQ2 := Aside0.mk (show slices_Equal_byte_byte.f (want.length + 1) want b4 = some false from by rw [HEQ.out]; simp [hq])
          have HU := Aside0.mk (show unP b = (0, [], 60) from by rw [HUN.out, hvp]; simp [hq])
          clear hq hvp hlb6
          go_wp2_with (first
            | (go_at_call 80; with_reducible refine (GS.left r3.length rfl HGr.out).mono ?_; rintro e w' ⟨rfl, rfl⟩) | (go_at_call 37; with_reducible refine HSL.out.mono ?_; rintro e w7 ⟨A7, c7, rfl, hr, hb⟩; have HR7 := Aside0.mk hr; have HB7 := Aside0.mk hb; have HW7 := Aside0.mk (HBr.out.trans (hb.mono HBr.out.size)); clear hr hb)
            | (go_at_call 81; go_loud (refine (ofEq w7 A7 c7 want b4 false (some ad) c (sz + 4) HWL.out HL4.out HR7.out (Kd.C_below HC4.out HW7.out) (by omega) HEQ2.out).mono ?_); rintro e w8 ⟨rfl, hd⟩; obtain ⟨nd, rfl⟩ := hd.out))
          go_ret3
          unfold OfQ
          rw [HU.out]
          exact ⟨none, 0, rfl, Kd.R_nil _ _ _ _ _, bel_drewN HW7.out nd⟩
    obtain ⟨x, rx, bx, hx⟩ : ∃ x rx bx, rdN (readK i r2 b2).2.1 (readK i r2 b2).2.2 18446744073709551615 = (x, rx, bx) := ⟨_, _, _, rfl⟩
    have HX := Aside0.mk hx
    have HSN := Aside0.mk (show readK (i + 1) r2 b2 = ((readK i r2 b2).1 ++ [x], rx, bx) from by rw [readK_snoc]; show (_ ++ [(rdN _ _ 18446744073709551615).1], (rdN _ _ 18446744073709551615).2) = _; rw [hx])
    clear hx
    have HLN := Aside0.mk (show ((readK i r2 b2).1.length + 1) * 8 ≤ 140737488355328 by rw [readK_len]; have := HI.out; omega)
    generalize readK i r2 b2 = st at *
    obtain ⟨l, xs, bad⟩ := st
    simp only at HX HSN HLN HGr HRr
    obtain ⟨gq, rfl⟩ : ∃ gq, gk = gq + 1 := ⟨gk - 1, by omega⟩
    clear hk0
    have hpos : (0 : Int) < ((gq + 1 : Nat) : Int) := by omega
    have hgq : ((gq + 1 : Nat) : Int) ≤ 4 := by have := HI.out; omega
    go_wp2_with (first
      | (go_at_call 79; with_reducible refine (GS.step (by decide) HX.out HGr.out).mono ?_; rintro e w5 ⟨rfl, hg, hc⟩; have HG5 := Aside0.mk hg; have HR5 := Aside0.mk (R_at_B HRr.out hc HBL.out); clear hg hc)
      | ((with_reducible refine gate_builtin (b := .append) (xs := #[.tmp 30, .tmp 33]) rfl ?_); at_builtin; go_loud (refine Kd.R_append (Kd.int .u64) (W := w5) (w0 := w5) w3.heap.size rfl (.tmp 30) (.tmp 33) 57 56 (.int .u64 0) 8 rfl Try.underlying57 info56 rfl (by decide) (by decide) _ l _ [.int .u64 _] (fun _ => True) (fun _ => False) rfl rfl rfl (fun _ h => h.elim) (fun _ _ => trivial) HR5.out (Below.refl _ _) HG5.out.chg.size HLN.out ?_); intro v1 w6 ho hb hg hat; have HG6 := Aside0.mk (HG5.out.grow HBL.out (chg_grown hg fun _ h => h) (fun k hk he => own_not HR5.out k hk he)); have HR6 := Aside0.mk ho; clear ho hb hg hat))
    go_roundg gq
    case rel => exact ⟨i + 1, by go_num, ⟨by have := HI.out; omega⟩, ⟨by rw [HSN.out]; exact HG6.out⟩, ⟨by rw [HSN.out]; exact HR6.out⟩⟩
    case measure => omega
theorem of_calls (w : World) (A : Option Addr) (c : Nat) (b : List Int) (hl2 : b.length ≤ 1000000) (h : SB w A c b) (hby : isBytes b) :
    Calls Try.prog 39 #[.slice A b.length c] w (OfQ w b) := by
  have bad : b.take 2 ≠ [70, 83] → ∀ e w', (e = .returned (.tuple #[.int .u64 0, .slice none 0 0, .int .i64 60]) ∧ w = w') → OfQ w b e w' := by
    intro hm e w' h
    obtain ⟨rfl, rfl⟩ := h
    have hu : unP b = (0, [], 60) := by unfold unP; rw [if_neg hm]
    unfold OfQ
    rw [hu]
    exact ⟨none, 0, rfl, Kd.R_nil _ _ _ _ _, Below.refl _ _⟩
  by_cases hl : b.length < 2
  · have hm : b.take 2 ≠ [70, 83] := fun e => by
      have := congrArg List.length e
      rw [List.length_take] at this
      simp at this
      omega
    exact (of_short w A c b hl).mono (bad hm)
  · by_cases hm : b.take 2 = [70, 83]
    · cases A with
      | none => have := (h.none_ rfl).1; omega
      | some ad => exact of_main w ad c b (by omega) hl2 h hby hm
    · exact (of_magic w A c b (by omega) h hby hm).mono (bad hm)
end Go.Proofs.Ytlepcmljmibdnaa
namespace Go.Proofs.Ytlepcmljmibdnaa
open Go.RowKit Go.Proofs.YtlepcmljmibdnaaW.PrintWords Go.Proofs.YtlepcmljmibdnaaW.PrintLast Go.Proofs.YtlepcmljmibdnaaW.PrintMore PWalOpens
set_option linter.unusedVariables false
set_option linter.unusedSimpArgs false
/-- a row of one's own: all of it from b on -/
def OwnB (w : World) (b : Nat) (v : Value) (xs : List Int) : Prop := Kd.R (Kd.int .u8) 5 w b (fun k => b ≤ k) v xs
theorem OwnB.low {w : World} {b b' : Nat} {v : Value} {xs : List Int} (h : OwnB w b v xs) (hb : b' ≤ b) : OwnB w b' v xs := Kd.R_mono (Kd.R_lower h hb) (fun k hk => Nat.le_trans hb hk)
theorem lowB4 (c : Int) : lowB c 4 = be4 c := by
  have e : c / 256 ^ 0 = c := by rw [Int.pow_zero, Int.ediv_one]
  show [c / 256 ^ 3 % 256, c / 256 ^ 2 % 256, c / 256 ^ 1 % 256, c / 256 ^ 0 % 256] = _
  rw [e]
  rfl
theorem slot_long (w : World) (gen : Int) (l : List Int) (A : Option Addr) (c : Nat) (hl : 4 < l.length) :
    Calls Try.prog 37 #[.int .u64 gen, .slice A l.length c] w fun e w' => e = .returned (.tuple #[.slice none 0 0, .int .i64 2]) ∧ w = w' := by
  have h : (4 : Int) < (l.length : Int) := by omega
  go_enter Try.func37, Try.ntmps37
  go_wp2
  go_ret2
  exact ⟨rfl, rfl⟩
end Go.Proofs.Ytlepcmljmibdnaa
namespace Go.Proofs.Ytlepcmljmibdnaa
open Go.RowKit Go.Proofs.YtlepcmljmibdnaaW.PrintWords Go.Proofs.YtlepcmljmibdnaaW.PrintLast Go.Proofs.YtlepcmljmibdnaaW.PrintMore PWalOpens
set_option linter.unusedVariables false
set_option linter.unusedSimpArgs false
theorem be4_bytes (c : Int) : isBytes (be4 c) := by rw [← lowB4]; exact lowB_bytes c 4
theorem slotB_bytes (g : Int) (l : List Int) (hg : 0 ≤ g ∧ g < 18446744073709551616) (hn : ∀ n ∈ l, 0 ≤ n ∧ n < 18446744073709551616) (hl : l.length ≤ 4) : isBytes (slotB g l) := by
  intro x hx
  unfold slotB at hx
  rcases List.mem_append.1 hx with hx | hx
  · exact fs_bytes g l hg hn hl x hx
  · exact be4_bytes _ x hx
def UnQ (w : World) (b : List Int) (e : Ending) (w' : World) : Prop := ∃ A c, e = .returned (.tuple #[.int .u64 (unP b).1, .slice A (unP b).2.1.length c, .int .i64 (unP b).2.2]) ∧ Kd.R (Kd.int .u64) 56 w' w.heap.size (fun k => w.heap.size ≤ k) (.slice A (unP b).2.1.length c) (unP b).2.1 ∧ Below w.heap.size w w'
end Go.Proofs.Ytlepcmljmibdnaa
namespace Go.Proofs.Ytlepcmljmibdnaa
open Go.RowKit Go.Proofs.YtlepcmljmibdnaaW.PrintWords Go.Proofs.YtlepcmljmibdnaaW.PrintLast Go.Proofs.YtlepcmljmibdnaaW.PrintMore PWalOpens
set_option linter.unusedVariables false
set_option linter.unusedSimpArgs false
theorem ex_copy {P : Program} {W w1 : World} {o : Oper} {ρ : Operand → Value} {d s : Operand} {t : TypeId} {v : Value} (ho : o.op = .call { callee := .builtin .copy, args := #[d, s], argTypes := #[t, t] }) {vd vs : Value} (hd : ρ d = vd) (hs : ρ s = vs)
    (hrun : (Builtin.copy_ #[t, t] o.type #[vd, vs]).run P W = .ok v w1) : (execOp ρ o).run P W = .ok (.value v) w1 := by
  subst hd; subst hs
  simp [execOp, ho, resolve, invoke, builtin, hrun, Result.andThen]
/-- bytes copied into sixty-four noughts -/
theorem run_copy_sec (W : World) (b : List Int) (hb : b.length ≤ 64) (A : Option Addr) (c : Nat) (ty : TypeId) (hC : (Kd.int .u8).C (W.alloc (.cells (secC zsec) 98)) A b.length b) :
    (Builtin.copy_ #[29, 29] ty #[.slice (some ⟨W.heap.size, 0, none⟩) 64 64, .slice A b.length c]).run Try.prog (W.alloc (.cells (secC zsec) 98)) = .ok (goInt b.length) (W.alloc (.cells (secC (pad b)) 98)) := by
  have hR := Kd.reads_of_C (enc := Value.int .u8) (d := (0 : Int)) (h1 := fun _ => rfl) hC
  by_cases h0 : b.length = 0
  · obtain rfl : b = [] := List.eq_nil_of_length_eq_zero h0
    exact run_copy_none (P := Try.prog) _ 29 29 ty 5 _ A 64 64 0 c Try.underlying29 (by kernel_rfl) rfl
  · obtain ⟨ad, rfl, hc⟩ := hR.2.2 (by omega)
    have hl : (encs (Value.int .u8) b).length = b.length := encs_length _
    have h := run_copy_row (P := Try.prog) (W.alloc (.cells (secC zsec) 98)) 29 29 ty 5 W.heap.size 0 64 64 ad b.length c (secC zsec) 98 (encs (Value.int .u8) b) Try.underlying29 (by kernel_rfl) (heap_alloc_new W _)
      (by rw [hl]; exact (Nat.min_eq_left hb).symm) (by
        intro j v hj
        have hj' : j < b.length := by have := (List.getElem?_eq_some_iff.1 hj).1; omega
        rw [encs_get (d := 0) b j hj'] at hj
        obtain rfl := Option.some.inj hj
        exact hc j hj') (by rw [hl, sec_size _ (by rfl)]; omega) (by intro v hv; simp only [encs, List.mem_map] at hv; obtain ⟨a, _, rfl⟩ := hv; rfl)
    rw [h, Arr.setRow_alloc, hl]
    have e : ((secC zsec).toList.take 0 ++ encs (Value.int .u8) b ++ (secC zsec).toList.drop (0 + b.length)).toArray = secC (pad b) := by
      unfold secC pad
      rw [Nat.zero_add]
      simp only [List.take_zero, List.nil_append, encs_append]
      rw [show (encs (Value.int .u8) zsec).drop b.length = encs (Value.int .u8) (List.replicate (64 - b.length) 0) by unfold encs zsec; rw [List.map_replicate, List.drop_replicate, List.map_replicate]]
    rw [e]
theorem pad_take (b : List Int) : (pad b).take b.length = b := by
  unfold pad
  rw [List.take_append_of_le_length (Nat.le_refl _), List.take_length]
theorem slotB_64 (g : Int) (l : List Int) (hl : l.length ≤ 4) : (slotB g l).length ≤ 64 := by
  have h1 := encNs_len l
  have h2 := encNs_len [g, (l.length : Int)]
  rw [slotB_len]
  unfold slotF
  simp only [List.length_append, List.length_cons, List.length_nil] at h2 ⊢
  omega
noncomputable def saveP (D : PD) (g : Int) (l : List Int) : PD × Int :=
  if 4 < l.length then (D, 2) else if (flushP D).2 ≠ 0 then flushP D else
    if (writeP (flushP D).1 (g % 2) (slotB g l)).2 ≠ 0 then writeP (flushP D).1 (g % 2) (slotB g l) else flushP (writeP (flushP D).1 (g % 2) (slotB g l)).1
def SvQ (w : World) (B M Bd : Nat) (vc : Value) (D' : PD) (e : Int) (r : Ending) (w' : World) : Prop := r = .returned (.int .i64 e) ∧ ∃ vc', At w (FP B M Bd vc) w' B M Bd vc' D'
section
variable {w : World} {base B M Bd : Nat} {vc : Value} {D D1 D2 D3 : PD} {g : Int} {l : List Int} {A : Option Addr} {c : Nat} {e : Int}
theorem save_long (hl : 4 < l.length) (h : DK w base B M Bd vc D) : Calls Try.prog 42 #[.pointer (some ⟨B, 0, none⟩), .int .u64 g, .slice A l.length c] w (SvQ w B M Bd vc D 2) := by
  have HD := Aside0.mk (At.refl h)
  have HS := Aside0.mk (slot_long w g l A c hl)
  clear h hl
  go_enter Try.func42, Try.ntmps42
  go_wp2_with (first
    | (go_at_call 37; (with_reducible refine HS.out.mono ?_); rintro e w2 ⟨rfl, rfl⟩))
  go_ret
  exact ⟨rfl, vc, HD.out⟩
theorem save_f1 (he : e ≠ 0) (hf : flushP D = (D1, e)) (hg : 0 ≤ g ∧ g < 18446744073709551616) (hn : ∀ n ∈ l, 0 ≤ n ∧ n < 18446744073709551616) (hl : l.length ≤ 4) (hC : (Kd.int .u64).C w A l.length l) (hc : D.cache.length ≤ 1000) (h : DK w base B M Bd vc D) : Calls Try.prog 42 #[.pointer (some ⟨B, 0, none⟩), .int .u64 g, .slice A l.length c] w (SvQ w B M Bd vc D1 e) := by
  have HD := Aside0.mk (At.refl h)
  have HS := Aside0.mk (slot_calls w g l A c hg hn hl hC)
  have HC := Aside0.mk hc
  have HF := Aside0.mk hf
  have hb : (e != 0) = true := by simpa using he
  clear h hl hg hn hC hc hf
  go_enter Try.func42, Try.ntmps42
  go_wp2_with (first
    | (go_at_call 37; (with_reducible refine HS.out.mono ?_); rintro e w2 ⟨A2, c2, rfl, hr, hb⟩; have HR2 := Aside0.mk hr; have HD2 := Aside0.mk (HD.out.grow (.of_below hb)); clear hr hb)
    | (go_at_call 18; (with_reducible refine (at_flush _ HF.out HC.out HD2.out).mono ?_); rintro e w3 ⟨rfl, vc3, hd⟩; have HD3 := Aside0.mk hd; clear hd))
  go_ret
  exact ⟨rfl, vc3, HD3.out⟩
theorem R_past {α : Type} {d : Kd α} {e : Nat} {w0 w w' : World} {v : Value} {xs : List α} {S : Nat → Prop} (h : d.R e w w0.heap.size (fun k => w0.heap.size ≤ k) v xs) (hc : Chg w w' S) (hs : ∀ k, S k → k < w0.heap.size) : d.R e w' w0.heap.size (fun k => w0.heap.size ≤ k) v xs :=
  Kd.R_step h (fun k hk hl => hc.block k hl (fun hf => absurd (hs k hf) (Nat.not_lt.2 hk)))
theorem sec_pad {w w' : World} {B M Bd : Nat} {vc : Value} {D : PD} {b : List Int} (hb : b.length ≤ 64) (h : DK w 0 B M Bd vc D) (hc : Chg (w.alloc (.cells (secC (pad b)) 98)) w' (FP B M Bd vc)) : (Kd.int .u8).C w' (some ⟨w.heap.size, 0, none⟩) b.length b := by
  have hl : (pad b).length = 64 := pad_length b hb
  have h1 : w'.heap[w.heap.size]? = some (.cells (secC (pad b)) 98 (0, 0)) := (hc.block _ (by rw [alloc_size]; exact Nat.lt_succ_self _) (fun hf => Nat.lt_irrefl _ (h.fp _ hf).2)).trans (heap_alloc_new w _)
  have h2 := Kd.C_take (m := b.length) (sec_C w' w.heap.size (pad b) 98 (0, 0) (by omega) h1) (by omega)
  rwa [pad_take] at h2
set_option maxRecDepth 100000 in
theorem save_go (hf : flushP D = (D1, 0)) (hw : writeP D1 (g % 2) (slotB g l) = (D2, 0)) (hf3 : flushP D2 = (D3, e)) (hg : 0 ≤ g ∧ g < 18446744073709551616) (hn : ∀ n ∈ l, 0 ≤ n ∧ n < 18446744073709551616) (hl : l.length ≤ 4) (hC : (Kd.int .u64).C w A l.length l) (hc : D.cache.length ≤ 1000) (hc3 : D1.cache.length ≤ 1000 ∧ D2.cache.length ≤ 1000) (h : DK w base B M Bd vc D) : Calls Try.prog 42 #[.pointer (some ⟨B, 0, none⟩), .int .u64 g, .slice A l.length c] w (SvQ w B M Bd vc D3 e) := by
  have HD := Aside0.mk (At.refl h)
  have HFP := Aside0.mk (fun k hk => (h.fp k hk).2)
  have HC3 := Aside0.mk hc3
  have HW := Aside0.mk hw
  have HF3 := Aside0.mk hf3
  have hw64 := slotB_64 g l hl
  obtain ⟨want, hwant⟩ : ∃ want, slotB g l = want := ⟨_, rfl⟩
  have HS := Aside0.mk (slot_calls w g l A c hg hn hl hC)
  rw [hwant] at HS HW hw64
  have HW64 := Aside0.mk hw64
  have hw64i : (want.length : Int) ≤ 64 := by omega
  have HC := Aside0.mk hc
  have HF := Aside0.mk hf
  obtain ⟨hg0, hg1⟩ := hg
  clear h hl hn hC hc hf hc3 hw hf3 hwant hw64
  go_enter Try.func42, Try.ntmps42
  go_wp2_with (first
    | (go_at_call 37; (with_reducible refine HS.out.mono ?_); rintro e w2 ⟨A2, c2, rfl, hr, hb⟩; have HR2 := Aside0.mk hr; have HD2 := Aside0.mk (HD.out.grow (.of_below hb)); clear hr hb)
    | (go_at_call 18; (with_reducible refine (at_flush _ HF.out HC.out (At.refl HD2.out.dk)).mono ?_); rintro e w3 ⟨rfl, vc3, hd⟩; have HD3 := Aside0.mk (HD2.out.then_ hd); have HR3 := Aside0.mk (R_past HR2.out hd.chg HFP.out); clear hd)
    | ((with_reducible refine gate_builtin (b := .copy) (xs := #[.tmp 28, .tmp 29]) rfl ?_); go_loud (refine Kd.event_run rfl (ex_copy rfl rfl rfl (run_copy_sec w3 want HW64.out A2 c2 3 (Kd.C_below (Kd.R_reads' HR3.out).2.2 (Below.alloc (Below.refl _ _) (Nat.le_refl _) _)))) ?_); simp only [Act.put, List.setIfInBounds_toArray, List.set_cons_succ, List.set_cons_zero]; have HD4 := Aside0.mk (HD3.out.grow (.of_below (Below.alloc (Below.refl _ _) (Nat.le_refl _) (.cells (secC (pad want)) 98)))); have HK4 := Aside0.mk (At.refl HD4.out.dk); have HB4 := Aside0.mk (fun (w' : World) (hc : Chg (w3.alloc (.cells (secC (pad want)) 98)) w' (FP B M Bd vc3)) => sec_pad HW64.out HD3.out.dk hc))
    | (go_at_call 17; go_loud (refine (at_write (g % 2) 0 (some ⟨w3.heap.size, 0, none⟩) 64 want HW.out HC3.out.1 HB4.out HK4.out).mono ?_); rintro e w5 ⟨rfl, vc5, hd⟩; have HD5 := Aside0.mk (HD4.out.then_ hd); clear hd)
    | (go_at_call 18; (with_reducible refine (at_flush _ HF3.out HC3.out.2 HD5.out).mono ?_); rintro e w6 ⟨rfl, vc6, hd⟩; have HD6 := Aside0.mk hd; clear hd))
  go_ret
  exact ⟨rfl, vc6, HD6.out⟩
set_option maxRecDepth 100000 in
theorem save_w (he : e ≠ 0) (hf : flushP D = (D1, 0)) (hw : writeP D1 (g % 2) (slotB g l) = (D2, e)) (hg : 0 ≤ g ∧ g < 18446744073709551616) (hn : ∀ n ∈ l, 0 ≤ n ∧ n < 18446744073709551616) (hl : l.length ≤ 4) (hC : (Kd.int .u64).C w A l.length l) (hc : D.cache.length ≤ 1000) (hc3 : D1.cache.length ≤ 1000 ∧ D2.cache.length ≤ 1000) (h : DK w base B M Bd vc D) : Calls Try.prog 42 #[.pointer (some ⟨B, 0, none⟩), .int .u64 g, .slice A l.length c] w (SvQ w B M Bd vc D2 e) := by
  have HD := Aside0.mk (At.refl h)
  have HFP := Aside0.mk (fun k hk => (h.fp k hk).2)
  have HC3 := Aside0.mk hc3
  have HW := Aside0.mk hw
  have hbe : (e != 0) = true := by simpa using he
  have hw64 := slotB_64 g l hl
  obtain ⟨want, hwant⟩ : ∃ want, slotB g l = want := ⟨_, rfl⟩
  have HS := Aside0.mk (slot_calls w g l A c hg hn hl hC)
  rw [hwant] at HS HW hw64
  have HW64 := Aside0.mk hw64
  have hw64i : (want.length : Int) ≤ 64 := by omega
  have HC := Aside0.mk hc
  have HF := Aside0.mk hf
  obtain ⟨hg0, hg1⟩ := hg
  clear h hl hn hC hc hf hc3 hw hwant hw64
  go_enter Try.func42, Try.ntmps42
  go_wp2_with (first
    | (go_at_call 37; (with_reducible refine HS.out.mono ?_); rintro e w2 ⟨A2, c2, rfl, hr, hb⟩; have HR2 := Aside0.mk hr; have HD2 := Aside0.mk (HD.out.grow (.of_below hb)); clear hr hb)
    | (go_at_call 18; (with_reducible refine (at_flush _ HF.out HC.out (At.refl HD2.out.dk)).mono ?_); rintro e w3 ⟨rfl, vc3, hd⟩; have HD3 := Aside0.mk (HD2.out.then_ hd); have HR3 := Aside0.mk (R_past HR2.out hd.chg HFP.out); clear hd)
    | ((with_reducible refine gate_builtin (b := .copy) (xs := #[.tmp 28, .tmp 29]) rfl ?_); go_loud (refine Kd.event_run rfl (ex_copy rfl rfl rfl (run_copy_sec w3 want HW64.out A2 c2 3 (Kd.C_below (Kd.R_reads' HR3.out).2.2 (Below.alloc (Below.refl _ _) (Nat.le_refl _) _)))) ?_); simp only [Act.put, List.setIfInBounds_toArray, List.set_cons_succ, List.set_cons_zero]; have HD4 := Aside0.mk (HD3.out.grow (.of_below (Below.alloc (Below.refl _ _) (Nat.le_refl _) (.cells (secC (pad want)) 98)))); have HK4 := Aside0.mk (At.refl HD4.out.dk); have HB4 := Aside0.mk (fun (w' : World) (hc : Chg (w3.alloc (.cells (secC (pad want)) 98)) w' (FP B M Bd vc3)) => sec_pad HW64.out HD3.out.dk hc))
    | (go_at_call 17; go_loud (refine (at_write (g % 2) e (some ⟨w3.heap.size, 0, none⟩) 64 want HW.out HC3.out.1 HB4.out HK4.out).mono ?_); rintro e' w5 ⟨rfl, vc5, hd⟩; have HD5 := Aside0.mk (HD4.out.then_ hd); clear hd))
  go_ret
  exact ⟨rfl, vc5, HD5.out⟩
theorem save_calls (hsv : saveP D g l = (D1, e)) (hg : 0 ≤ g ∧ g < 18446744073709551616) (hn : ∀ n ∈ l, 0 ≤ n ∧ n < 18446744073709551616) (hC : (Kd.int .u64).C w A l.length l) (hc : D.cache.length ≤ 900) (h : DK w base B M Bd vc D) :
    Calls Try.prog 42 #[.pointer (some ⟨B, 0, none⟩), .int .u64 g, .slice A l.length c] w (SvQ w B M Bd vc D1 e) := by
  unfold saveP at hsv
  split at hsv
  · cases hsv
    exact save_long (by assumption) h
  · rename_i hl
    have q1 := flushP_cache D
    have q2 := writeP_cache (flushP D).1 (g % 2) (slotB g l)
    obtain ⟨Da, ea, hf⟩ : ∃ Da ea, flushP D = (Da, ea) := ⟨_, _, rfl⟩
    rw [hf] at hsv q1 q2
    simp only at hsv q1 q2
    obtain ⟨Db, eb, hw⟩ : ∃ Db eb, writeP Da (g % 2) (slotB g l) = (Db, eb) := ⟨_, _, rfl⟩
    rw [hw] at hsv q2
    simp only at hsv q2
    split at hsv
    · cases hsv
      exact save_f1 (by assumption) hf hg hn (by omega) hC (by omega) h
    · rename_i he
      obtain rfl : ea = 0 := by simpa using he
      split at hsv
      · cases hsv
        exact save_w (by assumption) hf hw hg hn (by omega) hC (by omega) ⟨by omega, by omega⟩ h
      · rename_i he
        obtain rfl : eb = 0 := by simpa using he
        exact save_go hf hw hsv hg hn (by omega) hC (by omega) ⟨by omega, by omega⟩ h
end
end Go.Proofs.Ytlepcmljmibdnaa
namespace Go.Proofs.Ytlepcmljmibdnaa
open Go.RowKit Go.Proofs.YtlepcmljmibdnaaW.PrintWords Go.Proofs.YtlepcmljmibdnaaW.PrintLast Go.Proofs.YtlepcmljmibdnaaW.PrintMore PDiskArms
set_option linter.unusedVariables false
set_option linter.unusedSimpArgs false
def wrs (D : PD) (l : List S31) : PD := l.foldl (fun D x => (writeP D x.f1 x.f2).1) D
structure Quiet (D : PD) : Prop where
  dead : D.dead = false
  armed : D.armed = false
structure Wr (D0 D : PD) (l : List S31) : Prop where
  q : Quiet D
  kept : D.kept = D0.kept
  n : D.n = D0.n
  bad : D.bad = D0.bad
  len : D.cache.length ≤ D0.cache.length + l.length
  cache : ∀ p ∈ D.cache, p ∈ D0.cache ∨ ∃ x ∈ l, p.1 = x.f1 ∧ x.f2.length ≤ 64 ∧ p.2 = pad x.f2
theorem keepP_at (D : PD) (p : Int × List Int) (i : Int) : ((keepP D p).kept i).getD zsec = if i = p.1 then p.2 else (D.kept i).getD zsec := by
  unfold keepP
  simp only
  by_cases h : i = p.1
  · rw [if_pos h, if_pos h]
    by_cases hz : p.2 = zsec
    · rw [if_pos hz, hz]; rfl
    · rw [if_neg hz]; rfl
  · rw [if_neg h, if_neg h]
end Go.Proofs.Ytlepcmljmibdnaa
