/- Parts of one proof, joined: Uo, Us, Ur. Conditions: those of each statement. -/
import Derived.Test.YtlepcmljmibdnaaSc7
namespace Go.Proofs.Ytlepcmljmibdnaa
open Go.RowKit Go.Proofs.YtlepcmljmibdnaaW.PrintWords Go.Proofs.YtlepcmljmibdnaaW.PrintLast Go.Proofs.YtlepcmljmibdnaaW.PrintMore PWalOpens
set_option linter.unusedVariables false
set_option linter.unusedSimpArgs false
/-- a slice of bytes that came in, or was made: what it reads as, and what its words are -/
structure SB (w : World) (A : Option Addr) (c : Nat) (b : List Int) : Prop where
  C : (Kd.int .u8).C w A b.length b
  cap : b.length ≤ c
  c63 : c ≤ 9223372036854775807
  none_ : A = none → b.length = 0 ∧ c = 0
theorem SB.move {w w' : World} {A : Option Addr} {c : Nat} {b : List Int} (h : SB w A c b) (hb : Below w.heap.size w w') : SB w' A c b := ⟨Kd.C_below h.C hb, h.cap, h.c63, h.none_⟩
theorem of_short (w : World) (A : Option Addr) (c : Nat) (b : List Int) (hl : b.length < 2) :
    Calls Try.prog 39 #[.slice A b.length c] w fun e w' => e = .returned (.tuple #[.int .u64 0, .slice none 0 0, .int .i64 60]) ∧ w = w' := by
  have h1 : decide ((b.length : Int) < 2) = true := by simp; omega
  go_enter Try.func39, Try.ntmps39
  go_wp2_with fail
  go_ret3
  exact ⟨rfl, rfl⟩
theorem u8_inj {a b : Int} (ha : 0 ≤ a ∧ a < 256) (hb : 0 ≤ b ∧ b < 256) (h : UInt8.ofNat a.toNat = UInt8.ofNat b.toNat) : a = b := by
  have := congrArg UInt8.toNat h
  simp only [UInt8.toNat_ofNat'] at this
  omega
theorem bytes_inj : ∀ (x y : List Int), isBytes x → isBytes y → (x.map fun n => UInt8.ofNat n.toNat) = (y.map fun n => UInt8.ofNat n.toNat) → x = y := by
  intro x
  induction x with
  | nil => intro y _ _ h; cases y with | nil => rfl | cons b y => simp at h
  | cons a x ih =>
    intro y hx hy h
    cases y with
    | nil => simp at h
    | cons b y =>
      simp only [List.map_cons, List.cons.injEq] at h
      rw [u8_inj (hx a (by simp)) (hy b (by simp)) h.1, ih y (fun n hn => hx n (by simp [hn])) (fun n hn => hy n (by simp [hn])) h.2]
theorem str_list (x : List Int) : (strOfNums x).toList = x.map fun n => UInt8.ofNat n.toNat := by rw [ByteArray.toList_eq]; rfl
theorem str_eq (x y : List Int) (hx : isBytes x) (hy : isBytes y) : ((strOfNums x).toList == (strOfNums y).toList) = decide (x = y) := by
  rw [str_list, str_list, Bool.eq_iff_iff, beq_iff_eq, decide_eq_true_eq]
  exact ⟨bytes_inj x y hx hy, fun h => by rw [h]⟩
theorem fs_isBytes : isBytes [70, 83] := by intro x hx; simp at hx; omega
set_option maxRecDepth 100000 in
theorem of_magic (w : World) (A : Option Addr) (c : Nat) (b : List Int) (hl : 2 ≤ b.length) (h : SB w A c b) (hby : isBytes b) (hm : b.take 2 ≠ [70, 83]) :
    Calls Try.prog 39 #[.slice A b.length c] w fun e w' => e = .returned (.tuple #[.int .u64 0, .slice none 0 0, .int .i64 60]) ∧ w = w' := by
  have h1 : decide ((b.length : Int) < 2) = false := by simp; omega
  have hcap := h.cap
  have hC := Kd.C_take h.C hl
  have e2 : (b.take 2).length = 2 := by rw [List.length_take]; omega
  rw [e2] at hC
  have hcv := Kd.C_string (c := c) Try.underlying29 Try.underlying5 Try.underlying9 hC
  have hne : ((strOfNums (b.take 2)).toList == (strOfNums [70, 83]).toList) = false := by
    rw [str_eq _ _ (hby.take 2) fs_isBytes]
    simpa using hm
  rw [show (strOfNums [70, 83]).toList = [70, 83] from str_list _] at hne
  obtain ⟨s, hs⟩ : ∃ s, strOfNums (b.take 2) = s := ⟨_, rfl⟩
  rw [hs] at hcv hne
  have hc2 : (2 : Int) ≤ (c : Int) := by omega
  have hl2 : (2 : Int) ≤ (b.length : Int) := by omega
  clear hC e2 h hm hby hs hl hcap
  go_enter Try.func39, Try.ntmps39
  go_wp2_with fail
  go_ret3
  exact ⟨rfl, rfl⟩
theorem SB.tail {w : World} {ad : Addr} {c k : Nat} {b : List Int} {A1 : Option Addr} (h : SB w (some ad) c b) (hk0 : 0 < k) (hk : k ≤ b.length) (hA : (if c = k then some ad else some { block := ad.block, off := ad.off + k }) = A1) : SB w A1 (c - k) (b.drop k) := by
  subst hA
  have C2 := Kd.C_drop (m := k) (c := c) h.C hk h.cap
  have hm : k * (Kd.int .u8).sz = k := Nat.mul_one k
  have e : (if c = k then some ad else Option.map (fun x => x.add (k * (Kd.int .u8).sz)) (some ad)) = (if c = k then some ad else some { block := ad.block, off := ad.off + k }) := by
    rw [hm]
    split
    · rfl
    · unfold Addr.add
      rw [Option.map_some, if_neg (by omega)]
  rw [e] at C2
  refine ⟨C2, by have := h.cap; rw [List.length_drop]; omega, by have := h.c63; omega, fun h0 => ?_⟩
  split at h0 <;> cases h0
theorem len_tail (b : List Int) (k : Nat) : (b.drop k).length = b.length - k := List.length_drop
/-- of numbers: from the reader's head on -/
def OfQ (w : World) (b : List Int) (e : Ending) (w' : World) : Prop := ∃ A c, e = .returned (.tuple #[.int .u64 (unP b).1, .slice A (unP b).2.1.length c, .int .i64 (unP b).2.2]) ∧ Kd.R (Kd.int .u64) 56 w' w.heap.size (fun k => w.heap.size ≤ k) (.slice A (unP b).2.1.length c) (unP b).2.1 ∧ Below w.heap.size w w'
theorem equalB_l : ∀ (k : Nat) (l0 l1 : List Int) (i : Nat), l0.length = l1.length → l0.length ≤ 1000000 → l0.length < k + i → i ≤ l0.length → slices_Equal_byte_byte.l0 k l0 l1 (l0.length : Int) (i : Int) = some (decide (l0.drop i = l1.drop i)) := by
  intro k
  induction k with
  | zero => intro l0 l1 i _ _ h h'; omega
  | succ k ih =>
    intro l0 l1 i he hl h h'
    rw [slices_Equal_byte_byte.l0]
    by_cases hi : i < l0.length
    · rw [if_pos (by omega), if_pos (by omega), if_pos (by omega), if_pos (by omega)]
      have h1 : l0[i]? = some l0[i] := List.getElem?_eq_getElem hi
      have h2 : l1[i]? = some (l1[i]'(by omega)) := List.getElem?_eq_getElem (by omega)
      rw [show rd l0 (i : Int) = l0[i] by simp [rd, List.getD, h1], show rd l1 (i : Int) = l1[i]'(by omega) by simp [rd, List.getD, h2]]
      rw [List.drop_eq_getElem_cons hi, List.drop_eq_getElem_cons (show i < l1.length by omega)]
      by_cases hx : l0[i] = l1[i]'(by omega)
      · rw [if_pos hx, show wrap64 ((i : Int) + 1) = ((i + 1 : Nat) : Int) by unfold wrap64; omega, ih l0 l1 (i + 1) he hl (by omega) (by omega)]
        rw [Option.some.injEq, decide_eq_decide, List.cons.injEq]
        exact ⟨fun h => ⟨hx, h⟩, fun h => h.2⟩
      · rw [if_neg hx, Option.some.injEq, eq_comm, decide_eq_false_iff_not, List.cons.injEq]
        exact fun h => hx h.1
    · rw [if_neg (by omega), List.drop_of_length_le (by omega), List.drop_of_length_le (by omega)]
      simp
theorem equalB_f (l0 l1 : List Int) (he : l0.length = l1.length) (hl : l0.length ≤ 1000000) : slices_Equal_byte_byte.f (l0.length + 1) l0 l1 = some (decide (l0 = l1)) := by
  unfold slices_Equal_byte_byte.f
  rw [if_pos (by omega)]
  have := equalB_l (l0.length + 1) l0 l1 0 he hl (by omega) (by omega)
  simpa using this
theorem ofEq (w : World) (A0 : Option Addr) (c0 : Nat) (l0 l1 : List Int) (r : Bool) (A1 : Option Addr) (c1 n : Nat) (h0 : l0.length = n) (h1 : l1.length = n) {w0 : World} {ok : Nat → Prop} (hr0 : Kd.R (Kd.int .u8) 5 w w0.heap.size ok (.slice A0 n c0) l0) (hr1 : (Kd.int .u8).C w A1 n l1) (hc1 : n ≤ c1) (h : slices_Equal_byte_byte.f (l0.length + 1) l0 l1 = some r) :
    Calls Try.prog 81 #[.slice A0 n c0, .slice A1 n c1] w fun e w' => e = .returned (.bool r) ∧ Drawn0 w w' := by
  obtain ⟨e1, e2, e3⟩ := Kd.R_reads' hr0
  subst h0
  have := slices_Equal_byte_byte.calls (l0.length + 1) A0 c0 l0 A1 c1 l1 r w e3 e2 (by rw [h1]; exact hr1) (by omega) h
  rwa [h1] at this
theorem ofZ (w : World) (A : Option Addr) (c : Nat) (b : List Int) (n : Nat) (z : Bool) (hz : allZ b = z) (hn : b.length = n) (hl : b.length ≤ 1000000) (h : SB w A c b) :
    Calls Try.prog 82 #[.slice A n c] w fun e w' => e = .returned (.bool z) ∧ w = w' := by
  subst hn
  exact noughts_calls w A c b z hz hl h.C
theorem bel_drewN {b : Nat} {w w' : World} (h : Below b w w') (n : Nat) : Below b w (w'.drewN n) := ⟨h.os, h.tape, h.output, h.size, h.block⟩
theorem drewN_below (w : World) (n : Nat) : Below w.heap.size w (w.drewN n) := ⟨rfl, rfl, rfl, Nat.le_refl _, fun _ _ => rfl⟩
theorem info56 : (Try.prog.info? 56).map (fun i => (i.zero, i.size, i.bytes)) = some (some (.int .u64 0), (Kd.int .u64).sz, 8) := by kernel_rfl
theorem GX.hB {w : World} {base B : Nat} {xs : List Int} {bad : Bool} (h : GX w base B xs bad) : base ≤ B := by
  obtain ⟨A, c, hk, _⟩ := h
  exact hk.hB
theorem R_at_B {α : Type} {d : Kd α} {e b1 B : Nat} {w w' : World} {v : Value} {xs : List α} (h : d.R e w b1 (fun _ => True) v xs) (hc : Chg w w' (fun k => k = B)) (hB : B < b1) : d.R e w' b1 (fun _ => True) v xs :=
  Kd.R_mono (Kd.R_step (Kd.R_bound h) (fun k hk hl => hc.block k hl (fun e => by have := hk.2.1; omega))) (fun _ _ => trivial)
theorem own_not {α : Type} {d : Kd α} {e b1 : Nat} {w : World} {v : Value} {xs : List α} (h : d.R e w b1 (fun _ => True) v xs) (k : Nat) (hk : k < b1) (he : some k = v.ownBlock) : False := by
  obtain ⟨inner, ho⟩ := Kd.R_own h
  have := own_base ho k he.symm
  omega
set_option maxRecDepth 100000 in
theorem of_main (w : World) (ad : Addr) (c : Nat) (b : List Int) (hl : 2 ≤ b.length) (hl2 : b.length ≤ 1000000) (h : SB w (some ad) c b) (hby : isBytes b) (hm : b.take 2 = [70, 83]) :
    Calls Try.prog 39 #[.slice (some ad) b.length c] w (OfQ w b) := by
  have h1 : decide ((b.length : Int) < 2) = false := by simp; omega
  have hcap := h.cap
  have hC := Kd.C_take h.C hl
  have e2 : (b.take 2).length = 2 := by rw [List.length_take]; omega
  rw [e2, hm] at hC
  have hcv := Kd.C_string (c := c) Try.underlying29 Try.underlying5 Try.underlying9 hC
  rw [show strOfNums [70, 83] = ⟨#[70, 83]⟩ from rfl] at hcv
  have hc2 : (2 : Int) ≤ (c : Int) := by omega
  have hl2 : (2 : Int) ≤ (b.length : Int) := by omega
  obtain ⟨A1, hA1⟩ : ∃ A1, (if c = 2 then some ad else some { block := ad.block, off := ad.off + 2 }) = A1 := ⟨_, rfl⟩
  have hT := h.tail (by decide) hl hA1
  have hR := gread_calls w A1 (c - 2) (b.drop 2) (by rw [len_tail]; omega) hT.none_ hT.C
  rw [len_tail] at hR
  have HR := Aside0.mk hR
  have H := Aside0.mk h
  have HBY := Aside0.mk hby
  have HM := Aside0.mk hm
  obtain ⟨pg, p4, pn, pl, pb⟩ := slot_parts b hby
  obtain ⟨g, r1, b1, e1⟩ : ∃ g r1 b1, slotG b = (g, r1, b1) := ⟨_, _, _, rfl⟩
  obtain ⟨n, r2, b2, e3⟩ : ∃ n r2 b2, slotC b = (n, r2, b2) := ⟨_, _, _, rfl⟩
  have E1 := Aside0.mk (show rdN (b.drop 2) false 18446744073709551615 = (g, r1, b1) from e1)
  have E2 := Aside0.mk (show rdN r1 b1 4 = (n, r2, b2) from by have := e3; unfold slotC at this; rwa [e1] at this)
  have EL := Aside0.mk (show slotL b = readK n.toNat r2 b2 from by unfold slotL; rw [e3])
  rw [e1] at pg
  rw [e3] at p4
  simp only at pg p4
  obtain ⟨N, rfl⟩ := Int.eq_ofNat_of_zero_le p4.1
  have hN4 : N ≤ 4 := by omega
  rw [Int.toNat_natCast] at EL
  have PG := Aside0.mk pg
  have PN := Aside0.mk pn
  have PL := Aside0.mk pl
  have PB := Aside0.mk pb
  have E0 := Aside0.mk e1
  clear hC e2 h hm hby hl hcap hT hR pg p4 pn pl pb e1 e3
  go_enter Try.func39, Try.ntmps39
  go_wp2_with (first
    | (go_at_call 78; with_reducible refine HR.out.mono ?_; rintro e w1 ⟨B, rfl, hg, hb⟩; have HG1 := Aside0.mk (GS.refl hg (HBY.out.drop 2) (fun h => by cases h)); have HB1 := Aside0.mk hb; clear hg hb)
    | (go_at_call 79; with_reducible refine (GS.n (by decide) E1.out HG1.out).mono ?_; rintro e w2 ⟨rfl, hg⟩; have HG2 := Aside0.mk hg; clear hg)
    | (go_at_call 79; with_reducible refine (GS.n (by decide) E2.out HG2.out).mono ?_; rintro e w3 ⟨rfl, hg⟩; have HG3 := Aside0.mk hg; clear hg))
  have HG4 := Aside0.mk (GS.refl HG3.out.x HG3.out.bytes HG3.out.nb)
  have HB3 := Aside0.mk (HB1.out.trans (HG3.out.chg.below HB1.out.size (fun k hk => by subst hk; exact HG3.out.x.hB)))
  have HBL := Aside0.mk HG3.out.x.lt
  go_loopg [3, 6] N (fun kq v3 v6 w' => ∃ (i : Nat), v6 = .int .u64 (kq : Int) ∧ Aside0 (i + kq = N) ∧ Aside0 (GS w3 w' w.heap.size B (readK i r2 b2).2.1 (readK i r2 b2).2.2) ∧ Aside0 (Kd.R (Kd.int .u64) 56 w' w3.heap.size (fun _ => True) v3 (readK i r2 b2).1))
  case atStart => exact ⟨0, rfl, ⟨by omega⟩, HG4, ⟨Kd.R_nil _ _ _ _ _⟩⟩
  case round =>
    obtain ⟨i, rfl, HI, HGr, HRr⟩ := hrel
    obtain ⟨A3, c3, rfl⟩ := Kd.R_slice HRr.out
    by_cases hk0 : gk = 0
    · subst hk0
      obtain rfl : i = N := by have := HI.out; omega
      have EQ := EL.out
      rw [← EQ] at HGr HRr ⊢
      have HV := Aside0.mk (slotV_short b HBY.out HM.out)
      have HVP := Aside0.mk (slotV_prog b HBY.out HM.out)
      have HRD := Aside0.mk (slot_read b HBY.out HM.out)
      have HUN := Aside0.mk (show unP b = if slotV b then ((slotG b).1, (slotL b).1, 0) else (0, [], 60) by unfold unP; rw [if_pos HM.out])
      rw [E0.out] at HVP HRD HUN
      simp only at HVP HRD HUN
      obtain ⟨l, hL1⟩ : ∃ l, (slotL b).1 = l := ⟨_, rfl⟩
      obtain ⟨r3, hL2⟩ : ∃ r3, (slotL b).2.1 = r3 := ⟨_, rfl⟩
      obtain ⟨b3, hL3⟩ : ∃ b3, (slotL b).2.2 = b3 := ⟨_, rfl⟩
      rw [hL1] at HRr HVP HRD HUN PN PL ⊢
      rw [hL2] at HGr HV HVP HRD PB
      rw [hL3] at HGr HRD PB
      clear EQ EL E0 E1 E2 hL1 hL2 hL3
      have HBr := Aside0.mk (HB3.out.trans (HGr.out.chg.below HB3.out.size (fun k hk => by subst hk; exact HGr.out.x.hB)))
      have hz : ¬ ((0 : Int) < ((0 : Nat) : Int)) := by omega
      by_cases hr4 : r3.length < 4
      · have HU := Aside0.mk (show unP b = (0, [], 60) from by rw [HUN.out, HV.out hr4]; rfl)
        have hr4' : (r3.length : Int) < 4 := by omega
        clear hr4
        go_wp2_with (go_at_call 80; with_reducible refine (GS.left r3.length rfl HGr.out).mono ?_; rintro e w' ⟨rfl, rfl⟩)
        go_ret3
        unfold OfQ
        rw [HU.out]
        exact ⟨none, 0, rfl, Kd.R_nil _ _ _ _ _, HBr.out⟩
      · have hr4' : ¬ ((r3.length : Int) < 4) := by omega
        have hb3 : b3 = false := by
          cases b3 with
          | false => rfl
          | true => rw [PB.out rfl] at hr4; simp at hr4
        obtain ⟨hbs, _⟩ := HRD.out hb3
        have hbl := congrArg List.length hbs
        rw [List.length_append] at hbl
        obtain ⟨sz, hsz⟩ : ∃ sz : Nat, b.length - r3.length = sz := ⟨_, rfl⟩
        have hvp := HVP.out (by omega)
        rw [hsz] at hvp
        have hsI : (b.length : Int) - (r3.length : Int) = (sz : Int) := by omega
        have hszc : (sz : Int) + 4 ≤ (c : Int) := by have := H.out.cap; omega
        have hszb : (sz : Int) + 4 ≤ (b.length : Int) := by omega
        have hlb6 : (b.drop (sz + 4)).length ≤ 1000000 := by rw [List.length_drop]; omega
        have hwl : (slotB g l).length = sz + 4 := by rw [slotB_len]; omega
        have hC4 := Kd.C_take H.out.C (m := sz + 4) (by omega)
        have hl4 : (b.take (sz + 4)).length = sz + 4 := by rw [List.length_take]; omega
        obtain ⟨want, hwant⟩ : ∃ want, slotB g l = want := ⟨_, rfl⟩
        obtain ⟨b4, hb4⟩ : ∃ b4, b.take (sz + 4) = b4 := ⟨_, rfl⟩
        rw [hwant] at hwl hvp
        rw [hb4] at hvp hC4 hl4
        have HEQ := Aside0.mk (equalB_f want b4 (by omega) (by omega))
        have HSL := Aside0.mk (slot_calls wr g l A3 c3 PG.out PN.out PL.out (Kd.R_reads' HRr.out).2.2)
        rw [hwant, hwl] at HSL
        rw [hl4] at hC4
        have HC4 := Aside0.mk hC4
        have HWL := Aside0.mk hwl
        have HL4 := Aside0.mk hl4
        obtain ⟨A5, hA5⟩ : ∃ A5, (if c = sz + 4 then some ad else some { block := ad.block, off := ad.off + (sz + 4) }) = A5 := ⟨_, rfl⟩
        have HT5 := Aside0.mk (H.out.tail (by omega) (by omega) hA5)
        clear hbs hbl hr4 hb3 hsz hwant hb4 hC4 hwl hl4
        have HLB := Aside0.mk hlb6
        by_cases hq : want = b4
        · have HEQ2 := Aside0.mk (show slices_Equal_byte_byte.f (want.length + 1) want b4 = some true from by rw [HEQ.out]; simp [hq])
          by_cases hzz : allZ (b.drop (sz + 4)) = true
          · have HU := Aside0.mk (show unP b = (g, l, 0) from by rw [HUN.out, hvp, hzz]; simp [hq])
            have HZ := Aside0.mk hzz
            clear hq hvp hzz hlb6
            go_wp2_with (first
              | (go_at_call 80; with_reducible refine (GS.left r3.length rfl HGr.out).mono ?_; rintro e w' ⟨rfl, rfl⟩) | (go_at_call 37; with_reducible refine HSL.out.mono ?_; rintro e w7 ⟨A7, c7, rfl, hr, hb⟩; have HR7 := Aside0.mk hr; have HB7 := Aside0.mk hb; have HW7 := Aside0.mk (HBr.out.trans (hb.mono HBr.out.size)); clear hr hb)
              | (go_at_call 81; go_loud (refine (ofEq w7 A7 c7 want b4 true (some ad) c (sz + 4) HWL.out HL4.out HR7.out (Kd.C_below HC4.out HW7.out) (by omega) HEQ2.out).mono ?_); rintro e w8 ⟨rfl, hd⟩; obtain ⟨nd, rfl⟩ := hd.out)
              | (go_at_call 82; go_loud (refine (ofZ (w7.drewN nd) A5 (c - (sz + 4)) (b.drop (sz + 4)) (b.length - (sz + 4)) true HZ.out (len_tail _ _) HLB.out (HT5.out.move (bel_drewN HW7.out nd))).mono ?_); rintro e w8 ⟨rfl, rfl⟩))
            go_ret3
            unfold OfQ
            rw [HU.out]
            exact ⟨A3, c3, rfl, Kd.R_mono (Kd.R_bound (Kd.R_lower (Kd.R_below (Kd.R_below HRr.out HB7.out) (drewN_below w7 nd)) HB3.out.size)) (fun k hk => hk.2.1), bel_drewN HW7.out nd⟩
          · have hzf : allZ (b.drop (sz + 4)) = false := by simpa using hzz
            have HU := Aside0.mk (show unP b = (0, [], 60) from by rw [HUN.out, hvp, hzf]; simp)
            have HZ := Aside0.mk hzf
            clear hq hvp hzz hlb6 hzf
            go_wp2_with (first
              | (go_at_call 80; with_reducible refine (GS.left r3.length rfl HGr.out).mono ?_; rintro e w' ⟨rfl, rfl⟩) | (go_at_call 37; with_reducible refine HSL.out.mono ?_; rintro e w7 ⟨A7, c7, rfl, hr, hb⟩; have HR7 := Aside0.mk hr; have HB7 := Aside0.mk hb; have HW7 := Aside0.mk (HBr.out.trans (hb.mono HBr.out.size)); clear hr hb)
              | (go_at_call 81; go_loud (refine (ofEq w7 A7 c7 want b4 true (some ad) c (sz + 4) HWL.out HL4.out HR7.out (Kd.C_below HC4.out HW7.out) (by omega) HEQ2.out).mono ?_); rintro e w8 ⟨rfl, hd⟩; obtain ⟨nd, rfl⟩ := hd.out)
              | (go_at_call 82; go_loud (refine (ofZ (w7.drewN nd) A5 (c - (sz + 4)) (b.drop (sz + 4)) (b.length - (sz + 4)) false HZ.out (len_tail _ _) HLB.out (HT5.out.move (bel_drewN HW7.out nd))).mono ?_); rintro e w8 ⟨rfl, rfl⟩))
            go_ret3
            unfold OfQ
            rw [HU.out]
            exact ⟨none, 0, rfl, Kd.R_nil _ _ _ _ _, bel_drewN HW7.out nd⟩
        · have HEQ2 := Aside0.mk (show slices_Equal_byte_byte.f (want.length + 1) want b4 = some false from by rw [HEQ.out]; simp [hq])
          have HU := Aside0.mk (show unP b = (0, [], 60) from by rw [HUN.out, hvp]; simp [hq])
          clear hq hvp hlb6
          go_wp2_with (first
            | (go_at_call 80; with_reducible refine (GS.left r3.length rfl HGr.out).mono ?_; rintro e w' ⟨rfl, rfl⟩) | (go_at_call 37; with_reducible refine HSL.out.mono ?_; rintro e w7 ⟨A7, c7, rfl, hr, hb⟩; have HR7 := Aside0.mk hr; have HB7 := Aside0.mk hb; have HW7 := Aside0.mk (HBr.out.trans (hb.mono HBr.out.size)); clear hr hb)
            | (go_at_call 81; go_loud (refine (ofEq w7 A7 c7 want b4 false (some ad) c (sz + 4) HWL.out HL4.out HR7.out (Kd.C_below HC4.out HW7.out) (by omega) HEQ2.out).mono ?_); rintro e w8 ⟨rfl, hd⟩; obtain ⟨nd, rfl⟩ := hd.out))
          go_ret3
          unfold OfQ
          rw [HU.out]
          exact ⟨none, 0, rfl, Kd.R_nil _ _ _ _ _, bel_drewN HW7.out nd⟩
    obtain ⟨x, rx, bx, hx⟩ : ∃ x rx bx, rdN (readK i r2 b2).2.1 (readK i r2 b2).2.2 18446744073709551615 = (x, rx, bx) := ⟨_, _, _, rfl⟩
    have HX := Aside0.mk hx
    have HSN := Aside0.mk (show readK (i + 1) r2 b2 = ((readK i r2 b2).1 ++ [x], rx, bx) from by rw [readK_snoc]; show (_ ++ [(rdN _ _ 18446744073709551615).1], (rdN _ _ 18446744073709551615).2) = _; rw [hx])
    clear hx
    have HLN := Aside0.mk (show ((readK i r2 b2).1.length + 1) * 8 ≤ 140737488355328 by rw [readK_len]; have := HI.out; omega)
    generalize readK i r2 b2 = st at *
    obtain ⟨l, xs, bad⟩ := st
    simp only at HX HSN HLN HGr HRr
    obtain ⟨gq, rfl⟩ : ∃ gq, gk = gq + 1 := ⟨gk - 1, by omega⟩
    clear hk0
    have hpos : (0 : Int) < ((gq + 1 : Nat) : Int) := by omega
    have hgq : ((gq + 1 : Nat) : Int) ≤ 4 := by have := HI.out; omega
    go_wp2_with (first
      | (go_at_call 79; with_reducible refine (GS.step (by decide) HX.out HGr.out).mono ?_; rintro e w5 ⟨rfl, hg, hc⟩; have HG5 := Aside0.mk hg; have HR5 := Aside0.mk (R_at_B HRr.out hc HBL.out); clear hg hc)
      | ((with_reducible refine gate_builtin (b := .append) (xs := #[.tmp 30, .tmp 33]) rfl ?_); at_builtin; go_loud (refine Kd.R_append (Kd.int .u64) (W := w5) (w0 := w5) w3.heap.size rfl (.tmp 30) (.tmp 33) 57 56 (.int .u64 0) 8 rfl Try.underlying57 info56 rfl (by decide) (by decide) _ l _ [.int .u64 _] (fun _ => True) (fun _ => False) rfl rfl rfl (fun _ h => h.elim) (fun _ _ => trivial) HR5.out (Below.refl _ _) HG5.out.chg.size HLN.out ?_); intro v1 w6 ho hb hg hat; have HG6 := Aside0.mk (HG5.out.grow HBL.out (chg_grown hg fun _ h => h) (fun k hk he => own_not HR5.out k hk he)); have HR6 := Aside0.mk ho; clear ho hb hg hat))
    go_roundg gq
    case rel => exact ⟨i + 1, by go_num, ⟨by have := HI.out; omega⟩, ⟨by rw [HSN.out]; exact HG6.out⟩, ⟨by rw [HSN.out]; exact HR6.out⟩⟩
    case measure => omega
theorem of_calls (w : World) (A : Option Addr) (c : Nat) (b : List Int) (hl2 : b.length ≤ 1000000) (h : SB w A c b) (hby : isBytes b) :
    Calls Try.prog 39 #[.slice A b.length c] w (OfQ w b) := by
  have bad : b.take 2 ≠ [70, 83] → ∀ e w', (e = .returned (.tuple #[.int .u64 0, .slice none 0 0, .int .i64 60]) ∧ w = w') → OfQ w b e w' := by
    intro hm e w' h
    obtain ⟨rfl, rfl⟩ := h
    have hu : unP b = (0, [], 60) := by unfold unP; rw [if_neg hm]
    unfold OfQ
    rw [hu]
    exact ⟨none, 0, rfl, Kd.R_nil _ _ _ _ _, Below.refl _ _⟩
  by_cases hl : b.length < 2
  · have hm : b.take 2 ≠ [70, 83] := fun e => by
      have := congrArg List.length e
      rw [List.length_take] at this
      simp at this
      omega
    exact (of_short w A c b hl).mono (bad hm)
  · by_cases hm : b.take 2 = [70, 83]
    · cases A with
      | none => have := (h.none_ rfl).1; omega
      | some ad => exact of_main w ad c b (by omega) hl2 h hby hm
    · exact (of_magic w A c b (by omega) h hby hm).mono (bad hm)
end Go.Proofs.Ytlepcmljmibdnaa
namespace Go.Proofs.Ytlepcmljmibdnaa
open Go.RowKit Go.Proofs.YtlepcmljmibdnaaW.PrintWords Go.Proofs.YtlepcmljmibdnaaW.PrintLast Go.Proofs.YtlepcmljmibdnaaW.PrintMore PWalOpens
set_option linter.unusedVariables false
set_option linter.unusedSimpArgs false
theorem fixedF (l : List Int) (n : Int) (k : Nat) (hk : k ≤ 8) (hl : l.length + 9 ≤ 140737488355328) : factotumref01_Fixed.f 9 l n (k : Int) = some (l ++ lowB n k) := by
  unfold factotumref01_Fixed.f
  rw [show wrap64 ((k : Int) - 1) = (k : Int) - 1 by unfold wrap64; omega]
  have key : ∀ m, factotumref01_Fixed.l0 (k + 1 + m) l n ((k : Int) - 1) = some (l ++ lowB n k) := by
    intro m
    induction m with
    | zero => exact fixed_l k _ n hk (by omega)
    | succ m ih => exact factotumref01_Fixed.mono_l _ _ _ _ _ ih
  have := key (8 - k)
  rwa [show k + 1 + (8 - k) = 9 by omega] at this
/-- a row of one's own: all of it from b on -/
def OwnB (w : World) (b : Nat) (v : Value) (xs : List Int) : Prop := Kd.R (Kd.int .u8) 5 w b (fun k => b ≤ k) v xs
theorem OwnB.low {w : World} {b b' : Nat} {v : Value} {xs : List Int} (h : OwnB w b v xs) (hb : b' ≤ b) : OwnB w b' v xs := Kd.R_mono (Kd.R_lower h hb) (fun k hk => Nat.le_trans hb hk)
theorem alloc_keep {w : World} {g : Nat} {o o' : Obj} (h : w.heap[g]? = some o) : (w.alloc o').heap[g]? = some o := (Below.alloc (Below.refl w.heap.size w) (Nat.le_refl _) o').block g (Array.getElem?_eq_some_iff.1 h).1 |>.trans h
set_option maxRecDepth 100000 in
theorem refN_lit (w : World) (g : Nat) (n : Int) (fr : Nat × Nat) (hn : 0 ≤ n ∧ n < 18446744073709551616) (r : List Int) (hr : [70, 83] ++ encN n = r) (hg : w.heap[g]? = some (.cells (encs (Value.int .u8) [70, 83]).toArray 5 fr)) :
    Calls Try.prog 75 #[.slice (some ⟨g, 0, none⟩) 2 2, .int .u64 n] w fun e w' => ∃ v, e = .returned v ∧ OwnB w' w.heap.size v r ∧ Below w.heap.size w w' := by
  have HGG := Aside0.mk hg
  have hgl : g < w.heap.size := (Array.getElem?_eq_some_iff.1 hg).1
  have HGL := Aside0.mk hgl
  obtain ⟨hn0, hn1⟩ := hn
  have HR := Aside0.mk hr
  have H1 := Aside0.mk (show 1 ≤ 1000000 by omega)
  have H3 := Aside0.mk (show 2 + 1 ≤ 1000000 by omega)
  clear hg hgl hr
  by_cases h128 : n < 128
  · have HE := Aside0.mk (show encN n = [n] by unfold encN; rw [if_pos h128]; congr 1; omega)
    go_enter Try.func75, Try.ntmps75
    go_wp2_with (first
      | ((with_reducible refine gate_builtin (b := .append) (xs := #[.tmp 8, .tmp 11]) rfl ?_); obtain ⟨v6, w6, hrun, hR6, hB6⟩ := append_lit (w.alloc (.cells #[.int .u8 (n)] 5)) 29 g fr [70, 83] [n] ⟨w.heap.size, 0, none⟩ 1 (alloc_keep HGG.out) (sec_C _ _ [n] 5 (0, 0) H1.out (heap_alloc_new w _)) Nat.one_pos H3.out; go_loud (refine Kd.event_run rfl (ex_append rfl rfl rfl hrun) ?_); simp only [Act.put, List.setIfInBounds_toArray, List.set_cons_succ, List.set_cons_zero]; have HR6 := Aside0.mk hR6; have HB6 := Aside0.mk hB6; clear hR6 hB6 hrun))
    go_ret
    have hb := Below.alloc (Below.refl w.heap.size w) (Nat.le_refl _) (.cells #[.int .u8 (n)] 5)
    rw [← HR.out, HE.out]
    exact ⟨v6, rfl, OwnB.low HR6.out (by rw [alloc_size]; omega), hb.trans (HB6.out.mono (by rw [alloc_size]; omega))⟩
  · have hs := szN_le n
    have HSZ := Aside0.mk (wide_f n)
    have HF := Aside0.mk (fixedF ([70, 83] ++ [128 + (szN n : Int)]) n (szN n) hs.2 (by simp))
    have HE := Aside0.mk (show encN n = (128 + (szN n : Int)) :: lowB n (szN n) by unfold encN; rw [if_neg h128])
    go_enter Try.func75, Try.ntmps75
    go_wp2_with (first
      | (go_at_call 103; refine (factotumref01_wide.calls 9 n (szN n) _ HSZ.out).mono ?_; rintro e w3 ⟨rfl, hd⟩; obtain ⟨nd, rfl⟩ := hd.out)
      | ((with_reducible refine gate_builtin (b := .append) (xs := #[.tmp 15, .tmp 19]) rfl ?_); obtain ⟨v6, w6, hrun, hR6, hB6⟩ := append_lit ((w.drewN nd).alloc (.cells #[.int .u8 (128 + (szN n : Int))] 5)) 29 g fr [70, 83] [128 + (szN n : Int)] ⟨w.heap.size, 0, none⟩ 1 (alloc_keep (w := w.drewN nd) HGG.out) (sec_C _ _ [128 + (szN n : Int)] 5 (0, 0) H1.out (heap_alloc_new (w.drewN nd) _)) Nat.one_pos H3.out; go_loud (refine Kd.event_run rfl (ex_append rfl rfl rfl hrun) ?_); simp only [Act.put, List.setIfInBounds_toArray, List.set_cons_succ, List.set_cons_zero]; have hb := Below.alloc (Below.refl (w.drewN nd).heap.size (w.drewN nd)) (Nat.le_refl _) (.cells #[.int .u8 (128 + (szN n : Int))] 5); have HB6 := Aside0.mk ((bel_drewN (Below.refl w.heap.size w) nd).trans (hb.trans (hB6.mono (by rw [alloc_size]; exact Nat.le_succ _)))); have HR6 := Aside0.mk (OwnB.low hR6 (by rw [alloc_size]; exact Nat.le_succ _)); clear hR6 hB6 hrun hb)
      | (go_at_call 76; go_loud (refine (factotumref01_Fixed.calls 9 (fun k => w.heap.size ≤ k) v6 ([70, 83] ++ [128 + (szN n : Int)]) n (szN n) (([70, 83] ++ [128 + (szN n : Int)]) ++ lowB n (szN n)) w w6 HB6.out HR6.out HF.out).mono ?_); rintro e w7 ⟨v7, rfl, hr, hb, _⟩; have HB7 := Aside0.mk hb; have HR7 := Aside0.mk (show OwnB w7 w.heap.size v7 _ from Kd.R_mono hr (fun k hk => hk.elim id (fun hk => Nat.le_trans HB6.out.size hk))); clear hr hb))
    go_ret
    have e : ([70, 83] ++ [128 + (szN n : Int)]) ++ lowB n (szN n) = r := by rw [← HR.out, HE.out]; rfl
    rw [← e]
    exact ⟨v7, rfl, HR7.out, HB7.out⟩
theorem lowB4 (c : Int) : lowB c 4 = be4 c := by
  have e : c / 256 ^ 0 = c := by rw [Int.pow_zero, Int.ediv_one]
  show [c / 256 ^ 3 % 256, c / 256 ^ 2 % 256, c / 256 ^ 1 % 256, c / 256 ^ 0 % 256] = _
  rw [e]
  rfl
theorem rslot_long (w : World) (gen : Int) (l : List Int) (A : Option Addr) (c : Nat) (hl : 4 < l.length) :
    Calls Try.prog 38 #[.int .u64 gen, .slice A l.length c] w fun e w' => e = .returned (.tuple #[.slice none 0 0, .int .i64 2]) ∧ w = w' := by
  have h : (4 : Int) < (l.length : Int) := by omega
  go_enter Try.func38, Try.ntmps38
  go_wp2
  go_ret2
  exact ⟨rfl, rfl⟩
theorem slot_long (w : World) (gen : Int) (l : List Int) (A : Option Addr) (c : Nat) (hl : 4 < l.length) :
    Calls Try.prog 37 #[.int .u64 gen, .slice A l.length c] w fun e w' => e = .returned (.tuple #[.slice none 0 0, .int .i64 2]) ∧ w = w' := by
  have h : (4 : Int) < (l.length : Int) := by omega
  go_enter Try.func37, Try.ntmps37
  go_wp2
  go_ret2
  exact ⟨rfl, rfl⟩
/-- one number more behind a row of one's own -/
theorem refN_own (w0 w : World) (v : Value) (xs : List Int) (n : Int) (r : List Int) (hr : xs ++ encN n = r) (hn : 0 ≤ n) (hl : xs.length ≤ 1000000) (hb : Below w0.heap.size w0 w) (h : OwnB w w0.heap.size v xs) :
    Calls Try.prog 75 #[v, .int .u64 n] w fun e w' => ∃ v', e = .returned v' ∧ OwnB w' w0.heap.size v' r ∧ Below w0.heap.size w0 w' := by
  subst hr
  refine (factotumref01_N.calls 9 (fun k => w0.heap.size ≤ k) v xs n (xs ++ encN n) w0 w hb h (refN_f xs n hn (by omega))).mono ?_
  rintro e w' ⟨v', rfl, hr, hb', _⟩
  exact ⟨v', rfl, Kd.R_mono hr (fun k hk => hk.elim id (fun hk => Nat.le_trans hb.size hk)), hb'⟩
set_option maxRecDepth 100000 in
theorem rslot_calls (w : World) (gen : Int) (l : List Int) (A : Option Addr) (c : Nat) (hg : 0 ≤ gen ∧ gen < 18446744073709551616) (hn : ∀ n ∈ l, 0 ≤ n ∧ n < 18446744073709551616) (hl : l.length ≤ 4) (hC : (Kd.int .u64).C w A l.length l) :
    Calls Try.prog 38 #[.int .u64 gen, .slice A l.length c] w fun e w' => ∃ A' c', e = .returned (.tuple #[.slice A' (slotB gen l).length c', .int .i64 0]) ∧ OwnB w' w.heap.size (.slice A' (slotB gen l).length c') (slotB gen l) ∧ Below w.heap.size w w' := by
  have hcv := fun (w : World) (C : Array Value) (n c : Nat) => Lib.run_convert_bytes_const (P := Try.prog) w 29 5 C n c Try.underlying29 Try.underlying5
  have HC := Aside0.mk hC
  have HN := Aside0.mk hn
  have HG := Aside0.mk hg
  have hli : (l.length : Int) ≤ 4 := by omega
  have HL := Aside0.mk hl
  obtain ⟨f0, hf0⟩ : ∃ f0, [70, 83] ++ encN gen = f0 := ⟨_, rfl⟩
  obtain ⟨f1, hf1⟩ : ∃ f1, f0 ++ encN (l.length : Int) = f1 := ⟨_, rfl⟩
  have q0 := encN_len gen
  have q1 := encN_len (l.length : Int)
  have l0 := congrArg List.length hf0
  have l1 := congrArg List.length hf1
  rw [List.length_append] at l0 l1
  have hfl : f1.length ≤ 100 := by simp at l0; omega
  have HF0 := Aside0.mk hf0
  have HF1 := Aside0.mk hf1
  have HFL := Aside0.mk hfl
  have HL0 := Aside0.mk (show f0.length ≤ 1000000 by simp at l0; omega)
  have HFIN := Aside0.mk (show f1 ++ encNs l = slotF gen l by rw [← hf1, ← hf0]; unfold slotF; simp [encNs])
  have HBY := Aside0.mk (show isBytes (slotF gen l) from fs_bytes gen l hg hn hl)
  have HI := Aside0.mk (show (0 : Int) ≤ l.length by omega)
  have H75 := Aside0.mk (refN_lit (w.alloc (.cells #[.int .u8 70, .int .u8 83] 5 (2, 3))) w.heap.size gen (2, 3) hg f0 hf0 (heap_alloc_new w _))
  clear hC hn hg hl q0 q1 l0 l1 hfl hf0 hf1
  go_enter Try.func38, Try.ntmps38
  go_wp2_with (first
    | (go_at_call 75; with_reducible refine H75.out.mono ?_; rintro e w3 ⟨v3, rfl, hr, hb⟩; have HB3 := Aside0.mk ((Below.alloc (Below.refl w.heap.size w) (Nat.le_refl _) _).trans (hb.mono (by rw [alloc_size]; exact Nat.le_succ _))); have HR3 := Aside0.mk (OwnB.low hr (by rw [alloc_size]; exact Nat.le_succ _)); clear hr hb)
    | (go_at_call 75; with_reducible refine (refN_own w w3 v3 f0 (l.length : Int) f1 HF1.out HI.out HL0.out HB3.out HR3.out).mono ?_; rintro e w4 ⟨v4, rfl, hr, hb⟩; have HB4 := Aside0.mk hb; have HR4 := Aside0.mk hr; clear hr hb))
  have HL4' := Aside0.mk (Nat.le_of_lt_succ (Nat.lt_succ_of_le HL.out))
  go_loopg [6, 22] l.length (fun kq v6 v22 w' => ∃ (i : Nat), v22 = .int .i64 (i : Int) ∧ Aside0 (i + kq = l.length) ∧ Aside0 (OwnB w' w.heap.size v6 (f1 ++ encNs (l.take i))) ∧ Aside0 (Below w.heap.size w w'))
  case atStart => exact ⟨0, rfl, ⟨by omega⟩, ⟨by rw [List.take_zero]; simp only [encNs, List.flatMap_nil, List.append_nil]; exact HR4.out⟩, HB4⟩
  case round =>
    obtain ⟨i, rfl, HI, HR, HB⟩ := hrel
    have h9 := encNs_len (l.take i)
    have h9' : (l.take i).length ≤ l.length := by rw [List.length_take]; omega
    have HLI := Aside0.mk (show (f1 ++ encNs (l.take i)).length ≤ 1000000 by rw [List.length_append]; have := HFL.out; have := HL.out; omega)
    clear h9 h9'
    by_cases hi : i < l.length
    · obtain ⟨n, hnn⟩ : ∃ n, l[i]? = some n := ⟨_, List.getElem?_eq_getElem hi⟩
      obtain ⟨hn0, hn1⟩ := HN.out n (List.mem_of_getElem? hnn)
      obtain ⟨ad, e, x0⟩ := Kd.at_int (Kd.C_below HC.out HB.out) (i : Int) (by omega) (by omega)
      subst e
      rw [show rd l (i : Int) = n by simp [rd, List.getD, hnn], Int.toNat_natCast] at x0
      have HNN := Aside0.mk (show (f1 ++ encNs (l.take i)) ++ encN n = f1 ++ encNs (l.take (i + 1)) by rw [encNs_succ l i n hnn, List.append_assoc])
      have HN0 := Aside0.mk hn0
      clear hnn
      go_wp2_with (go_at_call 75; with_reducible refine (refN_own w wr _ _ n _ HNN.out HN0.out HLI.out HB.out HR.out).mono ?_; rintro e w5 ⟨v5, rfl, hr, hb⟩; have HB5 := Aside0.mk hb; have HR5 := Aside0.mk hr; clear hr hb)
      have hk1 := HI.out
      obtain ⟨gq, rfl⟩ : ∃ gq, gk = gq + 1 := ⟨gk - 1, by omega⟩
      go_roundg gq
      case rel => exact ⟨i + 1, by go_num, ⟨by omega⟩, HR5, HB5⟩
      case measure => omega
    · have hi0 := HI.out
      obtain rfl : gk = 0 := by omega
      obtain rfl : i = l.length := by omega
      clear hi0
      have hm : ¬ ((l.length : Int) < (l.length : Int)) := by omega
      rw [List.take_length, HFIN.out] at HR HLI
      obtain ⟨A6, c6, hv6⟩ := Kd.R_slice HR.out
      subst hv6
      obtain ⟨fs, hfs⟩ : ∃ fs, slotF gen l = fs := ⟨_, rfl⟩
      rw [hfs] at HR HLI HBY ⊢
      have HFS := Aside0.mk (show fs ++ be4 (crcB fs) = slotB gen l by rw [← hfs]; rfl)
      have HCRC := Aside0.mk (sum32_f fs HBY.out (Nat.le_trans HLI.out (by omega)))
      have HFX := Aside0.mk (show factotumref01_Fixed.f 9 fs (crcB fs) 4 = some (slotB gen l) from by rw [show (4 : Int) = ((4 : Nat) : Int) from rfl, fixedF fs (crcB fs) 4 (by omega) (Nat.le_trans (Nat.add_le_add_right HLI.out 9) (by omega)), lowB4, HFS.out])
      have HQ := Aside0.mk (Kd.R_reads' HR.out)
      obtain ⟨hk0, hk1⟩ := crcB_lt fs
      obtain ⟨cq, hcq⟩ : ∃ cq, crcB fs = cq := ⟨_, rfl⟩
      rw [hcq] at hk0 hk1 HCRC HFX
      clear hfs
      go_wp2_with (first
        | (go_at_call 77; (with_reducible refine (factotumref01_Sum32.calls (fs.length + 10) A6 c6 fs cq _ HQ.out.2.2 HQ.out.2.1 HCRC.out).mono ?_); rintro e w7 ⟨rfl, hd⟩; obtain ⟨nd, rfl⟩ := hd.out; have HR7 := Aside0.mk (Kd.R_below HR.out (drewN_below wr nd)); have HB7 := Aside0.mk (bel_drewN HB.out nd))
        | (go_at_call 76; go_loud (refine (factotumref01_Fixed.calls 9 (fun k => w.heap.size ≤ k) _ fs cq 4 (slotB gen l) w (wr.drewN nd) HB7.out HR7.out HFX.out).mono ?_); rintro e w8 ⟨v8, rfl, hr, hb, _⟩; have HB8 := Aside0.mk hb; have HR8 := Aside0.mk (show OwnB w8 w.heap.size v8 _ from Kd.R_mono hr (fun k hk => hk.elim id (fun hk => Nat.le_trans HB7.out.size hk))); clear hr hb))
      obtain ⟨A8, c8, hv8⟩ := Kd.R_slice HR8.out
      subst hv8
      go_ret2
      exact ⟨A8, c8, rfl, HR8.out, HB8.out⟩
end Go.Proofs.Ytlepcmljmibdnaa
namespace Go.Proofs.Ytlepcmljmibdnaa
open Go.RowKit Go.Proofs.YtlepcmljmibdnaaW.PrintWords Go.Proofs.YtlepcmljmibdnaaW.PrintLast Go.Proofs.YtlepcmljmibdnaaW.PrintMore PWalOpens
set_option linter.unusedVariables false
set_option linter.unusedSimpArgs false
theorem un_short (w : World) (A : Option Addr) (c : Nat) (b : List Int) (hl : b.length < 2) :
    Calls Try.prog 40 #[.slice A b.length c] w fun e w' => e = .returned (.tuple #[.int .u64 0, .slice none 0 0, .int .i64 60]) ∧ w = w' := by
  have h1 : decide ((b.length : Int) < 2) = true := by simp; omega
  go_enter Try.func40, Try.ntmps40
  go_wp2_with fail
  go_ret3
  exact ⟨rfl, rfl⟩
theorem un_first (w : World) (A : Option Addr) (c : Nat) (b : List Int) (x : Int) (hl : 2 ≤ b.length) (hx : b[0]? = some x) (hne : x ≠ 70) (hC : (Kd.int .u8).C w A b.length b) :
    Calls Try.prog 40 #[.slice A b.length c] w fun e w' => e = .returned (.tuple #[.int .u64 0, .slice none 0 0, .int .i64 60]) ∧ w = w' := by
  have h1 : decide ((b.length : Int) < 2) = false := by simp; omega
  obtain ⟨ad, e, x0⟩ := Kd.at_int hC (0 : Int) (by omega) (by omega)
  subst e
  rw [show rd b 0 = x by simp [rd, List.getD, hx], show ad.add (Int.toNat 0) = ad from rfl] at x0
  have hq : (x == 70) = false := by simpa using hne
  have hq2 : (x != 70) = true := by simpa using hne
  have hl0 : 0 < b.length := by omega
  clear hx hC
  go_enter Try.func40, Try.ntmps40
  go_wp2_with fail
  go_ret3
  exact ⟨rfl, rfl⟩
theorem un_second (w : World) (A : Option Addr) (c : Nat) (b : List Int) (x : Int) (hl : 2 ≤ b.length) (hx0 : b[0]? = some 70) (hx : b[1]? = some x) (hne : x ≠ 83) (hC : (Kd.int .u8).C w A b.length b) :
    Calls Try.prog 40 #[.slice A b.length c] w fun e w' => e = .returned (.tuple #[.int .u64 0, .slice none 0 0, .int .i64 60]) ∧ w = w' := by
  have h1 : decide ((b.length : Int) < 2) = false := by simp; omega
  obtain ⟨ad, e, x0⟩ := Kd.at_int hC (0 : Int) (by omega) (by omega)
  obtain ⟨ad1, e1, x1⟩ := Kd.at_int hC (1 : Int) (by omega) (by omega)
  subst e
  obtain rfl := Option.some.inj e1
  rw [show rd b 0 = 70 by simp [rd, List.getD, hx0], show ad.add (Int.toNat 0) = ad from rfl] at x0
  rw [show rd b 1 = x by simp [rd, List.getD, hx], show ad.add (Int.toNat 1) = { block := ad.block, off := ad.off + 1 } from rfl] at x1
  have hq : (x == 83) = false := by simpa using hne
  have hl0 : 0 < b.length := by omega
  have hl1 : 1 < b.length := by omega
  clear hx0 hx hne hC e1
  go_enter Try.func40, Try.ntmps40
  go_wp2_with fail
  go_ret3
  exact ⟨rfl, rfl⟩
theorem HX_new {w : World} {ad : Addr} {c : Nat} {b : List Int} {A1 : Option Addr} (h : SB w (some ad) c b) (hk : 2 ≤ b.length) (hA : (if c = 2 then some ad else some { block := ad.block, off := ad.off + 2 }) = A1) :
    HX (w.alloc (.cells #[.slice A1 (b.length - 2) (c - 2), .bool false] 124)) w.heap.size w.heap.size (b.drop 2) false := by
  have hT := h.tail (by decide) hk hA
  have hc0 : ∃ v, w.cell? ad = some v := by
    obtain ⟨a2, e, x0⟩ := Kd.at_int h.C (0 : Int) (by omega) (by omega)
    cases e
    exact ⟨_, x0⟩
  obtain ⟨v, hv⟩ := hc0
  have hlt := block_lt_of_cell hv
  refine ⟨A1, c - 2, ⟨by rw [len_tail]; exact heap_alloc_new w _, Kd.C_below hT.C (Below.alloc (Below.refl _ _) (Nat.le_refl _) _), hT.cap, fun a e => ?_, Nat.le_refl _⟩, hT.c63, fun e => List.eq_nil_of_length_eq_zero (hT.none_ e).1⟩
  subst e
  split at hA
  · cases hA; exact hlt
  · cases hA; exact hlt
theorem HX.hB {w : World} {base B : Nat} {xs : List Int} {bad : Bool} (h : HX w base B xs bad) : base ≤ B := by
  obtain ⟨A, c, hk, _⟩ := h
  exact hk.hB
theorem SB.tail' {w : World} {ad : Addr} {c k : Nat} {b : List Int} {A1 : Option Addr} (h : SB w (some ad) c b) (hk0 : 0 < k) (hk : k ≤ b.length) (hA : (if c = k then some ad else some (ad.add k)) = A1) : SB w A1 (c - k) (b.drop k) := by
  refine h.tail hk0 hk ?_
  rw [← hA]
  unfold Addr.add
  rw [if_neg (show ¬ k = 0 by omega)]
theorem be4_bytes (c : Int) : isBytes (be4 c) := by rw [← lowB4]; exact lowB_bytes c 4
theorem slotB_bytes (g : Int) (l : List Int) (hg : 0 ≤ g ∧ g < 18446744073709551616) (hn : ∀ n ∈ l, 0 ≤ n ∧ n < 18446744073709551616) (hl : l.length ≤ 4) : isBytes (slotB g l) := by
  intro x hx
  unfold slotB at hx
  rcases List.mem_append.1 hx with hx | hx
  · exact fs_bytes g l hg hn hl x hx
  · exact be4_bytes _ x hx
theorem slotB_ne (g : Int) (l : List Int) : slotB g l ≠ [] := by
  intro h
  have := congrArg List.length h
  rw [slotB_len] at this
  simp at this
def UnQ (w : World) (b : List Int) (e : Ending) (w' : World) : Prop := ∃ A c, e = .returned (.tuple #[.int .u64 (unP b).1, .slice A (unP b).2.1.length c, .int .i64 (unP b).2.2]) ∧ Kd.R (Kd.int .u64) 56 w' w.heap.size (fun k => w.heap.size ≤ k) (.slice A (unP b).2.1.length c) (unP b).2.1 ∧ Below w.heap.size w w'
set_option maxRecDepth 100000 in
set_option maxHeartbeats 1000000 in
theorem un_main (w : World) (ad : Addr) (c : Nat) (b : List Int) (hl : 2 ≤ b.length) (hl2 : b.length ≤ 1000000) (h : SB w (some ad) c b) (hby : isBytes b) (hm : b.take 2 = [70, 83]) :
    Calls Try.prog 40 #[.slice (some ad) b.length c] w (UnQ w b) := by
  have h1 : decide ((b.length : Int) < 2) = false := by simp; omega
  have hcap := h.cap
  obtain ⟨ad0, e, x0⟩ := Kd.at_int h.C (0 : Int) (by omega) (by omega)
  obtain ⟨ad1, e1, x1⟩ := Kd.at_int h.C (1 : Int) (by omega) (by omega)
  cases e
  cases e1
  have hb0 : b[0]? = some 70 := by have := congrArg (·[0]?) hm; simpa [List.getElem?_take] using this
  have hb1 : b[1]? = some 83 := by have := congrArg (·[1]?) hm; simpa [List.getElem?_take] using this
  rw [show rd b 0 = 70 by simp [rd, List.getD, hb0], show ad.add (Int.toNat 0) = ad from rfl] at x0
  rw [show rd b 1 = 83 by simp [rd, List.getD, hb1], show ad.add (Int.toNat 1) = { block := ad.block, off := ad.off + 1 } from rfl] at x1
  have hl0 : 0 < b.length := by omega
  have hl1 : 1 < b.length := by omega
  have hc2 : (2 : Int) ≤ (c : Int) := by omega
  have hl2' : (2 : Int) ≤ (b.length : Int) := by omega
  obtain ⟨A1, hA1⟩ : ∃ A1, (if c = 2 then some ad else some { block := ad.block, off := ad.off + 2 }) = A1 := ⟨_, rfl⟩
  have HG1 := Aside0.mk (⟨HX_new h hl hA1, Chg.refl _ _, hby.drop 2, fun h => (by cases h)⟩ : HS _ _ w.heap.size w.heap.size (b.drop 2) false)
  have HB1 := Aside0.mk (Below.alloc (Below.refl w.heap.size w) (Nat.le_refl _) (.cells #[.slice A1 (b.length - 2) (c - 2), .bool false] 124))
  have H := Aside0.mk h
  have HBY := Aside0.mk hby
  have HM := Aside0.mk hm
  obtain ⟨pg, p4, pn, pl, pb⟩ := slot_parts b hby
  obtain ⟨g, r1, b1, e1⟩ : ∃ g r1 b1, slotG b = (g, r1, b1) := ⟨_, _, _, rfl⟩
  obtain ⟨n, r2, b2, e3⟩ : ∃ n r2 b2, slotC b = (n, r2, b2) := ⟨_, _, _, rfl⟩
  have E1 := Aside0.mk (show rdN (b.drop 2) false 18446744073709551615 = (g, r1, b1) from e1)
  have E2 := Aside0.mk (show rdN r1 b1 4 = (n, r2, b2) from by have := e3; unfold slotC at this; rwa [e1] at this)
  have EL := Aside0.mk (show slotL b = readK n.toNat r2 b2 from by unfold slotL; rw [e3])
  rw [e1] at pg
  rw [e3] at p4
  simp only at pg p4
  obtain ⟨N, rfl⟩ := Int.eq_ofNat_of_zero_le p4.1
  have hN4 : N ≤ 4 := by omega
  rw [Int.toNat_natCast] at EL
  have PG := Aside0.mk pg
  have PN := Aside0.mk pn
  have PL := Aside0.mk pl
  have PB := Aside0.mk pb
  have E0 := Aside0.mk e1
  have HN4 := Aside0.mk hN4
  clear h hm hby hl hcap pg p4 pn pl pb e1 e3 hb0 hb1
  go_enter Try.func40, Try.ntmps40
  go_wp2_with (first
    | (go_at_call 83; (with_reducible refine (HS.n (by decide) E1.out HG1.out).mono ?_); rintro e w2 ⟨rfl, hg⟩; have HG2 := Aside0.mk hg; clear hg)
    | (go_at_call 83; (with_reducible refine (HS.n (by decide) E2.out HG2.out).mono ?_); rintro e w3 ⟨rfl, hg⟩; have HG3 := Aside0.mk hg; clear hg))
  have HG4 := Aside0.mk (⟨HG3.out.x, Chg.refl _ _, HG3.out.bytes, HG3.out.nb⟩ : HS w3 w3 _ _ _ _)
  have HB3 := Aside0.mk (HB1.out.trans (HG3.out.chg.below HB1.out.size (fun k hk => by subst hk; exact HG3.out.x.hB)))
  have HBL := Aside0.mk HG3.out.x.lt
  go_loopg [8, 9] N (fun kq v8 v9 w' => ∃ (i : Nat), v9 = .int .u64 (i : Int) ∧ Aside0 (i + kq = N) ∧ Aside0 (HS w3 w' w.heap.size w.heap.size (readK i r2 b2).2.1 (readK i r2 b2).2.2) ∧ Aside0 (Kd.R (Kd.int .u64) 56 w' w3.heap.size (fun _ => True) v8 (readK i r2 b2).1))
  case atStart => exact ⟨0, rfl, ⟨by omega⟩, HG4, ⟨Kd.R_nil _ _ _ _ _⟩⟩
  case round =>
    obtain ⟨i, rfl, HI, HGr, HRr⟩ := hrel
    obtain ⟨A3, c3, rfl⟩ := Kd.R_slice HRr.out
    by_cases hk0 : gk = 0
    · subst hk0
      obtain rfl : i = N := by have := HI.out; omega
      have EQ := EL.out
      rw [← EQ] at HGr HRr ⊢
      have HRD := Aside0.mk (slot_read b HBY.out HM.out)
      have HUN := Aside0.mk (show unP b = if slotV b then ((slotG b).1, (slotL b).1, 0) else (0, [], 60) by unfold unP; rw [if_pos HM.out])
      have HVV := Aside0.mk (show slotV b = (!(slotL b).2.2 && (slotB (slotG b).1 (slotL b).1).isPrefixOf b && allZ (b.drop (slotB (slotG b).1 (slotL b).1).length)) from rfl)
      rw [E0.out] at HRD HUN HVV
      simp only at HRD HUN HVV
      obtain ⟨l, hL1⟩ : ∃ l, (slotL b).1 = l := ⟨_, rfl⟩
      obtain ⟨r3, hL2⟩ : ∃ r3, (slotL b).2.1 = r3 := ⟨_, rfl⟩
      obtain ⟨b3, hL3⟩ : ∃ b3, (slotL b).2.2 = b3 := ⟨_, rfl⟩
      rw [hL1] at HRr HRD HUN PN PL HVV ⊢
      rw [hL2] at HGr HRD PB
      rw [hL3] at HGr HRD PB HVV
      clear EQ EL E0 E1 E2 hL1 hL2 hL3
      have HBr := Aside0.mk (HB3.out.trans (HGr.out.chg.below HB3.out.size (fun k hk => by subst hk; exact HGr.out.x.hB)))
      have hz : ¬ ((i : Int) < (i : Int)) := by omega
      obtain ⟨want, hwant⟩ : ∃ want, slotB g l = want := ⟨_, rfl⟩
      have HSL := Aside0.mk (rslot_calls wr g l A3 c3 PG.out PN.out PL.out (Kd.R_reads' HRr.out).2.2)
      rw [hwant] at HSL HVV
      cases b3 with
      | true =>
        have HU := Aside0.mk (show unP b = (0, [], 60) from by rw [HUN.out, HVV.out]; simp)
        go_wp2_with (first
          | (go_at_call 38; (with_reducible refine HSL.out.mono ?_); rintro e w7 ⟨A7, c7, rfl, hr, hb⟩; have HR7 := Aside0.mk hr; have HB7 := Aside0.mk hb; have HW7 := Aside0.mk (HBr.out.trans (hb.mono HBr.out.size)); have HG7 := (HGr.out.x.keep (Chg.of_below hb) (fun _ _ h => h)).badc; clear hr hb))
        go_quiet (fail)
        go_wp2
        go_ret3
        unfold UnQ
        rw [HU.out]
        exact ⟨none, 0, rfl, Kd.R_nil _ _ _ _ _, bel_drewN HW7.out _⟩
      | false =>
        by_cases hwl : b.length < want.length
        · have HU := Aside0.mk (show unP b = (0, [], 60) from by
            have : want.isPrefixOf b = false := by
              rw [← Bool.not_eq_true, List.isPrefixOf_iff_prefix]
              intro hp
              have := hp.length_le
              omega
            rw [HUN.out, HVV.out, this]; simp)
          have hwl1 : decide (b.length < want.length) = true := by simpa using hwl
          have hwl2 : (b.length : Int) < (want.length : Int) := by omega
          clear hwl
          go_wp2_with (first
            | (go_at_call 38; (with_reducible refine HSL.out.mono ?_); rintro e w7 ⟨A7, c7, rfl, hr, hb⟩; have HR7 := Aside0.mk hr; have HB7 := Aside0.mk hb; have HW7 := Aside0.mk (HBr.out.trans (hb.mono HBr.out.size)); have HG7 := (HGr.out.x.keep (Chg.of_below hb) (fun _ _ h => h)).badc; clear hr hb))
          go_quiet (fail)
          go_wp2
          go_ret3
          unfold UnQ
          rw [HU.out]
          exact ⟨none, 0, rfl, Kd.R_nil _ _ _ _ _, bel_drewN HW7.out _⟩
        · have hwl0 : want.length ≤ b.length := by omega
          have HWB := Aside0.mk (show isBytes want from by rw [← hwant]; exact slotB_bytes g l PG.out PN.out PL.out)
          have hwl1 : decide (b.length < want.length) = false := by simpa using hwl0
          have hwl2 : (want.length : Int) ≤ (b.length : Int) := by omega
          have hwc : (want.length : Int) ≤ (c : Int) := by have := H.out.cap; omega
          have HC4 := Aside0.mk (Kd.C_take H.out.C hwl0)
          have hl4 : (b.take want.length).length = want.length := by rw [List.length_take]; omega
          rw [hl4] at HC4
          have HWL := Aside0.mk hwl0
          obtain ⟨b4, hb4⟩ : ∃ b4, b.take want.length = b4 := ⟨_, rfl⟩
          rw [hb4] at HC4
          have HBY4 := Aside0.mk (show isBytes b4 from by rw [← hb4]; exact HBY.out.take _)
          have HWP := Aside0.mk (List.length_pos_iff.2 (slotB_ne g l))
          rw [hwant] at HWP
          have HPF := Aside0.mk (show want.isPrefixOf b = decide (want = b4) from by
            rw [Bool.eq_iff_iff, List.isPrefixOf_iff_prefix, decide_eq_true_eq, ← hb4]
            exact List.prefix_iff_eq_take)
          clear hwl hwl0 hl4 hb4 hwant
          go_wp2_with (first
            | (go_at_call 38; (with_reducible refine HSL.out.mono ?_); rintro e w7 ⟨A7, c7, rfl, hr, hb⟩; have HR7 := Aside0.mk hr; have HB7 := Aside0.mk hb; have HW7 := Aside0.mk (HBr.out.trans (hb.mono HBr.out.size)); have HG7 := (HGr.out.x.keep (Chg.of_below hb) (fun _ _ h => h)).badc; clear hr hb))
          have hC1 := (Kd.R_reads' HR7.out).2.2
          have hcv1 : ∀ k, (convert 29 9 (.slice A7 want.length c7)).run Try.prog (w7.drewN k) = .ok (.string (strOfNums want)) (w7.drewN k) := fun k => Kd.C_string Try.underlying29 Try.underlying5 Try.underlying9 (Kd.C_drewN hC1 k)
          have hC2 := Kd.C_below HC4.out HW7.out
          have hcv2 : ∀ k, (convert 29 9 (.slice (some ad) want.length c)).run Try.prog (w7.drewN k) = .ok (.string (strOfNums b4)) (w7.drewN k) := fun k => Kd.C_string Try.underlying29 Try.underlying5 Try.underlying9 (Kd.C_drewN hC2 k)
          have hse := str_eq want b4 HWB.out HBY4.out
          obtain ⟨s1, hs1⟩ : ∃ s1, strOfNums want = s1 := ⟨_, rfl⟩
          obtain ⟨s2, hs2⟩ : ∃ s2, strOfNums b4 = s2 := ⟨_, rfl⟩
          rw [hs1] at hcv1 hse
          rw [hs2] at hcv2 hse
          clear hs1 hs2 hC1 hC2
          by_cases hq : want = b4
          · have hse' : (s1.toList == s2.toList) = true := by rw [hse]; simpa using hq
            have HPF2 := Aside0.mk (show want.isPrefixOf b = true from by rw [HPF.out]; simpa using hq)
            obtain ⟨A5, hA5⟩ : ∃ A5, (if c = want.length then some ad else some (ad.add want.length)) = A5 := ⟨_, rfl⟩
            have HT5 := Aside0.mk ((H.out.tail' HWP.out HWL.out hA5).move HW7.out)
            have HUN2 := Aside0.mk (show unP b = if allZ (b.drop want.length) then (g, l, 0) else (0, [], 60) from by rw [HUN.out, HVV.out, HPF2.out]; simp)
            obtain ⟨zs, hzs⟩ : ∃ zs, b.drop want.length = zs := ⟨_, rfl⟩
            have hzl : b.length - want.length = zs.length := by rw [← hzs, len_tail]
            rw [hzs] at HT5 HUN2
            have HZL := Aside0.mk (show zs.length ≤ 1000000 by rw [← hzl]; omega)
            have HZE := Aside0.mk hzl
            clear hse hq hzs
            go_quiet (fail)
            go_wp2
            obtain ⟨wq, hwq⟩ : ∃ wq, w7.drewN nq = wq := ⟨_, rfl⟩
            have HTQ := Aside0.mk (Kd.C_drewN HT5.out.C nq)
            have HWQ := Aside0.mk (bel_drewN HW7.out nq)
            have HRQ := Aside0.mk (Kd.R_below (Kd.R_below HRr.out HB7.out) (drewN_below w7 nq))
            rw [hwq] at HTQ HWQ HRQ ⊢
            clear hwq
            go_loopg [79] zs.length (fun kq v79 w' => ∃ i : Nat, v79 = .int .i64 (i : Int) ∧ Aside0 (i + kq = zs.length) ∧ Aside0 (∀ j y, j < i → zs[j]? = some y → y = 0) ∧ w' = wq)
            case atStart => exact ⟨0, rfl, ⟨by omega⟩, ⟨fun j y h => by omega⟩, rfl⟩
            case round =>
              obtain ⟨i, rfl, HI, HZ, rfl⟩ := hrel
              by_cases hi : i < zs.length
              · obtain ⟨x, hnn⟩ : ∃ x, zs[i]? = some x := ⟨_, List.getElem?_eq_getElem hi⟩
                obtain ⟨a2, e, x0⟩ := Kd.at_int HTQ.out (i : Int) (by omega) (by omega)
                subst e
                rw [show rd zs (i : Int) = x by simp [rd, List.getD, hnn], Int.toNat_natCast] at x0
                have HNN := Aside0.mk hnn
                clear hnn
                by_cases h : x = 0
                · subst h
                  go_wp2
                  have hk1 := HI.out
                  obtain ⟨gq, rfl⟩ : ∃ gq, gk = gq + 1 := ⟨gk - 1, by omega⟩
                  go_roundg gq
                  case rel => exact ⟨i + 1, by go_num, ⟨by omega⟩, ⟨fun j y hj hy => by
                    by_cases hji : j = i
                    · subst hji; rw [HNN.out] at hy; exact (Option.some.inj hy).symm
                    · exact HZ.out j y (by omega) hy⟩, rfl⟩
                  case measure => omega
                · have HU := Aside0.mk (show unP b = (0, [], 60) from by
                    rw [HUN2.out, if_neg]
                    intro hz
                    unfold allZ at hz
                    rw [List.all_eq_true] at hz
                    exact h (by simpa using hz x (List.mem_of_getElem? HNN.out)))
                  have h2 : (x != 0) = true := by simpa using h
                  have h3 : (x == 0) = false := by simpa using h
                  go_wp2
                  go_ret3
                  unfold UnQ
                  rw [HU.out]
                  exact ⟨none, 0, rfl, Kd.R_nil _ _ _ _ _, HWQ.out⟩
              · have hi0 := HI.out
                obtain rfl : gk = 0 := by omega
                obtain rfl : i = zs.length := by omega
                clear hi0
                have hm : ¬ ((zs.length : Int) < (zs.length : Int)) := by omega
                have HU := Aside0.mk (show unP b = (g, l, 0) from by
                  rw [HUN2.out, if_pos]
                  unfold allZ
                  rw [List.all_eq_true]
                  intro x hx
                  obtain ⟨j, hj⟩ := List.mem_iff_getElem?.1 hx
                  simpa using HZ.out j x (List.getElem?_eq_some_iff.1 hj).1 hj)
                go_wp2
                go_ret3
                unfold UnQ
                rw [HU.out]
                exact ⟨A3, c3, rfl, Kd.R_mono (Kd.R_bound (Kd.R_lower HRQ.out HB3.out.size)) (fun k hk => hk.2.1), HWQ.out⟩
          · have hse' : (s1.toList == s2.toList) = false := by rw [hse]; simpa using hq
            have HU := Aside0.mk (show unP b = (0, [], 60) from by rw [HUN.out, HVV.out, HPF.out]; simp [hq])
            clear hse hq
            go_quiet (fail)
            go_wp2
            go_ret3
            unfold UnQ
            rw [HU.out]
            exact ⟨none, 0, rfl, Kd.R_nil _ _ _ _ _, bel_drewN HW7.out _⟩
    obtain ⟨x, rx, bx, hx⟩ : ∃ x rx bx, rdN (readK i r2 b2).2.1 (readK i r2 b2).2.2 18446744073709551615 = (x, rx, bx) := ⟨_, _, _, rfl⟩
    have HXX := Aside0.mk hx
    have HSN := Aside0.mk (show readK (i + 1) r2 b2 = ((readK i r2 b2).1 ++ [x], rx, bx) from by rw [readK_snoc]; show (_ ++ [(rdN _ _ 18446744073709551615).1], (rdN _ _ 18446744073709551615).2) = _; rw [hx])
    clear hx
    have HLN := Aside0.mk (show ((readK i r2 b2).1.length + 1) * 8 ≤ 140737488355328 by rw [readK_len]; have := HI.out; omega)
    generalize readK i r2 b2 = st at *
    obtain ⟨l, xs, bad⟩ := st
    simp only at HXX HSN HLN HGr HRr
    obtain ⟨gq, rfl⟩ : ∃ gq, gk = gq + 1 := ⟨gk - 1, by omega⟩
    clear hk0
    have hpos : (i : Int) < (N : Int) := by have := HI.out; omega
    have hgq : (i : Int) ≤ 4 := by have := HI.out; have := HN4.out; omega
    go_wp2_with (first
      | (go_at_call 83; with_reducible refine (HS.step (by decide) HXX.out HGr.out).mono ?_; rintro e w5 ⟨rfl, hg, hc⟩; have HG5 := Aside0.mk hg; have HR5 := Aside0.mk (R_at_B HRr.out hc HBL.out); clear hg hc)
      | ((with_reducible refine gate_builtin (b := .append) (xs := #[.tmp 42, .tmp 45]) rfl ?_); at_builtin; go_loud (refine Kd.R_append (Kd.int .u64) (W := w5) (w0 := w5) w3.heap.size rfl (.tmp 42) (.tmp 45) 57 56 (.int .u64 0) 8 rfl Try.underlying57 info56 rfl (by decide) (by decide) _ l _ [.int .u64 _] (fun _ => True) (fun _ => False) rfl rfl rfl (fun _ h => h.elim) (fun _ _ => trivial) HR5.out (Below.refl _ _) HG5.out.chg.size HLN.out ?_); intro v1 w6 ho hb hg hat; have HG6 := Aside0.mk (HG5.out.grow HBL.out (chg_grown hg fun _ h => h) (fun k hk he => own_not HR5.out k hk he)); have HR6 := Aside0.mk ho; clear ho hb hg hat))
    go_roundg gq
    case rel => exact ⟨i + 1, by go_num, ⟨by have := HI.out; omega⟩, ⟨by rw [HSN.out]; exact HG6.out⟩, ⟨by rw [HSN.out]; exact HR6.out⟩⟩
    case measure => omega
theorem un_calls (w : World) (A : Option Addr) (c : Nat) (b : List Int) (hl2 : b.length ≤ 1000000) (h : SB w A c b) (hby : isBytes b) :
    Calls Try.prog 40 #[.slice A b.length c] w (UnQ w b) := by
  have bad : b.take 2 ≠ [70, 83] → ∀ e w', (e = .returned (.tuple #[.int .u64 0, .slice none 0 0, .int .i64 60]) ∧ w = w') → UnQ w b e w' := by
    intro hm e w' h
    obtain ⟨rfl, rfl⟩ := h
    have hu : unP b = (0, [], 60) := by unfold unP; rw [if_neg hm]
    unfold UnQ
    rw [hu]
    exact ⟨none, 0, rfl, Kd.R_nil _ _ _ _ _, Below.refl _ _⟩
  by_cases hl : b.length < 2
  · have hm : b.take 2 ≠ [70, 83] := fun e => by
      have := congrArg List.length e
      rw [List.length_take] at this
      simp at this
      omega
    exact (un_short w A c b hl).mono (bad hm)
  · obtain ⟨x, hx⟩ : ∃ x, b[0]? = some x := ⟨_, List.getElem?_eq_getElem (by omega)⟩
    obtain ⟨y, hy⟩ : ∃ y, b[1]? = some y := ⟨_, List.getElem?_eq_getElem (by omega)⟩
    have ht : b.take 2 = [x, y] := by
      rw [show (2 : Nat) = 1 + 1 from rfl, List.take_add_one, hy, show (1 : Nat) = 0 + 1 from rfl, List.take_add_one, hx]
      rfl
    by_cases h1 : x = 70
    · subst h1
      by_cases h2 : y = 83
      · subst h2
        cases A with
        | none => have := (h.none_ rfl).1; omega
        | some ad => exact un_main w ad c b (by omega) hl2 h hby ht
      · exact (un_second w A c b y (by omega) hx hy h2 h.C).mono (bad (by rw [ht]; simp [h2]))
    · exact (un_first w A c b x (by omega) hx h1 h.C).mono (bad (by rw [ht]; simp [h1]))
end Go.Proofs.Ytlepcmljmibdnaa
