/- Parts of one proof, joined: PWalOpensx0, PWalOpensx1, PWalOpensx2, Cd, PDiskArmsx0, PDiskArmsx1, Mp, Calm. Conditions: those of each statement. -/
import Derived.Test.YtlepcmljmibdnaaGreatProg
import Derived.Below
import Derived.Deep.Draws
import Derived.Deep.AppendLies
import Derived.Maps.AppendAt
import Derived.OwnWalk
import Derived.Laws.BytesArg
import Derived.Laws.MakeOwn
import Derived.Laws.OwnMore
import Derived.Deep.OwnRows
import Derived.Tactics
import Derived.Lib.ConvBytes
import Derived.Laws.Slices
import Derived.WalkKit
import Derived.KernelRfl
import Derived.RowKit3
import Derived.Deep.LoopGhost
import Derived.Deep.QuietTactic
import Derived.BigQuiet
import Derived.WideLaws
import Derived.Deep.DeepCutAuto
import Derived.Deep.CutBlock
import Derived.Deep.RegionHeld3
import Derived.Laws.Rows
import Derived.Lib.AppendStr
import Derived.ArgAppend
import Derived.Laws.IdiomCopy
import Derived.OrdersHeld
import Derived.Laws.BitsLemmas
import Derived.RowKit
import Derived.Test.YtlepcmljmibdnaaGreatZhFWWords
import Derived.Test.YtlepcmljmibdnaaGreatZhFWLast
import Derived.Test.YtlepcmljmibdnaaGreatZhFWTab
import Derived.Test.YtlepcmljmibdnaaGreatZhFWFour
import Derived.Test.YtlepcmljmibdnaaGreatZhFWQPut
import Derived.Test.YtlepcmljmibdnaaGreatZhFWApart
import Derived.Test.YtlepcmljmibdnaaGreatZhFWArr
import Derived.Test.YtlepcmljmibdnaaGreatZhFWZeros
import Derived.Test.YtlepcmljmibdnaaGreatZhFWFoot
import Derived.Test.YtlepcmljmibdnaaGreatZhFWKept
import Derived.Test.YtlepcmljmibdnaaGreatZhFWShare
import Derived.Test.YtlepcmljmibdnaaGreatZhFWN
import Derived.Test.YtlepcmljmibdnaaGreatZhFWFootNe
import Derived.Test.YtlepcmljmibdnaaGreatZhFWAt
import Derived.Test.YtlepcmljmibdnaaGreatZhFWEqStruct
import Derived.Test.YtlepcmljmibdnaaGreatZhFWRepsOne
import Derived.Test.YtlepcmljmibdnaaGreatZhFWInv
import Derived.Test.YtlepcmljmibdnaaGreatZhFWInvWords
import Derived.Test.YtlepcmljmibdnaaGreatZhFWGuard
import Derived.Test.YtlepcmljmibdnaaGreatZhFWNEv
import Derived.Test.YtlepcmljmibdnaaGreatZhFWMore
import Derived.MapFrom
namespace Go.Proofs.YtlepcmljmibdnaaGreat.PWalOpens
open Go.RowKit Go.Proofs.YtlepcmljmibdnaaGreatW.PrintWords Go.Proofs.YtlepcmljmibdnaaGreatW.PrintLast Go.Proofs.YtlepcmljmibdnaaGreatW.PrintMore
attribute [local go_sem] max2_int min2_int max_two min_two max_three min_three max_four min_four   -- for this text's walks alone
set_option linter.unusedVariables false
set_option linter.unusedSimpArgs false



theorem info5 : (Tryz.prog.info? 5).map (fun i => (i.zero, i.size, i.bytes)) = some (some (.int .u8 0), 1, 1) := by kernel_rfl
-- the values' own types
def rd_L1 (xs : List (List Int)) (i : Int) : (List Int) := xs.getD i.toNat ([] : List Int)
/-! #### struct type 106 -/
end Go.Proofs.YtlepcmljmibdnaaGreat.PWalOpens
namespace Go.Proofs.YtlepcmljmibdnaaGreat.PWalOpens
open Go.RowKit Go.Proofs.YtlepcmljmibdnaaGreatW.PrintWords Go.Proofs.YtlepcmljmibdnaaGreatW.PrintLast Go.Proofs.YtlepcmljmibdnaaGreatW.PrintMore
attribute [local go_sem] max2_int min2_int max_two min_two max_three min_three max_four min_four   -- for this text's walks alone
set_option linter.unusedVariables false
set_option linter.unusedSimpArgs false

-- NOT PRINTED: function 15 (disk_New)

-- NOT PRINTED: function 63 (disk_Disk_ok)

-- NOT PRINTED: function 19 (disk_Disk_Dead)

-- NOT PRINTED: function 22 (disk_Disk_Size)

-- NOT PRINTED: function 64 (disk_Disk_has)

-- NOT PRINTED: function 65 (disk_Disk_act)

-- NOT PRINTED: function 17 (disk_Disk_Write)

-- NOT PRINTED: function 25 (factotumref05_NewDisk)

/-! ### factotumref05_Disk_has: function 70 -/
/-! ### factotumref05_Disk_act: function 71 -/
-- NOT PRINTED: function 26 (factotumref05_Disk_Write)

-- NOT PRINTED: function 31 (disk_Disk_Fault)

-- NOT PRINTED: function 32 (factotumref05_Disk_Fault)

-- NOT PRINTED: function 66 (disk_Disk_keep)

-- NOT PRINTED: function 18 (disk_Disk_Flush)

/-! ### codec_size: function 100 -/
def codec_size.l0 : Nat → Int → Int → Option (Int)
  | 0, _, _ => none
  | k + 1, x0, x3 => if x3 < 8 then (if 0 ≤ (wrap64 (8 * x3)) then (if (shr .u64 x0 (wrap64 (8 * x3))) = 0 then (some x3) else (codec_size.l0 k x0 (wrap64 (x3 + 1)))) else (none)) else (some x3)
def codec_size.f (k : Nat) (a0 : Int) : Option (Int) := codec_size.l0 k a0 1
set_option maxHeartbeats 8000000 in
set_option maxRecDepth 100000 in
theorem codec_size.calls (k : Nat) (a0 : Int) (r : Int) (w : World) (h : codec_size.f k a0 = some r) :
    Calls Tryz.prog 111 #[.int .u64 a0] w fun e w' => e = .returned (.int .i64 r) ∧ Drawn0 w w' := by
  have H : (codec_size.l0 k a0 1) = some r := h
  clear h
  have H' := Aside0.mk H
  clear H
  go_enter Tryz.func111, Tryz.ntmps111
  go_wp2
  go_loopg [3] k (fun kq v3 w' => ∃ (x3_1 : Int), v3 = .int .i64 x3_1 ∧ Aside0 (codec_size.l0 kq a0 x3_1 = some r) ∧ Aside0 (kq ≤ k) ∧ Drawn0 w w')
  case atStart => exact ⟨(1), (by first | rfl | (simp; done) | (simp [*]; done)), H', ⟨Nat.le_refl _⟩, by repeat (first | exact Drawn0.refl _ | apply Drawn0.step)⟩
  case round =>
    clear H'
    try clear c1
    obtain ⟨x3_1, rfl, HA, HK1, ⟨m1, rfl⟩⟩ := hrel
    cases gk with
    | zero => exact absurd HA.out (by simp [codec_size.l0])
    | succ k1 =>
      have H := HA.out
      clear HA
      simp only [codec_size.l0] at H
      by_cases c2 : x3_1 < 8
      · rw [if_pos c2] at H
        have c2b0 : decide (x3_1 < 8) = true := decide_eq_true c2
        clear c2
        obtain ⟨ji3, hji3⟩ : ∃ j_ : Int, (wrap64 (8 * x3_1)) = j_ := ⟨_, rfl⟩
        replace H : (if 0 ≤ (ji3) then (if (shr .u64 a0 (ji3)) = 0 then (some x3_1) else (codec_size.l0 k1 a0 (wrap64 (x3_1 + 1)))) else (none)) = some r := by first | (rw [hji3] at H; exact H) | (simp only [hji3] at H ⊢; exact H)
        have hji3w : (IntKind.i64.wrap (8 * x3_1)) = ji3 := (i64_w _).trans hji3
        by_cases c4 : 0 ≤ (ji3)
        · rw [if_pos c4] at H
          have c4b0 := eq_true c4
          have c4b1 : decide (0 ≤ (ji3)) = true := decide_eq_true c4
          clear c4
          obtain ⟨ji5, hji5⟩ : ∃ j_ : Int, (shr .u64 a0 (ji3)) = j_ := ⟨_, rfl⟩
          replace H : (if (ji5) = 0 then (some x3_1) else (codec_size.l0 k1 a0 (wrap64 (x3_1 + 1)))) = some r := by first | (rw [hji5] at H; exact H) | (simp only [hji5] at H ⊢; exact H)
          have hji5_ : (a0 / 2 ^ min (ji3).toNat 64) = ji5 := hji5
          have hji5z : (ji3) ≤ 64 → (a0 / 2 ^ (ji3).toNat) = ji5 := shr_small hji5
          by_cases c6 : (ji5) = 0
          · rw [if_pos c6] at H
            have c6b0 : ((ji5) == 0) = true := beq_iff_eq.mpr c6
            have c6b1 : ((ji5) != 0) = false := bne_eq_false_iff_eq.mpr c6
            clear c6
            obtain rfl := Option.some.inj H
            go_wp2
            go_ret
            exact ⟨by first | rfl | (simp; done) | (simp only [← hji3, ← hji5] <;> (first | rfl | simp)) | (simp [*]; done), by repeat (first | exact Drawn0.refl _ | apply Drawn0.step)⟩
          · rw [if_neg c6] at H
            have c6b0 : ((ji5) == 0) = false := beq_eq_false_iff_ne.mpr c6
            have c6b1 : ((ji5) != 0) = true := bne_iff_ne.mpr c6
            have H' := Aside0.mk H
            clear H
            go_wp2
            go_roundg k1
            case measure => have := HK1.out; omega
            case rel => exact ⟨(wrap64 (x3_1 + 1)), (by first | rfl | (simp; done) | (simp [*]; done)), H', ⟨by have := HK1.out; omega⟩, by repeat (first | exact Drawn0.refl _ | apply Drawn0.step)⟩
        · rw [if_neg c4] at H
          exact absurd H (by simp)
      · rw [if_neg c2] at H
        have c2b0 : decide (x3_1 < 8) = false := decide_eq_false c2
        clear c2
        obtain rfl := Option.some.inj H
        go_wp2
        go_ret
        exact ⟨by first | rfl | (simp; done) | (simp [*]; done), by repeat (first | exact Drawn0.refl _ | apply Drawn0.step)⟩

-- NOT PRINTED: function 101 (codec_Writer_fixed)

-- NOT PRINTED: function 72 (codec_Writer_N)

-- NOT PRINTED: function 69 (slices_Clone_byte_byte)

-- NOT PRINTED: function 73 (codec_Writer_Bytes)

/-! ### crc_Step: function 118 -/
def crc_Step.l0 : Nat → Int → Int → Option (Int)
  | 0, _, _ => none
  | k + 1, x0, x11 => if x11 < 8 then (crc_Step.l0 k (Go.bits .xor .u32 ((x0 * 2) % 4294967296) ((79764919 * (x0 / 2147483648)) % 4294967296)) (wrap64 (x11 + 1))) else (some x0)
def crc_Step.f (k : Nat) (a0 : Int) (a1 : Int) : Option (Int) := crc_Step.l0 k (Go.bits .xor .u32 a0 ((((a1) % 4294967296) * 16777216) % 4294967296)) 0
theorem crc_Step.mono_l : ∀ k, (∀ y0 y1, LeO (crc_Step.l0 k y0 y1) (crc_Step.l0 (k + 1) y0 y1))
  | 0 => fun _ _ r h => by simp [crc_Step.l0] at h
  | k + 1 => by
    have ih0 := crc_Step.mono_l k
    · intro y0 y1
      unfold crc_Step.l0
      repeat' first
      | (with_reducible exact ih0 _ _)
      | (with_reducible exact LeO.refl _)
      | (with_reducible exact LeO.none _)
      | (with_reducible refine LeO.ite ?_ ?_)
      | (with_reducible refine LeO.bind ?_ (fun _ => ?_))
      | exact ih0 _ _
      | exact LeO.none _
      | refine LeO.ite ?_ ?_
      | refine LeO.bind ?_ (fun _ => ?_)
set_option maxHeartbeats 8000000 in
set_option maxRecDepth 100000 in
theorem crc_Step.calls (k : Nat) (a0 : Int) (a1 : Int) (r : Int) (w : World) (h : crc_Step.f k a0 a1 = some r) :
    Calls Tryz.prog 158 #[.int .u32 a0, .int .u8 a1] w fun e w' => e = .returned (.int .u32 r) ∧ Drawn0 w w' := by
  have H : (crc_Step.l0 k (Go.bits .xor .u32 a0 ((((a1) % 4294967296) * 16777216) % 4294967296)) 0) = some r := h
  clear h
  have H' := Aside0.mk H
  clear H
  go_enter Tryz.func158, Tryz.ntmps158
  go_wp2
  go_loopg [0, 11] k (fun kq v0 v11 w' => ∃ (x0_1 : Int) (x11_1 : Int), v0 = .int .u32 x0_1 ∧ v11 = .int .i64 x11_1 ∧ Aside0 (crc_Step.l0 kq x0_1 x11_1 = some r) ∧ Aside0 (kq ≤ k) ∧ Drawn0 w w')
  case atStart => exact ⟨(Go.bits .xor .u32 a0 ((((a1) % 4294967296) * 16777216) % 4294967296)), (0), (by first | rfl | (simp; done) | (simp [*]; done)), (by first | rfl | (simp; done) | (simp [*]; done)), H', ⟨Nat.le_refl _⟩, by repeat (first | exact Drawn0.refl _ | apply Drawn0.step)⟩
  case round =>
    clear H'
    try clear c1
    try clear p2
    obtain ⟨x0_1, x11_1, rfl, rfl, HA, HK1, ⟨m1, rfl⟩⟩ := hrel
    cases gk with
    | zero => exact absurd HA.out (by simp [crc_Step.l0])
    | succ k1 =>
      have H := HA.out
      clear HA
      simp only [crc_Step.l0] at H
      by_cases c3 : x11_1 < 8
      · rw [if_pos c3] at H
        have c3b0 : decide (x11_1 < 8) = true := decide_eq_true c3
        clear c3
        have H' := Aside0.mk H
        clear H
        go_wp2
        go_roundg k1
        case measure => have := HK1.out; omega
        case rel => exact ⟨(Go.bits .xor .u32 ((x0_1 * 2) % 4294967296) ((79764919 * (x0_1 / 2147483648)) % 4294967296)), (wrap64 (x11_1 + 1)), (by first | rfl | (simp; done) | (simp [*]; done)), (by first | rfl | (simp; done) | (simp [*]; done)), H', ⟨by have := HK1.out; omega⟩, by repeat (first | exact Drawn0.refl _ | apply Drawn0.step)⟩
      · rw [if_neg c3] at H
        have c3b0 : decide (x11_1 < 8) = false := decide_eq_false c3
        clear c3
        obtain rfl := Option.some.inj H
        go_wp2
        go_ret
        exact ⟨by first | rfl | (simp; done) | (simp [*]; done), by repeat (first | exact Drawn0.refl _ | apply Drawn0.step)⟩

/-! ### crc_More: function 102 -/
def crc_More.l0 : Nat → Int → List Int → Int → Int → Option (Int)
  | 0, _, _, _, _ => none
  | k + 1, x0, x7, x8, x9 => if x9 < x8 then (if 0 ≤ x9 then (if x9 < (x7.length : Int) then ((crc_Step.f k x0 (rd x7 x9)).bind fun t121 => (crc_More.l0 k t121 x7 x8 (wrap64 (x9 + 1)))) else (none)) else (none)) else (some x0)
def crc_More.f (k : Nat) (a0 : Int) (l1 : List Int) : Option (Int) := crc_More.l0 k a0 l1 (l1.length : Int) 0
set_option maxHeartbeats 8000000 in
set_option maxRecDepth 100000 in
theorem crc_More.calls (k : Nat) (a0 : Int) (A1 : Option Addr) (c1 : Nat) (l1 : List Int) (r : Int) (w : World) (hr1 : Kd.C (Kd.int .u8) w A1 l1.length l1) (hc1 : l1.length ≤ c1) (h : crc_More.f k a0 l1 = some r) :
    Calls Tryz.prog 144 #[.int .u32 a0, .slice A1 l1.length c1] w fun e w' => e = .returned (.int .u32 r) ∧ Drawn0 w w' := by
  have HR1 := Aside0.mk hr1
  have HC1 := Aside0.mk hc1
  clear hr1 hc1
  have H : (crc_More.l0 k a0 l1 (l1.length : Int) 0) = some r := h
  clear h
  have H' := Aside0.mk H
  clear H
  go_enter Tryz.func144, Tryz.ntmps144
  go_wp2
  go_loopg [0, 9] k (fun kq v0 v9 w' => ∃ (x0_1 : Int) (x9_1 : Int), v0 = .int .u32 x0_1 ∧ v9 = .int .i64 x9_1 ∧ Aside0 (crc_More.l0 kq x0_1 l1 (l1.length : Int) x9_1 = some r) ∧ Aside0 (kq ≤ k) ∧ Drawn0 w w')
  case atStart => exact ⟨(a0), (0), (by first | rfl | (simp; done) | (simp [*]; done)), (by first | rfl | (simp; done) | (simp [*]; done)), H', ⟨Nat.le_refl _⟩, by repeat (first | exact Drawn0.refl _ | apply Drawn0.step)⟩
  case round =>
    clear H'
    try clear c1
    try clear p2
    obtain ⟨x0_1, x9_1, rfl, rfl, HA, HK1, ⟨m1, rfl⟩⟩ := hrel
    cases gk with
    | zero => exact absurd HA.out (by simp [crc_More.l0])
    | succ k1 =>
      have H := HA.out
      clear HA
      simp only [crc_More.l0] at H
      by_cases c3 : x9_1 < (l1.length : Int)
      · rw [if_pos c3] at H
        have c3b0 : decide (x9_1 < (l1.length : Int)) = true := decide_eq_true c3
        clear c3
        by_cases c4 : 0 ≤ x9_1
        · rw [if_pos c4] at H
          have c4b0 : decide (0 ≤ x9_1) = true := decide_eq_true c4
          clear c4
          by_cases c5 : x9_1 < (l1.length : Int)
          · rw [if_pos c5] at H
            have c5b0 : decide (x9_1 < (l1.length : Int)) = true := decide_eq_true c5
            clear c5
            replace H := Option.bind_eq_some_iff.mp H
            obtain ⟨t121, A60, H⟩ := H
            replace H : (crc_More.l0 k1 t121 l1 (l1.length : Int) (wrap64 (x9_1 + 1))) = some r := H
            have A6 := Aside0.mk A60
            clear A60
            have H' := Aside0.mk H
            clear H
            have p120 : 0 ≤ (x9_1 : Int) := of_decide_eq_true (by first | (with_reducible assumption) | assumption)
            have q120 : x9_1 < (l1.length : Int) := of_decide_eq_true (by first | (with_reducible assumption) | assumption)
            obtain ⟨ad120, e120, hx120_0⟩ := Kd.at_int HR1.out x9_1 p120 q120
            cases e120
            replace p120 := eq_true p120
            replace q120 := eq_true q120
            go_wp2_with (first | ((with_reducible refine gate_callee (f := 158) rfl ?_); refine goesL_ (some 15) rfl rfl Tryz.func158 (by kernel_rfl) rfl #[.int .u32 x0_1, .int .u8 (rd l1 x9_1)] rfl (by (try simp only [List.map_toArray, List.map_cons, List.map_nil]); first | done | rfl | (simp only [List.length_drop, List.length_take]; rfl)) ?_; (with_reducible refine (crc_Step.calls k1 x0_1 (rd l1 x9_1) t121 _ A6.out).mono ?_); rintro e w' ⟨rfl, ⟨nd, rfl⟩⟩; refine ⟨_, rfl, ?_⟩))
            go_roundg k1
            case measure => have := HK1.out; omega
            case rel => exact ⟨(t121), (wrap64 (x9_1 + 1)), (by first | rfl | (simp; done) | (simp [*]; done)), (by first | rfl | (simp; done) | (simp [*]; done)), H', ⟨by have := HK1.out; omega⟩, by repeat (first | exact Drawn0.refl _ | apply Drawn0.step)⟩
          · rw [if_neg c5] at H
            exact absurd H (by simp)
        · rw [if_neg c4] at H
          exact absurd H (by simp)
      · rw [if_neg c3] at H
        have c3b0 : decide (x9_1 < (l1.length : Int)) = false := decide_eq_false c3
        clear c3
        obtain rfl := Option.some.inj H
        go_wp2
        go_ret
        exact ⟨by first | rfl | (simp; done) | (simp [*]; done), by repeat (first | exact Drawn0.refl _ | apply Drawn0.step)⟩

/-! ### crc_Sum: function 74 -/
def crc_Sum.f (k : Nat) (l0 : List Int) : Option (Int) := (crc_More.f k 4294967295 l0).bind fun t122 => (some t122)
set_option maxHeartbeats 8000000 in
set_option maxRecDepth 100000 in
theorem crc_Sum.calls (k : Nat) (A0 : Option Addr) (c0 : Nat) (l0 : List Int) (r : Int) (w : World) (hr0 : Kd.C (Kd.int .u8) w A0 l0.length l0) (hc0 : l0.length ≤ c0) (h : crc_Sum.f k l0 = some r) :
    Calls Tryz.prog 135 #[.slice A0 l0.length c0] w fun e w' => e = .returned (.int .u32 r) ∧ Drawn0 w w' := by
  have HR0 := Aside0.mk hr0
  have HC0 := Aside0.mk hc0
  clear hr0 hc0
  have H : ((crc_More.f k 4294967295 l0).bind fun t122 => (some t122)) = some r := h
  clear h
  replace H := Option.bind_eq_some_iff.mp H
  obtain ⟨t122, A20, H⟩ := H
  replace H : (some t122) = some r := H
  have A2 := Aside0.mk A20
  clear A20
  obtain rfl := Option.some.inj H
  go_enter Tryz.func135, Tryz.ntmps135
  go_wp2_with (first | ((with_reducible refine gate_callee (f := 144) rfl ?_); refine goesL_ (some 4) rfl rfl Tryz.func144 (by kernel_rfl) rfl #[.int .u32 4294967295, .slice A0 l0.length c0] rfl (by (try simp only [List.map_toArray, List.map_cons, List.map_nil]); first | done | rfl | (simp only [List.length_drop, List.length_take]; rfl)) ?_; (with_reducible refine (crc_More.calls k 4294967295 _ _ l0 t122 _ ?side1 ?side2 A2.out).mono ?_); (case side1 => repeat (first | exact HR0.out | (with_reducible refine Kd.C_alloc ?_ _) | (with_reducible refine Kd.C_drewN ?_ _) | (with_reducible refine Kd.C_drew ?_))); (case side2 => exact HC0.out); rintro e w' ⟨rfl, ⟨nd, rfl⟩⟩; refine ⟨_, rfl, ?_⟩))
  go_ret
  exact ⟨by first | rfl | (simp; done) | (simp [*]; done), by repeat (first | exact Drawn0.refl _ | apply Drawn0.step)⟩

-- NOT PRINTED: function 37 (super_Slot)

-- NOT PRINTED: function 42 (super_Save)

-- NOT PRINTED: function 46 (super_Format)

-- NOT PRINTED: function 84 (wal_ring)

-- NOT PRINTED: function 49 (wal_Format)

-- NOT PRINTED: function 23 (disk_Disk_Read)

-- NOT PRINTED: function 78 (codec_Read)

-- NOT PRINTED: function 106 (codec_Reader_fail)

-- NOT PRINTED: function 107 (codec_Reader_ok)

-- NOT PRINTED: function 119 (codec_Reader_take)

-- NOT PRINTED: function 105 (codec_Reader_fixed)

-- NOT PRINTED: function 79 (codec_Reader_N)

-- NOT PRINTED: function 80 (codec_Reader_Left)

/-! ### slices_Equal_byte_byte: function 81 -/
def slices_Equal_byte_byte.l0 : Nat → List Int → List Int → Int → Int → Option (Bool)
  | 0, _, _, _, _ => none
  | k + 1, x0, x1, x12, x13 => if x13 < x12 then (if 0 ≤ x13 then (if x13 < (x0.length : Int) then (if x13 < (x1.length : Int) then (if (rd x0 x13) = (rd x1 x13) then (slices_Equal_byte_byte.l0 k x0 x1 x12 (wrap64 (x13 + 1))) else (some false)) else (none)) else (none)) else (none)) else (some true)
def slices_Equal_byte_byte.f (k : Nat) (l0 : List Int) (l1 : List Int) : Option (Bool) := if (l0.length : Int) = (l1.length : Int) then (slices_Equal_byte_byte.l0 k l0 l1 (l0.length : Int) 0) else (some false)
set_option maxHeartbeats 8000000 in
set_option maxRecDepth 100000 in
theorem slices_Equal_byte_byte.calls (k : Nat) (A0 : Option Addr) (c0 : Nat) (l0 : List Int) (A1 : Option Addr) (c1 : Nat) (l1 : List Int) (r : Bool) (w : World) (hr0 : Kd.C (Kd.int .u8) w A0 l0.length l0) (hc0 : l0.length ≤ c0) (hr1 : Kd.C (Kd.int .u8) w A1 l1.length l1) (hc1 : l1.length ≤ c1) (h : slices_Equal_byte_byte.f k l0 l1 = some r) :
    Calls Tryz.prog 133 #[.slice A0 l0.length c0, .slice A1 l1.length c1] w fun e w' => e = .returned (.bool r) ∧ Drawn0 w w' := by
  have HR0 := Aside0.mk hr0
  have HC0 := Aside0.mk hc0
  clear hr0 hc0
  have HR1 := Aside0.mk hr1
  have HC1 := Aside0.mk hc1
  clear hr1 hc1
  have H : (if (l0.length : Int) = (l1.length : Int) then (slices_Equal_byte_byte.l0 k l0 l1 (l0.length : Int) 0) else (some false)) = some r := h
  clear h
  by_cases c3 : (l0.length : Int) = (l1.length : Int)
  · rw [if_pos c3] at H
    have c3b0 : ((l0.length : Int) == (l1.length : Int)) = true := beq_iff_eq.mpr c3
    have c3b1 : ((l0.length : Int) != (l1.length : Int)) = false := bne_eq_false_iff_eq.mpr c3
    have c3b2 : (l0.length == l1.length) = true := by first | simpa using c3 | (simp at c3 ⊢; omega)
    clear c3
    have H' := Aside0.mk H
    clear H
    go_enter Tryz.func133, Tryz.ntmps133
    go_wp2
    repeat (go_quiet (fail); try go_wp2)
    go_loopg [13] k (fun kq v13 w' => ∃ (x13_1 : Int), v13 = .int .i64 x13_1 ∧ Aside0 (slices_Equal_byte_byte.l0 kq l0 l1 (l0.length : Int) x13_1 = some r) ∧ Aside0 (kq ≤ k) ∧ Drawn0 w w')
    case atStart => exact ⟨(0), (by first | rfl | (simp; done) | (simp [*]; done)), H', ⟨Nat.le_refl _⟩, by repeat (first | exact Drawn0.refl _ | apply Drawn0.step)⟩
    case round =>
      clear H'
      try clear c1
      try clear p2
      try clear c3
      try clear c3b0
      try clear c3b1
      try clear c3b2
      obtain ⟨x13_1, rfl, HA, HK1, ⟨m1, rfl⟩⟩ := hrel
      cases gk with
      | zero => exact absurd HA.out (by simp [slices_Equal_byte_byte.l0])
      | succ k1 =>
        have H := HA.out
        clear HA
        simp only [slices_Equal_byte_byte.l0] at H
        by_cases c4 : x13_1 < (l0.length : Int)
        · rw [if_pos c4] at H
          have c4b0 : decide (x13_1 < (l0.length : Int)) = true := decide_eq_true c4
          clear c4
          by_cases c5 : 0 ≤ x13_1
          · rw [if_pos c5] at H
            have c5b0 : decide (0 ≤ x13_1) = true := decide_eq_true c5
            clear c5
            by_cases c6 : x13_1 < (l0.length : Int)
            · rw [if_pos c6] at H
              have c6b0 : decide (x13_1 < (l0.length : Int)) = true := decide_eq_true c6
              clear c6
              by_cases c7 : x13_1 < (l1.length : Int)
              · rw [if_pos c7] at H
                have c7b0 : decide (x13_1 < (l1.length : Int)) = true := decide_eq_true c7
                clear c7
                by_cases c8 : (rd l0 x13_1) = (rd l1 x13_1)
                · rw [if_pos c8] at H
                  have c8b0 : ((rd l0 x13_1) == (rd l1 x13_1)) = true := beq_iff_eq.mpr c8
                  have c8b1 : ((rd l0 x13_1) != (rd l1 x13_1)) = false := bne_eq_false_iff_eq.mpr c8
                  clear c8
                  have H' := Aside0.mk H
                  clear H
                  have p127 : 0 ≤ (x13_1 : Int) := of_decide_eq_true (by first | (with_reducible assumption) | assumption)
                  have q127 : x13_1 < (l0.length : Int) := of_decide_eq_true (by first | (with_reducible assumption) | assumption)
                  obtain ⟨ad127, e127, hx127_0⟩ := Kd.at_int HR0.out x13_1 p127 q127
                  cases e127
                  replace p127 := eq_true p127
                  replace q127 := eq_true q127
                  have p128 : 0 ≤ (x13_1 : Int) := of_decide_eq_true (by first | (with_reducible assumption) | assumption)
                  have q128 : x13_1 < (l1.length : Int) := of_decide_eq_true (by first | (with_reducible assumption) | assumption)
                  obtain ⟨ad128, e128, hx128_0⟩ := Kd.at_int HR1.out x13_1 p128 q128
                  cases e128
                  replace p128 := eq_true p128
                  replace q128 := eq_true q128
                  go_wp2
                  repeat (go_quiet (fail); try go_wp2)
                  go_roundg k1
                  case measure => have := HK1.out; omega
                  case rel => exact ⟨(wrap64 (x13_1 + 1)), (by first | rfl | (simp; done) | (simp [*]; done)), H', ⟨by have := HK1.out; omega⟩, by repeat (first | exact Drawn0.refl _ | apply Drawn0.step)⟩
                · rw [if_neg c8] at H
                  have c8b0 : ((rd l0 x13_1) == (rd l1 x13_1)) = false := beq_eq_false_iff_ne.mpr c8
                  have c8b1 : ((rd l0 x13_1) != (rd l1 x13_1)) = true := bne_iff_ne.mpr c8
                  obtain rfl := Option.some.inj H
                  have p127 : 0 ≤ (x13_1 : Int) := of_decide_eq_true (by first | (with_reducible assumption) | assumption)
                  have q127 : x13_1 < (l0.length : Int) := of_decide_eq_true (by first | (with_reducible assumption) | assumption)
                  obtain ⟨ad127, e127, hx127_0⟩ := Kd.at_int HR0.out x13_1 p127 q127
                  cases e127
                  replace p127 := eq_true p127
                  replace q127 := eq_true q127
                  have p128 : 0 ≤ (x13_1 : Int) := of_decide_eq_true (by first | (with_reducible assumption) | assumption)
                  have q128 : x13_1 < (l1.length : Int) := of_decide_eq_true (by first | (with_reducible assumption) | assumption)
                  obtain ⟨ad128, e128, hx128_0⟩ := Kd.at_int HR1.out x13_1 p128 q128
                  cases e128
                  replace p128 := eq_true p128
                  replace q128 := eq_true q128
                  go_wp2
                  repeat (go_quiet (fail); try go_wp2)
                  go_ret
                  exact ⟨by first | rfl | (simp; done) | (simp [*]; done), by repeat (first | exact Drawn0.refl _ | apply Drawn0.step)⟩
              · rw [if_neg c7] at H
                exact absurd H (by simp)
            · rw [if_neg c6] at H
              exact absurd H (by simp)
          · rw [if_neg c5] at H
            exact absurd H (by simp)
        · rw [if_neg c4] at H
          have c4b0 : decide (x13_1 < (l0.length : Int)) = false := decide_eq_false c4
          clear c4
          obtain rfl := Option.some.inj H
          go_wp2
          repeat (go_quiet (fail); try go_wp2)
          go_ret
          exact ⟨by first | rfl | (simp; done) | (simp [*]; done), by repeat (first | exact Drawn0.refl _ | apply Drawn0.step)⟩
  · rw [if_neg c3] at H
    have c3b0 : ((l0.length : Int) == (l1.length : Int)) = false := beq_eq_false_iff_ne.mpr c3
    have c3b1 : ((l0.length : Int) != (l1.length : Int)) = true := bne_iff_ne.mpr c3
    have c3b2 : (l0.length == l1.length) = false := by first | simpa using c3 | (simp at c3 ⊢; omega)
    obtain rfl := Option.some.inj H
    go_enter Tryz.func133, Tryz.ntmps133
    go_wp2
    repeat (go_quiet (fail); try go_wp2)
    go_ret
    exact ⟨by first | rfl | (simp; done) | (simp [*]; done), by repeat (first | exact Drawn0.refl _ | apply Drawn0.step)⟩

-- NOT PRINTED: function 120 (slices_IndexFunc_byte_byte)

-- NOT PRINTED: function 108 (slices_ContainsFunc_byte_byte)

-- NOT PRINTED: function 82 (super_noughts)

-- NOT PRINTED: function 39 (super_Of)

-- NOT PRINTED: function 44 (super_Load)

/-! ### wal_cut: function 96 -/
def wal_cut.f (a0 : Int) : Option (Int) := some (wrap64 (Int.tdiv (wrap64 ((wrap64 (a0 + 64)) - 1)) 64))
set_option maxHeartbeats 8000000 in
set_option maxRecDepth 100000 in
theorem wal_cut.calls (a0 : Int) (r : Int) (w : World) (h : wal_cut.f a0 = some r) :
    Calls Tryz.prog 101 #[.int .i64 a0] w fun e w' => e = .returned (.int .i64 r) ∧ Drawn0 w w' := by
  have H : (some (wrap64 (Int.tdiv (wrap64 ((wrap64 (a0 + 64)) - 1)) 64))) = some r := h
  clear h
  obtain rfl := Option.some.inj H
  go_enter Tryz.func101, Tryz.ntmps101
  go_wp2
  go_ret
  exact ⟨by first | rfl | (simp; done) | (simp [*]; done), by repeat (first | exact Drawn0.refl _ | apply Drawn0.step)⟩

-- NOT PRINTED: function 112 (wal_sector)

-- NOT PRINTED: function 113 (frame_Of)

-- NOT PRINTED: function 87 (wal_Wal_record)

-- NOT PRINTED: function 51 (wal_Open)

-- NOT PRINTED: function 89 (wal_Wal_ok)

end Go.Proofs.YtlepcmljmibdnaaGreat.PWalOpens
namespace Go.Proofs.YtlepcmljmibdnaaGreat.PWalOpens
open Go.RowKit Go.Proofs.YtlepcmljmibdnaaGreatW.PrintWords Go.Proofs.YtlepcmljmibdnaaGreatW.PrintLast Go.Proofs.YtlepcmljmibdnaaGreatW.PrintMore
attribute [local go_sem] max2_int min2_int max_two min_two max_three min_three max_four min_four   -- for this text's walks alone
set_option linter.unusedVariables false
set_option linter.unusedSimpArgs false

/-! ### frame_Put: function 95 -/
def frame_Put.f (k : Nat) (l0 : List Int) : Option (List Int × Int) := if (l0.length : Int) > 60000 then (some (([] : List Int), 2)) else ((some (([165, ((l0.length : Int) / 256) % 256, ((l0.length : Int)) % 256] : List Int) : List Int)).bind fun y139 => (if y139.length + l0.length < 140737488355328 then ((some (y139 ++ l0 : List Int)).bind fun y142 => (if 1 ≤ (y142.length : Int) then ((crc_Sum.f k (y142.drop 1)).bind fun t149 => ((some (([(t149 / 16777216) % 256, (t149 / 65536) % 256, (t149 / 256) % 256, (t149) % 256] : List Int) : List Int)).bind fun y150 => (if y142.length + y150.length < 140737488355328 then (some ((y142 ++ y150), 0)) else (none)))) else (none))) else (none)))
set_option maxHeartbeats 8000000 in
set_option maxRecDepth 100000 in
theorem frame_Put.calls (k : Nat) (A0 : Option Addr) (c0 : Nat) (l0 : List Int) (r1 : List Int) (r2 : Int) (w : World) (hr0 : Kd.C (Kd.int .u8) w A0 l0.length l0) (hc0 : l0.length ≤ c0) (h : frame_Put.f k l0 = some (r1, r2)) :
    Calls Tryz.prog 105 #[.slice A0 l0.length c0] w fun e w' => ∃ v0_ : Value, e = .returned (.tuple #[v0_, .int .i64 r2]) ∧ Kd.R (Kd.int .u8) 5 w' w.heap.size (fun _ => True) v0_ r1 ∧ Below w.heap.size w w' := by
  have HR0 := Aside0.mk hr0
  have HC0 := Aside0.mk hc0
  clear hr0 hc0
  have HB := Aside0.mk (Below.refl w.heap.size w)
  have H : (if (l0.length : Int) > 60000 then (some (([] : List Int), 2)) else ((some (([165, ((l0.length : Int) / 256) % 256, ((l0.length : Int)) % 256] : List Int) : List Int)).bind fun y139 => (if y139.length + l0.length < 140737488355328 then ((some (y139 ++ l0 : List Int)).bind fun y142 => (if 1 ≤ (y142.length : Int) then ((crc_Sum.f k (y142.drop 1)).bind fun t149 => ((some (([(t149 / 16777216) % 256, (t149 / 65536) % 256, (t149 / 256) % 256, (t149) % 256] : List Int) : List Int)).bind fun y150 => (if y142.length + y150.length < 140737488355328 then (some ((y142 ++ y150), 0)) else (none)))) else (none))) else (none)))) = some (r1, r2) := h
  clear h
  by_cases c2 : (l0.length : Int) > 60000
  · rw [if_pos c2] at H
    have c2b0 : decide (60000 < (l0.length : Int)) = true := decide_eq_true c2
    have c2b1 : decide (60000 < l0.length) = true := decide_eq_true (by omega)
    clear c2
    simp only [Option.some.injEq, Prod.mk.injEq] at H
    obtain ⟨rfl, rfl⟩ := H
    go_enter Tryz.func105, Tryz.ntmps105
    go_wp2
    go_ret2
    exact ⟨_, by first | rfl | (simp [errW_none, errW_some] <;> rfl) | (simp [*, errW_none, errW_some] <;> rfl), by first | exact Kd.R_nil _ _ _ _ _ | exact Kd.N_nil _ _ _ _ _ | exact Kd.V_nil _ _ _ _ _ | exact Kd.Q_nil _ _ _ _ _ | exact Kd.S_nil _ _ _ _ _, by repeat (first | (with_reducible first | exact HB.out | apply below_alloc | apply pw_below_drewN | apply below_drew1) | exact HB.out)⟩
  · rw [if_neg c2] at H
    have c2b0 : decide (60000 < (l0.length : Int)) = false := decide_eq_false c2
    have c2b1 : decide (60000 < l0.length) = false := decide_eq_false (by omega)
    clear c2
    obtain ⟨y139, hy139⟩ : ∃ y_ : List Int, y_ = (([165, ((l0.length : Int) / 256) % 256, ((l0.length : Int)) % 256] : List Int)) := ⟨_, rfl⟩
    replace H : (if y139.length + l0.length < 140737488355328 then ((some (y139 ++ l0 : List Int)).bind fun y142 => (if 1 ≤ (y142.length : Int) then ((crc_Sum.f k (y142.drop 1)).bind fun t149 => ((some (([(t149 / 16777216) % 256, (t149 / 65536) % 256, (t149 / 256) % 256, (t149) % 256] : List Int) : List Int)).bind fun y150 => (if y142.length + y150.length < 140737488355328 then (some ((y142 ++ y150), 0)) else (none)))) else (none))) else (none)) = some (r1, r2) := by first | (rw [hy139]; with_reducible exact H) | (have H2_ := (Option.bind_some _ _).symm.trans H; rw [hy139]; with_reducible exact H2_) | (have H2_ := (Option.bind_some _ _).symm.trans H; with_reducible exact H2_) | with_reducible exact H | (rw [hy139]; exact H) | exact H
    have Ny139 := Aside0.mk hy139
    clear hy139
    by_cases c3 : y139.length + l0.length < 140737488355328
    · rw [if_pos c3] at H
      have LMc3 := Aside0.mk c3
      clear c3
      obtain ⟨y142, hy142⟩ : ∃ y_ : List Int, y_ = (y139 ++ l0) := ⟨_, rfl⟩
      replace H : (if 1 ≤ (y142.length : Int) then ((crc_Sum.f k (y142.drop 1)).bind fun t149 => ((some (([(t149 / 16777216) % 256, (t149 / 65536) % 256, (t149 / 256) % 256, (t149) % 256] : List Int) : List Int)).bind fun y150 => (if y142.length + y150.length < 140737488355328 then (some ((y142 ++ y150), 0)) else (none)))) else (none)) = some (r1, r2) := by first | (rw [hy142]; with_reducible exact H) | (have H2_ := (Option.bind_some _ _).symm.trans H; rw [hy142]; with_reducible exact H2_) | (have H2_ := (Option.bind_some _ _).symm.trans H; with_reducible exact H2_) | with_reducible exact H | (rw [hy142]; exact H) | exact H
      have Ny142 := Aside0.mk hy142
      clear hy142
      by_cases c4 : 1 ≤ (y142.length : Int)
      · rw [if_pos c4] at H
        have c4b0 := eq_true c4
        have c4b1 : decide (1 ≤ (y142.length : Int)) = true := decide_eq_true c4
        clear c4
        obtain ⟨y145, hy145⟩ : ∃ y_ : List Int, y_ = (y142.drop 1) := ⟨_, rfl⟩
        replace H : ((crc_Sum.f k y145).bind fun t149 => ((some (([(t149 / 16777216) % 256, (t149 / 65536) % 256, (t149 / 256) % 256, (t149) % 256] : List Int) : List Int)).bind fun y150 => (if y142.length + y150.length < 140737488355328 then (some ((y142 ++ y150), 0)) else (none)))) = some (r1, r2) := by first | (rw [hy145]; with_reducible exact H) | (have H2_ := (Option.bind_some _ _).symm.trans H; rw [hy145]; with_reducible exact H2_) | (have H2_ := (Option.bind_some _ _).symm.trans H; with_reducible exact H2_) | with_reducible exact H | (rw [hy145]; exact H) | exact H
        have Ny145 := Aside0.mk hy145
        clear hy145
        replace H := Option.bind_eq_some_iff.mp H
        obtain ⟨t149, A50, H⟩ := H
        replace H : ((some (([(t149 / 16777216) % 256, (t149 / 65536) % 256, (t149 / 256) % 256, (t149) % 256] : List Int) : List Int)).bind fun y150 => (if y142.length + y150.length < 140737488355328 then (some ((y142 ++ y150), 0)) else (none))) = some (r1, r2) := H
        have A5 := Aside0.mk A50
        clear A50
        obtain ⟨y150, hy150⟩ : ∃ y_ : List Int, y_ = (([(t149 / 16777216) % 256, (t149 / 65536) % 256, (t149 / 256) % 256, (t149) % 256] : List Int)) := ⟨_, rfl⟩
        replace H : (if y142.length + y150.length < 140737488355328 then (some ((y142 ++ y150), 0)) else (none)) = some (r1, r2) := by first | (rw [hy150]; with_reducible exact H) | (have H2_ := (Option.bind_some _ _).symm.trans H; rw [hy150]; with_reducible exact H2_) | (have H2_ := (Option.bind_some _ _).symm.trans H; with_reducible exact H2_) | with_reducible exact H | (rw [hy150]; exact H) | exact H
        have Ny150 := Aside0.mk hy150
        clear hy150
        by_cases c6 : y142.length + y150.length < 140737488355328
        · rw [if_pos c6] at H
          have LMc6 := Aside0.mk c6
          clear c6
          obtain ⟨y153, hy153⟩ : ∃ y_ : List Int, y_ = (y142 ++ y150) := ⟨_, rfl⟩
          replace H : (some (y153, 0)) = some (r1, r2) := by first | (rw [hy153]; with_reducible exact H) | (have H2_ := (Option.bind_some _ _).symm.trans H; rw [hy153]; with_reducible exact H2_) | (have H2_ := (Option.bind_some _ _).symm.trans H; with_reducible exact H2_) | with_reducible exact H | (rw [hy153]; exact H) | exact H
          have Ny153 := Aside0.mk hy153
          clear hy153
          simp only [Option.some.injEq, Prod.mk.injEq] at H
          obtain ⟨rfl, rfl⟩ := H
          go_enter Tryz.func105, Tryz.ntmps105
          go_wp2_with (first | ((with_reducible refine gate_dst (N := 16) rfl ?_); refine Kd.R_lit (Kd.int .u8) _ 5 ?hg (N := 16) ?hd (xs := ([165, ((l0.length : Int) / 256) % 256, ((l0.length : Int)) % 256] : List Int)) (inner := [.int .u8 165, .int .u8 (((l0.length : Int) / 256) % 256), .int .u8 (((l0.length : Int)) % 256)]) (ok := fun _ => True) (okp := fun _ => True) ?hr ?hp (fun _ hk => hk) trivial (Below.refl _ _) (Nat.le_refl _) (by simp) ?_; (case hd => rfl); (case hg => rfl); (case hr => first | (go_simp; done) | (go_simp; rfl)); (case hp => exact (Reps.one (show Kd.M (Kd.int .u8) _ _ _ 165 [.int .u8 165] from rfl) (Reps.one (show Kd.M (Kd.int .u8) _ _ _ (((l0.length : Int) / 256) % 256) [.int .u8 (((l0.length : Int) / 256) % 256)] from rfl) (Reps.one (show Kd.M (Kd.int .u8) _ _ _ (((l0.length : Int)) % 256) [.int .u8 (((l0.length : Int)) % 256)] from rfl) (Reps.none _ _))))); intro v140 w7 ho8 hb hg_ hnew_; clear hg_ hnew_; (first | rw [← Ny139.out] at ho8 | (simp only [Int.reduceToNat] at ho8; rw [← Ny139.out] at ho8)); have n0_ := Aside0.mk (Kd.R_lower ho8 (below_size (by repeat (first | (with_reducible first | exact HB.out | apply below_alloc | apply pw_below_drewN | apply below_drew1) | exact HB.out)))); have n1_ := Aside0.mk (below_step (by repeat (first | (with_reducible first | exact HB.out | apply below_alloc | apply pw_below_drewN | apply below_drew1) | exact HB.out)) hb); clear HB; have HO141 := n0_; have HB := n1_; clear n0_ n1_; clear hb ho8) | ((with_reducible refine gate_builtin (b := .append) (xs := #[.tmp 16, .tmp 17]) rfl ?_); at_builtin; refine Kd.R_append_rows (Kd.int .u8) (w0 := w) w.heap.size rfl (.tmp 16) (.tmp 17) 58 5 (.int .u8 0) 1 rfl Tryz.underlying58 info5 rfl (by decide) (by omega) v140 y139 l0 _ _ _ (fun _ => True) (fun _ => False) rfl rfl ?aO ?aR (fun _ _ h => h) (fun _ h => h.elim) ?aF ?aB ?aS ?aL ?_; (case aR => repeat (first | exact (Kd.C_below HR0.out HB.out) | (with_reducible refine Kd.C_alloc ?_ _) | (with_reducible refine Kd.C_drewN ?_ _) | (with_reducible refine Kd.C_drew ?_))); (case aB => exact (by repeat (first | (with_reducible first | exact HB.out | apply below_alloc | apply pw_below_drewN | apply below_drew1) | exact HB.out))); (case aF => exact (fun _ _ => trivial)); (case aO => exact (by (with_reducible repeat (first | apply Kd.R_alloc | apply Kd.R_drewN | apply Kd.R_drew)); exact HO141.out)); (case aS => exact (below_size (by repeat (first | (with_reducible first | exact HB.out | apply below_alloc | apply pw_below_drewN | apply below_drew1) | exact HB.out)))); (case aL => have := LMc3.out; omega); intro v143 w9 ho hb hg hat; rw [← Ny142.out] at ho; have n0_ := Aside0.mk (hb); have n1_ := Aside0.mk (ho); clear HB; clear HO141; have HB := n0_; have HO144 := n1_; clear n0_ n1_; clear ho hb hg hat; obtain ⟨Ao11, co11, eo11⟩ := Kd.R_slice HO144.out; subst eo11; have q10 : (1 : Int) ≤ ((y142.length : Int) : Int) := of_decide_eq_true (by first | (with_reducible assumption) | assumption); obtain ⟨i010, hi010, _, hsz10, _⟩ := info_parts info5; have hroom10 : y142.length ≤ co11 := (Kd.R_reads' HO144.out).2.1; have hC10 : Kd.C (Kd.int .u8) _ Ao11 y142.length y142 := (Kd.R_reads' HO144.out).2.2; have hcut10 := cut_from (P := Tryz.prog) 58 5 .i64 Tryz.underlying58 hi010 1 hsz10 Ao11 y142.length co11 1 (by omega) q10; have hr10 := Kd.C_drop (m := (1 : Int).toNat) (c := co11) hC10 (by omega) hroom10; obtain ⟨A10, hA10⟩ : ∃ A1, A1 = (if co11 = (1 : Int).toNat then Ao11 else (Ao11 : Option Addr).map (·.add ((1 : Int).toNat * 1))) := ⟨_, rfl⟩; obtain ⟨c10, hc10⟩ : ∃ c1, c1 = co11 - (1 : Int).toNat := ⟨_, rfl⟩; have hy10 : y145.length = y142.length - (1 : Int).toNat := (by rw [Ny145.out, List.length_drop] <;> omega); rw [show (y142).drop (1 : Int).toNat = y145 from Ny145.out.symm] at hr10; replace hr10 : Kd.C (Kd.int .u8) _ A10 y145.length y145 := (by rw [hA10]; exact hr10); rw [← hy10, ← hA10, ← hc10] at hcut10; have HR148 := Aside0.mk hr10; have HC148 := Aside0.mk (show y145.length ≤ c10 from by rw [hy10, hc10]; exact Nat.sub_le_sub_right hroom10 _); clear hr10 hC10 hroom10 hi010 hsz10 hc10; have KY10 := Aside0.mk hy10; have KA10 := Aside0.mk hA10; clear hy10 hA10; have KL10 := Aside0.mk (show 1 ≤ y142.length from by omega); replace q10 := eq_true q10) | ((with_reducible refine gate_callee (f := 135) rfl ?_); refine goesL_ (some 21) rfl rfl Tryz.func135 (by kernel_rfl) rfl #[.slice A10 y145.length c10] rfl (by (try simp only [List.map_toArray, List.map_cons, List.map_nil]); first | done | rfl | (simp only [List.length_drop, List.length_take]; rfl)) ?_; (with_reducible refine (crc_Sum.calls k _ _ y145 t149 _ ?side1 ?side2 A5.out).mono ?_); (case side1 => repeat (first | exact (by repeat (first | (with_reducible exact HR148.out) | (with_reducible refine Kd.C_alloc ?_ _) | (with_reducible refine Kd.C_drewN ?_ _) | (with_reducible refine Kd.C_drew ?_) | exact HR148.out)) | (with_reducible refine Kd.C_alloc ?_ _) | (with_reducible refine Kd.C_drewN ?_ _) | (with_reducible refine Kd.C_drew ?_))); (case side2 => exact HC148.out); rintro e w' ⟨rfl, ⟨nd, rfl⟩⟩; refine ⟨_, rfl, ?_⟩) | ((with_reducible refine gate_dst (N := 34) rfl ?_); refine Kd.R_lit (Kd.int .u8) _ 5 ?hg (N := 34) ?hd (xs := ([(t149 / 16777216) % 256, (t149 / 65536) % 256, (t149 / 256) % 256, (t149) % 256] : List Int)) (inner := [.int .u8 ((t149 / 16777216) % 256), .int .u8 ((t149 / 65536) % 256), .int .u8 ((t149 / 256) % 256), .int .u8 ((t149) % 256)]) (ok := fun _ => True) (okp := fun _ => True) ?hr ?hp (fun _ hk => hk) trivial (Below.refl _ _) (Nat.le_refl _) (by simp) ?_; (case hd => rfl); (case hg => rfl); (case hr => first | (go_simp; done) | (go_simp; rfl)); (case hp => exact (Reps.one (show Kd.M (Kd.int .u8) _ _ _ ((t149 / 16777216) % 256) [.int .u8 ((t149 / 16777216) % 256)] from rfl) (Reps.one (show Kd.M (Kd.int .u8) _ _ _ ((t149 / 65536) % 256) [.int .u8 ((t149 / 65536) % 256)] from rfl) (Reps.one (show Kd.M (Kd.int .u8) _ _ _ ((t149 / 256) % 256) [.int .u8 ((t149 / 256) % 256)] from rfl) (Reps.one (show Kd.M (Kd.int .u8) _ _ _ ((t149) % 256) [.int .u8 ((t149) % 256)] from rfl) (Reps.none _ _)))))); intro v151 w12 ho13 hb hg_ hnew_; clear hg_ hnew_; (first | rw [← Ny150.out] at ho13 | (simp only [Int.reduceToNat] at ho13; rw [← Ny150.out] at ho13)); have n0_ := Aside0.mk (Kd.R_elder' (by (with_reducible repeat (first | apply Kd.R_alloc | apply Kd.R_drewN | apply Kd.R_drew)); exact HO144.out) (Kd.R_base ho13) hb); have n1_ := Aside0.mk (Kd.R_lower (Kd.R_new' ho13 (Kd.R_lt (by (with_reducible repeat (first | apply Kd.R_alloc | apply Kd.R_drewN | apply Kd.R_drew)); exact HO144.out))) (below_size (by repeat (first | (with_reducible first | exact HB.out | apply below_alloc | apply pw_below_drewN | apply below_drew1) | exact HB.out)))); have n2_ := Aside0.mk (Kd.C_below (by repeat (first | (with_reducible exact HR148.out) | (with_reducible refine Kd.C_alloc ?_ _) | (with_reducible refine Kd.C_drewN ?_ _) | (with_reducible refine Kd.C_drew ?_) | exact HR148.out)) hb); have n3_ := Aside0.mk (below_step (by repeat (first | (with_reducible first | exact HB.out | apply below_alloc | apply pw_below_drewN | apply below_drew1) | exact HB.out)) hb); clear HO144; clear HR148; clear HB; have HO144 := n0_; have HO152 := n1_; have HR148 := n2_; have HB := n3_; clear n0_ n1_ n2_ n3_; clear hb ho13; obtain ⟨Ao15, co15, eo15⟩ := Kd.R_slice HO152.out; subst eo15) | ((with_reducible refine gate_builtin (b := .append) (xs := #[.tmp 22, .tmp 34]) rfl ?_); at_builtin; refine Kd.R_append_rows (Kd.int .u8) (w0 := w) w.heap.size rfl (.tmp 22) (.tmp 34) 58 5 (.int .u8 0) 1 rfl Tryz.underlying58 info5 rfl (by decide) (by omega) (.slice Ao11 y142.length co11) y142 y150 _ _ _ (fun k_ => some k_ ≠ (.slice Ao15 y150.length co15 : Value).ownBlock) (fun _ => False) rfl rfl ?aO ?aR (fun _ _ h => h) (fun _ h => h.elim) ?aF ?aB ?aS ?aL ?_; (case aR => repeat (first | exact (Kd.R_reads' HO152.out).2.2 | (with_reducible refine Kd.C_alloc ?_ _) | (with_reducible refine Kd.C_drewN ?_ _) | (with_reducible refine Kd.C_drew ?_))); (case aB => exact (by repeat (first | (with_reducible first | exact HB.out | apply below_alloc | apply pw_below_drewN | apply below_drew1) | exact HB.out))); (case aF => exact (fun k_ hk => Kd.fresh' (Kd.R_lt (by (with_reducible repeat (first | apply Kd.R_alloc | apply Kd.R_drewN | apply Kd.R_drew)); exact HO152.out)) k_ hk)); (case aO => exact (by (with_reducible repeat (first | apply Kd.R_alloc | apply Kd.R_drewN | apply Kd.R_drew)); exact Kd.R_mono HO144.out (fun _ hk => hk.2))); (case aS => exact (below_size (by repeat (first | (with_reducible first | exact HB.out | apply below_alloc | apply pw_below_drewN | apply below_drew1) | exact HB.out)))); (case aL => have := LMc6.out; omega); intro v154 w14 ho hb hg hat; rw [← Ny153.out] at ho; have n0_ := Aside0.mk (Kd.R_after (ok := (fun _ => True)) (by (with_reducible repeat (first | apply Kd.R_alloc | apply Kd.R_drewN | apply Kd.R_drew)); exact HO152.out) hg hat); have n1_ := Aside0.mk (hb); have n2_ := Aside0.mk (ho); clear HO152; clear HB; clear HO144; have HO152 := n0_; have HB := n1_; have HO155 := n2_; clear n0_ n1_ n2_; clear ho hb hg hat))
          go_ret2
          exact ⟨_, by first | rfl | (simp [errW_none, errW_some] <;> rfl) | (simp [*, errW_none, errW_some] <;> rfl), by (with_reducible repeat (first | apply Kd.R_alloc | apply Kd.R_drewN | apply Kd.R_drew)); exact Kd.R_mono HO155.out (fun _ hk => trivial), by repeat (first | (with_reducible first | exact HB.out | apply below_alloc | apply pw_below_drewN | apply below_drew1) | exact HB.out)⟩
        · rw [if_neg c6] at H
          exact absurd H (by simp)
      · rw [if_neg c4] at H
        exact absurd H (by simp)
    · rw [if_neg c3] at H
      exact absurd H (by simp)

/-! ### wal_Need: function 57 -/
def wal_Need.f (k : Nat) (l0 : List Int) : Option (Int) := (frame_Put.f k l0).bind fun bt156 => (if bt156.2 = 0 then ((wal_cut.f (bt156.1.length : Int)).bind fun t160 => (some t160)) else (some 0))
set_option maxHeartbeats 8000000 in
set_option maxRecDepth 100000 in
theorem wal_Need.calls (k : Nat) (A0 : Option Addr) (c0 : Nat) (l0 : List Int) (r : Int) (w : World) (hr0 : Kd.C (Kd.int .u8) w A0 l0.length l0) (hc0 : l0.length ≤ c0) (h : wal_Need.f k l0 = some r) :
    Calls Tryz.prog 84 #[.slice A0 l0.length c0] w fun e w' => e = .returned (.int .i64 r) ∧ Below w.heap.size w w' := by
  have HR0 := Aside0.mk hr0
  have HC0 := Aside0.mk hc0
  clear hr0 hc0
  have HB := Aside0.mk (Below.refl w.heap.size w)
  have H : ((frame_Put.f k l0).bind fun bt156 => (if bt156.2 = 0 then ((wal_cut.f (bt156.1.length : Int)).bind fun t160 => (some t160)) else (some 0))) = some r := h
  clear h
  replace H := Option.bind_eq_some_iff.mp H
  obtain ⟨⟨t156, t157⟩, A20, H⟩ := H
  replace H : (if t157 = 0 then ((wal_cut.f (t156.length : Int)).bind fun t160 => (some t160)) else (some 0)) = some r := H
  have A2 := Aside0.mk A20
  clear A20
  by_cases c3 : t157 = 0
  · rw [if_pos c3] at H
    have c3b0 : (t157 == 0) = true := beq_iff_eq.mpr c3
    have c3b1 : (t157 != 0) = false := bne_eq_false_iff_eq.mpr c3
    clear c3
    replace H := Option.bind_eq_some_iff.mp H
    obtain ⟨t160, A40, H⟩ := H
    replace H : (some t160) = some r := H
    have A4 := Aside0.mk A40
    clear A40
    obtain rfl := Option.some.inj H
    go_enter Tryz.func84, Tryz.ntmps84
    go_wp2_with (first | ((with_reducible refine gate_callee (f := 105) rfl ?_); refine goesL_ (some 7) rfl rfl Tryz.func105 (by kernel_rfl) rfl #[.slice A0 l0.length c0] rfl (by (try simp only [List.map_toArray, List.map_cons, List.map_nil]); first | done | rfl | (simp only [List.length_drop, List.length_take]; rfl)) ?_; (with_reducible refine (frame_Put.calls k _ _ l0 t156 t157 _ ?side1 ?side2 A2.out).mono ?_); (case side1 => repeat (first | exact HR0.out | (with_reducible refine Kd.C_alloc ?_ _) | (with_reducible refine Kd.C_drewN ?_ _) | (with_reducible refine Kd.C_drew ?_))); (case side2 => exact HC0.out); rintro e w5 ⟨v158, rfl, ho0, hb⟩; refine ⟨_, rfl, ?_⟩; have n0_ := Aside0.mk (Kd.R_lower ho0 (below_size (by repeat (first | (with_reducible first | exact HB.out | apply below_alloc | apply pw_below_drewN | apply below_drew1) | exact HB.out)))); have n1_ := Aside0.mk (below_step (by repeat (first | (with_reducible first | exact HB.out | apply below_alloc | apply pw_below_drewN | apply below_drew1) | exact HB.out)) hb); clear HB; have HO159 := n0_; have HB := n1_; clear n0_ n1_; (try clear hb); (try clear hb2); (try clear hk); (try clear hi); (try clear ho0); obtain ⟨Ao6, co6, eo6⟩ := Kd.R_slice HO159.out; subst eo6) | ((with_reducible refine gate_callee (f := 101) rfl ?_); refine goesL_ (some 14) rfl rfl Tryz.func101 (by kernel_rfl) rfl #[.int .i64 (t156.length : Int)] rfl (by (try simp only [List.map_toArray, List.map_cons, List.map_nil]); first | done | rfl | (simp only [List.length_drop, List.length_take]; rfl)) ?_; (with_reducible refine (wal_cut.calls (t156.length : Int) t160 _ A4.out).mono ?_); rintro e w' ⟨rfl, ⟨nd, rfl⟩⟩; refine ⟨_, rfl, ?_⟩))
    go_ret
    exact ⟨by first | rfl | (simp [errW_none, errW_some] <;> rfl) | (simp [*, errW_none, errW_some] <;> rfl), by repeat (first | (with_reducible first | exact HB.out | apply below_alloc | apply pw_below_drewN | apply below_drew1) | exact HB.out)⟩
  · rw [if_neg c3] at H
    have c3b0 : (t157 == 0) = false := beq_eq_false_iff_ne.mpr c3
    have c3b1 : (t157 != 0) = true := bne_iff_ne.mpr c3
    obtain rfl := Option.some.inj H
    go_enter Tryz.func84, Tryz.ntmps84
    go_wp2_with (first | ((with_reducible refine gate_callee (f := 105) rfl ?_); refine goesL_ (some 7) rfl rfl Tryz.func105 (by kernel_rfl) rfl #[.slice A0 l0.length c0] rfl (by (try simp only [List.map_toArray, List.map_cons, List.map_nil]); first | done | rfl | (simp only [List.length_drop, List.length_take]; rfl)) ?_; (with_reducible refine (frame_Put.calls k _ _ l0 t156 t157 _ ?side1 ?side2 A2.out).mono ?_); (case side1 => repeat (first | exact HR0.out | (with_reducible refine Kd.C_alloc ?_ _) | (with_reducible refine Kd.C_drewN ?_ _) | (with_reducible refine Kd.C_drew ?_))); (case side2 => exact HC0.out); rintro e w7 ⟨v158, rfl, ho0, hb⟩; refine ⟨_, rfl, ?_⟩; have n0_ := Aside0.mk (Kd.R_lower ho0 (below_size (by repeat (first | (with_reducible first | exact HB.out | apply below_alloc | apply pw_below_drewN | apply below_drew1) | exact HB.out)))); have n1_ := Aside0.mk (below_step (by repeat (first | (with_reducible first | exact HB.out | apply below_alloc | apply pw_below_drewN | apply below_drew1) | exact HB.out)) hb); clear HB; have HO159 := n0_; have HB := n1_; clear n0_ n1_; (try clear hb); (try clear hb2); (try clear hk); (try clear hi); (try clear ho0)))
    go_ret
    exact ⟨by first | rfl | (simp [errW_none, errW_some] <;> rfl) | (simp [*, errW_none, errW_some] <;> rfl), by repeat (first | (with_reducible first | exact HB.out | apply below_alloc | apply pw_below_drewN | apply below_drew1) | exact HB.out)⟩

-- NOT PRINTED: function 62 (wal_Wal_Free)

-- NOT PRINTED: function 114 (slices_Chunk_byte_byte)

-- NOT PRINTED: function 90 (wal_Wal_lay)

-- NOT PRINTED: function 91 (wal_Wal_end)

-- NOT PRINTED: function 92 (wal_Wal_turn)

-- NOT PRINTED: function 115 (slices_Grow_uint64_uint64)

-- NOT PRINTED: function 93 (slices_Concat_uint64_uint64)

-- NOT PRINTED: function 53 (wal_Wal_Add)

-- NOT PRINTED: function 98 (slices_Clone_uint64_uint64)

-- NOT PRINTED: function 60 (wal_Wal_Cut)

-- NOT PRINTED: function 47 (factotumlaw07_awake)

/-! ### factotumlaw07_few: function 48 -/
def factotumlaw07_few.l0 : Nat → List (List Int) → List (List Int) → Int → Int → Option (Bool)
  | 0, _, _, _, _ => none
  | k + 1, x0, x5, x6, x7 => if x7 < x6 then (if 0 ≤ x7 then (if x7 < (x5.length : Int) then (if ((rd_L1 x5 x7).length : Int) > 400 then (some false) else (factotumlaw07_few.l0 k x0 x5 x6 (wrap64 (x7 + 1)))) else (none)) else (none)) else (some (decide ((x0.length : Int) ≤ 6)))
def factotumlaw07_few.f (k : Nat) (l0 : List (List Int)) : Option (Bool) := factotumlaw07_few.l0 k l0 l0 (l0.length : Int) 0
/-! ### factotumref05_ring: function 85 -/
-- NOT PRINTED: function 28 (factotumref05_Disk_Flush)

/-! ### factotumref01_Fixed: function 76 -/
def factotumref01_Fixed.l0 : Nat → List Int → Int → Int → Option (List Int)
  | 0, _, _, _ => none
  | k + 1, x0, x1, x7 => if x7 ≥ 0 then (if 0 ≤ (wrap64 (8 * x7)) then (if x0.length < 140737488355328 then (factotumref01_Fixed.l0 k (x0 ++ [(shr .u64 x1 (wrap64 (8 * x7))) % 256]) x1 (wrap64 (x7 - 1))) else (none)) else (none)) else (some x0)
def factotumref01_Fixed.f (k : Nat) (l0 : List Int) (a1 : Int) (a2 : Int) : Option (List Int) := factotumref01_Fixed.l0 k l0 a1 (wrap64 (a2 - 1))
/-! ### factotumref01_wide: function 103 -/
def factotumref01_wide.l0 : Nat → Int → Int → Option (Int)
  | 0, _, _ => none
  | k + 1, x0, x3 => if x3 < 8 then (if 0 ≤ (wrap64 (8 * x3)) then (if x0 < (shl .u64 1 (wrap64 (8 * x3))) then (some x3) else (factotumref01_wide.l0 k x0 (wrap64 (x3 + 1)))) else (none)) else (some 8)
def factotumref01_wide.f (k : Nat) (a0 : Int) : Option (Int) := factotumref01_wide.l0 k a0 1
/-! ### factotumref01_N: function 75 -/
def factotumref01_N.f (k : Nat) (l0 : List Int) (a1 : Int) : Option (List Int) := if a1 < 128 then (if l0.length < 140737488355328 then (some (l0 ++ [(a1) % 256])) else (none)) else ((factotumref01_wide.f k a1).bind fun t174 => (if l0.length < 140737488355328 then ((factotumref01_Fixed.f k (l0 ++ [(wrap64 (128 + t174)) % 256]) a1 t174).bind fun t178 => (some t178)) else (none)))
/-! ### factotumref01_Step: function 104 -/
def factotumref01_Step.l0 : Nat → Int → Int → Int → Option (Int)
  | 0, _, _, _ => none
  | k + 1, x0, x1, x5 => if x5 ≥ 0 then (if 0 ≤ x5 then (if (Go.bits .xor .u32 (Go.bits .and .u32 ((shr .u8 x1 x5) % 4294967296) 1) (x0 / 2147483648)) = 1 then (factotumref01_Step.l0 k (Go.bits .xor .u32 ((x0 * 2) % 4294967296) 79764919) x1 (wrap64 (x5 - 1))) else (factotumref01_Step.l0 k ((x0 * 2) % 4294967296) x1 (wrap64 (x5 - 1)))) else (none)) else (some x0)
def factotumref01_Step.f (k : Nat) (a0 : Int) (a1 : Int) : Option (Int) := factotumref01_Step.l0 k a0 a1 7
/-! ### factotumref01_Sum32: function 77 -/
def factotumref01_Sum32.l0 : Nat → Int → List Int → Int → Int → Option (Int)
  | 0, _, _, _, _ => none
  | k + 1, x3, x6, x7, x8 => if x8 < x7 then (if 0 ≤ x8 then (if x8 < (x6.length : Int) then ((factotumref01_Step.f k x3 (rd x6 x8)).bind fun t182 => (factotumref01_Sum32.l0 k t182 x6 x7 (wrap64 (x8 + 1)))) else (none)) else (none)) else (some x3)
def factotumref01_Sum32.f (k : Nat) (l0 : List Int) : Option (Int) := factotumref01_Sum32.l0 k 4294967295 l0 (l0.length : Int) 0
end Go.Proofs.YtlepcmljmibdnaaGreat.PWalOpens
namespace Go.Proofs.YtlepcmljmibdnaaGreat
open Go.RowKit Go.Proofs.YtlepcmljmibdnaaGreatW.PrintWords Go.Proofs.YtlepcmljmibdnaaGreatW.PrintLast Go.Proofs.YtlepcmljmibdnaaGreatW.PrintMore PWalOpens
set_option linter.unusedVariables false
set_option linter.unusedSimpArgs false
/-- how many bytes a number needs -/
def szN (n : Int) : Nat := if n < 256 then 1 else if n < 65536 then 2 else if n < 16777216 then 3 else if n < 4294967296 then 4 else if n < 1099511627776 then 5 else if n < 281474976710656 then 6 else if n < 72057594037927936 then 7 else 8
theorem szN_le (n : Int) : 1 ≤ szN n ∧ szN n ≤ 8 := by
  by_cases h : n < 256
  · simp [szN, h]
  · unfold szN; constructor <;> (repeat' split) <;> omega
theorem wrap8 (x : Nat) (h : x ≤ 9) : wrap64 (8 * (x : Int)) = 8 * (x : Int) := by unfold wrap64; omega
theorem shr8 (n : Int) (x : Nat) (h : x ≤ 8) : shr .u64 n (8 * (x : Int)) = n / 256 ^ x := by
  unfold shr
  have e : (8 * (x : Int)).toNat = 8 * x := by omega
  rw [e]
  have e2 : min (8 * x) IntKind.u64.bits = 8 * x := by
    have : IntKind.u64.bits = 64 := rfl
    omega
  rw [e2, Int.pow_mul]
  rfl
theorem div_zero_iff (n p : Int) (h0 : 0 ≤ n) (hp : 0 < p) : n / p = 0 ↔ n < p := by
  constructor
  · intro h
    have h1 := Int.emod_add_mul_ediv n p
    rw [h, Int.mul_zero, Int.add_zero] at h1
    have := Int.emod_lt_of_pos n hp
    omega
  · exact fun h => Int.ediv_eq_zero_of_lt h0 h
/-- one step of the search for the size -/
theorem size_step (k x : Nat) (n : Int) (h0 : 0 ≤ n) (hx : 1 ≤ x) (hx8 : x < 8) : codec_size.l0 (k + 1) n (x : Int) = if n < 256 ^ x then some (x : Int) else codec_size.l0 k n ((x + 1 : Nat) : Int) := by
  rw [codec_size.l0, if_pos (by omega), wrap8 x (by omega), if_pos (by omega), shr8 n x (by omega)]
  rw [show wrap64 ((x : Int) + 1) = ((x + 1 : Nat) : Int) by unfold wrap64; omega]
  by_cases h : n < 256 ^ x
  · rw [if_pos h, if_pos ((div_zero_iff n (256 ^ x) h0 (Int.pow_pos (by decide))).2 h)]
  · rw [if_neg h, if_neg (fun e => h ((div_zero_iff n (256 ^ x) h0 (Int.pow_pos (by decide))).1 e))]
theorem size_last (k : Nat) (n : Int) : codec_size.l0 (k + 1) n ((7 + 1 : Nat) : Int) = some 8 := by rw [codec_size.l0, if_neg (by omega)]; rfl
theorem size_f (n : Int) (h0 : 0 ≤ n) : codec_size.f 9 n = some (szN n : Int) := by
  show codec_size.l0 9 n ((1 : Nat) : Int) = _
  rw [size_step 8 1 n h0 (by omega) (by omega), size_step 7 2 n h0 (by omega) (by omega), size_step 6 3 n h0 (by omega) (by omega), size_step 5 4 n h0 (by omega) (by omega), size_step 4 5 n h0 (by omega) (by omega), size_step 3 6 n h0 (by omega) (by omega), size_step 2 7 n h0 (by omega) (by omega), size_last]
  unfold szN
  simp only [show (256 : Int) ^ 1 = 256 from rfl, show (256 : Int) ^ 2 = 65536 from rfl, show (256 : Int) ^ 3 = 16777216 from rfl, show (256 : Int) ^ 4 = 4294967296 from rfl, show (256 : Int) ^ 5 = 1099511627776 from rfl, show (256 : Int) ^ 6 = 281474976710656 from rfl, show (256 : Int) ^ 7 = 72057594037927936 from rfl]
  repeat' split
  all_goals rfl
/-- the lowest k bytes of a number, the highest first -/
def lowB (n : Int) : Nat → List Int
  | 0 => []
  | k + 1 => (n / 256 ^ k) % 256 :: lowB n k
theorem lowB_len (n : Int) (k : Nat) : (lowB n k).length = k := by
  induction k with
  | zero => rfl
  | succ k ih => simp [lowB, ih]
/-- the bytes of a number -/
def encN (n : Int) : List Int := if n < 128 then [n % 256] else (128 + (szN n : Int)) :: lowB n (szN n)
theorem encN_len (n : Int) : (encN n).length ≤ 9 := by
  unfold encN
  split
  · simp
  · have := szN_le n
    simp [lowB_len]
    omega
end Go.Proofs.YtlepcmljmibdnaaGreat
namespace Go.Proofs.YtlepcmljmibdnaaGreat.PDiskArms
open Go.RowKit Go.Proofs.YtlepcmljmibdnaaGreatW.PrintWords Go.Proofs.YtlepcmljmibdnaaGreatW.PrintLast Go.Proofs.YtlepcmljmibdnaaGreatW.PrintMore
attribute [local go_sem] max2_int min2_int max_two min_two max_three min_three max_four min_four   -- for this text's walks alone
set_option linter.unusedVariables false
set_option linter.unusedSimpArgs false



-- the values' own types
/-! #### struct type 31 -/
end Go.Proofs.YtlepcmljmibdnaaGreat.PDiskArms
namespace Go.Proofs.YtlepcmljmibdnaaGreat.PDiskArms
open Go.RowKit Go.Proofs.YtlepcmljmibdnaaGreatW.PrintWords Go.Proofs.YtlepcmljmibdnaaGreatW.PrintLast Go.Proofs.YtlepcmljmibdnaaGreatW.PrintMore
attribute [local go_sem] max2_int min2_int max_two min_two max_three min_three max_four min_four   -- for this text's walks alone
set_option linter.unusedVariables false
set_option linter.unusedSimpArgs false

-- NOT PRINTED: function 15 (disk_New)

-- NOT PRINTED: function 63 (disk_Disk_ok)

-- NOT PRINTED: function 19 (disk_Disk_Dead)

-- NOT PRINTED: function 22 (disk_Disk_Size)

-- NOT PRINTED: function 64 (disk_Disk_has)

-- NOT PRINTED: function 65 (disk_Disk_act)

-- NOT PRINTED: function 17 (disk_Disk_Write)

-- NOT PRINTED: function 66 (disk_Disk_keep)

-- NOT PRINTED: function 67 (disk_Disk_rest)

-- NOT PRINTED: function 20 (disk_Disk_Crash)

-- NOT PRINTED: function 69 (slices_Clone_byte_byte)

-- NOT PRINTED: function 23 (disk_Disk_Read)

-- NOT PRINTED: function 13 (factotumlaw05_awake)

/-! ### factotumlaw05_few: function 14 -/
-- NOT PRINTED: function 16 (disk_Disk_Arm)

-- NOT PRINTED: function 18 (disk_Disk_Flush)

-- NOT PRINTED: function 3 (factotumlaw05_DiskArms)

end Go.Proofs.YtlepcmljmibdnaaGreat.PDiskArms
namespace Go.Mp
open Go.RowKit Go.MapKept
open Classical

/-- What a map's entries say: a function from keys to values. -/
structure Rep (d : TypeDesc) (es : Array MapEntry) (f : Value → Option Value) : Prop where
  isK : ∀ x ∈ es.toList, IsKey d x.key
  nodup : (es.toList.map (·.key)).Nodup
  to_ : ∀ x ∈ es.toList, f x.key = some x.val
  of_ : ∀ k v, f k = some v → ∃ x ∈ es.toList, x.key = k
def Is (d : TypeDesc) (w : World) (r : Nat) (f : Value → Option Value) : Prop := ∃ es clock, w.heap[r]? = some (.map es clock) ∧ Rep d es f
noncomputable def upd (f : Value → Option Value) (k v : Value) : Value → Option Value := fun x => if x = k then some v else f x
noncomputable def del (f : Value → Option Value) (k : Value) : Value → Option Value := fun x => if x = k then none else f x
theorem upd_at (f : Value → Option Value) (k v : Value) : upd f k v k = some v := by simp [upd]
theorem upd_ne (f : Value → Option Value) {k x : Value} (v : Value) (h : x ≠ k) : upd f k v x = f x := by simp [upd, h]
theorem del_at (f : Value → Option Value) (k : Value) : del f k k = none := by simp [del]
theorem del_ne (f : Value → Option Value) {k x : Value} (h : x ≠ k) : del f k x = f x := by simp [del, h]

/-- w' is w with block r turned. -/
structure Turned (w w' : World) (r : Nat) : Prop where
  os : w'.os = w.os
  tape : w'.tape = w.tape
  output : w'.output = w.output
  size : w'.heap.size = w.heap.size
  block : ∀ k, k ≠ r → w'.heap[k]? = w.heap[k]?
theorem turned_set {w : World} {r : Nat} (o : Obj) : Turned w { w with heap := w.heap.setIfInBounds r o } r :=
  ⟨rfl, rfl, rfl, by simp, fun k hk => by simp [Ne.symm hk]⟩
theorem Is.empty (d : TypeDesc) (w : World) : Is d (w.alloc (.map #[] 0)) w.heap.size (fun _ => none) :=
  ⟨#[], 0, (heap_alloc w _).1, ⟨by simp, by simp, by simp, by simp⟩⟩
theorem Is.lt {d : TypeDesc} {w : World} {r : Nat} {f : Value → Option Value} (h : Is d w r f) : r < w.heap.size := by
  obtain ⟨es, c, h, _⟩ := h
  exact (Array.getElem?_eq_some_iff.1 h).1
theorem Is.same {d : TypeDesc} {w w' : World} {r : Nat} {f : Value → Option Value} (h : Is d w r f) (hb : w'.heap[r]? = w.heap[r]?) : Is d w' r f := by
  obtain ⟨es, c, h, hr⟩ := h
  exact ⟨es, c, hb.trans h, hr⟩

section
variable {P : Program} {w : World} {t kt et ty : TypeId} {d : TypeDesc} {r : Nat} {f : Value → Option Value}

theorem find {es : Array MapEntry} (h : Rep d es f) {k : Value} (hk : IsKey d k) :
    (Instr.findNow d k es.toList 0 = some none ∧ f k = none) ∨ ∃ j e, Instr.findNow d k es.toList 0 = some (some (j, e.val)) ∧ es[j]? = some e ∧ e.key = k ∧ f k = some e.val := by
  rcases findNow_spec hk es.toList 0 h.isK with ⟨h1, h2⟩ | ⟨j, e, h1, h2, h3⟩
  · refine .inl ⟨h1, ?_⟩
    cases hf : f k with
    | none => rfl
    | some v =>
      obtain ⟨x, hx, e⟩ := h.of_ k v hf
      exact absurd e (h2 x hx)
  · have h4 : e ∈ es.toList := List.mem_of_getElem? h2
    refine .inr ⟨j, e, by simpa using h1, by simpa using h2, h3, ?_⟩
    rw [← h3]; exact h.to_ e h4

theorem run_lookup (h : Is d w r f) (ht : P.underlying t = some (.map kt et)) (hd : P.underlying kt = some d) {k : Value} (hk : IsKey d k) {z : Value} (hz : (zeroValue et).run P w = .ok z w) :
    (Instr.lookup t (.map (some r)) k false).run P w = .ok ((f k).getD z) w := by
  obtain ⟨es, c, hb, hr⟩ := h
  rcases find hr hk with ⟨h1, h2⟩ | ⟨j, e, h1, h2, h3, h4⟩
  · simp [Instr.lookup, run_underlying ht, MapKept.run_getObj_map hb, MapKept.run_checkKey hd hk, MapKept.run_findKey hd h1, hz, Result.andThen, h2]
  · simp [Instr.lookup, run_underlying ht, MapKept.run_getObj_map hb, MapKept.run_checkKey hd hk, MapKept.run_findKey hd h1, Result.andThen, h4]
theorem modify_map {es : Array MapEntry} {j : Nat} {e : MapEntry} (h : es[j]? = some e) (g : MapEntry → MapEntry) (hg : ∀ x, (g x).key = e.key) :
    (es.modify j g).toList.map (·.key) = es.toList.map (·.key) := by
  apply List.ext_getElem?
  intro i
  simp only [List.getElem?_map, Array.getElem?_toList, Array.getElem?_modify]
  by_cases hij : j = i
  · subst hij; simp [h, hg]
  · simp [hij]

theorem nodup_at {α : Type} {l : List α} (h : l.Nodup) {i j : Nat} {x : α} (hi : l[i]? = some x) (hj : l[j]? = some x) : i = j := by
  obtain ⟨h1, h2⟩ := List.getElem?_eq_some_iff.1 hi
  obtain ⟨h3, h4⟩ := List.getElem?_eq_some_iff.1 hj
  have hp := List.pairwise_iff_getElem.1 h
  rcases Nat.lt_trichotomy i j with hlt | heq | hgt
  · exact absurd (h2.trans h4.symm) (hp i j h1 h3 hlt)
  · exact heq
  · exact absurd (h4.trans h2.symm) (hp j i h3 h1 hgt)
theorem erase_list {es : Array MapEntry} {j : Nat} : (es.eraseIdxIfInBounds j).toList = es.toList.eraseIdx j := by
  unfold Array.eraseIdxIfInBounds
  split
  · simp
  · rename_i h
    rw [List.eraseIdx_of_length_le (by simpa using h)]
theorem run_delete (h : Is d w r f) (ht : P.underlying t = some (.map kt et)) (hd : P.underlying kt = some d) {k : Value} (hk : IsKey d k) :
    ∃ w', (Builtin.delete_ #[t, kt] ty #[.map (some r), k]).run P w = .ok (.tuple #[]) w' ∧ Turned w w' r ∧ Is d w' r (del f k) := by
  obtain ⟨es, c, hb, hr⟩ := h
  rcases find hr hk with ⟨h1, h2⟩ | ⟨j, e, h1, h2, h3, h4⟩
  · refine ⟨_, by simp [Builtin.delete_, run_underlying ht, MapKept.run_getObj_map hb, MapKept.run_checkKey hd hk, MapKept.run_findKey hd h1, MapKept.run_setObj_map _ hb, Result.andThen]; try rfl, turned_set _, es, c, (heap_set hb).1, ⟨hr.isK, hr.nodup, ?_, ?_⟩⟩
    · intro x hx
      have h5 := hr.to_ x hx
      rw [del_ne _ (fun e => by rw [e, h2] at h5; cases h5)]; exact h5
    · intro k' v' hv'
      by_cases e : k' = k
      · subst e; rw [del_at] at hv'; cases hv'
      · rw [del_ne _ e] at hv'; exact hr.of_ k' v' hv'
  · refine ⟨_, by simp [Builtin.delete_, run_underlying ht, MapKept.run_getObj_map hb, MapKept.run_checkKey hd hk, MapKept.run_findKey hd h1, MapKept.run_setObj_map _ hb, Result.andThen]; try rfl, turned_set _, es.eraseIdxIfInBounds j, c, (heap_set hb).1, ⟨?_, ?_, ?_, ?_⟩⟩
    · intro x hx
      rw [erase_list] at hx
      exact hr.isK x (List.mem_of_mem_eraseIdx hx)
    · rw [erase_list]
      exact ((List.eraseIdx_sublist _ _).map _).nodup hr.nodup
    · intro x hx
      rw [erase_list] at hx
      have hx' := List.mem_of_mem_eraseIdx hx
      refine (del_ne _ ?_).trans (hr.to_ x hx')
      intro e'
      obtain ⟨i, hi, hne⟩ := List.mem_eraseIdx_iff_getElem?.1 hx
      have a1 : (es.toList.map (·.key))[i]? = some k := by rw [List.getElem?_map, hne]; simp [e']
      have a2 : (es.toList.map (·.key))[j]? = some k := by rw [List.getElem?_map, Array.getElem?_toList, h2]; simp [h3]
      exact hi (nodup_at hr.nodup a1 a2)
    · intro k' v' hv'
      by_cases e' : k' = k
      · subst e'; rw [del_at] at hv'; cases hv'
      · rw [del_ne _ e'] at hv'
        obtain ⟨x, hx, e2⟩ := hr.of_ k' v' hv'
        obtain ⟨i, hi⟩ := List.mem_iff_getElem?.1 hx
        refine ⟨x, ?_, e2⟩
        rw [erase_list]
        refine List.mem_eraseIdx_iff_getElem?.2 ⟨i, fun e3 => ?_, hi⟩
        subst e3
        rw [Array.getElem?_toList, h2] at hi
        obtain rfl := Option.some.inj hi
        exact e' (e2.symm.trans h3)
theorem run_update (h : Is d w r f) (ht : P.underlying t = some (.map kt et)) (hd : P.underlying kt = some d) {k : Value} (hk : IsKey d k) (v : Value) :
    ∃ w', (Instr.mapUpdate t (.map (some r)) k v).run P w = .ok () w' ∧ Turned w w' r ∧ Is d w' r (upd f k v) := by
  obtain ⟨es, c, hb, hr⟩ := h
  have hlt : r < w.heap.size := (Array.getElem?_eq_some_iff.1 hb).1
  rcases find hr hk with ⟨h1, h2⟩ | ⟨j, e, h1, h2, h3, h4⟩
  · refine ⟨_, by simp [Instr.mapUpdate, run_underlying ht, MapKept.run_getObj_map hb, MapKept.run_checkKey hd hk, MapKept.run_findKey hd h1, MapKept.run_setObj_map _ hb, Result.andThen]; try rfl, turned_set _, _, _, (heap_set hb).1, ⟨?_, ?_, ?_, ?_⟩⟩
    · intro x hx
      rcases (by simpa using hx : x ∈ es ∨ x = ⟨k, v, c⟩) with hx | hx
      · exact hr.isK x (Array.mem_toList_iff.2 hx)
      · rw [hx]; exact hk
    · simp only [Array.toList_push, List.map_append, List.map_cons, List.map_nil]
      refine List.nodup_append.2 ⟨hr.nodup, by simp, ?_⟩
      intro a ha b hb' e
      obtain ⟨x, hx, rfl⟩ := List.mem_map.1 ha
      have := hr.to_ x hx
      rw [List.mem_singleton] at hb'
      subst hb'
      rw [e, h2] at this
      cases this
    · intro x hx
      rcases (by simpa using hx : x ∈ es ∨ x = ⟨k, v, c⟩) with hx | hx
      · have h5 := hr.to_ x (Array.mem_toList_iff.2 hx)
        rw [upd_ne _ _ (fun e => by rw [e, h2] at h5; cases h5)]; exact h5
      · rw [hx]; exact upd_at _ _ _
    · intro k' v' hv'
      by_cases e : k' = k
      · subst e; exact ⟨⟨k', v, c⟩, by simp, rfl⟩
      · rw [upd_ne _ _ e] at hv'
        obtain ⟨x, hx, e⟩ := hr.of_ k' v' hv'
        exact ⟨x, by simp [Array.mem_toList_iff] at hx ⊢; exact .inl hx, e⟩
  · have hm := modify_map h2 (fun x => { x with key := k, val := v }) (fun x => h3.symm)
    refine ⟨_, by simp [Instr.mapUpdate, run_underlying ht, MapKept.run_getObj_map hb, MapKept.run_checkKey hd hk, MapKept.run_findKey hd h1, h2, h3, run_keyThatStays hk, MapKept.run_setObj_map _ hb, Result.andThen]; try rfl, turned_set _, _, _, (heap_set hb).1, ⟨?_, ?_, ?_, ?_⟩⟩
    · intro x hx
      have : x.key ∈ es.toList.map (·.key) := by rw [← hm]; exact List.mem_map.2 ⟨x, hx, rfl⟩
      obtain ⟨y, hy, e⟩ := List.mem_map.1 this
      rw [← e]; exact hr.isK y hy
    · rw [hm]; exact hr.nodup
    · intro x hx
      obtain ⟨i, hi⟩ := List.mem_iff_getElem?.1 hx
      rw [Array.getElem?_toList, Array.getElem?_modify] at hi
      by_cases hij : j = i
      · subst hij
        simp [h2] at hi
        subst hi
        exact upd_at _ _ _
      · simp [hij] at hi
        have hx' : x ∈ es.toList := List.mem_iff_getElem?.2 ⟨i, by rw [Array.getElem?_toList]; exact hi⟩
        have hne : x.key ≠ k := by
          intro e
          have n1 := hr.nodup
          have a1 : (es.toList.map (·.key))[i]? = some k := by rw [List.getElem?_map, Array.getElem?_toList, hi]; simp [e]
          have a2 : (es.toList.map (·.key))[j]? = some k := by rw [List.getElem?_map, Array.getElem?_toList, h2]; simp [h3]
          exact hij (nodup_at n1 a2 a1)
        rw [upd_ne _ _ hne]; exact hr.to_ x hx'
    · intro k' v' hv'
      have hkey : k' ∈ es.toList.map (·.key) := by
        by_cases e : k' = k
        · subst e; exact List.mem_map.2 ⟨_, List.mem_of_getElem? (by rw [Array.getElem?_toList]; exact h2), h3⟩
        · rw [upd_ne _ _ e] at hv'
          obtain ⟨x, hx, e⟩ := hr.of_ k' v' hv'
          exact List.mem_map.2 ⟨x, hx, e⟩
      rw [← hm] at hkey
      obtain ⟨x, hx, e⟩ := List.mem_map.1 hkey
      exact ⟨x, hx, e⟩
end
end Go.Mp
namespace Go.Calm
open Go.RowKit
section
variable {P : Program} {ops : Array Oper} {Q : Exit → Act → World → Prop} {md : Region.Mode} {xs : List Nat}

/-- j waits for i, through others or not. -/
def waitsT (md : Region.Mode) (ops : Array Oper) : Nat → Nat → Nat → Bool
  | 0, _, _ => false
  | n + 1, j, i => match ops[j]? with
    | some o => o.after.any fun e => Region.binds md e && (e.on == i || waitsT md ops n e.on i)
    | none => false

def Closed (md : Region.Mode) (ops : Array Oper) (listed : Array Bool) : Prop :=
  ∀ j o, ops[j]? = some o → listed.getD j false = true → ∀ e ∈ o.after, Region.binds md e = true → listed.getD e.on false = true

theorem waits_listed {listed : Array Bool} (hc : Closed md ops listed) {i : Nat} : ∀ (n j : Nat), waitsT md ops n j i = true → listed.getD j false = true → listed.getD i false = true
  | 0, _, h, _ => by simp [waitsT] at h
  | n + 1, j, h, hl => by
    simp only [waitsT] at h
    cases ho : ops[j]? with
    | none => simp [ho] at h
    | some o =>
      simp only [ho] at h
      obtain ⟨e, he, hb⟩ := Array.any_eq_true'.1 h
      simp only [Bool.and_eq_true, Bool.or_eq_true, beq_iff_eq] at hb
      have h1 := hc j o ho hl e he hb.1
      rcases hb.2 with h2 | h2
      · rw [← h2]; exact h1
      · exact waits_listed hc n e.on h2 h1
theorem waits_ready {listed : Array Bool} (hc : Closed md ops listed) {i j n : Nat} (hj : j ∈ Region.ready md ops listed) (h : waitsT md ops n j i = true) : listed.getD i false = true := by
  obtain ⟨_, o, ho, hall⟩ := mem_ready.1 hj
  cases n with
  | zero => simp [waitsT] at h
  | succ n =>
    simp only [waitsT, ho] at h
    obtain ⟨e, he, hb⟩ := Array.any_eq_true'.1 h
    simp only [Bool.and_eq_true, Bool.or_eq_true, beq_iff_eq] at hb
    have h1 := hall e he hb.1
    rcases hb.2 with h2 | h2
    · rw [← h2]; exact h1
    · exact waits_listed hc n e.on h2 h1
theorem Closed.set {listed : Array Bool} (hc : Closed md ops listed) {i : Nat} (hi : i ∈ Region.ready md ops listed) : Closed md ops (listed.setIfInBounds i true) := by
  intro j o ho hl e he hb
  by_cases hij : i = j
  · subst hij
    obtain ⟨_, o', ho', hall⟩ := mem_ready.1 hi
    rw [ho] at ho'
    obtain rfl := Option.some.inj ho'
    exact getD_set_true (hall e he hb)
  · rw [getD_set_ne false hij] at hl
    exact getD_set_true (hc j o ho hl e he hb)

/-- Whatever order: behind each operation that is no free writer (xs) memory has only grown. -/
def wpAnyG (P : Program) (md : Region.Mode) (ops : Array Oper) (Q : Exit → Act → World → Prop) (xs : List Nat) : Nat → Array Bool → Act → World → Prop
  | 0, listed, a, w => Region.ready md ops listed = [] ∧ Q .normal a w
  | fuel + 1, listed, a, w =>
    (Region.ready md ops listed = [] → Q .normal a w) ∧
    ∀ i ∈ Region.ready md ops listed, wpOp P ops Q i (fun a' w' => (i ∉ xs → Below w.heap.size w w') ∧ wpAnyG P md ops Q xs fuel (listed.setIfInBounds i true) a' w') a w
theorem wpAny_of_G : ∀ (fuel : Nat) (listed : Array Bool) (a : Act) (w : World), wpAnyG P md ops Q xs fuel listed a w → wpAny P md ops Q fuel listed a w
  | 0, _, _, _, h => h
  | fuel + 1, _, _, _, h => ⟨h.1, fun i hi => wpOp_mono (fun a' w' h' => wpAny_of_G fuel _ a' w' h'.2) (h.2 i hi)⟩

def Holds (pl : Bool) (w : World) (W : World) : Prop := pl = true ∨ Below w.heap.size w W
theorem Holds.refl (pl : Bool) (w : World) : Holds pl w w := .inr (Below.refl _ _)
theorem Holds.next {pl : Bool} {w w1 W : World} (hb : pl = true ∨ Below w.heap.size w w1) (h : Holds pl w1 W) : Holds pl w W := by
  rcases hb with hb | hb
  · exact .inl hb
  · rcases h with h | h
    · exact .inl h
    · exact .inr (hb.trans (h.mono hb.size))
theorem yields_next {pl : Bool} {w w1 : World} {o : Oper} {v : Value} {a : Act} (hb : pl = true ∨ Below w.heap.size w w1) (h : YieldsIf P ops (Holds pl w) o v a) : YieldsIf P ops (Holds pl w1) o v a :=
  h.imp (fun ⟨h1, h2⟩ => ⟨h1, fun W hW => h2 W (hW.next hb)⟩) id

theorem first {i : Nat} {oi : Oper} {v : Value} {pl : Bool} (hi : ops[i]? = some oi) (hsel : ∀ (j : Nat) (o : Oper) cs b, ops[j]? = some o → o.op ≠ .select cs b)
    (hQ : ∀ c a w, Q (.panic c) (a.put oi.dst v) w → Q (.panic c) a w) (hix : i ∉ xs) (n : Nat) :
    ∀ (fuel : Nat) (listed : Array Bool) (a : Act) (w : World), Closed md ops listed →
      (pl = true ∨ ∀ j ∈ xs, listed.getD j true = false → waitsT md ops n j i = true) →
      (∀ j oj, ops[j]? = some oj → j ≠ i → listed.getD j true = false → (∀ e ∈ oj.after, Region.binds md e = true → e.on ≠ i) → oi.apart ops oj = true) →
      i ∈ Region.ready md ops listed → YieldsIf P ops (Holds pl w) oi v a →
      wpAnyG P md ops Q xs fuel (listed.setIfInBounds i true) (a.put oi.dst v) w → wpAnyG P md ops Q xs (fuel + 1) listed a w := by
  intro fuel
  induction fuel with
  | zero =>
    intro listed a w _ _ _ hr hy H
    refine ⟨fun h => (by rw [h] at hr; cases hr), fun j hj => ?_⟩
    by_cases hji : j = i
    · subst hji; exact hy.wpOp hi (Holds.refl _ _) ⟨fun _ => Below.refl _ _, H⟩
    · have := ready_mono hj hji
      rw [H.1] at this
      cases this
  | succ fuel ih =>
    intro listed a w hcl hX hfree hr hy H
    refine ⟨fun h => (by rw [h] at hr; cases hr), fun j hj => ?_⟩
    by_cases hji : j = i
    · subst hji; exact hy.wpOp hi (Holds.refl _ _) ⟨fun _ => Below.refl _ _, H⟩
    · have h1 := H.2 j (ready_mono hj hji)
      obtain ⟨hjun, oj, hoj, hall⟩ := mem_ready.1 hj
      have hiun : listed.getD i false = false := by
        have h0 := (mem_ready.1 hr).1
        rcases Nat.lt_or_ge i listed.size with h' | h'
        · simp [h'] at h0 ⊢; exact h0
        · simp [Array.getElem?_eq_none h']
      have hnot : ∀ e ∈ oj.after, Region.binds md e = true → e.on ≠ i := fun e he hb heq => by
        have h1 := hall e he hb
        rw [heq, hiun] at h1
        cases h1
      have hgrow : ∀ w', (j ∉ xs → Below w.heap.size w w') → (pl = true ∨ Below w.heap.size w w') := fun w' hw' => by
        rcases hX with hX | hX
        · exact .inl hX
        · refine .inr (hw' fun hjx => ?_)
          have := waits_ready hcl hj (hX j hjx hjun)
          rw [hiun] at this
          cases this
      have h2 := wpOp_putIf hoj (hfree j oj hoj hji hjun hnot) (fun cs b => hsel i oi cs b hi) (fun cs b => hsel j oj cs b hoj) hQ hy h1
      have hfree' : ∀ k ok, ops[k]? = some ok → k ≠ i → (listed.setIfInBounds j true).getD k true = false →
          (∀ e ∈ ok.after, Region.binds md e = true → e.on ≠ i) → oi.apart ops ok = true := fun k ok hk hki hun hno => by
        refine hfree k ok hk hki ?_ hno
        by_cases hjk : j = k
        · subst hjk; exact hjun
        · rw [getD_set_ne true hjk] at hun; exact hun
      have hX' : pl = true ∨ ∀ k ∈ xs, (listed.setIfInBounds j true).getD k true = false → waitsT md ops n k i = true := by
        refine hX.imp id fun hX k hk hun => hX k hk ?_
        by_cases hjk : j = k
        · subst hjk; exact hjun
        · rw [getD_set_ne true hjk] at hun; exact hun
      refine wpOp_mono (fun a' w' h3 => ⟨h3.2.1, ih (listed.setIfInBounds j true) a' w' (hcl.set hj) hX' hfree' (ready_mono hr (Ne.symm hji)) (yields_next (hgrow w' h3.2.1) h3.1) ?_⟩) h2
      rw [Array.setIfInBounds_comm _ _ hji]
      exact h3.2.2

/-- What an operation is in the chosen order: plain (0), a reading (1), what grows or writes (2). -/
def wpG (P : Program) (ops : Array Oper) (Q : Exit → Act → World → Prop) (xs : List Nat) : List (Nat × Nat) → Act → World → Prop
  | [], a, w => Q .normal a w
  | (i, 2) :: rest, a, w => wpOp P ops Q i (fun a' w' => (i ∉ xs → Below w.heap.size w w') ∧ wpG P ops Q xs rest a' w') a w
  | (i, k) :: rest, a, w => ∃ o v, ops[i]? = some o ∧ YieldsIf P ops (Holds (k == 0) w) o v a ∧ wpG P ops Q xs rest (a.put o.dst v) w

def okB (md : Region.Mode) (ops : Array Oper) (xs : List Nat) : Array Bool → List (Nat × Nat) → Bool
  | listed, [] => (Region.ready md ops listed).isEmpty
  | listed, (i, 2) :: rest => Region.ready md ops listed == [i] && okB md ops xs (listed.setIfInBounds i true) rest
  | listed, (i, k) :: rest => (Region.ready md ops listed).contains i && Region.free md ops listed i && !xs.contains i &&
      (k == 0 || xs.all fun j => listed.getD j true || waitsT md ops ops.size j i) && okB md ops xs (listed.setIfInBounds i true) rest

theorem anyG_of_wpG (hs : Region.noSelect ops = true) (hQ : ∀ c a w, ¬ Q (.panic c) a w) : ∀ (l : List (Nat × Nat)) (listed : Array Bool) (a : Act) (w : World), Closed md ops listed →
    okB md ops xs listed l = true → wpG P ops Q xs l a w → wpAnyG P md ops Q xs l.length listed a w
  | [], listed, a, w, _, hB, h => ⟨by simpa [okB] using hB, h⟩
  | (i, k) :: rest, listed, a, w, hc, hB, h => by
    by_cases hk : k = 2
    · subst hk
      simp only [okB, Bool.and_eq_true, beq_iff_eq] at hB
      have hi : i ∈ Region.ready md ops listed := by rw [hB.1]; simp
      refine ⟨fun h0 => (by rw [h0] at hi; cases hi), fun j hj => ?_⟩
      rw [hB.1] at hj
      obtain rfl : j = i := by simpa using hj
      exact wpOp_mono (fun a' w' h' => ⟨h'.1, anyG_of_wpG hs hQ rest _ a' w' (hc.set hi) hB.2 h'.2⟩) h
    · have hB' : (((Region.ready md ops listed).contains i && Region.free md ops listed i && !xs.contains i &&
          (k == 0 || xs.all fun j => listed.getD j true || waitsT md ops ops.size j i)) && okB md ops xs (listed.setIfInBounds i true) rest) = true := by
        match k, hk, hB with
        | 0, _, hB => exact hB
        | 1, _, hB => exact hB
        | k + 3, _, hB => exact hB
      have h' : ∃ o v, ops[i]? = some o ∧ YieldsIf P ops (Holds (k == 0) w) o v a ∧ wpG P ops Q xs rest (a.put o.dst v) w := by
        match k, hk, h with
        | 0, _, h => exact h
        | 1, _, h => exact h
        | k + 3, _, h => exact h
      simp only [Bool.and_eq_true, Bool.not_eq_true', Bool.or_eq_true] at hB'
      obtain ⟨⟨⟨⟨h1, h2⟩, h3⟩, h4⟩, h5⟩ := hB'
      obtain ⟨o, v, ho, hy, hr⟩ := h'
      have hi : i ∈ Region.ready md ops listed := by simpa using h1
      refine first ho (Region.noSelect_spec hs) (fun c a w hp => absurd hp (hQ c _ w)) (by simpa using h3) ops.size rest.length listed a w hc ?_ (Region.free_spec ho h2) hi hy
        (anyG_of_wpG hs hQ rest _ _ w (hc.set hi) h5 hr)
      rcases h4 with h4 | h4
      · exact .inl h4
      · refine .inr fun j hj hun => ?_
        have := List.all_eq_true.1 h4 j hj
        simpa [hun] using this

theorem closed_none (m : Nat) : Closed md ops (Array.replicate m false) := by
  intro j o _ hl
  rw [show (Array.replicate m false).getD j false = false by
    rcases Nat.lt_or_ge j m with h | h <;> simp [h]] at hl
  cases hl

/-- THE LAW: a region that draws, walked in the order l: pairs of an operation's number and its kind. -/
theorem wp_calm {id : Nat} {a : Act} {w : World} {os : List Oper} (xs : List Nat) (l : List (Nat × Nat)) (hm : P.follows .mixedOrders = true)
    (hB : (Region.noSelect os.toArray && l.length == os.length && okB .any os.toArray xs (Array.replicate os.length false) l) = true)
    (h : wpG P os.toArray (NoPanic Q) xs l a w.drew) : (Code.region id os.toArray true).wp P Q a w := by
  simp only [Bool.and_eq_true, beq_iff_eq] at hB
  refine wp_region_noPanic (wp_region_any hm ?_)
  have h1 := anyG_of_wpG (md := .any) hB.1.1 (fun c a w hp => hp) l (Array.replicate os.length false) a w.drew (closed_none _) hB.2 h
  have h2 := wpAny_of_G _ _ _ _ h1
  rw [hB.1.2] at h2
  simpa using h2
end

section
variable {P : Program} {ops : Array Oper} {Q : Exit → Act → World → Prop} {xs : List Nat} {a : Act} {w : World} {i : Nat} {rest : List (Nat × Nat)}
theorem done (h : Q .normal a w) : wpG P ops (NoPanic Q) xs [] a w := h
theorem plain {o : Oper} (ho : ops[i]? = some o) (v : Value) (hw : Region.wanted o (yielded ops a.tmps) = true) (hr : ∀ W, (execOp a.eval o).run P W = .ok (.value v) W)
    (h : wpG P ops Q xs rest (a.put o.dst v) w) : wpG P ops Q xs ((i, 0) :: rest) a w := ⟨o, v, ho, .inl ⟨hw, fun W _ => hr W⟩, h⟩
theorem reads {o : Oper} (ho : ops[i]? = some o) (v : Value) (hw : Region.wanted o (yielded ops a.tmps) = true) (hr : ∀ W, Below w.heap.size w W → (execOp a.eval o).run P W = .ok (.value v) W)
    (h : wpG P ops Q xs rest (a.put o.dst v) w) : wpG P ops Q xs ((i, 1) :: rest) a w :=
  ⟨o, v, ho, .inl ⟨hw, fun W hW => hr W (hW.resolve_left (by simp))⟩, h⟩
theorem acts {o : Oper} (ho : ops[i]? = some o) (hw : Region.wanted o (yielded ops a.tmps) = true)
    (h : ∀ K : Act → World → Prop, (∀ a' w', (i ∉ xs → Below w.heap.size w w') → wpG P ops Q xs rest a' w' → K a' w') → o.wp P a w K Q) : wpG P ops Q xs ((i, 2) :: rest) a w := by
  show wpOp P ops Q i _ a w
  unfold wpOp
  simp only [ho, hw, if_true]
  exact .inl (h _ fun a' w' h1 h2 => ⟨h1, h2⟩)
theorem step {o : Oper} (ho : ops[i]? = some o)
    (h : ∀ K : Act → World → Prop, (∀ a' w', (i ∉ xs → Below w.heap.size w w') → wpG P ops Q xs rest a' w' → K a' w') → if Region.wanted o (yielded ops a.tmps) = true then o.wp P a w K Q else K (a.put o.dst undef) w) :
    wpG P ops Q xs ((i, 2) :: rest) a w := by
  show wpOp P ops Q i _ a w
  unfold wpOp
  simp only [ho]
  by_cases hw : Region.wanted o (yielded ops a.tmps) = true
  · have := h (fun a' w' => (i ∉ xs → Below w.heap.size w w') ∧ wpG P ops Q xs rest a' w') (fun a' w' h1 h2 => ⟨h1, h2⟩)
    rw [if_pos hw] at this ⊢
    exact .inl this
  · have := h (fun a' w' => (i ∉ xs → Below w.heap.size w w') ∧ wpG P ops Q xs rest a' w') (fun a' w' h1 h2 => ⟨h1, h2⟩)
    rw [if_neg hw] at this ⊢
    exact this
end
end Go.Calm
