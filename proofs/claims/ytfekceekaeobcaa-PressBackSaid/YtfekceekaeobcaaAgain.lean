/- The contract of press.again: bytes that were there already. Conditions: those of the statement. -/
import Derived.Test.YtfekceekaeobcaaPlain
namespace Go.Proofs.Ytfekceekaeobcaa
open Go.RowKit Go.Proofs.YtfekceekaeobcaaW.PrintWords Go.Proofs.YtfekceekaeobcaaW.PrintLast Go.Proofs.YtfekceekaeobcaaW.PrintMore
open PPressPacks
set_option linter.unusedVariables false
set_option linter.unusedSimpArgs false

def copyB : Nat → Nat → List Int → List Int
  | 0, _, xs => xs
  | n + 1, k, xs => copyB n k (xs ++ [xs.getD (xs.length - k) 0])
def againP (xs bs : List Int) (most : Int) : List Int × List Int × Int :=
  if bs.getD 0 0 = 128 ∨ bs.length < 2 then ([], [], 20)
  else if bs.getD 1 0 = 0 ∨ (xs.length : Int) < bs.getD 1 0 then ([], [], 20)
  else if most - xs.length < bs.getD 0 0 - 125 then ([], [], 2)
  else (copyB (bs.getD 0 0 - 125).toNat (bs.getD 1 0).toNat xs, bs.drop 2, 0)

set_option maxHeartbeats 2000000 in
theorem again_calls (w0 w : World) (base : Nat) (hbase : base = w0.heap.size) (vo : Value) (xs bs : List Int) (A : Option Addr) (c : Nat) (most : Int) (hro : Kd.R (Kd.int .u8) 5 w base (fun _ => True) vo xs) (hc : (Kd.int .u8).C w0 A bs.length bs) (hcap : bs.length ≤ c)
    (hb : Below base w0 w) (h0 : 0 < bs.length) (h8 : ∀ x ∈ bs, 0 ≤ x ∧ x ≤ 255) (h128 : 128 ≤ bs.getD 0 0) (hl : xs.length ≤ 1000000) (hbl : bs.length ≤ 1000000) (hm : 0 ≤ most ∧ most ≤ 1000000) :
    Calls Try.prog 14 #[vo, .slice A bs.length c, .int .i64 most] w (PartPost w0 base (againP xs bs most)) := by
  subst hbase
  obtain ⟨Ao, co, rfl⟩ := Kd.R_slice hro
  obtain ⟨ad, e, hcell⟩ := Kd.at_int (Kd.C_below hc hb) 0 (by omega) (by omega)
  subst e
  have hb0 : 0 ≤ bs.getD 0 0 ∧ bs.getD 0 0 ≤ 255 := h8 _ (by rw [List.getD_eq_getElem?_getD, List.getElem?_eq_getElem h0]; exact List.getElem_mem _)
  obtain ⟨m, hm0⟩ : ∃ m : Nat, bs.getD 0 0 = ((m + 125 : Nat) : Int) := ⟨(bs.getD 0 0).toNat - 125, by omega⟩
  obtain ⟨p, hp⟩ : ∃ p, p = againP xs bs most := ⟨_, rfl⟩
  rw [← hp]
  unfold againP at hp
  have hm3 : 3 ≤ m := by omega
  have hm4 : m ≤ 130 := by omega
  obtain ⟨z, hz⟩ : ∃ z : Int, z = ((m + 125 : Nat) : Int) := ⟨_, rfl⟩
  have hcell' : w.cell? ad = some (.int .u8 z) := by rw [hz, ← hm0, ← Addr.add_zero' ad]; exact hcell
  have hz1 : z - 125 = (m : Int) := by omega
  have hzb : 128 ≤ z ∧ z ≤ 255 := by omega
  rw [hm0, ← hz] at hp
  have HZ1 := Aside0.mk hz1
  have HC := Aside0.mk hc
  have HO := Aside0.mk hro
  have HB := Aside0.mk hb
  have HCap := Aside0.mk hcap
  clear hc hro hb hcap hcell hb0 hm0 hz hz1 h128
  obtain ⟨hzb1, hzb2⟩ := hzb
  by_cases c0 : z = 128
  · rw [if_pos (Or.inl c0)] at hp
    have HP := Aside0.mk hp
    clear hp HZ1 hzb1 hzb2
    subst c0
    go_enter Try.func14, Try.ntmps14
    go_wp2
    go_ret3
    rw [HP.out]
    exact part_none _ _ _ _ HB.out
  have hz0 : (z == 128) = false := by simpa using c0
  by_cases c1 : bs.length < 2
  · rw [if_pos (Or.inr c1)] at hp
    have HP := Aside0.mk hp
    have hd : decide ((bs.length : Int) < 2) = true := by simp; omega
    clear hp c0
    go_enter Try.func14, Try.ntmps14
    go_wp2
    go_ret3
    rw [HP.out]
    exact part_none _ _ _ _ HB.out
  rw [if_neg (by omega)] at hp
  have hd : decide ((bs.length : Int) < 2) = false := by simp; omega
  obtain ⟨ad1, e1, hcell1⟩ := Kd.at_int (Kd.C_below HC.out HB.out) 1 (by omega) (by omega)
  cases e1
  have hb1 : 0 ≤ bs.getD 1 0 ∧ bs.getD 1 0 ≤ 255 := h8 _ (by rw [List.getD_eq_getElem?_getD, List.getElem?_eq_getElem (by omega)]; exact List.getElem_mem _)
  obtain ⟨k, hk⟩ : ∃ k : Nat, bs.getD 1 0 = (k : Int) := ⟨(bs.getD 1 0).toNat, by omega⟩
  replace hcell1 : w.cell? (ad.add 1) = some (.int .u8 (k : Int)) := by rw [← hk]; exact hcell1
  rw [hk] at hp
  have hk2 : k ≤ 255 := by omega
  clear hk hb1 c0
  replace hcell1 : w.cell? ⟨ad.block, ad.off + 1, none⟩ = some (.int .u8 (k : Int)) := by rw [← hcell1, Addr.add_succ' ad 0]
  by_cases c2 : k = 0
  · rw [if_pos (Or.inl (by omega))] at hp
    have HP := Aside0.mk hp
    subst c2
    clear hp
    go_enter Try.func14, Try.ntmps14
    go_wp2
    go_quiet (fail)
    go_wp2
    go_ret3
    rw [HP.out]
    exact part_none _ _ _ _ (pw_below_drewN HB.out _)
  by_cases c3 : xs.length < k
  · rw [if_pos (Or.inr (by omega))] at hp
    have HP := Aside0.mk hp
    have hd1 : decide (xs.length < k) = true := by simp; omega
    have hd0 : ((k : Int) == 0) = false := by simp; omega
    clear hp c2 c3
    go_enter Try.func14, Try.ntmps14
    go_wp2
    go_quiet (fail)
    go_wp2
    go_ret3
    rw [HP.out]
    exact part_none _ _ _ _ (pw_below_drewN HB.out _)
  rw [if_neg (by omega), HZ1.out] at hp
  have hd1 : decide (xs.length < k) = false := by simp; omega
  have hd0 : ((k : Int) == 0) = false := by simp; omega
  have hzw : IntKind.i64.wrap (z - 125) = (m : Int) := by rw [(i64_w _), w64 (by omega)]; exact HZ1.out
  have hzw' : z - 125 = (m : Int) := HZ1.out
  by_cases c4 : most - (xs.length : Int) < (m : Int)
  · rw [if_pos c4] at hp
    have HP := Aside0.mk hp
    have hd2 : decide (most - (xs.length : Int) < (m : Int)) = true := by simp; omega
    clear hp c2 c3 c4
    go_enter Try.func14, Try.ntmps14
    go_wp2
    go_quiet (fail)
    go_wp2
    go_ret3
    rw [HP.out]
    exact part_none _ _ _ _ (pw_below_drewN HB.out _)
  rw [if_neg c4, Int.toNat_natCast, Int.toNat_natCast] at hp
  have HP := Aside0.mk hp
  have hd2 : decide (most - (xs.length : Int) < (m : Int)) = false := by simp; omega
  have hk1 : 1 ≤ k := by omega
  have hkl : k ≤ xs.length := by omega
  clear hp c2 c3 c4
  go_enter Try.func14, Try.ntmps14
  go_wp2
  go_quiet (fail)
  go_wp2
  go_loopg [0, 44] m (fun kq v0 v44 w' => ∃ (i : Nat) (zs : List Int), v44 = .int .i64 (i : Int) ∧ Aside0 (Kd.R (Kd.int .u8) 5 w' w0.heap.size (fun _ => True) v0 zs) ∧ Aside0 (copyB kq k zs = copyB m k xs) ∧ Aside0 (i + kq = m) ∧ Aside0 (zs.length = xs.length + i) ∧ Aside0 (Below w0.heap.size w0 w'))
  case atStart => exact ⟨0, xs, rfl, ⟨Kd.R_drewN HO.out _⟩, ⟨rfl⟩, ⟨by omega⟩, ⟨rfl⟩, ⟨pw_below_drewN HB.out _⟩⟩
  case round =>
    obtain ⟨i, zs, rfl, HOr, HCp, HI, HLn, HBr⟩ := hrel
    by_cases hi : i < m
    · obtain ⟨Az, cz, rfl⟩ := Kd.R_slice HOr.out
      have hzl : k ≤ zs.length := by have := HLn.out; omega
      have hzl2 : zs.length ≤ 2000000 := by have := HLn.out; omega
      obtain ⟨ad2, e2, hcell2⟩ := Kd.at_int (Kd.R_reads' HOr.out).2.2 ((zs.length : Int) - (k : Int)) (by omega) (by omega)
      subst e2
      rw [show ((zs.length : Int) - (k : Int)).toNat = zs.length - k by omega] at hcell2
      have HCe := Aside0.mk (show rd zs ((zs.length : Int) - (k : Int)) = zs.getD (zs.length - k) 0 by unfold rd; rw [show ((zs.length : Int) - (k : Int)).toNat = zs.length - k by omega])
      obtain ⟨y, hy⟩ : ∃ y, rd zs ((zs.length : Int) - (k : Int)) = y := ⟨_, rfl⟩
      rw [hy] at hcell2 HCe
      clear hy
      have HLL := Aside0.mk (show (zs.length + 1) * 1 ≤ 140737488355328 by omega)
      have HBs := Aside0.mk HBr.out.size
      go_wp2_with ((with_reducible refine gate_builtin (b := .append) (xs := #[.tmp 46, .tmp 54]) rfl ?_); at_builtin; go_loud (refine Kd.R_append (Kd.int .u8) (w0 := w0) w0.heap.size rfl (.tmp 46) (.tmp 54) 22 5 (.int .u8 0) 1 rfl Try.underlying22 info5 rfl (by decide) (by decide) (.slice (some ad2) zs.length cz) zs y [.int .u8 y] (fun _ => True) (fun _ => False) rfl rfl rfl (fun _ hk => hk.elim) (fun _ _ => trivial) HOr.out HBr.out HBs.out HLL.out ?_; intro v1 w1 ho hb hg hat; have HO1 := Aside0.mk ho; have HB1 := Aside0.mk hb; clear ho hb hg hat))
      have hk1 := HI.out
      obtain ⟨gq, rfl⟩ : ∃ gq, gk = gq + 1 := ⟨gk - 1, by omega⟩
      go_roundg gq
      case rel => exact ⟨i + 1, zs ++ [y], by go_num, HO1, ⟨by rw [HCe.out, ← HCp.out]; rfl⟩, ⟨by omega⟩, ⟨by have := HLn.out; simp; omega⟩, HB1⟩
      case measure => omega
    · obtain rfl : gk = 0 := by have := HI.out; omega
      obtain ⟨Az, cz, rfl⟩ := Kd.R_slice HOr.out
      obtain ⟨i5, hi5, hz5⟩ := Option.map_eq_some_iff.1 info5
      simp only [Prod.mk.injEq] at hz5
      obtain ⟨A3, hcut3, hC3⟩ := cutt (A := some ad) (c := c) hi5 hz5.2.1 HC.out HCap.out 2 (by omega)
      replace hcut3 : ∀ W : World, (Instr.slice 22 (.slice (some ad) bs.length c) (some (.int .i64 2)) none none).run Try.prog W = .ok (.slice A3 (bs.length - 2) (c - 2)) W := hcut3
      have HC3 := Aside0.mk hC3
      clear hC3 hz5 hi5
      go_wp2
      go_quiet (fail)
      go_wp2
      go_ret3
      rw [HP.out]
      have hz : zs = copyB m k xs := HCp.out
      rw [← hz]
      exact part_some w0 _ _ (.slice Az zs.length cz) A3 (bs.length - 2) (c - 2) zs (bs.drop 2) 0 (by simp) (Kd.R_drewN HOr.out _) HC3.out (by have := HCap.out; omega) (pw_below_drewN HBr.out _)
end Go.Proofs.Ytfekceekaeobcaa
