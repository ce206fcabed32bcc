/- The contract of press.Unpack over plain lists. Conditions: those of the statement. -/
import Derived.Test.YtfekceekaeobcaaAgain
import Derived.WalkMore
namespace Go.Proofs.Ytfekceekaeobcaa
open Go.RowKit Go.Proofs.YtfekceekaeobcaaW.PrintWords Go.Proofs.YtfekceekaeobcaaW.PrintLast Go.Proofs.YtfekceekaeobcaaW.PrintMore
open PPressPacks
attribute [local go_sem] max2_int min2_int max_two min_two
set_option linter.unusedVariables false
set_option linter.unusedSimpArgs false

def partP (xs bs : List Int) (most : Int) : List Int × List Int × Int := if bs.getD 0 0 < 128 then plainP xs bs most else againP xs bs most
def unpackL : Nat → List Int → List Int → Int → Option (List Int × Int)
  | 0, _, _, _ => none
  | k + 1, xs, bs, most =>
    if xs.length ≤ 1000000 then
      if bs.length = 0 then some (xs, 0)
      else if (partP xs bs most).2.2 = 0 then unpackL k (partP xs bs most).1 (partP xs bs most).2.1 most else some ([], (partP xs bs most).2.2)
    else none
theorem part_sub (xs bs : List Int) (most : Int) : (∀ x ∈ (partP xs bs most).2.1, x ∈ bs) ∧ (partP xs bs most).2.1.length ≤ bs.length := by
  unfold partP plainP againP
  simp only []
  constructor
  · intro x
    split
    · split
      · simp
      · split
        · simp
        · exact fun h => List.mem_of_mem_drop h
    · split
      · simp
      · split
        · simp
        · split
          · simp
          · exact fun h => List.mem_of_mem_drop h
  · split
    · split
      · simp
      · split <;> simp
    · split
      · simp
      · split
        · simp
        · split <;> simp

set_option maxHeartbeats 2000000 in
theorem unpack_calls (k : Nat) (w : World) (bs : List Int) (A : Option Addr) (c : Nat) (most : Int) (out : List Int) (er : Int) (hc : (Kd.int .u8).C w A bs.length bs) (hcap : bs.length ≤ c)
    (h8 : ∀ x ∈ bs, 0 ≤ x ∧ x ≤ 255) (hbl : bs.length ≤ 1000000) (hm : 0 ≤ most ∧ most ≤ 1000000) (h : unpackL k [] bs most = some (out, er)) :
    Calls Try.prog 10 #[.slice A bs.length c, .int .i64 most] w fun e w' => ∃ v, e = .returned (.tuple #[v, .int .i64 er]) ∧ Kd.R (Kd.int .u8) 5 w' w.heap.size (fun _ => True) v out ∧ Below w.heap.size w w' := by
  have HC := Aside0.mk hc
  have HCap := Aside0.mk hcap
  have H := Aside0.mk h
  have H8 := Aside0.mk h8
  have HBL := Aside0.mk hbl
  have HM := Aside0.mk hm
  obtain ⟨hm1, hm2⟩ := hm
  clear hc hcap h h8 hbl hm2
  go_enter Try.func10, Try.ntmps10
  go_wp2
  go_step3
  go_wp2
  go_step3
  go_wp2
  go_loopg [0, 6, 7] k (fun kq v0 v6 v7 w' => ∃ (A : Option Addr) (c : Nat) (xs bs : List Int), v0 = .slice A bs.length c ∧ Aside0 (Kd.R (Kd.int .u8) 5 w' w.heap.size (fun _ => True) v6 xs) ∧ Aside0 ((Kd.int .u8).C w A bs.length bs) ∧ Aside0 (bs.length ≤ c) ∧ Aside0 (unpackL kq xs bs most = some (out, er)) ∧ Aside0 (∀ x ∈ bs, 0 ≤ x ∧ x ≤ 255) ∧ Aside0 (bs.length ≤ 1000000) ∧ Aside0 (Below w.heap.size w w'))
  case atStart => exact ⟨A, c, [], bs, rfl, ⟨Kd.R_nil _ _ _ _ _⟩, HC, HCap, H, H8, HBL, ⟨Below.refl _ _⟩⟩
  case round =>
    clear HC HCap H H8 HBL
    obtain ⟨A, c, xs, bs, rfl, HO, HC, HCap, H, H8, HBL, HB⟩ := hrel
    cases gk with
    | zero => exact absurd H.out (by simp [unpackL])
    | succ k1 =>
      have h := H.out
      clear H
      simp only [unpackL] at h
      by_cases hlen : xs.length ≤ 1000000
      case neg => rw [if_neg hlen] at h; exact absurd h (by simp)
      rw [if_pos hlen] at h
      have HL := Aside0.mk hlen
      clear hlen
      by_cases hb0 : bs.length = 0
      · rw [if_pos hb0] at h
        have HH := Aside0.mk h
        obtain rfl : bs = [] := List.eq_nil_of_length_eq_zero hb0
        clear h hb0
        go_wp2
        rw [Exit.noGoto_ret]
        go_ret2
        have h := HH.out
        simp only [Option.some.injEq, Prod.mk.injEq] at h
        obtain ⟨rfl, rfl⟩ := h
        exact ⟨_, rfl, HO.out, HB.out⟩
      rw [if_neg hb0] at h
      have HH := Aside0.mk h
      have hlz : ((bs.length : Int) == 0) = false := by simpa using hb0
      have hpos : 0 < bs.length := by omega
      clear h hb0
      obtain ⟨ad, e, hcell⟩ := Kd.at_int (Kd.C_below HC.out HB.out) 0 (by omega) (by omega)
      subst e
      have hb8 : 0 ≤ bs.getD 0 0 ∧ bs.getD 0 0 ≤ 255 := H8.out _ (by rw [List.getD_eq_getElem?_getD, List.getElem?_eq_getElem hpos]; exact List.getElem_mem _)
      obtain ⟨z, hz⟩ : ∃ z, z = bs.getD 0 0 := ⟨_, rfl⟩
      replace hcell : wr.cell? ad = some (.int .u8 z) := by rw [hz, ← Addr.add_zero' ad]; exact hcell
      have HZ := Aside0.mk hz
      clear hz
      have HPs := Aside0.mk (part_sub xs bs most)
      have h := HH.out
      clear HH
      obtain ⟨xs2, bs2, e2, hp⟩ : ∃ xs2 bs2 e2, partP xs bs most = (xs2, bs2, e2) := ⟨_, _, _, rfl⟩
      rw [hp] at h HPs
      simp only at h
      by_cases hz : z < 128
      · have hcall := plain_calls w wr w.heap.size rfl _ xs bs (some ad) c most HO.out HC.out HCap.out HB.out hpos hb8 HL.out HBL.out HM.out
        rw [show plainP xs bs most = (xs2, bs2, e2) by rw [← hp]; unfold partP; rw [← HZ.out, if_pos hz]] at hcall
        have HCall := Aside0.mk hcall
        clear hcall hb8 hp

        by_cases he : e2 = 0
        · rw [if_pos he] at h
          subst he
          have HA := Aside0.mk h
          clear h
          go_wp2_with (go_at_call 13; go_loud (refine HCall.out.mono ?_; rintro e w1 ⟨vo, A1, c1, rfl, hr1, hc1, hcap1, hb1⟩; have R1 := Aside0.mk hr1; have C1 := Aside0.mk hc1; have K1 := Aside0.mk hcap1; have B1 := Aside0.mk hb1; clear hr1 hc1 hcap1 hb1))
          go_roundg k1
          case rel => exact ⟨A1, c1, xs2, bs2, rfl, R1, C1, K1, HA, ⟨fun x hx => H8.out x (HPs.out.1 x hx)⟩, ⟨Nat.le_trans HPs.out.2 HBL.out⟩, B1⟩
          case measure => omega
        · rw [if_neg he] at h
          have he2 : (e2 != 0) = true := by simpa using he
          have HA := Aside0.mk h
          clear h he
          go_wp2_with (go_at_call 13; go_loud (refine HCall.out.mono ?_; rintro e w1 ⟨vo, A1, c1, rfl, hr1, hc1, hcap1, hb1⟩; have B1 := Aside0.mk hb1; clear hr1 hc1 hcap1 hb1))
          rw [Exit.noGoto_ret]
          go_ret2
          have h := HA.out
          simp only [Option.some.injEq, Prod.mk.injEq] at h
          obtain ⟨rfl, rfl⟩ := h
          exact ⟨_, rfl, Kd.R_nil _ _ _ _ _, B1.out⟩
      · have hcall := again_calls w wr w.heap.size rfl _ xs bs (some ad) c most HO.out HC.out HCap.out HB.out hpos H8.out (by rw [← HZ.out]; omega) HL.out HBL.out HM.out
        rw [show againP xs bs most = (xs2, bs2, e2) by rw [← hp]; unfold partP; rw [← HZ.out, if_neg hz]] at hcall
        have HCall := Aside0.mk hcall
        clear hcall hb8 hp

        by_cases he : e2 = 0
        · rw [if_pos he] at h
          subst he
          have HA := Aside0.mk h
          clear h
          go_wp2_with (go_at_call 14; go_loud (refine HCall.out.mono ?_; rintro e w1 ⟨vo, A1, c1, rfl, hr1, hc1, hcap1, hb1⟩; have R1 := Aside0.mk hr1; have C1 := Aside0.mk hc1; have K1 := Aside0.mk hcap1; have B1 := Aside0.mk hb1; clear hr1 hc1 hcap1 hb1))
          go_roundg k1
          case rel => exact ⟨A1, c1, xs2, bs2, rfl, R1, C1, K1, HA, ⟨fun x hx => H8.out x (HPs.out.1 x hx)⟩, ⟨Nat.le_trans HPs.out.2 HBL.out⟩, B1⟩
          case measure => omega
        · rw [if_neg he] at h
          have he2 : (e2 != 0) = true := by simpa using he
          have HA := Aside0.mk h
          clear h he
          go_wp2_with (go_at_call 14; go_loud (refine HCall.out.mono ?_; rintro e w1 ⟨vo, A1, c1, rfl, hr1, hc1, hcap1, hb1⟩; have B1 := Aside0.mk hb1; clear hr1 hc1 hcap1 hb1))
          rw [Exit.noGoto_ret]
          go_ret2
          have h := HA.out
          simp only [Option.some.injEq, Prod.mk.injEq] at h
          obtain ⟨rfl, rfl⟩ := h
          exact ⟨_, rfl, Kd.R_nil _ _ _ _ _, B1.out⟩
end Go.Proofs.Ytfekceekaeobcaa
