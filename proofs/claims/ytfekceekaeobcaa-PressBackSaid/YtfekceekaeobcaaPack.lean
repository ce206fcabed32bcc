/- The contract of press.Pack over plain lists. Conditions: at most a million bytes. -/
import Derived.Test.YtfekceekaeobcaaFlush
namespace Go.Proofs.Ytfekceekaeobcaa
open Go.RowKit Go.Proofs.YtfekceekaeobcaaW.PrintWords Go.Proofs.YtfekceekaeobcaaW.PrintLast Go.Proofs.YtfekceekaeobcaaW.PrintMore
open PPressPacks
set_option linter.unusedVariables false
set_option linter.unusedSimpArgs false

def packL : Nat → List Int → List Int → List Int → Nat → Option (List Int)
  | 0, _, _, _, _ => none
  | k + 1, b, xs, ys, at_ =>
    if xs.length + ys.length < 1000000 then
      if at_ < b.length then
        (press_Match.f k b at_).bind fun t => if t.2 = 0 then packL k b xs (ys ++ [rd b at_]) (at_ + 1)
          else if 0 ≤ t.2 ∧ t.2 ≤ 130 ∧ 0 ≤ t.1 ∧ t.1 ≤ 255 then packL k b (xs ++ flushL ys ++ [125 + t.2, t.1]) [] (at_ + t.2.toNat) else none
      else some (xs ++ flushL ys)
    else none

theorem PK.app2 {w w1 : World} {base B : Nat} {vo va v1 : Value} {xs ys zs : List Int} 
    (h : PK w base B vo va xs ys) (hbase : base ≤ B) (h1 : Kd.Q (Kd.int .u8) 5 w1 base (fun k => k ≠ B ∧ some k ≠ vo.ownBlock) v1 zs) (hg : w.grownBy w1 va.ownBlock)
    (hat : v1.ownBlock = va.ownBlock ∨ ∃ b, v1.ownBlock = some b ∧ w.heap.size ≤ b) :
    PK (w1.setCell ⟨B, 1, none⟩ v1) base B vo v1 xs zs := by
  have hBs : B < w.heap.size := (Array.getElem?_eq_some_iff.1 h.hB).1
  have hne : some B ≠ va.ownBlock := fun e => (h.ra.1 B e.symm).1 rfl
  refine ⟨two_set1 ((hg.block B hBs hne).trans h.hB), ?_, ?_⟩
  · exact Kd.R_far (Kd.R_after h.ro hg hat) (fun k hk => hk.1) _
  · exact Kd.Q_far h1 (fun k hk => hk.1) _
theorem PK.ne' {w : World} {base B : Nat} {vo va : Value} {xs ys : List Int} (h : PK w base B vo va xs ys) : some B ≠ va.ownBlock := fun e => (h.ra.1 B e.symm).1 rfl
theorem PK.fresh' {w : World} {base B : Nat} {vo va : Value} {xs ys : List Int} (h : PK w base B vo va xs ys) : ∀ k, w.heap.size ≤ k → k ≠ B ∧ some k ≠ vo.ownBlock :=
  fun k hk => ⟨by have := h.lt; omega, fun e => by have := Kd.R_lt h.ro k e.symm; omega⟩
theorem PK.below {w w1 : World} {base B : Nat} {vo va : Value} {xs ys : List Int} (h : PK w base B vo va xs ys) (hb : Below w.heap.size w w1) : PK w1 base B vo va xs ys :=
  ⟨(hb.block B h.lt).trans h.hB, Kd.R_below h.ro hb, Kd.Q_below h.ra hb⟩
theorem C_lit2 (w : World) (x y : Int) : ReadsRow ((Kd.int .u8).K (w.alloc (.cells #[.int .u8 x, .int .u8 y] 5))) (Kd.int .u8).sz (w.alloc (.cells #[.int .u8 x, .int .u8 y] 5)) (some ⟨w.heap.size, 0, none⟩) 2 [x, y] := by
  refine (Kd.C_of_reads (d := (0 : Int)) (h1 := fun _ => rfl) (enc := Value.int .u8) ⟨rfl, by omega, fun _ => ⟨_, rfl, fun j hj => ?_⟩⟩ : (Kd.int .u8).C _ _ 2 [x, y])
  have hc := cell_of_row (w.alloc (.cells #[.int .u8 x, .int .u8 y] 5)) w.heap.size j #[.int .u8 x, .int .u8 y] 5 (0, 0) (heap_alloc_new w _)
  rw [add_plain]
  rw [hc]
  match j, hj with
  | 0, _ => rfl
  | 1, _ => rfl
theorem PK.alloc {w : World} {base B : Nat} {vo va : Value} {xs ys : List Int} (h : PK w base B vo va xs ys) (o : Obj) : PK (w.alloc o) base B vo va xs ys :=
  PK.below h (below_alloc (Below.refl _ _) _)
set_option maxHeartbeats 1000000 in
theorem pack_calls (k : Nat) (A0 : Option Addr) (c0 : Nat) (l0 : List Int) (r : List Int) (w : World) (hr0 : Kd.C (Kd.int .u8) w A0 l0.length l0) (hc0 : l0.length ≤ c0)
    (hs : l0.length ≤ 1000000) (h : packL k l0 [] [] 0 = some r) :
    Calls Try.prog 8 #[.slice A0 l0.length c0] w fun e w' => ∃ v0_ : Value, e = .returned (v0_) ∧ Kd.R (Kd.int .u8) 5 w' w.heap.size (fun _ => True) v0_ r ∧ Below w.heap.size w w' := by
  have HR0 := Aside0.mk hr0
  have HC0 := Aside0.mk hc0
  clear hr0 hc0
  have H := Aside0.mk h
  clear h
  go_enter Try.func8, Try.ntmps8
  go_wp2
  go_loopg [4, 5, 6] k (fun kq v4 v5 v6 w' => ∃ (vo va : Value) (xs ys : List Int) (at_ : Nat), v4 = .int .i64 (at_ : Int) ∧ Aside0 (packL kq l0 xs ys at_ = some r) ∧ Aside0 (kq ≤ k) ∧ Aside0 (PK w' w.heap.size w.heap.size vo va xs ys) ∧ Aside0 (Below w.heap.size w w'))
  case atStart =>
    refine ⟨_, _, [], [], 0, rfl, H, ⟨Nat.le_refl _⟩, ⟨⟨heap_alloc_new w _, Kd.R_nil _ _ _ _ _, Kd.Q_nil _ _ _ _ _⟩⟩, ⟨(Below.refl _ _).alloc (Nat.le_refl _) _⟩⟩
  case round =>
    obtain ⟨vo, va, xs, ys, at_, rfl, HA, HK, HP, HB⟩ := hrel
    cases gk with
    | zero => exact absurd HA.out (by simp [packL])
    | succ k1 =>
      have h := HA.out
      clear HA
      simp only [packL] at h
      by_cases hlen : xs.length + ys.length < 1000000
      case neg => rw [if_neg hlen] at h; exact absurd h (by simp)
      rw [if_pos hlen] at h
      have HL := Aside0.mk hlen
      clear hlen
      by_cases hat : at_ < l0.length
      case neg =>
        rw [if_neg hat] at h
        have HA := Aside0.mk h
        clear h
        have HLL := Aside0.mk (show (xs.length + ys.length + 300) * 2 ≤ 140737488355328 by have := HL.out; omega)
        go_wp2_with (go_at_call 12; refine (flush_calls w.heap.size w.heap.size _ vo va xs ys HP.out (Nat.le_refl _) HLL.out).mono ?_; rintro e w2 ⟨rfl, vo2, va2, hp2, hb2⟩; have HP2 := Aside0.mk hp2; have HB2 := Aside0.mk (HB.out.trans hb2); obtain ⟨⟨cB1, cB2⟩, cB3, cB4⟩ := two_cells hp2.hB; clear hp2 hb2)
        go_ret
        obtain rfl : xs ++ flushL ys = r := Option.some.inj HA.out
        exact ⟨vo2, rfl, Kd.R_mono HP2.out.ro (fun _ _ => trivial), HB2.out⟩
      rw [if_pos hat] at h
      obtain ⟨⟨t1, t2⟩, hm, h⟩ := Option.bind_eq_some_iff.mp h
      have HM := Aside0.mk hm
      clear hm
      simp only at h
      by_cases h2 : t2 = 0
      · subst h2
        rw [if_pos rfl] at h
        have HA := Aside0.mk h
        clear h
        go_wp2_with (go_at_call 6; refine (press_Match.calls k1 _ _ l0 at_ t1 0 _ (Kd.C_below HR0.out HB.out) HC0.out HM.out).mono ?_; rintro e w1 ⟨rfl, hb1⟩; have HB1 := Aside0.mk (below_step HB.out hb1); have HP1 := Aside0.mk (PK.below HP.out hb1); clear hb1)
        obtain ⟨⟨cB1, cB2⟩, cB3, cB4⟩ := two_cells HP1.out.hB
        obtain ⟨ad, e101, hcell⟩ := Kd.at_int (Kd.C_below HR0.out HB1.out) (at_ : Int) (by omega) (by omega)
        subst e101
        simp only [Int.toNat_natCast] at hcell
        have hlt1 := HP1.out.lt
        have HPd := Aside0.mk HP1.out.drew
        have HS := Aside0.mk (show w.heap.size ≤ w1.drew.heap.size from HB1.out.size)
        have HBd := Aside0.mk HB1.out.drew
        have HL2 : (ys.length + 1) * 1 ≤ 140737488355328 := by have := HL.out; omega
        have HLL := Aside0.mk HL2
        clear HL2
        go_region_law (go_loud (refine Kd.Q_append_step (Kd.int .u8) (w0 := w) (W := w1.drew) w.heap.size rfl (.tmp 25) (.tmp 30) 22 5 (.int .u8 0) 1 rfl Try.underlying22 info5 rfl (by decide) (by decide) va ys (rd l0 (at_ : Int)) [.int .u8 (rd l0 (at_ : Int))] _ (fun _ => False) rfl rfl rfl (fun _ hk => hk.elim) HPd.out.fresh' HPd.out.ra HBd.out HS.out HLL.out ?_; intro v1 w2 ho hb hg hat; obtain ⟨A1, c1, hv1, hv2⟩ := Kd.Q_slice ho; simp only [List.length_append, List.length_singleton] at hv1; subst hv1; clear hv2; have HP2 := Aside0.mk (PK.app2 HPd.out (Nat.le_refl _) ho hg hat); have HB2 := Aside0.mk (hb.setCell (p := ⟨w.heap.size, 1, none⟩) (Nat.le_refl _) (.slice A1 (ys.length + 1) c1)); obtain ⟨⟨dB1, dB2⟩, dB3, dB4⟩ := two_cells ((hg.block w.heap.size HPd.out.lt HPd.out.ne').trans HPd.out.hB); clear ho hb hg hat cB1 cB2 cB3 cB4))
        all_goals
          clear dB1 dB2 dB3 dB4
          generalize hw3 : World.setCell _ _ _ = w3 at *
          clear hw3
          go_wp2
          go_roundg k1
          case rel => exact ⟨_, _, _, _, at_ + 1, by go_num, HA, ⟨by have := HK.out; omega⟩, HP2, HB2⟩
          case measure => omega
      rw [if_neg h2] at h
      by_cases h3 : 0 ≤ t2 ∧ t2 ≤ 130 ∧ 0 ≤ t1 ∧ t1 ≤ 255
      case neg => rw [if_neg h3] at h; exact absurd h (by simp)
      rw [if_pos h3] at h
      have HA := Aside0.mk h
      clear h
      have ht2 : (t2 == 0) = false := by simpa using h2
      obtain ⟨j1, j2, j3, j4⟩ := h3
      have e1 : IntKind.u8.wrap (125 + t2) = 125 + t2 := by rw [show IntKind.u8.wrap (125 + t2) = (125 + t2) % 256 from rfl]; omega
      have e2 : IntKind.u8.wrap t1 = t1 := by rw [show IntKind.u8.wrap t1 = t1 % 256 from rfl]; omega
      have HLL := Aside0.mk (show (xs.length + ys.length + 300) * 2 ≤ 140737488355328 by have := HL.out; omega)
      have HL3 := Aside0.mk (show ((xs ++ flushL ys).length + 2) * 1 ≤ 140737488355328 by have := HL.out; have := flushL_len ys; simp; omega)
      clear h2
      go_wp2_with (first | (go_at_call 6; refine (press_Match.calls k1 _ _ l0 at_ t1 t2 _ (Kd.C_below HR0.out HB.out) HC0.out HM.out).mono ?_; rintro e w1 ⟨rfl, hb1⟩; have HB1 := Aside0.mk (below_step HB.out hb1); have HP1 := Aside0.mk (PK.below HP.out hb1); clear hb1) | (go_at_call 12; refine (flush_calls w.heap.size w.heap.size _ vo va xs ys HP1.out (Nat.le_refl _) HLL.out).mono ?_; rintro e w2 ⟨rfl, vo2, va2, hp2, hb2⟩; have HP2 := Aside0.mk hp2; have HB2 := Aside0.mk (HB1.out.trans hb2); obtain ⟨⟨cB1, cB2⟩, cB3, cB4⟩ := two_cells hp2.hB; clear hp2 hb2 HB1 HP1) | ((with_reducible refine gate_builtin (b := .append) (xs := #[.tmp 42, .tmp 48]) rfl ?_); at_builtin; go_loud (refine Kd.R_append_rows (Kd.int .u8) (w0 := w) (W := w2.alloc (.cells #[.int .u8 (125 + t2), .int .u8 t1] 5)) w.heap.size rfl (.tmp 42) (.tmp 48) 22 5 (.int .u8 0) 1 rfl Try.underlying22 info5 rfl (by decide) (by decide) vo2 (xs ++ flushL ys) [125 + t2, t1] (some ⟨w2.heap.size, 0, none⟩) 2 2 _ (fun _ => False) rfl rfl (Kd.R_alloc HP2.out.ro _) (C_lit2 w2 _ _) (fun _ _ h => h) (fun _ h => h.elim) (PK.alloc HP2.out _).fresh (below_alloc HB2.out _) (below_size (below_alloc HB2.out _)) HL3.out ?_; intro v1 w3 ho hb hg hat; obtain ⟨A1, c1, hv1⟩ := Kd.R_slice ho; rw [show (xs ++ flushL ys ++ [125 + t2, t1]).length = xs.length + ((flushL ys).length + 2) from (by simp [Nat.add_assoc])] at hv1; have HPa := PK.alloc HP2.out (.cells #[.int .u8 (125 + t2), .int .u8 t1] 5); have HP3 := Aside0.mk (PK.app1 HPa (Nat.le_refl _) ho hg hat); have HB3 := Aside0.mk (hb.setCell (p := ⟨w.heap.size, 0, none⟩) (Nat.le_refl _) v1); obtain ⟨⟨dB1, dB2⟩, dB3, dB4⟩ := two_cells ((hg.block w.heap.size HPa.lt HPa.ne).trans HPa.hB); subst hv1; clear HPa ho hb hg hat cB1 cB2 cB3 cB4 HP2 HB2)))
      go_roundg k1
      case rel => exact ⟨_, _, _, _, at_ + t2.toNat, by go_num, HA, ⟨by have := HK.out; omega⟩, HP3, HB3⟩
      case measure => omega
end Go.Proofs.Ytfekceekaeobcaa
