/- The reference's disk: Crash, Fault. Conditions: those of each statement. -/
import Derived.Test.YtlepcmljmibdnaaRf
namespace Go.Proofs.Ytlepcmljmibdnaa
open Go.RowKit Go.Proofs.YtlepcmljmibdnaaW.PrintWords Go.Proofs.YtlepcmljmibdnaaW.PrintLast Go.Proofs.YtlepcmljmibdnaaW.PrintMore PDiskArms
set_option linter.unusedVariables false
set_option linter.unusedSimpArgs false
def rsel (S : List (List Int)) (l : List (Int × List Int)) (ks : List Bool) : Nat → List (List Int)
  | 0 => S
  | i + 1 => if ks.getD i false then (rsel S l ks i).set (l.getD i (0, [])).1.toNat (l.getD i (0, [])).2 else rsel S l ks i
theorem rsel_true (S : List (List Int)) (l : List (Int × List Int)) (ks : List Bool) (i : Nat) (p : Int × List Int) (hb : ks.getD i false = true) (hp : l.getD i (0, []) = p) : rsel S l ks (i + 1) = (rsel S l ks i).set p.1.toNat p.2 := by
  subst hp
  show (if ks.getD i false then _ else _) = _
  rw [if_pos hb]
theorem rsel_false (S : List (List Int)) (l : List (Int × List Int)) (ks : List Bool) (i : Nat) (hb : ks.getD i false = false) : rsel S l ks (i + 1) = rsel S l ks i := by
  show (if ks.getD i false then _ else _) = _
  rw [if_neg (by rw [hb]; simp)]
theorem rsel_len (S : List (List Int)) (l : List (Int × List Int)) (ks : List Bool) (i : Nat) : (rsel S l ks i).length = S.length := by
  induction i with
  | zero => rfl
  | succ i ih => unfold rsel; split <;> simp [ih]
theorem rsel_64 (S : List (List Int)) (l : List (Int × List Int)) (ks : List Bool) (hS : ∀ s ∈ S, s.length = 64) (hl : ∀ p ∈ l, p.2.length = 64) : ∀ i, i ≤ l.length → ∀ s ∈ rsel S l ks i, s.length = 64
  | 0, _ => hS
  | i + 1, hi => by
    unfold rsel
    split
    · intro s hs
      rcases List.mem_or_eq_of_mem_set hs with h | h
      · exact rsel_64 S l ks hS hl i (by omega) s h
      · rw [h]
        have : l.getD i (0, []) = l[i] := by simp [List.getD, List.getElem?_eq_getElem (show i < l.length by omega)]
        rw [this]
        exact hl _ (List.getElem_mem _)
    · exact rsel_64 S l ks hS hl i (by omega)
def rcrashX (X : RX) (ks : List Bool) : RX := { S := rsel X.S X.cache ks X.cache.length, cache := [], bad := X.bad, left := -1, dead := false }
theorem RM.crashed {w : World} {base B : Nat} {vS vC vB : Value} {X : RX} (h : RM w base B vS vC vB X) :
    RM (((w.setCell ⟨B, 1, none⟩ (.slice none 0 0)).setCell ⟨B, 4, none⟩ (.bool false)).setCell ⟨B, 3, none⟩ (.int .i64 (-1))) base B vS (.slice none 0 0) vB { X with cache := [], left := -1, dead := false } ∧
      TC base isRef w (((w.setCell ⟨B, 1, none⟩ (.slice none 0 0)).setCell ⟨B, 4, none⟩ (.bool false)).setCell ⟨B, 3, none⟩ (.int .i64 (-1))) := by
  have b1 := set7 h.blk 1 (.slice none 0 0)
  have b2 := set7 b1 4 (.bool false)
  have b3 := set7 b2 3 (.int .i64 (-1))
  have hS : ∀ {α : Type} {d : Kd α} {e : Nat} {v : Value} {xs : List α}, Kd.R d e w base (fun _ => True) v xs → (∀ q, q ∈ e :: d.E → q ≠ 53) → Kd.R d e (((w.setCell ⟨B, 1, none⟩ (.slice none 0 0)).setCell ⟨B, 4, none⟩ (.bool false)).setCell ⟨B, 3, none⟩ (.int .i64 (-1))) base (fun _ => True) v xs := fun hr hq =>
    Kd.R_set (Kd.R_set (Kd.R_set hr h.blk hq 1 _) b1 hq 4 _) b2 hq 3 _
  exact ⟨⟨b3, hS h.S (fun q hq => by rcases q29 q hq with h | h <;> simp [h]), Kd.R_nil _ _ _ _ _, hS h.bad (fun q hq => by simp [q4 q hq]), h.hB⟩, ((TC.set h.blk (isRef53 _) h.hB _).trans (.set b1 (isRef53 _) h.hB _)).trans (.set b2 (isRef53 _) h.hB _)⟩
set_option maxHeartbeats 2000000 in
theorem rcrash_calls (w : World) (base B : Nat) (vS vC vB : Value) (X : RX) (Ak : Option Addr) (ck : Nat) (ks : List Bool) (h : RK w base B vS vC vB X) (hl : X.cache.length ≤ 1000) (hk : ∀ w', TC base isRef w w' → Kd.bool.C w' Ak ks.length ks) :
    Calls Try.prog 30 #[.pointer (some ⟨B, 0, none⟩), .slice Ak ks.length ck] w fun e w' => e = .returned (.tuple #[]) ∧ RK w' base B vS (.slice none 0 0) vB (rcrashX X ks) ∧ TC base isRef w w' := by
  have HR := Aside0.mk h
  have HK := Aside0.mk hk
  have HCO := Aside0.mk h.ok.c64
  obtain ⟨A0, c0, hvC⟩ := Kd.R_slice h.C
  subst hvC
  have q1 := (cells5 h.blk).1.2.1
  clear h hk
  go_enter Try.func30, Try.ntmps30
  go_wp2
  clear q1
  go_loopg [11] X.cache.length (fun kq v11 w' => ∃ (i : Nat), v11 = .int .i64 (i : Int) ∧ Aside0 (i + kq = X.cache.length) ∧ Aside0 (RM w' base B vS (.slice A0 X.cache.length c0) vB { X with S := rsel X.S X.cache ks i }) ∧ Aside0 (TC base isRef w w'))
  case atStart => exact ⟨0, rfl, ⟨by omega⟩, ⟨HR.out.toRM⟩, ⟨TC.refl _ _ _⟩⟩
  case round =>
    obtain ⟨i, rfl, HI, HRi, HTi⟩ := hrel
    by_cases hi : i < X.cache.length
    · obtain ⟨p, hp⟩ : ∃ p, X.cache[i]? = some p := ⟨_, List.getElem?_eq_getElem hi⟩
      have HGP := Aside0.mk (show X.cache.getD i (0, []) = p by simp [List.getD, hp])
      obtain ⟨h64, hp0, hpl⟩ := HCO.out p (List.mem_of_getElem? hp)
      obtain ⟨a, ha⟩ : ∃ a : Nat, p.1 = (a : Int) := ⟨p.1.toNat, by omega⟩
      obtain ⟨g, c, A, ci, hvc, x0, x1, hM⟩ := rc_at HRi.out i p hp
      injection hvc with hv1 hv2 hv3
      subst hv1
      subst hv3
      clear hv2
      rw [ha] at x0
      have hal : a < (rsel X.S X.cache ks i).length := by rw [rsel_len]; omega
      obtain ⟨sa, hsa⟩ : ∃ sa, (rsel X.S X.cache ks i)[a]? = some sa := ⟨_, List.getElem?_eq_getElem hal⟩
      obtain ⟨gs, cs, As, cis, hvs, y0, yf, _⟩ := rs_at HRi.out a sa hsa
      subst hvs
      have hal' : (a : Int) < ((rsel X.S X.cache ks i).length : Int) := by omega
      have HP := Aside0.mk hp
      have HPA := Aside0.mk ha
      have HM := Aside0.mk hM
      have HAL := Aside0.mk hal
      have q0 := (cells5 HRi.out.blk).1.1
      have hz := write2_cells wr (.int .i64 (a : Int)) (.slice A p.2.length ci) 106
      obtain ⟨z0, z1⟩ := hz
      have hbw := (Below.alloc (Below.refl wr.heap.size wr) (Nat.le_refl _) (.cells #[.int .i64 (a : Int), .slice A p.2.length ci] 106)).drew
      have HBW := Aside0.mk hbw
      have HBV := Aside0.mk (Below.alloc (Below.refl wr.heap.size wr) (Nat.le_refl _) (.cells #[.int .i64 (a : Int), .slice A p.2.length ci] 106))
      have q0' := Fork.bel_cell hbw q0
      have y0' := Fork.bel_cell hbw y0
      have yf' := (hbw.frozen (p := ⟨gs, a, none⟩) (block_lt_of_cell y0)).trans yf
      clear h64 hp0 hpl hp ha hM hal q0 y0 yf hbw hsa
      have HSA := Aside0.mk q0'
      by_cases hik : i < ks.length
      · obtain ⟨b, hb⟩ : ∃ b, ks.getD i false = b := ⟨_, rfl⟩
        have HBB := Aside0.mk hb
        have hcb := Kd.at_bool (Kd.C_below (HK.out wr HTi.out) HBW.out) (i : Int) (by omega) (by omega)
        rw [show rdOf false ks (i : Int) = b by rw [← HBB.out]; simp [rdOf]] at hcb
        obtain ⟨ak, e, hcb⟩ := hcb
        subst e
        rw [Int.toNat_natCast] at hcb
        have hcb' : (wr.alloc (.cells #[.int .i64 (a : Int), .slice A p.2.length ci] 106)).cell? (ak.add i) = some (.bool b) := hcb
        clear hb hcb
        cases b with
        | true =>
          go_wp2
          refine Fork.wp_fork (Fork.Lo.rel 0) [9] [] (.one 0 0 (.one 1 0 (.one 2 0 (.one 4 0 (.one 6 0 (.one 3 1 (.one 5 1 (.one 7 1 (.one 8 0 (.one 9 2 .nil)))))))))) (by kernel_rfl) (by kernel_rfl) ?_
          generalize hops : List.toArray (_ : List Oper) = ops
          have HO := Aside0.mk hops
          clear hops
          iterate 5 ((refine Fork.plain (Fork.at_ HO.out rfl) _ rfl (fun W => by go_simp; exact rfl) ?_); simp only [Act.put, List.setIfInBounds_toArray, List.set_cons_succ, List.set_cons_zero])
          refine Fork.reads (Fork.at_ HO.out rfl) _ rfl (fun W hW => Arr.ex_load1 rfl rfl (by kernel_rfl) (Fork.bel_cell hW (by assumption))) ?_
          simp only [Act.put, List.setIfInBounds_toArray, List.set_cons_succ, List.set_cons_zero]
          refine Fork.reads (Fork.at_ HO.out rfl) _ rfl (fun W hW => Arr.ex_load1 rfl rfl (by kernel_rfl) (Fork.bel_cell hW (by assumption))) ?_
          simp only [Act.put, List.setIfInBounds_toArray, List.set_cons_succ, List.set_cons_zero]
          refine Fork.reads (Fork.at_ HO.out rfl) _ rfl (fun W hW => Arr.ex_load1 rfl rfl (by kernel_rfl) (Fork.bel_cell hW (by assumption))) ?_
          simp only [Act.put, List.setIfInBounds_toArray, List.set_cons_succ, List.set_cons_zero]
          ((refine Fork.plain (Fork.at_ HO.out rfl) _ rfl (fun W => by go_simp; exact rfl) ?_); simp only [Act.put, List.setIfInBounds_toArray, List.set_cons_succ, List.set_cons_zero])
          refine Fork.step (Fork.at_ HO.out rfl) (fun K hK => ?_)
          go_simp
          refine hK _ _ (.of_old (.zero rfl rfl rfl) rfl) ?_
          clear hK K
          try simp only [Act.put, List.setIfInBounds_toArray, List.set_cons_succ, List.set_cons_zero]
          refine Fork.done ?_
          have hr2 := HRi.out.fresh HBW.out
          obtain ⟨_, cells, hcl⟩ := own_cells hr2.S gs rfl
          have hM2 := bytesK.M_mono (ok' := fun k => k ≠ gs) (fun k hk => hk.2) (Kd.M_types (Kd.M_below HM.out HBW.out) hcl (fun q hq => by rw [show bytesK.E = [5] from rfl] at hq; simp at hq; simp [hq]))
          obtain ⟨k1, k2⟩ := hr2.putS a HAL.out p.2 _ hM2
          have hk1 := HI.out
          obtain ⟨gq, rfl⟩ : ∃ gq, gk = gq + 1 := ⟨gk - 1, by omega⟩
          go_wp2
          go_roundg gq
          case rel => exact ⟨i + 1, by go_num, ⟨by omega⟩, ⟨by rw [rsel_true _ _ _ _ p HBB.out HGP.out, HPA.out, Int.toNat_natCast]; exact k1⟩, ⟨HTi.out.trans ((TC.of_below HBW.out HRi.out.base_le).trans k2)⟩⟩
          case measure => omega
        | false =>
          go_wp2
          have hk1 := HI.out
          obtain ⟨gq, rfl⟩ : ∃ gq, gk = gq + 1 := ⟨gk - 1, by omega⟩
          go_roundg gq
          case rel => exact ⟨i + 1, by go_num, ⟨by omega⟩, ⟨by rw [rsel_false _ _ _ _ HBB.out]; exact HRi.out.fresh HBV.out⟩, ⟨HTi.out.trans (TC.of_below HBV.out HRi.out.base_le)⟩⟩
          case measure => omega
      · have HKF := Aside0.mk (show ks.getD i false = false by simp [List.getD, List.getElem?_eq_none (Nat.le_of_not_lt hik)])
        have hik' : decide (i < ks.length) = false := by simp; omega
        go_wp2
        have hk1 := HI.out
        obtain ⟨gq, rfl⟩ : ∃ gq, gk = gq + 1 := ⟨gk - 1, by omega⟩
        go_roundg gq
        case rel => exact ⟨i + 1, by go_num, ⟨by omega⟩, ⟨by rw [rsel_false _ _ _ _ HKF.out]; exact HRi.out.fresh HBV.out⟩, ⟨HTi.out.trans (TC.of_below HBV.out HRi.out.base_le)⟩⟩
        case measure => omega
    · have hi0 := HI.out
      obtain rfl : gk = 0 := by omega
      obtain rfl : i = X.cache.length := by omega
      clear hi0
      have hm : ¬ ((X.cache.length : Int) < (X.cache.length : Int)) := by omega
      have hcs := cells5 HRi.out.blk
      obtain ⟨⟨q0, q1, q2, q3, q4⟩, f0, f1, f2, f3, f4⟩ := hcs
      clear q0 q2 f0 f2
      go_wp2
      go_end0
      obtain ⟨k1, k2⟩ := HRi.out.crashed
      exact ⟨rfl, ⟨k1, ⟨rsel_64 X.S X.cache ks HR.out.ok.s64 (fun p hp => (HCO.out p hp).1) _ (Nat.le_refl _), fun p hp => (by cases hp), by show X.bad.length = (rsel _ _ _ _).length; rw [rsel_len]; exact HR.out.ok.hb, ⟨by show (-1 : Int) ≤ -1; omega, by show (-1 : Int) ≤ _; omega⟩, by show (rsel _ _ _ _).length ≤ 4096; rw [rsel_len]; exact HR.out.ok.hn⟩⟩, HTi.out.trans k2⟩
end Go.Proofs.Ytlepcmljmibdnaa
