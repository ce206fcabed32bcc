/- The contract of press.packer.flush: what stands alone is written in runs of at most 128. Conditions: the lengths in the statement. -/
import Derived.Test.YtfekceekaeobcaaPPressPacksx2
import Derived.WalkMore
import Derived.Deep.RegionLaw
import Derived.WalkSpells
import Derived.Lib.Hide
import Derived.StillTailTactics
namespace Go.Proofs.Ytfekceekaeobcaa
open Go.RowKit Go.Proofs.YtfekceekaeobcaaW.PrintWords Go.Proofs.YtfekceekaeobcaaW.PrintLast Go.Proofs.YtfekceekaeobcaaW.PrintMore
attribute [local go_sem] max2_int min2_int max_two min_two
set_option linter.unusedVariables false
set_option linter.unusedSimpArgs false

def flushF : Nat → List Int → List Int
  | 0, _ => []
  | n + 1, ys => if ys.isEmpty then [] else (min (ys.length : Int) 128 - 1) :: (ys.take 128 ++ flushF n (ys.drop 128))
def flushL (ys : List Int) : List Int := flushF ys.length ys
theorem flushF_more : ∀ (n m : Nat) (ys : List Int), ys.length ≤ n → ys.length ≤ m → flushF n ys = flushF m ys
  | 0, 0, _, _, _ => rfl
  | 0, m + 1, ys, h, _ => by
    obtain rfl : ys = [] := List.eq_nil_of_length_eq_zero (by omega)
    rfl
  | n + 1, 0, ys, _, h => by
    obtain rfl : ys = [] := List.eq_nil_of_length_eq_zero (by omega)
    rfl
  | n + 1, m + 1, ys, h1, h2 => by
    simp only [flushF]
    split
    · rfl
    · rename_i h
      have h3 : 0 < ys.length := by cases ys <;> simp_all
      rw [flushF_more n m (ys.drop 128) (by simp; omega) (by simp; omega)]
theorem flush_nil : flushL [] = [] := rfl
theorem flush_eq {ys : List Int} (h : ys ≠ []) : flushL ys = (min (ys.length : Int) 128 - 1) :: (ys.take 128 ++ flushL (ys.drop 128)) := by
  have h3 : 0 < ys.length := List.length_pos_iff.mpr h
  obtain ⟨n, hn⟩ : ∃ n, ys.length = n + 1 := ⟨ys.length - 1, by omega⟩
  have h1 : ys.isEmpty = false := by simpa using h
  unfold flushL
  conv => lhs; rw [hn]
  simp only [flushF, h1]
  rw [flushF_more n (ys.drop 128).length (ys.drop 128) (by simp; omega) (Nat.le_refl _)]
  simp
theorem flushL_len : ∀ ys : List Int, (flushL ys).length ≤ 2 * ys.length := by
  intro ys
  induction hn : ys.length using Nat.strongRecOn generalizing ys with
  | _ n ih =>
    by_cases h : ys = []
    · subst h; rw [flush_nil]; simp
    · have h1 : 0 < ys.length := List.length_pos_iff.mpr h
      have := ih (ys.drop 128).length (by simp; omega) (ys.drop 128) rfl
      rw [flush_eq h]
      simp only [List.length_cons, List.length_append, List.length_take, List.length_drop] at this ⊢
      omega
theorem flush_step {ys : List Int} {j : Nat} (hj : (if (128 : Int) < (ys.length : Int) then (128 : Int) else (ys.length : Int)) = (j : Int)) (hj1 : 0 < j) :
    ((j : Int) - 1) :: (ys.take j ++ flushL (ys.drop j)) = flushL ys := by
  have hne : ys ≠ [] := by
    intro h; subst h; simp at hj; omega
  rw [flush_eq hne]
  by_cases h : 128 < ys.length
  · rw [if_pos (by omega)] at hj
    obtain rfl : j = 128 := by omega
    rw [show min (ys.length : Int) 128 = 128 by omega]; rfl
  · rw [if_neg (by omega)] at hj
    obtain rfl : j = ys.length := by omega
    rw [show min (ys.length : Int) 128 = (ys.length : Int) by omega, List.take_of_length_le (Nat.le_refl _), List.take_of_length_le (by omega), List.drop_of_length_le (Nat.le_refl _), List.drop_of_length_le (by omega)]
/-- the packer at block B -/
structure PK (w : World) (base B : Nat) (vo va : Value) (xs ys : List Int) : Prop where
  hB : w.heap[B]? = some (.cells #[vo, va] 34 (0, 0))
  ro : Kd.R (Kd.int .u8) 5 w base (fun k => k ≠ B ∧ some k ≠ va.ownBlock) vo xs
  ra : Kd.Q (Kd.int .u8) 5 w base (fun k => k ≠ B ∧ some k ≠ vo.ownBlock) va ys

theorem two_cells {w : World} {B : Nat} {a b : Value} {e : Nat} (h : w.heap[B]? = some (.cells #[a, b] e (0, 0))) :
    (w.cell? ⟨B, 0, none⟩ = some a ∧ w.cell? ⟨B, 1, none⟩ = some b) ∧ (w.frozen? ⟨B, 0, none⟩ = false ∧ w.frozen? ⟨B, 1, none⟩ = false) := by
  constructor <;> constructor <;> simp [World.cell?, World.frozen?, h]
theorem two_set0 {w : World} {B : Nat} {a b u : Value} {e : Nat} (h : w.heap[B]? = some (.cells #[a, b] e (0, 0))) :
    (w.setCell ⟨B, 0, none⟩ u).heap[B]? = some (.cells #[u, b] e (0, 0)) := by
  simp [World.setCell, Array.getElem?_modify, h]
theorem two_set1 {w : World} {B : Nat} {a b u : Value} {e : Nat} (h : w.heap[B]? = some (.cells #[a, b] e (0, 0))) :
    (w.setCell ⟨B, 1, none⟩ u).heap[B]? = some (.cells #[a, u] e (0, 0)) := by
  simp [World.setCell, Array.getElem?_modify, h]

theorem PK.app1 {w w1 : World} {base B : Nat} {vo va v1 : Value} {xs ys zs : List Int} 
    (h : PK w base B vo va xs ys) (hbase : base ≤ B) (h1 : Kd.R (Kd.int .u8) 5 w1 base (fun k => k ≠ B ∧ some k ≠ va.ownBlock) v1 zs) (hg : w.grownBy w1 vo.ownBlock)
    (hat : v1.ownBlock = vo.ownBlock ∨ ∃ b, v1.ownBlock = some b ∧ w.heap.size ≤ b) :
    PK (w1.setCell ⟨B, 0, none⟩ v1) base B v1 va zs ys := by
  have hBs : B < w.heap.size := (Array.getElem?_eq_some_iff.1 h.hB).1
  have hne : some B ≠ vo.ownBlock := fun e => (h.ro.1 B e.symm).1 rfl
  refine ⟨two_set0 ((hg.block B hBs hne).trans h.hB), ?_, ?_⟩
  · exact Kd.R_far h1 (fun k hk => hk.1) _
  · exact Kd.Q_far (Kd.Q_after h.ra hg hat) (fun k hk => hk.1) _
theorem PK.lt {w : World} {base B : Nat} {vo va : Value} {xs ys : List Int} (h : PK w base B vo va xs ys) : B < w.heap.size := (Array.getElem?_eq_some_iff.1 h.hB).1
theorem PK.ne {w : World} {base B : Nat} {vo va : Value} {xs ys : List Int} (h : PK w base B vo va xs ys) : some B ≠ vo.ownBlock := fun e => (h.ro.1 B e.symm).1 rfl
theorem PK.drew {w : World} {base B : Nat} {vo va : Value} {xs ys : List Int} (h : PK w base B vo va xs ys) : PK w.drew base B vo va xs ys := ⟨h.hB, Kd.R_drew h.ro, Kd.Q_drew h.ra⟩
structure Aside2 (p q : Prop) : Prop where mk :: (a : p) (b : q)
theorem PK.cut {w : World} {base B : Nat} {vo : Value} {xs ys : List Int} {A : Option Addr} {n c j : Nat} (h : PK w base B vo (.slice A n c) xs ys) (hj : j ≤ ys.length) :
    ∃ A', (∀ W : World, (Instr.slice 22 (.slice A n c) (some (.int .i64 (j : Int))) none none).run Try.prog W = .ok (.slice A' (n - j) (c - j)) W) ∧
      PK (w.setCell ⟨B, 1, none⟩ (.slice A' (n - j) (c - j))) base B vo (.slice A' (n - j) (c - j)) xs (ys.drop j) := by
  obtain ⟨i5, hi, hz⟩ := Option.map_eq_some_iff.1 PPressPacks.info5
  simp only [Prod.mk.injEq] at hz
  have hn := (Kd.Q_reads' h.ra).1
  have hcut := cut_from (P := Try.prog) 22 5 .i64 Try.underlying22 hi 1 hz.2.1 A n c (j : Int) (by omega) (by omega)
  have hd := Kd.Q_drop h.ra hj
  simp only [Int.toNat_natCast] at hcut
  refine ⟨_, hcut, two_set1 h.hB, ?_, ?_⟩
  · refine Kd.R_far (Kd.R_mono h.ro fun k hk => ⟨hk.1, fun e => hk.2 ?_⟩) (fun k hk => hk.1) _
    rw [e]
    rcases A with _ | a
    · simp [Value.ownBlock]
    · split
      · rfl
      · simp [Value.ownBlock, Addr.add]; split <;> rfl
  · exact Kd.Q_far hd (fun k hk => hk.1) _
theorem PK.fresh {w : World} {base B : Nat} {vo va : Value} {xs ys : List Int} (h : PK w base B vo va xs ys) : ∀ k, w.heap.size ≤ k → k ≠ B ∧ some k ≠ va.ownBlock :=
  fun k hk => ⟨by have := h.lt; omega, fun e => by have := Kd.Q_lt h.ra k e.symm; omega⟩

set_option maxHeartbeats 1000000 in
theorem flush_calls (B base : Nat) (w : World) (vo va : Value) (xs ys : List Int) (hp : PK w base B vo va xs ys) (hbase : base ≤ B) 
    (hl : (xs.length + ys.length + 300) * 2 ≤ 140737488355328) :
    Calls Try.prog 12 #[.pointer (some ⟨B, 0, none⟩)] w fun e w' => e = .returned (.tuple #[]) ∧ ∃ vo' va', PK w' base B vo' va' (xs ++ flushL ys) [] ∧ Below base w w' := by
  have HL := Aside0.mk hl
  clear hl
  have HP := Aside0.mk hp
  clear hp
  go_enter Try.func12, Try.ntmps12
  go_wp2
  go_step3
  go_wp2
  go_step3
  go_wp2
  go_loopg [2] ys.length (fun kq v2 w' => ∃ vo' va' xs' ys', Aside0 (PK w' base B vo' va' xs' ys') ∧ Aside0 (xs' ++ flushL ys' = xs ++ flushL ys) ∧ Aside0 (Below base w w') ∧ Aside0 (ys'.length = kq) ∧ Aside0 (xs'.length + 2 * kq ≤ xs.length + 2 * ys.length))
  case atStart => exact ⟨vo, va, xs, ys, HP, ⟨rfl⟩, ⟨Below.refl _ _⟩, ⟨rfl⟩, ⟨Nat.le_refl _⟩⟩
  case round =>
    obtain ⟨vo', va', xs', ys', hP, hE, hW, hG, hLn⟩ := hrel
    obtain ⟨⟨hc0, hc1⟩, hf0, hf1⟩ := two_cells hP.out.hB
    obtain ⟨A, c, rfl, hcap⟩ : ∃ A c, va' = .slice A ys'.length c ∧ Aside0 (ys'.length ≤ c) := by
      obtain ⟨A, c, h, h'⟩ := Kd.Q_slice hP.out.ra
      exact ⟨A, c, h, ⟨h'⟩⟩
    by_cases hn : ys'.length = 0
    · obtain rfl : ys' = [] := List.eq_nil_of_length_eq_zero hn
      clear hn
      go_wp2
      rw [Exit.noGoto_normal]
      go_end0
      have := hP.out
      have hx : xs' = xs ++ flushL ys := by rw [← hE.out, flush_nil, List.append_nil]
      rw [hx] at this
      exact ⟨rfl, vo', _, this, hW.out⟩
    have hbw : base ≤ wr.heap.size := by have := hP.out.lt; omega
    have HBW := Aside0.mk hbw
    clear hbw
    obtain ⟨j, hj, hj1, hj2, hj3⟩ : ∃ j : Nat, (if (128 : Int) < (ys'.length : Int) then (128 : Int) else (ys'.length : Int)) = (j : Int) ∧ 0 < j ∧ j ≤ 128 ∧ j ≤ ys'.length := by
      by_cases h : 128 < ys'.length
      · exact ⟨128, by rw [if_pos (by omega)]; rfl, by omega, by omega, by omega⟩
      · exact ⟨ys'.length, by rw [if_neg (by omega)], by omega, by omega, by omega⟩
    have hj0 : ((j : Int) == 0) = false := by simp; omega
    have hjw : IntKind.u8.wrap ((j : Int) - 1) = (j : Int) - 1 := by rw [show IntKind.u8.wrap ((j : Int) - 1) = ((j : Int) - 1) % 256 from rfl]; omega
    clear hn
    go_wp2_with ((with_reducible refine gate_builtin (b := .append) (xs := #[.tmp 15, .tmp 19]) rfl ?_); at_builtin; go_loud (refine Kd.R_append (Kd.int .u8) (w0 := w) base rfl (.tmp 15) (.tmp 19) 22 5 (.int .u8 0) 1 rfl Try.underlying22 PPressPacks.info5 rfl (by decide) (by omega) vo' xs' ((j : Int) - 1) [.int .u8 ((j : Int) - 1)] _ (fun _ => False) rfl rfl rfl (fun _ hk => hk.elim) hP.out.fresh hP.out.ro hW.out HBW.out ?aL ?_; (case aL => have := HL.out; have := hLn.out; have := hG.out; omega); intro v1 w1 ho hb hg hat; have HP1 := Aside0.mk (PK.app1 hP.out hbase ho hg hat); have HB1 := Aside0.mk (hb.setCell (p := ⟨B, 0, none⟩) hbase v1); obtain ⟨⟨cB1, cB2⟩, cB3, cB4⟩ := two_cells ((hg.block B hP.out.lt hP.out.ne).trans hP.out.hB); obtain ⟨A1, c1, hv1⟩ := Kd.R_slice ho; simp only [List.length_append, List.length_singleton] at hv1; subst hv1; obtain ⟨⟨dB1, dB2⟩, dB3, dB4⟩ := two_cells HP1.out.hB; clear ho hb hg hat hc0 hc1 hf0 hf1))
    clear cB1 cB2 cB3 cB4
    generalize hw2 : w1.setCell ⟨B, 0, none⟩ (Value.slice A1 (xs'.length + 1) c1) = w2 at *
    clear hw2
    obtain ⟨i5, hi5, hi5'⟩ := Option.map_eq_some_iff.1 PPressPacks.info5
    clear hi5'
    have ht := cut_to (P := Try.prog) 22 5 .i64 Try.underlying22 hi5 A ys'.length c (j : Int) (by omega) (by omega) (by have := hcap.out; omega)
    obtain ⟨rA, rB⟩ := Aside2.mk (Kd.R_drew HP1.out.ro) (Kd.C_drew (Kd.Q_reads' (Kd.Q_take HP1.out.ra (m := j) hj3)).2.2)
    have rF := Aside0.mk HP1.out.drew.fresh
    have HB1' := HB1.out.drew
    have rS : base ≤ w2.drew.heap.size := by have := HP1.out.drew.lt; omega
    have rL : ((xs' ++ [(j : Int) - 1]).length + j) * 1 ≤ 140737488355328 := by
      have := HL.out; have := hLn.out; have := hG.out; simp; omega
    have RS := Aside0.mk rS
    have RL := Aside0.mk rL
    have rR : ReadsRow ((Kd.int .u8).K w2.drew) (Kd.int .u8).sz w2.drew A j (ys'.take j) := by
      have := rB; rw [List.length_take, Nat.min_eq_left hj3] at this; exact this
    have RR := Aside0.mk rR
    clear rS rL rR rB
    go_region_law (refine Kd.R_append_rows_step (Kd.int .u8) (w0 := w) base rfl (.tmp 27) (.tmp 33) 22 5 (.int .u8 0) 1 rfl Try.underlying22 PPressPacks.info5 rfl (by decide) (by omega) (.slice A1 (xs'.length + 1) c1) (xs' ++ [(j : Int) - 1]) (ys'.take j) A j c _ (fun _ => False) rfl rfl rA RR.out (fun _ _ h => h) (fun _ h => h.elim) rF.out HB1' RS.out RL.out ?_; intro v2 w3 ho hb hg hat; have HP2 := Aside0.mk (PK.app1 (PK.drew HP1.out) hbase ho hg hat); have HB2 := Aside0.mk (hb.setCell (p := ⟨B, 0, none⟩) hbase v2); obtain ⟨⟨cB1, cB2⟩, cB3, cB4⟩ := two_cells ((hg.block B HP1.out.drew.lt HP1.out.drew.ne).trans HP1.out.drew.hB); obtain ⟨A2, c2, hv1⟩ := Kd.R_slice ho; simp only [List.length_append, List.length_singleton, List.length_take, Nat.min_eq_left hj3] at hv1; subst hv1; obtain ⟨⟨eB1, eB2⟩, eB3, eB4⟩ := two_cells HP2.out.hB; obtain ⟨A', hcut, hdrop⟩ := PK.cut HP2.out hj3; have HD := Aside0.mk hdrop; clear ho hb hg hat dB1 dB2 dB3 dB4 HP1 HB1 rA RR RS RL rF HB1' hdrop ht)
    all_goals
      clear cB1 cB2 cB3 cB4
      go_wp2
      go_roundg (gk - j)
      case rel =>
        refine ⟨_, _, _, _, HD, ⟨?_⟩, ⟨HB2.out.setCell (p := ⟨B, 1, none⟩) hbase _⟩, ⟨?_⟩, ⟨?_⟩⟩
        · rw [← hE.out]
          rw [← flush_step hj hj1]; simp
        · have := hG.out; simp; omega
        · have := hG.out; have := hLn.out; simp; omega
      case measure => have := hG.out; omega
end Go.Proofs.Ytfekceekaeobcaa
