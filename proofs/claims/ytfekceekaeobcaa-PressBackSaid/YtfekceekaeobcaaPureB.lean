/- Plain facts on Pack: the program's and the reference's come to the same. -/
import Derived.Test.YtfekceekaeobcaaPureA
namespace Go.Proofs.Ytfekceekaeobcaa
open Go.RowKit Go.Proofs.YtfekceekaeobcaaW.PrintWords Go.Proofs.YtfekceekaeobcaaW.PrintLast Go.Proofs.YtfekceekaeobcaaW.PrintMore
open PPressPacks
set_option linter.unusedVariables false
set_option linter.unusedSimpArgs false

theorem set_app (xs zs : List Int) (n : Nat) (v : Int) : (xs ++ zs).set (xs.length + n) v = xs ++ zs.set n v := by
  induction xs with
  | nil => simp
  | cons x xs ih => rw [List.length_cons, show xs.length + 1 + n = (xs.length + n) + 1 by omega, List.cons_append, List.set_cons_succ, ih]; rfl
theorem flush_big {ys : List Int} (h : 128 ≤ ys.length) : flushL ys = 127 :: (ys.take 128 ++ flushL (ys.drop 128)) := by
  have hne : ys ≠ [] := by intro e; subst e; simp at h
  rw [flush_eq hne, show min (ys.length : Int) 128 = 128 by omega]; rfl
theorem flush_small {ys : List Int} (h : ys.length ≤ 128) (h0 : 0 < ys.length) : flushL ys = ((ys.length : Int) - 1) :: ys := by
  have hne : ys ≠ [] := by intro e; subst e; simp at h0
  rw [flush_eq hne, show min (ys.length : Int) 128 = (ys.length : Int) by omega, List.take_of_length_le h, List.drop_of_length_le h, flush_nil, List.append_nil]
theorem flush_new : ∀ (n : Nat) (ys : List Int) (x : Int), ys.length = 128 * n → flushL (ys ++ [x]) = flushL ys ++ [0, x]
  | 0, ys, x, h => by
    obtain rfl : ys = [] := List.eq_nil_of_length_eq_zero (by omega)
    rw [flush_nil]
    exact flush_small (ys := [x]) (by simp) (by simp)
  | n + 1, ys, x, h => by
    rw [flush_big (ys := ys) (by omega), flush_big (ys := ys ++ [x]) (by simp; omega), List.take_append_of_le_length (by omega), List.drop_append_of_le_length (by omega),
      flush_new n (ys.drop 128) x (by simp; omega)]
    simp
theorem flush_old : ∀ (n : Nat) (ys : List Int) (x : Int), 128 * n < ys.length → ys.length < 128 * (n + 1) →
    129 * n < (flushL ys).length ∧ (flushL ys).getD (129 * n) 0 = (ys.length : Int) - 128 * n - 1 ∧ flushL (ys ++ [x]) = (flushL ys).set (129 * n) ((ys.length : Int) - 128 * n) ++ [x]
  | 0, ys, x, h1, h2 => by
    rw [flush_small (ys := ys) (by omega) (by omega), flush_small (ys := ys ++ [x]) (by simp; omega) (by simp)]
    refine ⟨by simp, by simp, ?_⟩
    simp
  | n + 1, ys, x, h1, h2 => by
    obtain ⟨h3, h4, h5⟩ := flush_old n (ys.drop 128) x (by simp; omega) (by simp; omega)
    rw [flush_big (ys := ys) (by omega), flush_big (ys := ys ++ [x]) (by simp; omega), List.take_append_of_le_length (by omega), List.drop_append_of_le_length (by omega), h5]
    have ht : (ys.take 128).length = 128 := by simp; omega
    have e : 129 * (n + 1) = (129 * n + 128) + 1 := by omega
    have hl : ((ys.drop 128).length : Int) = (ys.length : Int) - 128 := by simp; omega
    refine ⟨by simp only [List.length_cons, List.length_append, ht]; omega, ?_, ?_⟩
    · rw [e, List.getD_cons_succ, List.getD_eq_getElem?_getD, List.getElem?_append_right (by omega), ht, show 129 * n + 128 - 128 = 129 * n by omega, ← List.getD_eq_getElem?_getD, h4, hl]
      omega
    · rw [e, List.set_cons_succ, show 129 * n + 128 = (ys.take 128).length + 129 * n by omega, set_app, hl]
      simp
      congr 1
      omega
theorem flush_lenF : ∀ (n : Nat) (ys : List Int), ys.length = 128 * n → (flushL ys).length = 129 * n
  | 0, ys, h => by
    obtain rfl : ys = [] := List.eq_nil_of_length_eq_zero (by omega)
    rw [flush_nil]; rfl
  | n + 1, ys, h => by
    have := flush_lenF n (ys.drop 128) (by simp; omega)
    have ht : (ys.take 128).length = 128 := by simp; omega
    rw [flush_big (by omega), List.length_cons, List.length_append, this, ht]; omega
theorem flush_full : ∀ (n : Nat) (ys : List Int), ys.length = 128 * (n + 1) → 129 * n < (flushL ys).length ∧ (flushL ys).getD (129 * n) 0 = 127
  | 0, ys, h => by rw [flush_big (by omega)]; simp
  | n + 1, ys, h => by
    obtain ⟨h3, h4⟩ := flush_full n (ys.drop 128) (by simp; omega)
    rw [flush_big (ys := ys) (by omega)]
    have ht : (ys.take 128).length = 128 := by simp; omega
    have e : 129 * (n + 1) = (129 * n + 128) + 1 := by omega
    refine ⟨by simp only [List.length_cons, List.length_append, ht]; omega, ?_⟩
    rw [e, List.getD_cons_succ, List.getD_eq_getElem?_getD, List.getElem?_append_right (by omega), ht, show 129 * n + 128 - 128 = 129 * n by omega, ← List.getD_eq_getElem?_getD, h4]

/-- where the last run begins -/
def runOf (xs ys : List Int) : Int := if ys.length = 0 then -1 else (xs.length : Int) + ((129 * ((ys.length - 1) / 128) : Nat) : Int)

theorem getD_app (xs zs : List Int) (n : Nat) : (xs ++ zs).getD (xs.length + n) 0 = zs.getD n 0 := by
  rw [List.getD_eq_getElem?_getD, List.getElem?_append_right (by omega), Nat.add_sub_cancel_left, ← List.getD_eq_getElem?_getD]

theorem packs_same (b : List Int) (hb : b.length ≤ 600) (h8 : ∀ x ∈ b, 0 ≤ x ∧ x ≤ 255) : ∀ (d a k : Nat) (xs ys : List Int), b.length - a = d → a ≤ b.length → 50000 + d < k → xs.length + 2 * ys.length ≤ 2 * a →
    ∃ r, packL k b xs ys a = some r ∧ factotumref30_Pack.l0 k b (xs ++ flushL ys) (runOf xs ys) (a : Int) = some r := by
  intro d
  induction d using Nat.strongRecOn with
  | _ d ih =>
    intro a k xs ys hd ha hk hl
    obtain ⟨k, rfl⟩ : ∃ m, k = m + 1 := ⟨k - 1, by omega⟩
    have hfl := flushL_len ys
    simp only [packL, factotumref30_Pack.l0]
    rw [if_pos (by omega)]
    by_cases h : a < b.length
    · rw [if_pos h, if_pos (by omega), press_match b a ha (by omega) k (by omega), ref_match b a ha (by omega) k (by omega)]
      simp only [Option.bind_some, two]
      have hr : rd b (a : Int) = b.getD a 0 := rfl
      rcases (match_ok b a ha).size with hm | ⟨m1, m2, m3, m4, m5, m6, m7⟩
      · rw [hm]
        simp only []
        rw [if_pos (by rfl), if_neg (by decide)]
        have next : ∀ (zs : List Int) (q : Int), zs = xs ++ flushL (ys ++ [rd b a]) → q = runOf xs (ys ++ [rd b a]) →
            ∃ r, packL k b xs (ys ++ [rd b (a : Int)]) (a + 1) = some r ∧ factotumref30_Pack.l0 k b zs q (wrap64 ((a : Int) + 1)) = some r := by
          intro zs q hz hq
          subst hz; subst hq
          rw [w64 (by omega)]
          exact ih (d - 1) (by omega) (a + 1) k xs (ys ++ [rd b a]) (by omega) (by omega) (by omega) (by simp; omega)
        by_cases hy : ys.length = 0
        · obtain rfl : ys = [] := List.eq_nil_of_length_eq_zero hy
          rw [if_pos (by simp [runOf]), if_pos (by simp; omega)]
          rw [if_pos (by omega), if_pos (by simp; omega)]
          refine next _ _ ?_ ?_
          · rw [flush_new 0 [] _ rfl]; simp
          · simp [runOf, flush_nil]
        · have hq : runOf xs ys = (xs.length : Int) + ((129 * ((ys.length - 1) / 128) : Nat) : Int) := by unfold runOf; rw [if_neg hy]
          generalize hn : (ys.length - 1) / 128 = n at *
          rw [if_neg (by omega), if_pos (by omega)]
          have hrd : rd (xs ++ flushL ys) (runOf xs ys) = (flushL ys).getD (129 * n) 0 := by
            unfold rd
            rw [hq, show ((xs.length : Int) + ((129 * n : Nat) : Int)).toNat = xs.length + 129 * n by omega, getD_app]
          rw [hrd]
          by_cases h128 : ys.length = 128 * (n + 1)
          · obtain ⟨f1, f2⟩ := flush_full n ys h128
            rw [f2, if_pos (by simp; omega), if_pos rfl, if_pos (by simp; omega), if_pos (by omega), if_pos (by simp; omega)]
            refine next _ _ ?_ ?_
            · rw [flush_new (n + 1) ys _ h128]; simp
            · unfold runOf
              rw [if_neg (by simp)]
              have hlen : (flushL ys).length = 129 * (n + 1) := flush_lenF (n + 1) ys h128
              simp only [List.length_append, List.length_singleton, hlen]
              rw [show (ys.length + 1 - 1) / 128 = n + 1 by omega]
              omega
          · obtain ⟨f1, f2, f3⟩ := flush_old n ys (rd b a) (by omega) (by omega)
            rw [f2, if_pos (by simp; omega), if_neg (by omega)]
            rw [if_pos (by omega), if_pos (by simp; omega)]
            refine next _ _ ?_ ?_
            · rw [f3, hq, show ((xs.length : Int) + ((129 * n : Nat) : Int)).toNat = xs.length + 129 * n by omega, set_app,
                show ((ys.length : Int) - 128 * n - 1 + 1) % 256 = (ys.length : Int) - 128 * n by omega]
              simp
            · rw [hq]; unfold runOf; rw [if_neg (by simp)]
              rw [show ((ys ++ [rd b (a : Int)]).length - 1) / 128 = n by rw [List.length_append, List.length_singleton]; omega]
      · rw [if_neg (by omega), if_pos (by omega), if_pos (by omega), w64 (n := 125 + ((matchN b a).2 : Int)) (by omega), w64 (n := (a : Int) + ((matchN b a).2 : Int)) (by omega),
          show (125 + ((matchN b a).2 : Int)) % 256 = 125 + ((matchN b a).2 : Int) by omega, show ((matchN b a).1 : Int) % 256 = ((matchN b a).1 : Int) by omega]
        rw [if_pos (by simp; omega)]
        have := ih (b.length - (a + (matchN b a).2)) (by omega) (a + (matchN b a).2) k (xs ++ flushL ys ++ [125 + ((matchN b a).2 : Int), ((matchN b a).1 : Int)]) [] rfl (by omega) (by omega) (by simp; omega)
        rw [flush_nil, List.append_nil] at this
        exact this
    · rw [if_neg h, if_neg (by omega)]
      exact ⟨_, rfl, rfl⟩
end Go.Proofs.Ytfekceekaeobcaa
