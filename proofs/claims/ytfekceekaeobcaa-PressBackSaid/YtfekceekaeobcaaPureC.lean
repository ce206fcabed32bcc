/- Plain facts: what Pack makes, Unpack takes back; it is hardly longer. -/
import Derived.Test.YtfekceekaeobcaaPureB
import Derived.Test.YtfekceekaeobcaaUnpack
namespace Go.Proofs.Ytfekceekaeobcaa
open Go.RowKit Go.Proofs.YtfekceekaeobcaaW.PrintWords Go.Proofs.YtfekceekaeobcaaW.PrintLast Go.Proofs.YtfekceekaeobcaaW.PrintMore
open PPressPacks
set_option linter.unusedVariables false
set_option linter.unusedSimpArgs false

/-- the bytes that come behind: of those that stand alone (ys), and of what is from place a on -/
def packT : Nat → List Int → List Int → Nat → List Int
  | 0, _, ys, _ => flushL ys
  | d + 1, b, ys, a => if a < b.length then
      (if (matchN b a).2 = 0 then packT d b (ys ++ [b.getD a 0]) (a + 1) else flushL ys ++ [125 + ((matchN b a).2 : Int), ((matchN b a).1 : Int)] ++ packT d b [] (a + (matchN b a).2))
    else flushL ys

theorem packL_T (b : List Int) (hb : b.length ≤ 1000) : ∀ (d a k : Nat) (xs ys : List Int), b.length - a < d → a ≤ b.length → 600 + d < k → xs.length + 2 * ys.length ≤ 2 * a → packL k b xs ys a = some (xs ++ packT d b ys a)
  | 0, a, k, xs, ys, hd, _, _, _ => by omega
  | d + 1, a, k, xs, ys, hd, ha, hk, hl => by
    obtain ⟨k, rfl⟩ : ∃ m, k = m + 1 := ⟨k - 1, by omega⟩
    have hfl := flushL_len ys
    simp only [packL, packT]
    rw [if_pos (by omega)]
    by_cases h : a < b.length
    · rw [if_pos h, if_pos h, press_match b a ha (by omega) k (by omega)]
      simp only [Option.bind_some, two]
      have hr : rd b (a : Int) = b.getD a 0 := rfl
      rcases (match_ok b a ha).size with hm | ⟨m1, m2, m3, m4, m5, m6, m7⟩
      · rw [hm, if_pos (show (((0, 0) : Nat × Nat).2 : Int) = 0 from rfl), if_pos rfl, hr]
        exact packL_T b hb d (a + 1) k xs (ys ++ [b.getD a 0]) (by omega) (by omega) (by omega) (by simp; omega)
      · rw [if_neg (by omega), if_pos (by omega), if_neg (by omega)]
        have := packL_T b hb d (a + (matchN b a).2) k (xs ++ flushL ys ++ [125 + ((matchN b a).2 : Int), ((matchN b a).1 : Int)]) [] (by omega) (by omega) (by omega) (by simp; omega)
        simp only [Int.toNat_natCast]
        rw [this]
        simp
    · rw [if_neg h, if_neg h]

theorem flush_len (ys : List Int) : (flushL ys).length = ys.length + (ys.length + 127) / 128 := by
  induction hn : ys.length using Nat.strongRecOn generalizing ys with
  | _ n ih =>
    by_cases h : ys.length < 128
    · by_cases h0 : ys.length = 0
      · obtain rfl : ys = [] := List.eq_nil_of_length_eq_zero h0
        rw [flush_nil]; simp at hn; subst hn; rfl
      · rw [flush_small (by omega) (by omega)]; simp; omega
    · rw [flush_big (by omega)]
      have := ih (ys.drop 128).length (by simp; omega) (ys.drop 128) rfl
      simp only [List.length_cons, List.length_append, List.length_take, List.length_drop] at this ⊢
      omega
theorem packT_len (b : List Int) : ∀ (d a : Nat) (ys : List Int), b.length - a < d → a ≤ b.length →
    (packT d b ys a).length ≤ (ys.length + (b.length - a)) + (ys.length + (b.length - a) + 127) / 128
  | 0, a, ys, hd, _ => by omega
  | d + 1, a, ys, hd, ha => by
    simp only [packT]
    by_cases h : a < b.length
    · rw [if_pos h]
      rcases (match_ok b a ha).size with hm | ⟨m1, m2, m3, m4, m5, m6, m7⟩
      · rw [hm, if_pos rfl]
        have := packT_len b d (a + 1) (ys ++ [b.getD a 0]) (by omega) (by omega)
        simp only [List.length_append, List.length_singleton] at this
        omega
      · rw [if_neg (by omega)]
        have := packT_len b d (a + (matchN b a).2) [] (by omega) (by omega)
        simp only [List.length_append, List.length_cons, List.length_nil, flush_len] at this ⊢
        omega
    · rw [if_neg h, flush_len]; omega
theorem flush_bytes (ys : List Int) (h : ∀ x ∈ ys, 0 ≤ x ∧ x ≤ 255) : ∀ x ∈ flushL ys, 0 ≤ x ∧ x ≤ 255 := by
  induction hn : ys.length using Nat.strongRecOn generalizing ys with
  | _ n ih =>
    intro x
    by_cases h1 : ys.length < 128
    · by_cases h0 : ys.length = 0
      · obtain rfl : ys = [] := List.eq_nil_of_length_eq_zero h0
        rw [flush_nil]; simp
      · rw [flush_small (by omega) (by omega), List.mem_cons]
        rintro (rfl | hx)
        · omega
        · exact h x hx
    · rw [flush_big (by omega), List.mem_cons, List.mem_append]
      rintro (rfl | hx | hx)
      · omega
      · exact h x (List.mem_of_mem_take hx)
      · exact ih (ys.drop 128).length (by simp; omega) (ys.drop 128) (fun y hy => h y (List.mem_of_mem_drop hy)) rfl x hx
theorem getD_byte {b : List Int} (h : ∀ x ∈ b, 0 ≤ x ∧ x ≤ 255) (a : Nat) (ha : a < b.length) : 0 ≤ b.getD a 0 ∧ b.getD a 0 ≤ 255 :=
  h _ (by rw [List.getD_eq_getElem?_getD, List.getElem?_eq_getElem ha]; exact List.getElem_mem _)
theorem packT_bytes (b : List Int) (hb : ∀ x ∈ b, 0 ≤ x ∧ x ≤ 255) : ∀ (d a : Nat) (ys : List Int), (∀ x ∈ ys, 0 ≤ x ∧ x ≤ 255) → a ≤ b.length → ∀ x ∈ packT d b ys a, 0 ≤ x ∧ x ≤ 255
  | 0, a, ys, hy, _ => flush_bytes ys hy
  | d + 1, a, ys, hy, ha => by
    simp only [packT]
    by_cases h : a < b.length
    · rw [if_pos h]
      rcases (match_ok b a ha).size with hm | ⟨m1, m2, m3, m4, m5, m6, m7⟩
      · rw [hm, if_pos rfl]
        refine packT_bytes b hb d (a + 1) (ys ++ [b.getD a 0]) (fun x hx => ?_) (by omega)
        rcases List.mem_append.1 hx with hx | hx
        · exact hy x hx
        · rw [List.mem_singleton.1 hx]; exact getD_byte hb a h
      · rw [if_neg (by omega)]
        intro x hx
        rcases List.mem_append.1 hx with hx | hx
        · rcases List.mem_append.1 hx with hx | hx
          · exact flush_bytes ys hy x hx
          · simp only [List.mem_cons, List.not_mem_nil, or_false] at hx
            rcases hx with rfl | rfl <;> omega
        · exact packT_bytes b hb d _ [] (by simp) (by omega) x hx
    · rw [if_neg h]; exact flush_bytes ys hy

/-- a run taken back -/
theorem un_flush (most : Nat) (rest : List Int) : ∀ (n : Nat) (ys : List Int), ys.length = n → ∀ (k : Nat) (xs : List Int), n < k → xs.length + ys.length ≤ 1000000 →
    ∃ k', k ≤ k' + n ∧ (xs.length + ys.length ≤ most → unpackL k xs (flushL ys ++ rest) most = unpackL k' (xs ++ ys) rest most) ∧
      (xs.length ≤ most → most < xs.length + ys.length → unpackL k xs (flushL ys ++ rest) most = some ([], 2)) := by
  intro n
  induction n using Nat.strongRecOn with
  | _ n ih =>
    intro ys hn k xs hk hl
    by_cases h0 : ys.length = 0
    · obtain rfl : ys = [] := List.eq_nil_of_length_eq_zero h0
      exact ⟨k, by omega, fun _ => by rw [flush_nil, List.nil_append, List.append_nil], fun h1 h2 => by simp at h2; omega⟩
    · obtain ⟨k, rfl⟩ : ∃ m, k = m + 1 := ⟨k - 1, by omega⟩
      obtain ⟨j, hj⟩ : ∃ j, j = min ys.length 128 := ⟨_, rfl⟩
      have hne : ys ≠ [] := by intro e; subst e; simp at h0
      have hf : flushL ys ++ rest = ((j : Int) - 1) :: (ys.take j ++ (flushL (ys.drop j) ++ rest)) := by
        rw [← flush_step (ys := ys) (j := j) (by split <;> omega) (by omega)]
        simp
      rw [hf]
      have htl : (ys.take j).length = j := by simp; omega
      have hp : partP xs (((j : Int) - 1) :: (ys.take j ++ (flushL (ys.drop j) ++ rest))) most =
          if (most : Int) - xs.length < j then ([], [], 2) else (xs ++ ys.take j, flushL (ys.drop j) ++ rest, 0) := by
        unfold partP plainP
        rw [if_pos (by simp; omega)]
        simp only [List.getD_cons_zero, List.length_cons, List.length_append, htl]
        rw [show ((j : Int) - 1).toNat + 1 = j by omega]
        rw [show min j (j + ((flushL (ys.drop j)).length + rest.length) + 1 - 1) = j by omega]
        by_cases c : (most : Int) - xs.length < j
        · rw [if_pos c, if_pos c]
        · rw [if_neg c, if_neg c, if_neg (by omega)]
          rw [List.drop_succ_cons, List.drop_zero, List.take_append_of_le_length (by omega), List.take_of_length_le (by omega), Nat.add_comm 1 j, List.drop_succ_cons, List.drop_append_of_le_length (by omega),
            List.drop_of_length_le (by omega), List.nil_append]
      have hstep : unpackL (k + 1) xs (((j : Int) - 1) :: (ys.take j ++ (flushL (ys.drop j) ++ rest))) most =
          if (most : Int) - xs.length < j then some ([], 2) else unpackL k (xs ++ ys.take j) (flushL (ys.drop j) ++ rest) most := by
        simp only [unpackL]
        rw [if_pos (by omega), if_neg (by simp), hp]
        by_cases c : (most : Int) - xs.length < j
        · rw [if_pos c, if_pos c]; rfl
        · rw [if_neg c, if_neg c]; rfl
      obtain ⟨k', h1, h2, h3⟩ := ih (ys.drop j).length (by simp; omega) (ys.drop j) rfl k (xs ++ ys.take j) (by simp; omega) (by simp; omega)
      refine ⟨k', by simp at h1; omega, fun h => ?_, fun h h' => ?_⟩
      · rw [hstep, if_neg (by omega), h2 (by simp; omega), List.append_assoc, List.take_append_drop]
      · rw [hstep]
        by_cases c : (most : Int) - xs.length < j
        · rw [if_pos c]
        · rw [if_neg c]; exact h3 (by simp; omega) (by simp; omega)

theorem copy_back (b : List Int) (q : Nat) (hq : 1 ≤ q) : ∀ (n a : Nat), q ≤ a → a + n ≤ b.length → (∀ j, j < n → b.getD (a - q + j) 0 = b.getD (a + j) 0) → copyB n q (b.take a) = b.take (a + n)
  | 0, a, _, _, _ => rfl
  | n + 1, a, hqa, hl, h => by
    have ht : (b.take a).length = a := by simp; omega
    have e : b.take a ++ [(b.take a).getD ((b.take a).length - q) 0] = b.take (a + 1) := by
      rw [ht, List.take_succ_eq_append_getElem (by omega)]
      congr 1
      have h0 := h 0 (by omega)
      simp only [Nat.add_zero] at h0
      rw [List.getD_eq_getElem?_getD, List.getElem?_take, if_pos (by omega), ← List.getD_eq_getElem?_getD, h0, List.getD_eq_getElem?_getD, List.getElem?_eq_getElem (by omega)]
      rfl
    simp only [copyB]
    rw [e, copy_back b q hq n (a + 1) (by omega) (by omega) (fun j hj => ?_)]
    · rw [show a + 1 + n = a + (n + 1) by omega]
    · have := h (j + 1) (by omega)
      rw [show a + 1 - q + j = a - q + (j + 1) by omega, show a + 1 + j = a + (j + 1) by omega]; exact this

theorem un_pack (b : List Int) (hb : b.length ≤ 1000) (most : Nat) : ∀ (d a k : Nat) (ys : List Int), b.length - a < d → a ≤ b.length → ys.length ≤ a → ys = (b.take a).drop (a - ys.length) → a - ys.length ≤ most → 4 * d + ys.length + 10 < k →
    unpackL k (b.take (a - ys.length)) (packT d b ys a) most = if b.length ≤ most then some (b, 0) else some ([], 2)
  | 0, a, k, ys, hd, _, _, _, _, _ => by omega
  | d + 1, a, k, ys, hd, ha, hya, hys, hm, hk => by
    have hpl : (b.take (a - ys.length)).length = a - ys.length := by simp; omega
    have hjoin : b.take (a - ys.length) ++ ys = b.take a := by
      have e1 : (b.take a).take (a - ys.length) ++ (b.take a).drop (a - ys.length) = b.take a := List.take_append_drop _ _
      rw [← hys, List.take_take, show min (a - ys.length) a = a - ys.length by omega] at e1
      exact e1
    simp only [packT]
    by_cases h : a < b.length
    · rw [if_pos h]
      rcases (match_ok b a ha).size with hmm | ⟨m1, m2, m3, m4, m5, m6, m7⟩
      · rw [hmm, if_pos rfl]
        have hl : (ys ++ [b.getD a 0]).length = ys.length + 1 := by simp
        have := un_pack b hb most d (a + 1) k (ys ++ [b.getD a 0]) (by omega) (by omega) (by rw [hl]; omega) ?_ (by rw [hl]; omega) (by rw [hl]; omega)
        · rw [hl, show a + 1 - (ys.length + 1) = a - ys.length by omega] at this
          exact this
        · rw [hl, show a + 1 - (ys.length + 1) = a - ys.length by omega, List.take_succ_eq_append_getElem (by omega), List.drop_append_of_le_length (by simp; omega), ← hys]
          congr 1
          rw [List.getD_eq_getElem?_getD, List.getElem?_eq_getElem (by omega)]; rfl
      · rw [if_neg (by omega), List.append_assoc]
        obtain ⟨k', h1, h2, h3⟩ := un_flush most ([125 + ((matchN b a).2 : Int), ((matchN b a).1 : Int)] ++ packT d b [] (a + (matchN b a).2)) ys.length ys rfl k (b.take (a - ys.length)) (by omega) (by omega)
        by_cases hma : a ≤ most
        · rw [h2 (by omega), hjoin]
          obtain ⟨k', rfl⟩ : ∃ m, k' = m + 1 := ⟨k' - 1, by omega⟩
          have hta : (b.take a).length = a := by simp; omega
          simp only [unpackL]
          rw [if_pos (by omega), if_neg (by simp)]
          have hp : partP (b.take a) ([125 + ((matchN b a).2 : Int), ((matchN b a).1 : Int)] ++ packT d b [] (a + (matchN b a).2)) most =
              if (most : Int) - a < ((matchN b a).2 : Int) then ([], [], 2) else (b.take (a + (matchN b a).2), packT d b [] (a + (matchN b a).2), 0) := by
            unfold partP againP
            simp only [List.cons_append, List.nil_append, List.getD_cons_zero, List.getD_cons_succ, List.length_cons, hta]
            rw [if_neg (by omega), if_neg (by omega), if_neg (by omega), show 125 + ((matchN b a).2 : Int) - 125 = ((matchN b a).2 : Int) by omega]
            by_cases c : (most : Int) - a < ((matchN b a).2 : Int)
            · rw [if_pos c, if_pos c]
            · rw [if_neg c, if_neg c, Int.toNat_natCast, Int.toNat_natCast, copy_back b (matchN b a).1 m3 (matchN b a).2 a m5 m6 m7]
              rfl
          rw [hp]
          by_cases c : (most : Int) - a < ((matchN b a).2 : Int)
          · rw [if_pos c, if_neg (by decide), if_neg (by omega)]
          · rw [if_neg c, if_pos rfl]
            have := un_pack b hb most d (a + (matchN b a).2) k' [] (by omega) (by omega) (by simp) (by simp) (by simp; omega) (by simp; omega)
            simp only [List.length_nil, Nat.sub_zero] at this
            exact this
        · rw [h3 (by omega) (by omega), if_neg (by omega)]
    · rw [if_neg h]
      obtain ⟨k', h1, h2, h3⟩ := un_flush most [] ys.length ys rfl k (b.take (a - ys.length)) (by omega) (by omega)
      rw [List.append_nil] at h2 h3
      obtain rfl : a = b.length := by omega
      by_cases hma : b.length ≤ most
      · rw [h2 (by omega), hjoin, if_pos hma, List.take_of_length_le (Nat.le_refl _)]
        obtain ⟨k', rfl⟩ : ∃ m, k' = m + 1 := ⟨k' - 1, by omega⟩
        simp only [unpackL]
        rw [if_pos (by omega), if_pos (by simp)]
      · rw [h3 (by omega) (by omega), if_neg hma]
end Go.Proofs.Ytfekceekaeobcaa
