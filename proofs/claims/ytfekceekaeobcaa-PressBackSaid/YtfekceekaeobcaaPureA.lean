/- Plain facts on press.Match and the reference's Match: what they come to. -/
import Derived.Test.YtfekceekaeobcaaPack
namespace Go.Proofs.Ytfekceekaeobcaa
open Go.RowKit Go.Proofs.YtfekceekaeobcaaW.PrintWords Go.Proofs.YtfekceekaeobcaaW.PrintLast Go.Proofs.YtfekceekaeobcaaW.PrintMore
open PPressPacks
set_option linter.unusedVariables false
set_option linter.unusedSimpArgs false

theorem w64 {n : Int} (h : -9223372036854775808 ≤ n ∧ n ≤ 9223372036854775807) : wrap64 n = n := by unfold wrap64; omega

def lk (b : List Int) (f a : Nat) : Nat → Nat → Nat
  | 0, n => n
  | d + 1, n => if a + n < b.length ∧ b.getD (f + n) 0 = b.getD (a + n) 0 then lk b f a d (n + 1) else n
def likeN (b : List Int) (f a : Nat) : Nat := lk b f a 130 0

theorem lk_le (b : List Int) (f a : Nat) : ∀ d n, n ≤ lk b f a d n ∧ lk b f a d n ≤ n + d
  | 0, n => by simp [lk]
  | d + 1, n => by
    simp only [lk]
    split
    · have := lk_le b f a d (n + 1); omega
    · omega
theorem lk_in (b : List Int) (f a : Nat) : ∀ d n, a + n ≤ b.length → a + lk b f a d n ≤ b.length
  | 0, n, h => by simpa [lk] using h
  | d + 1, n, h => by
    simp only [lk]
    split
    · rename_i h1; exact lk_in b f a d (n + 1) (by omega)
    · exact h
theorem lk_same (b : List Int) (f a : Nat) : ∀ d n j, n ≤ j → j < lk b f a d n → b.getD (f + j) 0 = b.getD (a + j) 0
  | 0, n, j, h, h' => by simp [lk] at h'; omega
  | d + 1, n, j, h, h' => by
    simp only [lk] at h'
    split at h'
    · rename_i h1
      by_cases hj : j = n
      · subst hj; exact h1.2
      · exact lk_same b f a d (n + 1) j (by omega) h'
    · omega

theorem like_pure (b : List Int) (f a : Nat) (hf : f ≤ a) (ha : a ≤ b.length) (hb : b.length ≤ 1000000) : ∀ (d n k : Nat), n + d = 130 → d < k →
    press_like.l0 k b (f : Int) (a : Int) (n : Int) = some ((lk b f a d n : Nat) : Int)
  | 0, n, k, hd, hk => by
    obtain ⟨k, rfl⟩ : ∃ m, k = m + 1 := ⟨k - 1, by omega⟩
    simp only [press_like.l0, lk]
    rw [if_neg (by omega)]
  | d + 1, n, k, hd, hk => by
    obtain ⟨k, rfl⟩ : ∃ m, k = m + 1 := ⟨k - 1, by omega⟩
    simp only [press_like.l0, lk]
    rw [if_pos (by omega), w64 (n := (a : Int) + n) (by omega), w64 (n := (f : Int) + n) (by omega), w64 (n := (n : Int) + 1) (by omega)]
    by_cases h : a + n < b.length
    · rw [if_pos (by omega), if_pos (by omega), if_pos (by omega), if_pos (by omega)]
      have e1 : rd b ((f : Int) + n) = b.getD (f + n) 0 := by unfold rd; rw [show ((f : Int) + n).toNat = f + n by omega]
      have e2 : rd b ((a : Int) + n) = b.getD (a + n) 0 := by unfold rd; rw [show ((a : Int) + n).toNat = a + n by omega]
      rw [e1, e2]
      by_cases h2 : b.getD (f + n) 0 = b.getD (a + n) 0
      · rw [if_pos h2, if_pos ⟨h, h2⟩]
        have := like_pure b f a hf ha hb d (n + 1) k (by omega) (by omega)
        rw [← this]; congr 1
      · rw [if_neg h2, if_neg (fun h => h2 h.2)]
    · rw [if_neg (by omega), if_neg (fun h' => h h'.1)]

/-- the greatest number of like bytes among the places 1 .. m back, and the nearest place with as many -/
structure Best (g : Nat → Nat) (lo hi : Nat) (s : Nat × Nat) : Prop where
  le : ∀ i, lo < i → i ≤ hi → g i ≤ s.2
  at_ : 0 < s.2 → lo < s.1 ∧ s.1 ≤ hi ∧ g s.1 = s.2 ∧ ∀ i, lo < i → i < s.1 → g i < s.2
theorem Best.unique {g : Nat → Nat} {m : Nat} {s t : Nat × Nat} (hs : Best g 0 m s) (ht : Best g 0 m t) (h : 0 < s.2 ∨ 0 < t.2) : s = t := by
  have e : s.2 = t.2 := by
    rcases Nat.lt_trichotomy s.2 t.2 with h1 | h1 | h1
    · have := (ht.at_ (by omega)); have := hs.le t.1 this.1 this.2.1; omega
    · exact h1
    · have := (hs.at_ (by omega)); have := ht.le s.1 this.1 this.2.1; omega
  have a := hs.at_ (by omega)
  have b := ht.at_ (by omega)
  have e1 : s.1 = t.1 := by
    rcases Nat.lt_trichotomy s.1 t.1 with h1 | h1 | h1
    · have := b.2.2.2 s.1 a.1 h1; omega
    · exact h1
    · have := a.2.2.2 t.1 b.1 h1; omega
  exact Prod.ext e1 e

def mt (g : Nat → Nat) : Nat → Nat → Nat × Nat → Nat × Nat
  | 0, _, s => s
  | d + 1, k, s => mt g d (k + 1) (if s.2 < g k then (k, g k) else s)
theorem mt_best (g : Nat → Nat) : ∀ (d k : Nat) (s : Nat × Nat), 1 ≤ k → Best g 0 (k - 1) s → Best g 0 (k - 1 + d) (mt g d k s)
  | 0, k, s, hk, h => h
  | d + 1, k, s, hk, h => by
    have := mt_best g d (k + 1) (if s.2 < g k then (k, g k) else s) (by omega) ?_
    · rw [show k - 1 + (d + 1) = k + 1 - 1 + d by omega]; exact this
    · rw [show k + 1 - 1 = k by omega]
      split
      · rename_i h1
        refine ⟨fun i h2 h3 => ?_, fun _ => ⟨by simp only []; omega, Nat.le_refl _, rfl, fun i h2 h3 => ?_⟩⟩
        · by_cases e : i = k
          · subst e; exact Nat.le_refl _
          · have := h.le i h2 (by omega); simp only []; omega
        · simp only [] at h3 ⊢; have := h.le i h2 (by omega); omega
      · rename_i h1
        refine ⟨fun i h2 h3 => ?_, fun h0 => ?_⟩
        · by_cases e : i = k
          · subst e; omega
          · exact h.le i h2 (by omega)
        · have := h.at_ h0; exact ⟨this.1, by omega, this.2.2⟩
def mr (g : Nat → Nat) (a : Nat) : Nat → Nat × Nat → Nat × Nat
  | 0, s => s
  | k + 1, s => mr g a k (if a < k + 1 then s else if s.2 ≤ g (k + 1) then (k + 1, g (k + 1)) else s)
theorem mr_best (g : Nat → Nat) (a : Nat) : ∀ (k : Nat) (s : Nat × Nat), Best g (min k a) (min 255 a) s → k ≤ 255 → Best g 0 (min 255 a) (mr g a k s)
  | 0, s, h, _ => by rw [show min 0 a = 0 by omega] at h; exact h
  | k + 1, s, h, hk => by
    refine mr_best g a k _ ?_ (by omega)
    by_cases h1 : a < k + 1
    · rw [if_pos h1]; rw [show min (k + 1) a = min k a by omega] at h; exact h
    · rw [if_neg h1]
      rw [show min (k + 1) a = k + 1 by omega] at h
      rw [show min k a = k by omega]
      split
      · rename_i h2
        refine ⟨fun i h3 h4 => ?_, fun _ => ⟨by simp only []; omega, by simp only []; omega, rfl, fun i h3 h4 => by simp only [] at h4; omega⟩⟩
        by_cases e : i = k + 1
        · subst e; exact Nat.le_refl _
        · have := h.le i (by omega) h4; simp only []; omega
      · rename_i h2
        refine ⟨fun i h3 h4 => ?_, fun h0 => ?_⟩
        · by_cases e : i = k + 1
          · subst e; omega
          · exact h.le i (by omega) h4
        · have := h.at_ h0
          refine ⟨by omega, this.2.1, this.2.2.1, fun i h3 h4 => ?_⟩
          by_cases e : i = k + 1
          · subst e; omega
          · exact this.2.2.2 i (by omega) h4

/-- what Match comes to -/
def matchN (b : List Int) (a : Nat) : Nat × Nat :=
  let s := mt (fun k => likeN b (a - k) a) (min 255 a) 1 (0, 0)
  if s.2 < 4 then (0, 0) else s
def matchR (b : List Int) (a : Nat) : Nat × Nat :=
  let s := mr (fun k => likeN b (a - k) a) a 255 (0, 0)
  if s.2 < 4 then (0, 0) else s
theorem match_same (b : List Int) (a : Nat) : matchN b a = matchR b a := by
  have h1 := mt_best (fun k => likeN b (a - k) a) (min 255 a) 1 (0, 0) (by omega) ⟨fun i h h' => by omega, fun h => by simp at h⟩
  have h2 := mr_best (fun k => likeN b (a - k) a) a 255 (0, 0) ⟨fun i h h' => by omega, fun h => by simp at h⟩ (by omega)
  rw [show 1 - 1 + min 255 a = min 255 a by omega] at h1
  unfold matchN matchR
  simp only []
  by_cases h : 0 < (mt (fun k => likeN b (a - k) a) (min 255 a) 1 (0, 0)).2 ∨ 0 < (mr (fun k => likeN b (a - k) a) a 255 (0, 0)).2
  · rw [Best.unique h1 h2 h]
  · rw [if_pos (by omega), if_pos (by omega)]
structure MatchOk (b : List Int) (a : Nat) (s : Nat × Nat) : Prop where
  size : s = (0, 0) ∨ (4 ≤ s.2 ∧ s.2 ≤ 130 ∧ 1 ≤ s.1 ∧ s.1 ≤ 255 ∧ s.1 ≤ a ∧ a + s.2 ≤ b.length ∧ ∀ j, j < s.2 → b.getD (a - s.1 + j) 0 = b.getD (a + j) 0)
theorem match_ok (b : List Int) (a : Nat) (ha : a ≤ b.length) : MatchOk b a (matchN b a) := by
  have h1 := mt_best (fun k => likeN b (a - k) a) (min 255 a) 1 (0, 0) (by omega) ⟨fun i h h' => by omega, fun h => by simp at h⟩
  rw [show 1 - 1 + min 255 a = min 255 a by omega] at h1
  unfold matchN
  simp only []
  split
  · exact ⟨.inl rfl⟩
  · rename_i h
    generalize mt (fun k => likeN b (a - k) a) (min 255 a) 1 (0, 0) = s at *
    have h2 := h1.at_ (by omega)
    have h3 := lk_le b (a - s.1) a 130 0
    have h4 := lk_in b (a - s.1) a 130 0 (by omega)
    have e : lk b (a - s.1) a 130 0 = s.2 := h2.2.2.1
    rw [e] at h3 h4
    exact ⟨.inr ⟨by omega, by omega, by omega, by omega, by omega, by omega, fun j hj => lk_same b _ a 130 0 j (by omega) (by rw [e]; exact hj)⟩⟩

def two (s : Nat × Nat) : Int × Int := ((s.1 : Int), (s.2 : Int))
def fin4 (s : Nat × Nat) : Nat × Nat := if s.2 < 4 then (0, 0) else s
theorem fin4_two (s : Nat × Nat) : (if (s.2 : Int) < 4 then some ((0 : Int), (0 : Int)) else some ((s.1 : Int), (s.2 : Int))) = some (two (fin4 s)) := by
  unfold two fin4
  by_cases h : s.2 < 4
  · rw [if_pos (by omega), if_pos h]; rfl
  · rw [if_neg (by omega), if_neg h]
theorem pm_loop (b : List Int) (a : Nat) (ha : a ≤ b.length) (hb : b.length ≤ 1000000) : ∀ (d j k : Nat) (s : Nat × Nat), 1 ≤ j → j + d = min 255 a + 1 → d + 200 < k →
    press_Match.l0 k b (a : Int) (s.1 : Int) (s.2 : Int) (j : Int) = some (two (fin4 (mt (fun k => likeN b (a - k) a) d j s)))
  | 0, j, k, s, hj, hd, hk => by
    obtain ⟨k, rfl⟩ : ∃ m, k = m + 1 := ⟨k - 1, by omega⟩
    simp only [press_Match.l0, mt]
    rw [if_neg (by unfold mn; split <;> omega)]
    exact fin4_two s
  | d + 1, j, k, s, hj, hd, hk => by
    obtain ⟨k, rfl⟩ : ∃ m, k = m + 1 := ⟨k - 1, by omega⟩
    simp only [press_Match.l0, mt]
    rw [if_pos (by unfold mn; split <;> omega), w64 (n := (a : Int) - j) (by omega), w64 (n := (j : Int) + 1) (by omega)]
    have h1 : press_like.f k b ((a : Int) - j) (a : Int) = some ((likeN b (a - j) a : Nat) : Int) := by
      have := like_pure b (a - j) a (by omega) ha hb 130 0 k (by omega) (by omega)
      rw [show ((a - j : Nat) : Int) = (a : Int) - j by omega] at this
      exact this
    rw [h1]
    simp only [Option.bind_some]
    by_cases h2 : s.2 < likeN b (a - j) a
    · rw [if_pos (by omega), if_pos h2]
      exact pm_loop b a ha hb d (j + 1) k (j, likeN b (a - j) a) (by omega) (by omega) (by omega)
    · rw [if_neg (by omega), if_neg h2]
      exact pm_loop b a ha hb d (j + 1) k s (by omega) (by omega) (by omega)
theorem press_match (b : List Int) (a : Nat) (ha : a ≤ b.length) (hb : b.length ≤ 1000000) (k : Nat) (hk : 500 < k) : press_Match.f k b (a : Int) = some (two (matchN b a)) := by
  obtain ⟨k, rfl⟩ : ∃ m, k = m + 1 := ⟨k - 1, by omega⟩
  unfold press_Match.f
  rw [if_neg (by omega)]
  simp only [press_Match.j0]
  rw [if_neg (by simp; omega)]
  exact pm_loop b a ha hb (min 255 a) 1 k (0, 0) (by omega) (by omega) (by omega)
theorem press_match_out (b : List Int) (a : Int) (ha : a < 0 ∨ (b.length : Int) < a) (k : Nat) (hk : 1 ≤ k) : press_Match.f k b a = some (0, 0) := by
  obtain ⟨k, rfl⟩ : ∃ m, k = m + 1 := ⟨k - 1, by omega⟩
  unfold press_Match.f
  by_cases h : a < 0
  · rw [if_pos h]; simp [press_Match.j0]
  · rw [if_neg h]; simp only [press_Match.j0]; rw [if_pos (by simp; omega)]

/-- the reference's inner loop -/
theorem rm_inner (b : List Int) (a : Nat) (ha : a ≤ b.length) (hb : b.length ≤ 1000000) (s : Nat × Nat) (i : Nat) (hi : 1 ≤ i) (hia : i ≤ a) (k0 : Nat) (r : Option (Int × Int))
    (hr : ∀ k, k0 ≤ k → factotumref30_Match.l0 k b (a : Int) ((if s.2 ≤ likeN b (a - i) a then (i, likeN b (a - i) a) else s).1 : Int) ((if s.2 ≤ likeN b (a - i) a then (i, likeN b (a - i) a) else s).2 : Int) ((i : Int) - 1) = r) :
    ∀ (d n k : Nat), n + d = 130 → k0 + d < k → lk b (a - i) a d n = likeN b (a - i) a → factotumref30_Match.l1 k b (a : Int) (s.1 : Int) (s.2 : Int) (i : Int) (n : Int) = r := by
  have fin : ∀ (n k : Nat), k0 ≤ k → n = likeN b (a - i) a → (if (n : Int) ≥ (s.2 : Int) then factotumref30_Match.l0 k b (a : Int) (i : Int) (n : Int) (wrap64 ((i : Int) - 1)) else factotumref30_Match.l0 k b (a : Int) (s.1 : Int) (s.2 : Int) (wrap64 ((i : Int) - 1))) = r := by
    intro n k hk hn
    have := hr k hk
    rw [w64 (n := (i : Int) - 1) (by omega)]
    rw [← hn] at this
    by_cases h : s.2 ≤ n
    · rw [if_pos (by omega)]; rw [if_pos h] at this; exact this
    · rw [if_neg (by omega)]; rw [if_neg h] at this; exact this
  intro d
  induction d with
  | zero =>
    intro n k hd hk he
    obtain ⟨k, rfl⟩ : ∃ m, k = m + 1 := ⟨k - 1, by omega⟩
    simp only [factotumref30_Match.l1]
    rw [if_neg (by omega)]
    exact fin n k (by omega) he
  | succ d ih =>
    intro n k hd hk he
    obtain ⟨k, rfl⟩ : ∃ m, k = m + 1 := ⟨k - 1, by omega⟩
    simp only [factotumref30_Match.l1]
    rw [if_pos (by omega), w64 (n := (a : Int) + n) (by omega), w64 (n := (a : Int) - i) (by omega), w64 (n := (a : Int) - i + n) (by omega), w64 (n := (n : Int) + 1) (by omega)]
    simp only [lk] at he
    by_cases h : a + n < b.length
    · rw [if_pos (by omega), if_pos (by omega), if_pos (by omega), if_pos (by omega)]
      have e1 : rd b ((a : Int) - i + n) = b.getD (a - i + n) 0 := by unfold rd; rw [show ((a : Int) - i + n).toNat = a - i + n by omega]
      have e2 : rd b ((a : Int) + n) = b.getD (a + n) 0 := by unfold rd; rw [show ((a : Int) + n).toNat = a + n by omega]
      rw [e1, e2]
      by_cases h2 : b.getD (a - i + n) 0 = b.getD (a + n) 0
      · rw [if_pos h2]
        rw [if_pos ⟨h, h2⟩] at he
        have := ih (n + 1) k (by omega) (by omega) he
        rw [← this]; congr 1
      · rw [if_neg h2]
        rw [if_neg (fun h => h2 h.2)] at he
        exact fin n k (by omega) he
    · rw [if_neg (by omega)]
      rw [if_neg (fun h' => h h'.1)] at he
      exact fin n k (by omega) he
theorem rm_loop (b : List Int) (a : Nat) (ha : a ≤ b.length) (hb : b.length ≤ 1000000) : ∀ (i k : Nat) (s : Nat × Nat), i ≤ 255 → i * 140 + 1 ≤ k →
    factotumref30_Match.l0 k b (a : Int) (s.1 : Int) (s.2 : Int) (i : Int) = some (two (fin4 (mr (fun k => likeN b (a - k) a) a i s)))
  | 0, k, s, hi, hk => by
    obtain ⟨k, rfl⟩ : ∃ m, k = m + 1 := ⟨k - 1, by omega⟩
    simp only [factotumref30_Match.l0, mr]
    rw [if_neg (by omega)]
    exact fin4_two s
  | i + 1, k, s, hi, hk => by
    obtain ⟨k, rfl⟩ : ∃ m, k = m + 1 := ⟨k - 1, by omega⟩
    simp only [factotumref30_Match.l0, mr]
    rw [if_pos (by omega)]
    by_cases h : a < i + 1
    · rw [if_pos (by omega), if_pos h, w64 (n := ((i + 1 : Nat) : Int) - 1) (by omega)]
      have := rm_loop b a ha hb i k s (by omega) (by omega)
      rw [show ((i + 1 : Nat) : Int) - 1 = (i : Int) by omega]
      exact this
    · rw [if_neg (by omega), if_neg h]
      refine rm_inner b a ha hb s (i + 1) (by omega) (by omega) (i * 140 + 1) _ ?_ 130 0 k (by omega) (by omega) rfl
      intro k' hk'
      rw [show ((i + 1 : Nat) : Int) - 1 = (i : Int) by omega]
      exact rm_loop b a ha hb i k' _ (by omega) hk'
theorem ref_match (b : List Int) (a : Nat) (ha : a ≤ b.length) (hb : b.length ≤ 1000000) (k : Nat) (hk : 40000 < k) : factotumref30_Match.f k b (a : Int) = some (two (matchN b a)) := by
  obtain ⟨k, rfl⟩ : ∃ m, k = m + 1 := ⟨k - 1, by omega⟩
  unfold factotumref30_Match.f
  rw [if_neg (by omega)]
  simp only [factotumref30_Match.j0]
  rw [if_neg (by simp; omega), match_same]
  exact rm_loop b a ha hb 255 k (0, 0) (by omega) (by omega)
theorem ref_match_out (b : List Int) (a : Int) (ha : a < 0 ∨ (b.length : Int) < a) (k : Nat) (hk : 1 ≤ k) : factotumref30_Match.f k b a = some (0, 0) := by
  obtain ⟨k, rfl⟩ : ∃ m, k = m + 1 := ⟨k - 1, by omega⟩
  unfold factotumref30_Match.f
  by_cases h : a < 0
  · rw [if_pos h]; simp [factotumref30_Match.j0]
  · rw [if_neg h]; simp only [factotumref30_Match.j0]; rw [if_pos (by simp; omega)]
end Go.Proofs.Ytfekceekaeobcaa
