/- Parts of one proof, joined: Pst, Stw, Stx. Conditions: those of each statement. -/
import Derived.WalkKit
import Derived.Test.YtdjjlmphifgnnaaGreatProg
import Derived.Shelf.SlSortCmp.KitK
namespace Go.Proofs.YtdjjlmphifgnnaaGreat.Stb
set_option linter.unusedVariables false
set_option linter.unusedSimpArgs false
/-- a total preorder, told by 'not behind' -/
structure Pre {α : Type} (le : α → α → Bool) : Prop where
  tot : ∀ a b, le a b = true ∨ le b a = true
  tr : ∀ a b c, le a b = true → le b c = true → le a c = true
variable {α : Type} {le : α → α → Bool}
def Sorted (le : α → α → Bool) (l : List α) : Prop := l.Pairwise fun a b => le a b = true
def mrg (le : α → α → Bool) : List α → List α → List α
  | [], ys => ys
  | xs, [] => xs
  | x :: xs, y :: ys => if le x y then x :: mrg le xs (y :: ys) else y :: mrg le (x :: xs) ys
termination_by xs ys => xs.length + ys.length
theorem mrg_nil (ys : List α) : mrg le [] ys = ys := by unfold mrg; rfl
theorem mrg_nil2 (xs : List α) : mrg le xs [] = xs := by
  cases xs with
  | nil => exact mrg_nil []
  | cons x xs => unfold mrg; rfl
theorem mrg_cons (x y : α) (xs ys : List α) : mrg le (x :: xs) (y :: ys) = if le x y then x :: mrg le xs (y :: ys) else y :: mrg le (x :: xs) ys := by
  conv => lhs; unfold mrg
theorem mem_mrg : ∀ (n : Nat) (xs ys : List α), xs.length + ys.length ≤ n → ∀ z, z ∈ mrg le xs ys ↔ z ∈ xs ∨ z ∈ ys := by
  intro n
  induction n with
  | zero =>
    intro xs ys h z
    obtain rfl : xs = [] := List.eq_nil_of_length_eq_zero (by omega)
    obtain rfl : ys = [] := List.eq_nil_of_length_eq_zero (by omega)
    rw [mrg_nil]; simp
  | succ n ih =>
    intro xs ys h z
    cases xs with
    | nil => rw [mrg_nil]; simp
    | cons x xs =>
      cases ys with
      | nil => rw [mrg_nil2]; simp
      | cons y ys =>
        simp only [List.length_cons] at h
        rw [mrg_cons]
        split
        · rw [List.mem_cons, ih xs (y :: ys) (by simp; omega) z]; simp only [List.mem_cons]; exact or_assoc.symm
        · rw [List.mem_cons, ih (x :: xs) ys (by simp; omega) z]; simp only [List.mem_cons]; exact or_left_comm
theorem mrg_length : ∀ (n : Nat) (xs ys : List α), xs.length + ys.length ≤ n → (mrg le xs ys).length = xs.length + ys.length := by
  intro n
  induction n with
  | zero =>
    intro xs ys h
    obtain rfl : xs = [] := List.eq_nil_of_length_eq_zero (by omega)
    obtain rfl : ys = [] := List.eq_nil_of_length_eq_zero (by omega)
    rw [mrg_nil]; simp
  | succ n ih =>
    intro xs ys h
    cases xs with
    | nil => rw [mrg_nil]; simp
    | cons x xs =>
      cases ys with
      | nil => rw [mrg_nil2]; simp
      | cons y ys =>
        simp only [List.length_cons] at h
        rw [mrg_cons]
        split
        · rw [List.length_cons, ih xs (y :: ys) (by simp; omega)]; simp; omega
        · rw [List.length_cons, ih (x :: xs) ys (by simp; omega)]; simp; omega
theorem mrg_perm : ∀ (n : Nat) (xs ys : List α), xs.length + ys.length ≤ n → (mrg le xs ys).Perm (xs ++ ys) := by
  intro n
  induction n with
  | zero =>
    intro xs ys h
    obtain rfl : xs = [] := List.eq_nil_of_length_eq_zero (by omega)
    rw [mrg_nil]; exact .refl _
  | succ n ih =>
    intro xs ys h
    cases xs with
    | nil => rw [mrg_nil]; exact .refl _
    | cons x xs =>
      cases ys with
      | nil => rw [mrg_nil2]; simp
      | cons y ys =>
        simp only [List.length_cons] at h
        rw [mrg_cons]
        split
        · exact (ih xs (y :: ys) (by simp; omega)).cons x
        · refine ((ih (x :: xs) ys (by simp; omega)).cons y).trans ?_
          exact List.perm_middle.symm
theorem mrg_sorted (hp : Pre le) : ∀ (n : Nat) (xs ys : List α), xs.length + ys.length ≤ n → Sorted le xs → Sorted le ys → Sorted le (mrg le xs ys) := by
  intro n
  induction n with
  | zero =>
    intro xs ys h h1 h2
    obtain rfl : xs = [] := List.eq_nil_of_length_eq_zero (by omega)
    rw [mrg_nil]; exact h2
  | succ n ih =>
    intro xs ys h h1 h2
    cases xs with
    | nil => rw [mrg_nil]; exact h2
    | cons x xs =>
      cases ys with
      | nil => rw [mrg_nil2]; exact h1
      | cons y ys =>
        simp only [List.length_cons] at h
        rw [mrg_cons]
        have p1 := List.pairwise_cons.1 h1
        have p2 := List.pairwise_cons.1 h2
        split
        · next hle =>
          refine List.pairwise_cons.2 ⟨fun z hz => ?_, ih xs (y :: ys) (by simp; omega) p1.2 h2⟩
          rcases (mem_mrg _ xs (y :: ys) (Nat.le_refl _) z).1 hz with hz | hz
          · exact p1.1 z hz
          · rcases List.mem_cons.1 hz with rfl | hz
            · exact hle
            · exact hp.tr _ _ _ hle (p2.1 z hz)
        · next hle =>
          have hyx : le y x = true := (hp.tot x y).resolve_left hle
          refine List.pairwise_cons.2 ⟨fun z hz => ?_, ih (x :: xs) ys (by simp; omega) h1 p2.2⟩
          rcases (mem_mrg _ (x :: xs) ys (Nat.le_refl _) z).1 hz with hz | hz
          · rcases List.mem_cons.1 hz with rfl | hz
            · exact hyx
            · exact hp.tr _ _ _ hyx (p1.1 z hz)
          · exact p2.1 z hz
/-- two cuts that no pair crosses: the merge falls apart -/
theorem mrg_split : ∀ (n : Nat) (x1 y1 x2 y2 : List α), x1.length + y1.length ≤ n → (∀ a ∈ x1, ∀ b ∈ y2, le a b = true) → (∀ b ∈ y1, ∀ a ∈ x2, le a b = false) → mrg le (x1 ++ x2) (y1 ++ y2) = mrg le x1 y1 ++ mrg le x2 y2 := by
  intro n
  induction n with
  | zero =>
    intro x1 y1 x2 y2 h _ _
    obtain rfl : x1 = [] := List.eq_nil_of_length_eq_zero (by omega)
    obtain rfl : y1 = [] := List.eq_nil_of_length_eq_zero (by omega)
    rw [mrg_nil]; rfl
  | succ n ih =>
    intro x1 y1 x2 y2 h h1 h2
    cases x1 with
    | nil =>
      cases y1 with
      | nil => rw [mrg_nil]; rfl
      | cons b y1 =>
        rw [mrg_nil]
        have ih2 := ih [] y1 x2 y2 (by simp at h ⊢; omega) (fun a ha => by cases ha) (fun b hb => h2 b (List.mem_cons_of_mem _ hb))
        rw [mrg_nil] at ih2
        cases x2 with
        | nil => simp [mrg_nil]
        | cons a x2 =>
          show mrg le (a :: x2) (b :: (y1 ++ y2)) = b :: (y1 ++ mrg le (a :: x2) y2)
          rw [mrg_cons, h2 b (List.mem_cons_self ..) a (List.mem_cons_self ..)]
          simp only [Bool.false_eq_true, if_false]
          have e : mrg le (a :: x2) (y1 ++ y2) = y1 ++ mrg le (a :: x2) y2 := ih2
          rw [e]
    | cons a x1 =>
      cases y1 with
      | nil =>
        rw [mrg_nil2]
        have ih2 := ih x1 [] x2 y2 (by simp at h ⊢; omega) (fun a ha => h1 a (List.mem_cons_of_mem _ ha)) (fun b hb => by cases hb)
        rw [mrg_nil2] at ih2
        cases y2 with
        | nil => simp [mrg_nil2]
        | cons b y2 =>
          show mrg le (a :: (x1 ++ x2)) (b :: y2) = a :: (x1 ++ mrg le x2 (b :: y2))
          rw [mrg_cons, h1 a (List.mem_cons_self ..) b (List.mem_cons_self ..)]
          simp only [if_true]
          have e : mrg le (x1 ++ x2) (b :: y2) = x1 ++ mrg le x2 (b :: y2) := ih2
          rw [e]
      | cons b y1 =>
        show mrg le (a :: (x1 ++ x2)) (b :: (y1 ++ y2)) = mrg le (a :: x1) (b :: y1) ++ mrg le x2 y2
        rw [mrg_cons, mrg_cons]
        simp only [List.length_cons] at h
        split
        · have := ih x1 (b :: y1) x2 y2 (by simp; omega) (fun a ha => h1 a (List.mem_cons_of_mem _ ha)) h2
          rw [List.cons_append, ← this]; rfl
        · have := ih (a :: x1) y1 x2 y2 (by simp; omega) h1 (fun b hb => h2 b (List.mem_cons_of_mem _ hb))
          rw [List.cons_append, ← this]; rfl
/-- merging is associative -/
theorem mrg_assoc (hp : Pre le) : ∀ (n : Nat) (xs ys zs : List α), xs.length + ys.length + zs.length ≤ n → Sorted le xs → Sorted le ys → Sorted le zs → mrg le (mrg le xs ys) zs = mrg le xs (mrg le ys zs) := by
  intro n
  induction n with
  | zero =>
    intro xs ys zs h _ _ _
    obtain rfl : xs = [] := List.eq_nil_of_length_eq_zero (by omega)
    rw [mrg_nil, mrg_nil]
  | succ n ih =>
    intro xs ys zs h h1 h2 h3
    cases xs with
    | nil => rw [mrg_nil, mrg_nil]
    | cons x xs =>
      cases ys with
      | nil => rw [mrg_nil2, mrg_nil]
      | cons y ys =>
        cases zs with
        | nil => rw [mrg_nil2, mrg_nil2]
        | cons z zs =>
          simp only [List.length_cons] at h
          have p1 := List.pairwise_cons.1 h1
          have p2 := List.pairwise_cons.1 h2
          have p3 := List.pairwise_cons.1 h3
          cases hxy : le x y with
          | true =>
            cases hyz : le y z with
            | true =>
              have hxz := hp.tr _ _ _ hxy hyz
              have e := ih xs (y :: ys) (z :: zs) (by simp; omega) p1.2 h2 h3
              rw [mrg_cons x y, mrg_cons y z, hxy, hyz]
              simp only [if_true]
              rw [mrg_cons, mrg_cons, hxz, hxy]
              simp only [if_true]
              rw [e, mrg_cons y z, hyz]
              simp only [if_true]
            | false =>
              cases hxz : le x z with
              | true =>
                have e := ih xs (y :: ys) (z :: zs) (by simp; omega) p1.2 h2 h3
                rw [mrg_cons x y, mrg_cons y z, hxy, hyz]
                simp only [if_true, Bool.false_eq_true, if_false]
                rw [mrg_cons, mrg_cons, hxz]
                simp only [if_true]
                rw [e, mrg_cons y z, hyz]
                simp only [Bool.false_eq_true, if_false]
              | false =>
                have e := ih (x :: xs) (y :: ys) zs (by simp; omega) h1 h2 p3.2
                rw [mrg_cons x y, hxy] at e
                simp only [if_true] at e
                rw [mrg_cons x y, mrg_cons y z, hxy, hyz]
                simp only [if_true, Bool.false_eq_true, if_false]
                rw [mrg_cons x z, mrg_cons x z, hxz]
                simp only [Bool.false_eq_true, if_false]
                rw [e]
          | false =>
            cases hyz : le y z with
            | true =>
              have e := ih (x :: xs) ys (z :: zs) (by simp; omega) h1 p2.2 h3
              rw [mrg_cons x y, mrg_cons y z, hxy, hyz]
              simp only [if_true, Bool.false_eq_true, if_false]
              rw [mrg_cons y z, hyz, mrg_cons x y, hxy]
              simp only [if_true, Bool.false_eq_true, if_false]
              rw [e]
            | false =>
              have hxz : le x z = false := by
                cases hxz : le x z with
                | false => rfl
                | true =>
                  have hzy : le z y = true := (hp.tot y z).resolve_left (by rw [hyz]; decide)
                  have := hp.tr _ _ _ hxz hzy
                  rw [hxy] at this
                  cases this
              have e := ih (x :: xs) (y :: ys) zs (by simp; omega) h1 h2 p3.2
              rw [mrg_cons x y, hxy] at e
              simp only [Bool.false_eq_true, if_false] at e
              rw [mrg_cons x y, mrg_cons y z, hxy, hyz]
              simp only [Bool.false_eq_true, if_false]
              rw [mrg_cons y z, hyz, mrg_cons x z, hxz]
              simp only [Bool.false_eq_true, if_false]
              rw [e]
/-- what a stable sort makes of a list -/
def stb (le : α → α → Bool) (l : List α) : List α := l.foldl (fun acc x => mrg le acc [x]) []
theorem foldl_sorted (hp : Pre le) : ∀ (l acc : List α), Sorted le acc → Sorted le (l.foldl (fun acc x => mrg le acc [x]) acc)
  | [], _, h => h
  | x :: l, acc, h => foldl_sorted hp l _ (mrg_sorted hp _ acc [x] (Nat.le_refl _) h (List.pairwise_singleton _ _))
theorem stb_sorted (hp : Pre le) (l : List α) : Sorted le (stb le l) := foldl_sorted hp l [] .nil
theorem foldl_perm : ∀ (l acc : List α), (l.foldl (fun acc x => mrg le acc [x]) acc).Perm (acc ++ l)
  | [], acc => by simp
  | x :: l, acc => by
    refine (foldl_perm l (mrg le acc [x])).trans ?_
    have h := (mrg_perm (le := le) _ acc [x] (Nat.le_refl _)).append_right l
    rwa [List.append_assoc] at h
theorem stb_perm (l : List α) : (stb le l).Perm l := by
  have h := foldl_perm (le := le) l []
  rwa [List.nil_append] at h
theorem stb_snoc (l : List α) (x : α) : stb le (l ++ [x]) = mrg le (stb le l) [x] := by simp [stb]
theorem snoc_ind {motive : List α → Prop} (l : List α) (nil : motive []) (snoc : ∀ l x, motive l → motive (l ++ [x])) : motive l := by
  suffices h : ∀ n (l : List α), l.length = n → motive l from h _ l rfl
  intro n
  induction n with
  | zero => intro l h; rw [List.eq_nil_of_length_eq_zero h]; exact nil
  | succ n ih =>
    intro l h
    have hne : l ≠ [] := fun e => by rw [e] at h; cases h
    rw [← List.dropLast_concat_getLast hne]
    exact snoc _ _ (ih _ (by rw [List.length_dropLast, h]; rfl))
theorem foldl_mrg (hp : Pre le) : ∀ (l acc : List α), Sorted le acc → l.foldl (fun acc x => mrg le acc [x]) acc = mrg le acc (stb le l) := by
  intro l
  refine snoc_ind (motive := fun l => ∀ acc : List α, Sorted le acc → l.foldl (fun acc x => mrg le acc [x]) acc = mrg le acc (stb le l)) l ?_ ?_
  · intro acc _; simp [stb, mrg_nil2]
  · intro l x ih acc h
    rw [List.foldl_append, stb_snoc, ih acc h]
    exact mrg_assoc hp _ acc (stb le l) [x] (Nat.le_refl _) h (stb_sorted hp l) (List.pairwise_singleton _ _)
/-- blocks that are sorted and merged: the whole sorted -/
theorem stb_append (hp : Pre le) (xs ys : List α) : stb le (xs ++ ys) = mrg le (stb le xs) (stb le ys) := by
  have e : stb le (xs ++ ys) = ys.foldl (fun acc x => mrg le acc [x]) (stb le xs) := by simp [stb, List.foldl_append]
  rw [e, foldl_mrg hp ys _ (stb_sorted hp xs)]
theorem Pre.rfl_ (hp : Pre le) (a : α) : le a a = true := (hp.tot a a).elim id id
theorem sorted_at (hp : Pre le) {l : List α} (h : Sorted le l) {i j : Nat} {a b : α} (hij : i ≤ j) (ha : l[i]? = some a) (hb : l[j]? = some b) : le a b = true := by
  by_cases e : i = j
  · subst e
    rw [ha] at hb
    injection hb with hb
    subst hb
    exact hp.rfl_ a
  · obtain ⟨hi, rfl⟩ := List.getElem?_eq_some_iff.1 ha
    obtain ⟨hj, rfl⟩ := List.getElem?_eq_some_iff.1 hb
    exact List.pairwise_iff_getElem.1 h i j hi hj (by omega)
/-- a cut on both sides that the two pairs beside it allow -/
theorem mrg_cut (hp : Pre le) {xs ys : List α} (h1 : Sorted le xs) (h2 : Sorted le ys) (k l : Nat) (hk : k ≤ xs.length) (hl : l ≤ ys.length)
    (c1 : ∀ a b, 0 < k → xs[k - 1]? = some a → ys[l]? = some b → le a b = true) (c2 : ∀ a b, 0 < l → ys[l - 1]? = some b → xs[k]? = some a → le a b = false) :
    mrg le xs ys = mrg le (xs.take k) (ys.take l) ++ mrg le (xs.drop k) (ys.drop l) := by
  have e := mrg_split (le := le) _ (xs.take k) (ys.take l) (xs.drop k) (ys.drop l) (Nat.le_refl _) (fun a ha b hb => ?_) (fun b hb a ha => ?_)
  · rwa [List.take_append_drop, List.take_append_drop] at e
  · obtain ⟨i, hi⟩ := List.mem_iff_getElem?.1 ha
    obtain ⟨j, hj⟩ := List.mem_iff_getElem?.1 hb
    rw [List.getElem?_drop] at hj
    have hik : i < k := by
      have := (List.getElem?_eq_some_iff.1 hi).1
      rw [List.length_take] at this
      omega
    rw [List.getElem?_take_of_lt hik] at hi
    have hlj := (List.getElem?_eq_some_iff.1 hj).1
    obtain ⟨a', ha'⟩ : ∃ a', xs[k - 1]? = some a' := ⟨xs[k - 1]'(by omega), List.getElem?_eq_getElem _⟩
    obtain ⟨b', hb'⟩ : ∃ b', ys[l]? = some b' := ⟨ys[l]'(by omega), List.getElem?_eq_getElem _⟩
    exact hp.tr _ _ _ (sorted_at hp h1 (by omega) hi ha') (hp.tr _ _ _ (c1 a' b' (by omega) ha' hb') (sorted_at hp h2 (by omega) hb' hj))
  · obtain ⟨i, hi⟩ := List.mem_iff_getElem?.1 ha
    obtain ⟨j, hj⟩ := List.mem_iff_getElem?.1 hb
    rw [List.getElem?_drop] at hi
    have hjl : j < l := by
      have := (List.getElem?_eq_some_iff.1 hj).1
      rw [List.length_take] at this
      omega
    rw [List.getElem?_take_of_lt hjl] at hj
    have hik := (List.getElem?_eq_some_iff.1 hi).1
    obtain ⟨a', ha'⟩ : ∃ a', xs[k]? = some a' := ⟨xs[k]'(by omega), List.getElem?_eq_getElem _⟩
    obtain ⟨b', hb'⟩ : ∃ b', ys[l - 1]? = some b' := ⟨ys[l - 1]'(by omega), List.getElem?_eq_getElem _⟩
    cases hab : le a b with
    | false => rfl
    | true =>
      have := c2 a' b' (by omega) hb' ha'
      rw [hp.tr _ _ _ (sorted_at hp h1 (by omega) ha' hi) (hp.tr _ _ _ hab (sorted_at hp h2 (by omega) hj hb'))] at this
      cases this
/-- one element set into sorted ones behind it -/
theorem mrg_one (hp : Pre le) {x : α} {ys : List α} (h : Sorted le ys) (l : Nat) (hl : l ≤ ys.length) (c1 : ∀ b, ys[l]? = some b → le x b = true) (c2 : ∀ b, 0 < l → ys[l - 1]? = some b → le x b = false) : mrg le [x] ys = ys.take l ++ x :: ys.drop l := by
  have e := mrg_cut hp (xs := [x]) (List.pairwise_singleton _ _) h 0 l (Nat.zero_le _) hl (fun a b h => by omega) (fun a b h0 hb ha => by
    simp at ha
    subst ha
    exact c2 b h0 hb)
  rw [e]
  simp only [List.take_zero, List.drop_zero, mrg_nil]
  congr 1
  cases hd : ys.drop l with
  | nil => rw [mrg_nil2]
  | cons b r =>
    have hb : ys[l]? = some b := by
      have := congrArg (·[0]?) hd
      simpa [List.getElem?_drop] using this
    rw [mrg_cons, c1 b hb]
    simp only [if_true, mrg_nil]
/-- one element set into sorted ones ahead of it -/
theorem mrg_last (hp : Pre le) {y : α} {xs : List α} (h : Sorted le xs) (k : Nat) (hk : k ≤ xs.length) (c1 : ∀ a, 0 < k → xs[k - 1]? = some a → le a y = true) (c2 : ∀ a, xs[k]? = some a → le a y = false) : mrg le xs [y] = xs.take k ++ y :: xs.drop k := by
  have e := mrg_cut hp (ys := [y]) h (List.pairwise_singleton _ _) k 0 hk (Nat.zero_le _) (fun a b h0 ha hb => by
    simp at hb
    subst hb
    exact c1 a h0 ha) (fun a b h => by omega)
  rw [e]
  simp only [List.take_zero, List.drop_zero, mrg_nil2]
  congr 1
  cases hd : xs.drop k with
  | nil => rw [mrg_nil]
  | cons a r =>
    have ha : xs[k]? = some a := by
      have := congrArg (·[0]?) hd
      simpa [List.getElem?_drop] using this
    rw [mrg_cons, c2 a ha]
    simp only [Bool.false_eq_true, if_false, mrg_nil2]
/-- two sorted lists of the same elements are one, where no two different ones are alike -/
theorem sorted_perm (hp : Pre le) : ∀ (l k : List α), Sorted le l → Sorted le k → l.Perm k → (∀ a ∈ l, ∀ b ∈ l, le a b = true → le b a = true → a = b) → l = k := by
  intro l
  induction l with
  | nil => intro k _ _ h _; exact (List.nil_perm.1 h).symm ▸ rfl
  | cons a l ih =>
    intro k h1 h2 h ha
    cases k with
    | nil => exact absurd h.length_eq (by simp)
    | cons b k =>
      have p1 := List.pairwise_cons.1 h1
      have p2 := List.pairwise_cons.1 h2
      have hb : b ∈ a :: l := h.mem_iff.2 (List.mem_cons_self ..)
      have haa : a ∈ b :: k := h.mem_iff.1 (List.mem_cons_self ..)
      have e1 : le a b = true := by
        rcases List.mem_cons.1 hb with e | e
        · rw [e]; exact hp.rfl_ _
        · exact p1.1 b e
      have e2 : le b a = true := by
        rcases List.mem_cons.1 haa with e | e
        · rw [e]; exact hp.rfl_ _
        · exact p2.1 a e
      obtain rfl : a = b := ha a (List.mem_cons_self ..) b hb e1 e2
      rw [ih k p1.2 p2.2 h.cons_inv (fun x hx y hy => ha x (List.mem_cons_of_mem _ hx) y (List.mem_cons_of_mem _ hy))]
/-- where symMerge cuts: s0, r0 the search's bounds, c where it ends -/
theorem sym_cut (hp : Pre le) {xs ys : List α} (h1 : Sorted le xs) (h2 : Sorted le ys) (a m b mid s0 r0 c e : Nat) (hm : m = a + xs.length) (hb : b = m + ys.length) (hmid : 2 * mid ≤ a + b ∧ a + b < 2 * mid + 2)
    (hs : (mid < m ∧ s0 + b = mid + m ∧ r0 = mid) ∨ (m ≤ mid ∧ s0 = a ∧ r0 = m)) (hc : s0 ≤ c ∧ c ≤ r0) (he : e + c = mid + m)
    (H1 : c = s0 ∨ ∀ x y, xs[c - 1 - a]? = some x → ys[e - m]? = some y → le x y = true) (H2 : c = r0 ∨ ∀ x y, xs[c - a]? = some x → ys[e - 1 - m]? = some y → le x y = false) :
    a ≤ c ∧ c ≤ m ∧ m ≤ e ∧ e ≤ b ∧ mrg le xs ys = mrg le (xs.take (c - a)) (ys.take (e - m)) ++ mrg le (xs.drop (c - a)) (ys.drop (e - m)) := by
  have k1 : a ≤ c := by omega
  have k2 : c ≤ m := by omega
  have k3 : m ≤ e := by omega
  have k4 : e ≤ b := by omega
  refine ⟨k1, k2, k3, k4, mrg_cut hp h1 h2 (c - a) (e - m) (by omega) (by omega) (fun x y h0 hx hy => ?_) (fun x y h0 hy hx => ?_)⟩
  · have hy1 := (List.getElem?_eq_some_iff.1 hy).1
    rcases H1 with H1 | H1
    · omega
    · exact H1 x y (by rw [show c - 1 - a = c - a - 1 by omega]; exact hx) hy
  · have hx1 := (List.getElem?_eq_some_iff.1 hx).1
    rcases H2 with H2 | H2
    · omega
    · exact H2 x y hx (by rw [show e - 1 - m = e - m - 1 by omega]; exact hy)
/-! ### turning round two runs -/
/-- two runs of n each, exchanged -/
def swr (a b n : Nat) (L : List α) : List α := L.take a ++ (L.drop b).take n ++ (L.drop (a + n)).take (b - (a + n)) ++ (L.drop a).take n ++ L.drop (b + n)
theorem swr_at (pre u mid v post : List α) (n : Nat) (hu : u.length = n) (hv : v.length = n) : swr pre.length (pre.length + n + mid.length) n (pre ++ u ++ mid ++ v ++ post) = pre ++ v ++ mid ++ u ++ post := by
  unfold swr
  have e1 : (pre ++ u ++ mid ++ v ++ post).take pre.length = pre := by simp [List.append_assoc]
  have e2 : (pre ++ u ++ mid ++ v ++ post).drop pre.length = u ++ mid ++ v ++ post := by simp [List.append_assoc]
  have e3 : (pre ++ u ++ mid ++ v ++ post).drop (pre.length + n) = mid ++ v ++ post := by rw [← List.drop_drop, e2, ← hu]; simp [List.append_assoc]
  have e4 : (pre ++ u ++ mid ++ v ++ post).drop (pre.length + n + mid.length) = v ++ post := by rw [← List.drop_drop, e3]; simp [List.append_assoc]
  have e5 : (pre ++ u ++ mid ++ v ++ post).drop (pre.length + n + mid.length + n) = post := by rw [← List.drop_drop, e4, ← hv]; simp
  rw [e1, e2, e3, e4, e5]
  have f1 : (v ++ post).take n = v := by rw [← hv]; simp
  have f2 : (mid ++ v ++ post).take (pre.length + n + mid.length - (pre.length + n)) = mid := by rw [show pre.length + n + mid.length - (pre.length + n) = mid.length by omega]; simp [List.append_assoc]
  have f3 : (u ++ mid ++ v ++ post).take n = u := by rw [← hu]; simp [List.append_assoc]
  rw [f1, f2, f3]
end Go.Proofs.YtdjjlmphifgnnaaGreat.Stb
namespace Go.Proofs.YtdjjlmphifgnnaaGreat
open Go.Shelf Go.RowKit Go.Lib Go.Sort
set_option linter.unusedVariables false
set_option linter.unusedSimpArgs false
theorem swp_list {α : Type} [Inhabited α] (A B C : List α) (x y : α) : swp (A ++ x :: B ++ y :: C).toArray A.length (A.length + 1 + B.length) = (A ++ y :: B ++ x :: C).toArray := by
  unfold swp
  apply Array.ext'
  have e1 : (A ++ x :: B ++ y :: C).toArray[A.length]! = x := by simp [List.append_assoc]
  have e2 : (A ++ x :: B ++ y :: C).toArray[A.length + 1 + B.length]! = y := by
    have : (A ++ x :: B ++ y :: C)[A.length + 1 + B.length]? = some y := by
      rw [List.getElem?_append_right (by simp; omega)]
      simp
      rw [show A.length + 1 + B.length - (A.length + (B.length + 1)) = 0 by omega]
      rfl
    rw [List.getElem!_toArray, List.getElem!_eq_getElem?_getD, this]
    rfl
  rw [e1, e2]
  simp only [Array.toList_setIfInBounds]
  show ((A ++ x :: B ++ y :: C).set A.length y).set (A.length + 1 + B.length) x = A ++ y :: B ++ x :: C
  rw [show A ++ x :: B ++ y :: C = A ++ (x :: (B ++ y :: C)) by simp, List.set_append_right _ _ (Nat.le_refl _), Nat.sub_self]
  show (A ++ (y :: (B ++ y :: C))).set (A.length + 1 + B.length) x = _
  rw [List.set_append_right _ _ (by omega), show A.length + 1 + B.length - A.length = B.length + 1 by omega]
  show A ++ (y :: (B ++ y :: C).set B.length x) = _
  rw [List.set_append_right _ _ (Nat.le_refl _), Nat.sub_self]
  simp
set_option maxHeartbeats 4000000 in
set_option maxRecDepth 1000000 in
theorem swapRange_calls {α : Type} [Inhabited α] (k : Nat) (zE : ∀ w, (Go.sizeOf 36).run Tryz.prog w = .ok k w) (enc : α → List Value) (g : Nat) (cb : Array Value) (blk off cap : Nat) (d0 : Array α) (pre u mid v post : List α) (n : Nat) (hu : u.length = n) (hv : v.length = n) (w0 w : World) (N : Nat) (hN : (pre ++ u ++ mid ++ v ++ post).length = N)
    (R : RowK enc k w0 blk off d0) (hs : d0.size = N) (S : SWK enc k w0 blk off (pre ++ u ++ mid ++ v ++ post).toArray w) (hsz : N < 4611686018427387904) :
    Calls Tryz.prog 100 #[.slice (some ⟨blk, off, none⟩) N cap, .int .i64 (pre.length : Nat), .int .i64 (pre.length + n + mid.length : Nat), .int .i64 n, .func (.func g) #[] cb] w fun e w' => e = .returned (.tuple #[]) ∧ SWK enc k w0 blk off (pre ++ v ++ mid ++ u ++ post).toArray w' := by
  have S0 : Aside (SWK enc k w0 blk off (pre ++ u ++ mid ++ v ++ post).toArray w) := S
  have HU : Aside (u.length = n) := hu
  have HV : Aside (v.length = n) := hv
  have hN' : Aside ((pre ++ u ++ mid ++ v ++ post).length = N) := hN
  obtain ⟨b, hb⟩ : ∃ b, pre.length + n + mid.length = b := ⟨_, rfl⟩
  obtain ⟨a, ha⟩ : ∃ a, pre.length = a := ⟨_, rfl⟩
  rw [hb, ha]
  have hbn : b + n ≤ N := by simp only [List.length_append] at hN; omega
  have hab : a + n ≤ b := by omega
  clear S hu hv hN
  have mixed : Tryz.prog.follows .mixedOrders = true := by kernel_rfl
  go_enter Tryz.func100, Tryz.ntmps100
  go_wp2
  go_loopg [10] n (fun kx s10 wr => ∃ (i : Nat) (u1 u2 v1 v2 : List α), s10 = .int .i64 i ∧ i + kx = n ∧ Aside (u1.length = i ∧ v1.length = i ∧ u1 ++ u2 = u ∧ v1 ++ v2 = v) ∧ Aside (SWK enc k w0 blk off (pre ++ v1 ++ u2 ++ mid ++ u1 ++ v2 ++ post).toArray wr))
  case atStart => exact ⟨0, [], u, [], v, rfl, by omega, ⟨rfl, rfl, rfl, rfl⟩, (show SWK _ _ _ _ _ _ _ from by simpa using S0.out)⟩
  case round =>
    obtain ⟨i, u1, u2, v1, v2, rfl, hik, HUV, S1⟩ := hrel
    by_cases hi : i < n
    · obtain ⟨x, u3, rfl⟩ : ∃ x u3, u2 = x :: u3 := by
        cases u2 with
        | nil => obtain ⟨h1, _, h2, _⟩ := HUV.out; have := HU.out; rw [← h2] at this; simp at this; omega
        | cons x u3 => exact ⟨x, u3, rfl⟩
      obtain ⟨y, v3, rfl⟩ : ∃ y v3, v2 = y :: v3 := by
        cases v2 with
        | nil => obtain ⟨_, h1, _, h2⟩ := HUV.out; have := HV.out; rw [← h2] at this; simp at this; omega
        | cons y v3 => exact ⟨y, v3, rfl⟩
      obtain ⟨dk, hdk⟩ : ∃ dk, (pre ++ v1 ++ (x :: u3) ++ mid ++ u1 ++ (y :: v3) ++ post).toArray = dk := ⟨_, rfl⟩
      have hsz2 : dk.size = N := by
        obtain ⟨h1, h2, h3, h4⟩ := HUV.out
        have h5 := hN'.out
        have h6 := HU.out
        have h7 := HV.out
        rw [← hdk, ← h5, ← h3, ← h4]
        simp only [List.size_toArray, List.length_append, List.length_cons]
        omega
      have hsw : swp dk (a + i) (b + i) = (pre ++ (v1 ++ [y]) ++ u3 ++ mid ++ (u1 ++ [x]) ++ v3 ++ post).toArray := by
        obtain ⟨h1, h2, h3, h4⟩ := HUV.out
        have h6 := HU.out
        rw [← h3] at h6
        simp only [List.length_append, List.length_cons] at h6
        have e := swp_list (pre ++ v1) (u3 ++ mid ++ u1) (v3 ++ post) x y
        rw [show (pre ++ v1).length = a + i by rw [List.length_append, ha, h2], show a + i + 1 + (u3 ++ mid ++ u1).length = b + i by simp only [List.length_append]; omega] at e
        rw [← hdk]
        simpa [List.append_assoc] using e
      rw [hdk] at S1
      have S2 : Aside (SWK enc k w0 blk off (swp dk (a + i) (b + i)) ((wr.drew.setCells blk (off + (a + i) * k) (enc dk[b + i]!)).setCells blk (off + (b + i) * k) (enc dk[a + i]!))) := S1.out.swapped R (a + i) (b + i) (by omega) (by omega)
      have la := S1.out.ld1 R (by omega) Tryz.prog (a + i) (by omega)
      have lb := S1.out.ld1 R (by omega) Tryz.prog (b + i) (by omega)
      have sa := S1.out.st1 R (by omega) Tryz.prog (a + i) (by omega) dk[b + i]!
      have sb := S1.out.st2 R (by omega) Tryz.prog (a + i) (b + i) (by omega) (by omega) dk[b + i]! dk[a + i]!
      have na : (enc dk[a + i]!).length = k := R.hk _
      have nb : (enc dk[b + i]!).length = k := R.hk _
      have HSW : Aside _ := hsw
      generalize enc dk[a + i]! = cI at S2 la sb na
      generalize enc dk[b + i]! = cJ at S2 lb sa sb nb
      clear S1 hdk hsw
      have hia : ((a : Int) + (i : Int)).toNat = a + i := by omega
      have hib : ((b : Int) + (i : Int)).toNat = b + i := by omega
      have pa : (0 : Int) ≤ (a : Int) + (i : Int) := by omega
      have pb : (0 : Int) ≤ (b : Int) + (i : Int) := by omega
      have ba : (a : Int) + (i : Int) < (N : Int) := by omega
      have bb : (b : Int) + (i : Int) < (N : Int) := by omega
      have ra : IntKind.i64.wrap ((a : Int) + (i : Int)) = (a : Int) + (i : Int) := by rw [IntKind.wrap_i64]; omega
      have rb : IntKind.i64.wrap ((b : Int) + (i : Int)) = (b : Int) + (i : Int) := by rw [IntKind.wrap_i64]; omega
      go_wp2_with fail
      go_big_region_o
      clear la lb sa sb
      generalize (wr.drew.setCells blk (off + (a + i) * k) cJ).setCells blk (off + (b + i) * k) cI = w2 at S2 ⊢
      obtain ⟨gq, rfl⟩ : ∃ gq, gk = gq + 1 := ⟨gk - 1, by omega⟩
      go_wp2
      go_roundg gq
      case measure => omega
      case rel =>
        obtain ⟨h1, h2, h3, h4⟩ := HUV.out
        refine ⟨i + 1, u1 ++ [x], u3, v1 ++ [y], v3, by go_num, by omega, ⟨by simp [h1], by simp [h2], by simp [h3], by simp [h4]⟩, (show SWK _ _ _ _ _ _ _ from ?_)⟩
        rw [← HSW.out]
        exact S2.out
    · have hik0 := hik
      obtain rfl : gk = 0 := by omega
      have hmm : ¬ ((i : Int) < (n : Int)) := by omega
      clear hik0
      go_wp2
      go_end0
      refine ⟨rfl, ?_⟩
      obtain ⟨h1, h2, h3, h4⟩ := HUV.out
      have h6 := HU.out
      have h7 := HV.out
      obtain rfl : u2 = [] := List.eq_nil_of_length_eq_zero (by rw [← h3, List.length_append] at h6; omega)
      obtain rfl : v2 = [] := List.eq_nil_of_length_eq_zero (by rw [← h4, List.length_append] at h7; omega)
      rw [List.append_nil] at h3 h4
      subst h3 h4
      simpa using S1.out
end Go.Proofs.YtdjjlmphifgnnaaGreat
namespace Go.Proofs.YtdjjlmphifgnnaaGreat
open Go.Shelf Go.RowKit Go.Lib Go.Sort
set_option linter.unusedVariables false
set_option linter.unusedSimpArgs false
theorem swapRange_z {α : Type} [Inhabited α] {k : Nat} (zE : ∀ w, (Go.sizeOf 36).run Tryz.prog w = .ok k w) {enc : α → List Value} (g : Nat) (cb : Array Value) {blk off : Nat} (cap : Nat) {d0 : Array α} {L L' : List α} (pre u mid v post : List α) (n : Nat) (hu : u.length = n) (hv : v.length = n) {w0 w : World} {N : Nat}
    (R : RowK enc k w0 blk off d0) (hs : d0.size = N) (hN : L.length = N) (hL : L = pre ++ u ++ mid ++ v ++ post) (hL' : L' = pre ++ v ++ mid ++ u ++ post) (S : SWK enc k w0 blk off L.toArray w) (hsz : N < 4611686018427387904) (az bz nz : Int) (ha : az = (pre.length : Nat)) (hb : bz = (pre.length + n + mid.length : Nat)) (hn : nz = (n : Nat)) :
    Calls Tryz.prog 100 #[.slice (some ⟨blk, off, none⟩) N cap, .int .i64 az, .int .i64 bz, .int .i64 nz, .func (.func g) #[] cb] w fun e w' => e = .returned (.tuple #[]) ∧ SWK enc k w0 blk off L'.toArray w' := by
  subst ha hb hn hL hL'
  exact swapRange_calls k zE enc g cb blk off cap d0 pre u mid v post n hu hv w0 w N hN R hs S hsz
set_option maxHeartbeats 4000000 in
set_option maxRecDepth 1000000 in
theorem rotate_calls {α : Type} [Inhabited α] (k : Nat) (zE : ∀ w, (Go.sizeOf 36).run Tryz.prog w = .ok k w) (enc : α → List Value) (g : Nat) (cb : Array Value) (blk off cap : Nat) (d0 : Array α) (pre u v post : List α) (hu : 0 < u.length) (hv : 0 < v.length) (w0 w : World) (N a m b : Nat) (hN : (pre ++ u ++ v ++ post).length = N) (ha : pre.length = a) (hm : a + u.length = m) (hb : m + v.length = b)
    (R : RowK enc k w0 blk off d0) (hs : d0.size = N) (S : SWK enc k w0 blk off (pre ++ u ++ v ++ post).toArray w) (hsz : N < 4611686018427387904) :
    Calls Tryz.prog 80 #[.slice (some ⟨blk, off, none⟩) N cap, .int .i64 a, .int .i64 m, .int .i64 b, .func (.func g) #[] cb] w fun e w' => e = .returned (.tuple #[]) ∧ SWK enc k w0 blk off (pre ++ v ++ u ++ post).toArray w' := by
  have S0 : Aside (SWK enc k w0 blk off (pre ++ u ++ v ++ post).toArray w) := S
  have HL : Aside (0 < u.length ∧ 0 < v.length ∧ pre.length = a ∧ a + u.length = m ∧ m + v.length = b) := ⟨hu, hv, ha, hm, hb⟩
  have hN' : Aside ((pre ++ u ++ v ++ post).length = N) := hN
  have hbN : b ≤ N := by simp only [List.length_append] at hN; omega
  have ham : a ≤ m := by omega
  have hmb : m ≤ b := by omega
  have mi : IntKind.i64.wrap ((m : Int) - (a : Int)) = (m : Int) - (a : Int) := by rw [IntKind.wrap_i64]; omega
  have mj : IntKind.i64.wrap ((b : Int) - (m : Int)) = (b : Int) - (m : Int) := by rw [IntKind.wrap_i64]; omega
  clear S hu hv hN ha hm hb
  go_enter Tryz.func80, Tryz.ntmps80
  go_wp2
  go_loopg [10, 11] (b - a) (fun kx s10 s11 wr => ∃ (i j : Nat) (p1 u' v' p2 : List α), s10 = .int .i64 i ∧ s11 = .int .i64 j ∧ 0 < i ∧ 0 < j ∧ i + j ≤ kx + 1 ∧ Aside (i + j ≤ b - a ∧ i ≤ m ∧ m + j ≤ b) ∧ Aside (u'.length = i ∧ v'.length = j ∧ pre.length + p1.length + i = m ∧ p1 ++ v' ++ u' ++ p2 = v ++ u) ∧ Aside (SWK enc k w0 blk off (pre ++ p1 ++ u' ++ v' ++ p2 ++ post).toArray wr))
  case atStart =>
    obtain ⟨h1, h2, h3, h4, h5⟩ := HL.out
    exact ⟨u.length, v.length, [], u, v, [], by go_num, by go_num, h1, h2, by omega, ⟨by omega, by omega, by omega⟩, ⟨rfl, rfl, by simp; omega, by simp⟩, (show SWK _ _ _ _ _ _ _ from by simpa using S0.out)⟩
  case round =>
    clear mi mj
    obtain ⟨i, j, p1, u', v', p2, rfl, rfl, hi0, hj0, hkx, HB, HU, S1⟩ := hrel
    obtain ⟨hb1, hb2, hb3⟩ := HB.out
    have r1 : IntKind.i64.wrap ((m : Int) - (i : Int)) = (m : Int) - (i : Int) := by rw [IntKind.wrap_i64]; omega
    have r2 : IntKind.i64.wrap ((i : Int) - (j : Int)) = (i : Int) - (j : Int) := by rw [IntKind.wrap_i64]; omega
    have r3 : IntKind.i64.wrap ((m : Int) + (j : Int)) = (m : Int) + (j : Int) := by rw [IntKind.wrap_i64]; omega
    have r4 : IntKind.i64.wrap ((m : Int) + (j : Int) - (i : Int)) = (m : Int) + (j : Int) - (i : Int) := by rw [IntKind.wrap_i64]; omega
    have r5 : IntKind.i64.wrap ((j : Int) - (i : Int)) = (j : Int) - (i : Int) := by rw [IntKind.wrap_i64]; omega
    have hLN : Aside ((pre ++ p1 ++ u' ++ v' ++ p2 ++ post).length = N) := by
      obtain ⟨h1, h2, h3, h4⟩ := HU.out
      have h5 := congrArg List.length h4
      have h6 := hN'.out
      show _ = _
      simp only [List.length_append] at h5 h6 ⊢
      omega
    rcases Nat.lt_trichotomy i j with hlt | heq | hgt
    · have c1 : ¬ ((j : Int) < (i : Int)) := by omega
      have c2 : ((i : Int) == (j : Int)) = false := by simp; omega
      have c3 : ((i : Int) != (j : Int)) = true := by simp; omega
      obtain ⟨d1, d2, hd, hd2⟩ : ∃ d1 d2, v' = d1 ++ d2 ∧ d2.length = i := ⟨v'.take (j - i), v'.drop (j - i), (List.take_append_drop _ _).symm, by rw [List.length_drop, HU.out.2.1]; omega⟩
      subst hd
      have hd1 : d1.length = j - i := by have := HU.out.2.1; rw [List.length_append] at this; omega
      have HC : Aside _ := swapRange_z zE g cb cap (pre ++ p1) u' d1 d2 (p2 ++ post) i HU.out.1 hd2 R hs hLN.out (by simp [List.append_assoc]) (L' := pre ++ p1 ++ d2 ++ d1 ++ (u' ++ p2) ++ post) (by simp [List.append_assoc]) S1.out hsz ((m : Int) - (i : Int)) ((m : Int) + (j : Int) - (i : Int)) (i : Int) (by have := HU.out.2.2.1; rw [List.length_append]; omega) (by have := HU.out.2.2.1; rw [List.length_append]; omega) rfl
      have HD : Aside (d2.length = i ∧ d1.length = j - i) := ⟨hd2, hd1⟩
      clear hd1 hd2 hb1 hb2 hb3
      go_wp2_with (first
        | (go_at_call 100; refine Calls.mono HC.out ?_; rintro e w2 ⟨rfl, hS⟩; have S2 : Aside _ := hS; clear hS))
      obtain ⟨gq, rfl⟩ : ∃ gq, gk = gq + 1 := ⟨gk - 1, by omega⟩
      go_roundg gq
      case measure => omega
      case rel =>
        obtain ⟨h1, h2, h3, h4⟩ := HU.out
        obtain ⟨hb1, hb2, hb3⟩ := HB.out
        exact ⟨i, j - i, p1, d2, d1, u' ++ p2, rfl, by go_num, hi0, by omega, by omega, ⟨by omega, by omega, by omega⟩, ⟨HD.out.1, HD.out.2, h3, by rw [← h4]; simp [List.append_assoc]⟩, S2⟩
    · subst heq
      have c2 : ((i : Int) == (i : Int)) = true := by simp
      have c3 : ((i : Int) != (i : Int)) = false := by simp
      have HC : Aside _ := swapRange_z zE g cb cap (pre ++ p1) u' [] v' (p2 ++ post) i HU.out.1 HU.out.2.1 R hs hLN.out (by simp [List.append_assoc]) (L' := pre ++ v ++ u ++ post) (by
        have h := HU.out.2.2.2
        rw [List.append_assoc pre v u, ← h]
        simp [List.append_assoc]) S1.out hsz ((m : Int) - (i : Int)) (m : Int) (i : Int) (by have := HU.out.2.2.1; rw [List.length_append]; omega) (by have := HU.out.2.2.1; rw [List.length_append]; simp; omega) rfl
      clear hb1 hb2 hb3
      go_wp2_with (first
        | (go_at_call 100; refine Calls.mono HC.out ?_; rintro e w2 ⟨rfl, hS⟩; have S2 : Aside _ := hS; clear hS))
      go_end0
      exact ⟨rfl, S2⟩
    · have c1 : (j : Int) < (i : Int) := by omega
      have c2 : ((i : Int) == (j : Int)) = false := by simp; omega
      have c3 : ((i : Int) != (j : Int)) = true := by simp; omega
      obtain ⟨e1, e2, hd, he1⟩ : ∃ e1 e2, u' = e1 ++ e2 ∧ e1.length = j := ⟨u'.take j, u'.drop j, (List.take_append_drop _ _).symm, by rw [List.length_take, HU.out.1]; omega⟩
      subst hd
      have he2 : e2.length = i - j := by have := HU.out.1; rw [List.length_append] at this; omega
      have HC : Aside _ := swapRange_z zE g cb cap (pre ++ p1) e1 e2 v' (p2 ++ post) j he1 HU.out.2.1 R hs hLN.out (by simp [List.append_assoc]) (L' := pre ++ (p1 ++ v') ++ e2 ++ e1 ++ p2 ++ post) (by simp [List.append_assoc]) S1.out hsz ((m : Int) - (i : Int)) (m : Int) (j : Int) (by have := HU.out.2.2.1; rw [List.length_append]; omega) (by have := HU.out.2.2.1; rw [List.length_append]; omega) rfl
      have HD : Aside (e2.length = i - j ∧ e1.length = j) := ⟨he2, he1⟩
      clear he1 he2 hb1 hb2 hb3
      go_wp2_with (first
        | (go_at_call 100; refine Calls.mono HC.out ?_; rintro e w2 ⟨rfl, hS⟩; have S2 : Aside _ := hS; clear hS))
      obtain ⟨gq, rfl⟩ : ∃ gq, gk = gq + 1 := ⟨gk - 1, by omega⟩
      go_roundg gq
      case measure => omega
      case rel =>
        obtain ⟨h1, h2, h3, h4⟩ := HU.out
        obtain ⟨hb1, hb2, hb3⟩ := HB.out
        exact ⟨i - j, j, p1 ++ v', e2, e1, p2, by go_num, rfl, by omega, hj0, by omega, ⟨by omega, by omega, by omega⟩, ⟨HD.out.1, HD.out.2, by rw [List.length_append]; omega, by rw [← h4]; simp [List.append_assoc]⟩, S2⟩
end Go.Proofs.YtdjjlmphifgnnaaGreat
