/- DiskKeeps: the plain law. Conditions: those of each statement. -/
import Derived.Test.YtlepcmljmibdnaaDy
namespace Go.Proofs.Ytlepcmljmibdnaa
open Go.RowKit Go.Proofs.YtlepcmljmibdnaaW.PrintWords Go.Proofs.YtlepcmljmibdnaaW.PrintLast Go.Proofs.YtlepcmljmibdnaaW.PrintMore PDiskArms
set_option linter.unusedVariables false
set_option linter.unusedSimpArgs false
def wrs (D : PD) (l : List S31) : PD := l.foldl (fun D x => (writeP D x.f1 x.f2).1) D
theorem wrs_succ (D : PD) (l : List S31) (i : Nat) (x : S31) (h : l[i]? = some x) : wrs D (l.take (i + 1)) = (writeP (wrs D (l.take i)) x.f1 x.f2).1 := by
  unfold wrs
  rw [List.take_add_one, h, List.foldl_append]
  rfl
structure Quiet (D : PD) : Prop where
  dead : D.dead = false
  armed : D.armed = false
theorem act_quiet {D : PD} (h : Quiet D) : actP D = (D, 0) := by
  obtain ⟨n, kept, cache, bad, armed, left, dead⟩ := D
  obtain ⟨h1, h2⟩ := h
  simp only at h1 h2
  subst h1; subst h2
  simp [actP]
theorem write_quiet {D : PD} (h : Quiet D) (at_ : Int) (b : List Int) :
    (writeP D at_ b).1 = D ∨ (b.length ≤ 64 ∧ (writeP D at_ b).1 = { D with cache := D.cache ++ [(at_, pad b)] }) := by
  unfold writeP
  rw [h.dead, if_neg (by simp), act_quiet h]
  by_cases h1 : inB at_ D.n = false
  · rw [if_pos h1]; exact .inl rfl
  rw [if_neg h1]
  by_cases h2 : 64 < b.length
  · rw [if_pos h2]; exact .inl rfl
  rw [if_neg h2]
  exact .inr ⟨by omega, by simp [h.dead]⟩
structure Wr (D0 D : PD) (l : List S31) : Prop where
  q : Quiet D
  kept : D.kept = D0.kept
  n : D.n = D0.n
  bad : D.bad = D0.bad
  len : D.cache.length ≤ D0.cache.length + l.length
  cache : ∀ p ∈ D.cache, p ∈ D0.cache ∨ ∃ x ∈ l, p.1 = x.f1 ∧ x.f2.length ≤ 64 ∧ p.2 = pad x.f2
theorem wrs_wr (D0 : PD) (h : Quiet D0) (l : List S31) : ∀ i, i ≤ l.length → Wr D0 (wrs D0 (l.take i)) (l.take i)
  | 0, _ => by rw [List.take_zero]; exact ⟨h, rfl, rfl, rfl, by simp [wrs], fun p hp => .inl hp⟩
  | i + 1, hi => by
    have ih := wrs_wr D0 h l i (by omega)
    obtain ⟨x, hx⟩ : ∃ x, l[i]? = some x := ⟨_, List.getElem?_eq_getElem (by omega)⟩
    rw [wrs_succ D0 l i x hx]
    have ht : l.take (i + 1) = l.take i ++ [x] := by rw [List.take_add_one, hx]; rfl
    rw [ht]
    generalize wrs D0 (l.take i) = D at ih
    rcases write_quiet ih.q x.f1 x.f2 with e | ⟨h64, e⟩
    · rw [e]
      refine ⟨ih.q, ih.kept, ih.n, ih.bad, by have := ih.len; simp at this ⊢; omega, fun p hp => ?_⟩
      rcases ih.cache p hp with h1 | ⟨y, hy, h2⟩
      · exact .inl h1
      · exact .inr ⟨y, by simp [hy], h2⟩
    · rw [e]
      refine ⟨⟨ih.q.dead, ih.q.armed⟩, ih.kept, ih.n, ih.bad, by have := ih.len; simp at this ⊢; omega, fun p hp => ?_⟩
      simp only [List.mem_append, List.mem_singleton] at hp
      rcases hp with hp | hp
      · rcases ih.cache p hp with h1 | ⟨y, hy, h2⟩
        · exact .inl h1
        · exact .inr ⟨y, by simp [hy], h2⟩
      · exact .inr ⟨x, by simp, by rw [hp], h64, by rw [hp]⟩
theorem flush_quiet {D : PD} (h : Quiet D) : flushP D = ({ keepAll D D.cache with cache := [] }, 0) := by
  unfold flushP
  rw [act_quiet h]
  simp
theorem keepAll_more (D : PD) (l : List (Int × List Int)) : (keepAll D l).n = D.n ∧ (keepAll D l).bad = D.bad := by
  induction l generalizing D with
  | nil => exact ⟨rfl, rfl⟩
  | cons x l ih => exact ih (keepP D x)
theorem keepP_at (D : PD) (p : Int × List Int) (i : Int) : ((keepP D p).kept i).getD zsec = if i = p.1 then p.2 else (D.kept i).getD zsec := by
  unfold keepP
  simp only
  by_cases h : i = p.1
  · rw [if_pos h, if_pos h]
    by_cases hz : p.2 = zsec
    · rw [if_pos hz, hz]; rfl
    · rw [if_neg hz]; rfl
  · rw [if_neg h, if_neg h]
theorem sel_same (D : PD) (l : List (Int × List Int)) (ks : List Bool) (k : Nat) : (sel D l ks k).n = D.n ∧ (sel D l ks k).bad = D.bad := by
  induction k with
  | zero => exact ⟨rfl, rfl⟩
  | succ k ih => unfold sel; split <;> exact ih
theorem sel_at (D : PD) (l : List (Int × List Int)) (ks : List Bool) (i : Int) : ∀ k, k ≤ l.length → ((sel D l ks k).kept i).getD zsec = (D.kept i).getD zsec ∨ ∃ p ∈ l, p.1 = i ∧ p.2 = ((sel D l ks k).kept i).getD zsec
  | 0, _ => .inl rfl
  | k + 1, hk => by
    have ih := sel_at D l ks i k (by omega)
    unfold sel
    split
    · rw [keepP_at]
      split
      · rename_i h
        refine .inr ⟨l.getD k (0, []), ?_, h.symm, rfl⟩
        rw [show l.getD k (0, []) = l[k] by simp [List.getD, List.getElem?_eq_getElem (show k < l.length by omega)]]
        exact List.getElem_mem _
      · exact ih
    · exact ih
/-- what DiskKeeps says of a sector -/
theorem keeps_pure (n : Int) (l1 l2 : List S31) (ks : List Bool) (i : Int) (D1 D2 D3 D4 : PD) (h1 : wrs (newP n) l1 = D1) (h2 : flushP D1 = (D2, 0)) (h3 : wrs D2 l2 = D3) (h4 : crashP D3 ks = D4) (hi : inB i D2.n = true) :
    ∃ s t, readP D4 i = (s, 0) ∧ readP (cloneP D2) i = (t, 0) ∧ (s = t ∨ ∃ x ∈ l2, x.f1 = i ∧ x.f2.length ≤ 64 ∧ s = pad x.f2) := by
  have q0 : Quiet (newP n) := ⟨rfl, rfl⟩
  have w1 := wrs_wr (newP n) q0 l1 l1.length (Nat.le_refl _)
  rw [List.take_length, h1] at w1
  have e2 := flush_quiet w1.q
  rw [h2] at e2
  have e2 := (Prod.mk.inj e2).1
  have q2 : Quiet D2 := by rw [e2]; exact ⟨(keepAll_same D1 D1.cache).1.trans w1.q.dead, (keepAll_same D1 D1.cache).2.1.trans w1.q.armed⟩
  have b2 : D2.bad = fun _ => false := by rw [e2]; exact (keepAll_more D1 D1.cache).2.trans w1.bad
  have c2 : D2.cache = [] := by rw [e2]
  have w3 := wrs_wr D2 q2 l2 l2.length (Nat.le_refl _)
  rw [List.take_length, h3] at w3
  have r4 : readP D4 i = ((D4.kept i).getD zsec, 0) := by
    rw [← h4]
    unfold readP crashP restP
    rw [(sel_same D3 D3.cache ks _).1, (sel_same D3 D3.cache ks _).2, w3.n, w3.bad, b2]
    simp [hi, readL]
  have rc : readP (cloneP D2) i = ((D2.kept i).getD zsec, 0) := by
    unfold readP cloneP
    simp [hi, readL]
  refine ⟨_, _, r4, rc, ?_⟩
  have k4 : D4.kept = (sel D3 D3.cache ks D3.cache.length).kept := by rw [← h4]; rfl
  rw [k4]
  rcases sel_at D3 D3.cache ks i _ (Nat.le_refl _) with e | ⟨p, hp, e, e'⟩
  · left; rw [e, w3.kept]
  · right
    rcases w3.cache p hp with h | ⟨x, hx, a, b, c⟩
    · rw [c2] at h; cases h
    · exact ⟨x, hx, a.symm.trans e, b, by rw [← e', c]⟩
end Go.Proofs.Ytlepcmljmibdnaa
