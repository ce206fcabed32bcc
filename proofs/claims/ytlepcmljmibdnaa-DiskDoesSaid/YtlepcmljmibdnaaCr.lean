/- The disk and the reference's disk: the plain law. Conditions: those of each statement. -/
import Derived.Test.YtlepcmljmibdnaaRj
namespace Go.Proofs.Ytlepcmljmibdnaa
open Go.RowKit Go.Proofs.YtlepcmljmibdnaaW.PrintWords Go.Proofs.YtlepcmljmibdnaaW.PrintLast Go.Proofs.YtlepcmljmibdnaaW.PrintMore PDiskArms
set_option linter.unusedVariables false
set_option linter.unusedSimpArgs false
structure Corr (D : PD) (X : RX) : Prop where
  n : D.n = X.S.length
  cache : D.cache = X.cache
  dead : D.dead = X.dead
  armed : D.armed = decide (0 ≤ X.left)
  left : 0 ≤ X.left → D.left = X.left
  S : ∀ (i : Nat) s, X.S[i]? = some s → (D.kept i).getD zsec = s
  bad : ∀ (i : Nat) b, X.bad[i]? = some b → D.bad i = b
theorem corr_new (n : Int) : Corr (newP n) (rnewX (rnewN n)) := by
  refine ⟨?_, rfl, rfl, rfl, fun h => ?_, fun i s hs => ?_, fun i b hb => ?_⟩
  · simp only [newP, rnewX, List.length_replicate, rnewN]; omega
  · simp [rnewX] at h
  · simp only [rnewX, List.getElem?_replicate] at hs
    split at hs
    · exact Option.some.inj hs
    · cases hs
  · simp only [rnewX, List.getElem?_replicate] at hb
    split at hb
    · exact Option.some.inj hb
    · cases hb
theorem corr_act {D : PD} {X : RX} (h : Corr D X) : (actP D).2 = (ractX X).2 ∧ Corr (actP D).1 (ractX X).1 := by
  obtain ⟨n, kept, cache, bad, armed, left, dead⟩ := D
  obtain ⟨S, c, b, l, d⟩ := X
  obtain ⟨h1, h2, h3, h4, h5, h6, h7⟩ := h
  simp only at h1 h2 h3 h4 h5 h6 h7
  subst h3
  cases dead with
  | true => simp only [actP, ractX, Bool.true_or, if_true]; exact ⟨by simp, ⟨h1, h2, rfl, h4, h5, h6, h7⟩⟩
  | false =>
    by_cases hl : 0 ≤ l
    · have ha : armed = true := by rw [h4]; simpa using hl
      have := h5 hl
      subst this
      subst ha
      by_cases hz : left = 0
      · subst hz
        simp only [actP, ractX]
        exact ⟨by simp, ⟨h1, h2, rfl, rfl, h5, h6, h7⟩⟩
      · have e1 : actP { n := n, kept := kept, cache := cache, bad := bad, armed := true, left := left, dead := false } = ({ n := n, kept := kept, cache := cache, bad := bad, armed := true, left := left - 1, dead := false }, 0) := by simp [actP, hz]
        have e2 : ractX { S := S, cache := c, bad := b, left := left, dead := false } = ({ S := S, cache := c, bad := b, left := left - 1, dead := false }, 0) := by simp [ractX, hz]; omega
        rw [e1, e2]
        exact ⟨rfl, ⟨h1, h2, rfl, by simp; omega, fun _ => rfl, h6, h7⟩⟩
    · have ha : armed = false := by rw [h4]; simpa using hl
      subst ha
      have e1 : actP { n := n, kept := kept, cache := cache, bad := bad, armed := false, left := left, dead := false } = ({ n := n, kept := kept, cache := cache, bad := bad, armed := false, left := left, dead := false }, 0) := by simp [actP]
      have e2 : ractX { S := S, cache := c, bad := b, left := l, dead := false } = ({ S := S, cache := c, bad := b, left := l, dead := false }, 0) := by
        have : ¬ 0 < l := by omega
        have h0 : ¬ l = 0 := by omega
        simp [ractX, this, h0]
      rw [e1, e2]
      exact ⟨rfl, ⟨h1, h2, rfl, h4, h5, h6, h7⟩⟩
theorem corr_write {D : PD} {X : RX} (h : Corr D X) (at_ : Int) (b : List Int) : (writeP D at_ b).2 = (rwriteX X at_ b).2 ∧ Corr (writeP D at_ b).1 (rwriteX X at_ b).1 := by
  unfold writeP rwriteX
  rw [h.dead, h.n]
  by_cases h1 : X.dead = true
  · rw [if_pos h1, if_pos h1]; exact ⟨rfl, h⟩
  rw [if_neg h1, if_neg h1]
  by_cases h2 : inB at_ X.S.length = false
  · rw [if_pos h2, if_pos h2]; exact ⟨rfl, h⟩
  rw [if_neg h2, if_neg h2]
  by_cases h3 : 64 < b.length
  · rw [if_pos h3, if_pos h3]; exact ⟨rfl, h⟩
  rw [if_neg h3, if_neg h3]
  obtain ⟨k1, k2⟩ := corr_act h
  rw [k1]
  by_cases h4 : (ractX X).2 ≠ 0
  · rw [if_pos h4, if_pos h4]; exact ⟨k1, k2⟩
  · rw [if_neg h4, if_neg h4]
    exact ⟨rfl, ⟨k2.n, by simp only []; rw [k2.cache], k2.dead, k2.armed, k2.left, k2.S, k2.bad⟩⟩
theorem corr_put {D : PD} {S : List (List Int)} (h : ∀ (i : Nat) s, S[i]? = some s → (D.kept i).getD zsec = s) (p : Int × List Int) (hp : 0 ≤ p.1) :
    ∀ (i : Nat) s, (S.set p.1.toNat p.2)[i]? = some s → ((keepP D p).kept i).getD zsec = s := by
  intro i s hs
  rw [keepP_at]
  rw [List.getElem?_set] at hs
  by_cases hi : p.1.toNat = i
  · rw [if_pos hi] at hs
    rw [if_pos (by omega)]
    split at hs
    · exact Option.some.inj hs
    · cases hs
  · rw [if_neg hi] at hs
    rw [if_neg (by omega)]
    exact h i s hs
theorem corr_puts {D : PD} {S : List (List Int)} (l : List (Int × List Int)) (h : ∀ (i : Nat) s, S[i]? = some s → (D.kept i).getD zsec = s) (hl : ∀ p ∈ l, 0 ≤ p.1) :
    ∀ (i : Nat) s, (rputs S l)[i]? = some s → ((keepAll D l).kept i).getD zsec = s := by
  induction l generalizing D S with
  | nil => exact h
  | cons p l ih => exact ih (corr_put h p (hl p (by simp))) (fun q hq => hl q (by simp [hq]))
theorem corr_flush {D : PD} {X : RX} (h : Corr D X) (hx : XOk X) : (flushP D).2 = (rflushX X).2 ∧ Corr (flushP D).1 (rflushX X).1 := by
  unfold flushP rflushX
  obtain ⟨k1, k2⟩ := corr_act h
  rw [k1]
  by_cases h4 : (ractX X).2 ≠ 0
  · rw [if_pos h4, if_pos h4]; exact ⟨k1, k2⟩
  · rw [if_neg h4, if_neg h4]
    have hs := ract_same X
    refine ⟨rfl, ⟨?_, rfl, ?_, ?_, ?_, ?_, ?_⟩⟩
    · simp only []; rw [(keepAll_more _ _).1, k2.n, rputs_len, hs.1]
    · simp only []; rw [(keepAll_same _ _).1]; exact k2.dead
    · simp only []; rw [(keepAll_same _ _).2.1]; exact k2.armed
    · simp only []; rw [(keepAll_same _ _).2.2]; exact k2.left
    · simp only []
      rw [k2.cache, hs.2.1]
      refine corr_puts X.cache (fun i s hs' => k2.S i s (by rw [hs.1]; exact hs')) (fun p hp => (hx.c64 p hp).2.1)
    · simp only []; rw [(keepAll_more _ _).2]; exact k2.bad
theorem corr_arm {D : PD} {X : RX} (h : Corr D X) (n : Int) : Corr (armP D n) (rarmX X n) := by
  refine ⟨h.n, h.cache, h.dead, ?_, fun hl => ?_, h.S, h.bad⟩
  · unfold armP rarmX
    simp only []
    by_cases hn : 0 ≤ n
    · simp [hn]
    · simp [hn]
  · unfold armP rarmX at *
    simp only [] at hl ⊢
    by_cases hn : 0 ≤ n
    · rw [if_pos hn]; omega
    · rw [if_neg hn] at hl; omega
theorem corr_sel {D : PD} {S : List (List Int)} (l : List (Int × List Int)) (ks : List Bool) (h : ∀ (i : Nat) s, S[i]? = some s → (D.kept i).getD zsec = s) (hl : ∀ p ∈ l, 0 ≤ p.1) :
    ∀ k, k ≤ l.length → ∀ (i : Nat) s, (rsel S l ks k)[i]? = some s → ((sel D l ks k).kept i).getD zsec = s
  | 0, _ => h
  | k + 1, hk => by
    unfold rsel sel
    split
    · refine corr_put (corr_sel l ks h hl k (by omega)) _ ?_
      rw [show l.getD k (0, []) = l[k] by simp [List.getD, List.getElem?_eq_getElem (show k < l.length by omega)]]
      exact hl _ (List.getElem_mem _)
    · exact corr_sel l ks h hl k (by omega)
theorem corr_crash {D : PD} {X : RX} (h : Corr D X) (hx : XOk X) (ks : List Bool) : Corr (crashP D ks) (rcrashX X ks) := by
  refine ⟨?_, rfl, rfl, rfl, fun hl => ?_, ?_, ?_⟩
  · show (sel D D.cache ks _).n = _
    rw [(sel_same _ _ _ _).1, h.n]
    show _ = ((rsel X.S X.cache ks _).length : Int)
    rw [rsel_len]
  · simp [rcrashX] at hl
  · intro i s hs
    show ((sel D D.cache ks D.cache.length).kept i).getD zsec = s
    rw [h.cache]
    exact corr_sel X.cache ks h.S (fun p hp => (hx.c64 p hp).2.1) _ (Nat.le_refl _) i s hs
  · show ∀ (i : Nat) b, X.bad[i]? = some b → (sel D D.cache ks _).bad i = b
    rw [(sel_same _ _ _ _).2]
    exact h.bad
theorem corr_fault {D : PD} {X : RX} (h : Corr D X) (at_ : Int) (on : Bool) : Corr (faultP D at_ on) (rfaultX X at_ on) := by
  unfold faultP rfaultX
  rw [h.n]
  by_cases h2 : inB at_ X.S.length = false
  · rw [if_pos h2, if_pos h2]; exact h
  rw [if_neg h2, if_neg h2]
  have hr : 0 ≤ at_ ∧ at_ < X.S.length := by
    have : inB at_ X.S.length = true := by simpa using h2
    exact of_decide_eq_true this
  refine ⟨rfl, h.cache, h.dead, h.armed, h.left, h.S, fun i b hb => ?_⟩
  simp only [] at hb ⊢
  rw [List.getElem?_set] at hb
  by_cases hi : at_.toNat = i
  · rw [if_pos hi] at hb
    rw [if_pos (by omega)]
    split at hb
    · exact Option.some.inj hb
    · cases hb
  · rw [if_neg hi] at hb
    rw [if_neg (by omega)]
    exact h.bad i b hb
theorem corr_wipe {D : PD} {X : RX} (h : Corr D X) : Corr (wipeP D) (rwipeX X) := by
  refine ⟨?_, rfl, rfl, rfl, fun hl => ?_, fun i s hs => ?_, fun i b hb => ?_⟩
  · simp only [wipeP, restP, rwipeX, rnewX, List.length_replicate]; exact h.n
  · simp [rwipeX, rnewX] at hl
  · simp only [rwipeX, rnewX, List.getElem?_replicate] at hs
    split at hs
    · exact Option.some.inj hs
    · cases hs
  · simp only [rwipeX, rnewX, List.getElem?_replicate] at hb
    split at hb
    · exact Option.some.inj hb
    · cases hb
theorem corr_clone {D : PD} {X : RX} (h : Corr D X) : Corr (cloneP D) (rcloneX X) := by
  refine ⟨h.n, rfl, rfl, rfl, fun hl => ?_, h.S, fun i b hb => ?_⟩
  · simp [rcloneX, rnewX] at hl
  · simp only [rcloneX, rnewX, List.getElem?_replicate] at hb
    split at hb
    · exact Option.some.inj hb
    · cases hb
theorem corr_read {D : PD} {X : RX} (h : Corr D X) (hx : XOk X) (at_ : Int) : readP D at_ = rreadX X at_ := by
  unfold readP rreadX
  rw [h.dead, h.n]
  by_cases h1 : X.dead = true
  · rw [if_pos h1, if_pos h1]
  rw [if_neg h1, if_neg h1]
  by_cases h2 : inB at_ X.S.length = false
  · rw [if_pos h2, if_pos h2]
  rw [if_neg h2, if_neg h2]
  have hr : 0 ≤ at_ ∧ at_ < X.S.length := by
    have : inB at_ X.S.length = true := by simpa using h2
    exact of_decide_eq_true this
  obtain ⟨a, rfl⟩ : ∃ a : Nat, at_ = (a : Int) := ⟨at_.toNat, by omega⟩
  have hb : X.bad[a]? = some (X.bad.getD a false) := by
    have : a < X.bad.length := by rw [hx.hb]; omega
    simp [List.getD, List.getElem?_eq_getElem this]
  have hs : X.S[a]? = some (X.S.getD a []) := by
    have : a < X.S.length := by omega
    simp [List.getD, List.getElem?_eq_getElem this]
  rw [Int.toNat_natCast, h.bad a _ hb, h.cache, h.S a _ hs]
end Go.Proofs.Ytlepcmljmibdnaa
