/- Parts of one proof, joined: Pw, Kp, Pv, Tu, Cn, Ad, Ct, Aq, Rz, Rm, Xa, Xb. Conditions: those of each statement. -/
import Derived.Test.YtlepcmljmibdnaaGreatSr7
import Derived.Test.YtlepcmljmibdnaaGreatSr5
import Derived.Lib.SmallJoins
import Derived.Lib.SlBytesConst
namespace Go.Proofs.YtlepcmljmibdnaaGreat
open Go.RowKit Go.Proofs.YtlepcmljmibdnaaGreatW.PrintWords Go.Proofs.YtlepcmljmibdnaaGreatW.PrintLast Go.Proofs.YtlepcmljmibdnaaGreatW.PrintMore PWalOpens
set_option linter.unusedVariables false
set_option linter.unusedSimpArgs false
/-- a frame's sectors, all of them -/
def fzs (b : List Int) : List Int := frameB b ++ List.replicate (64 * ((b.length + 70) / 64) - (b.length + 7)) 0
theorem fzs_len (b : List Int) : (fzs b).length = 64 * ((b.length + 70) / 64) := by
  unfold fzs
  rw [List.length_append, frameB_len, List.length_replicate]
  omega
theorem frN_frame {b t : List Int} (h : b.length ≤ 60000) : frN (frameB b ++ t) = b.length := by
  have e1 : rd (frameB b ++ t) 1 = (b.length : Int) / 256 % 256 := rfl
  have e2 : rd (frameB b ++ t) 2 = (b.length : Int) % 256 := rfl
  unfold frN
  rw [e1, e2]
  omega
theorem rd_take (l : List Int) (m : Nat) (i : Nat) (h : i < m) : rd (l.take m) (i : Int) = rd l (i : Int) := by
  simp [rd, List.getD, List.getElem?_take, h]
theorem frN_take (l : List Int) (m : Nat) (h : 3 ≤ m) : frN (l.take m) = frN l := by
  unfold frN
  rw [show (1 : Int) = ((1 : Nat) : Int) from rfl, show (2 : Int) = ((2 : Nat) : Int) from rfl, rd_take l m 1 (by omega), rd_take l m 2 (by omega)]
theorem unF_whole {b t : List Int} (hb : isBytes b) (ht : isBytes t) (h : b.length ≤ 60000) : unF (frameB b ++ t) = (b, 7 + (b.length : Int), 0) := by
  have hfr := frN_frame (t := t) h
  have hd : ((frameB b ++ t).drop 3).take b.length = b := by
    have : frameB b ++ t = [165, (b.length : Int) / 256 % 256, (b.length : Int) % 256] ++ (b ++ (be4 (crcB (lenB b ++ b)) ++ t)) := by
      simp [frameB, lenB]
    rw [this, List.drop_left' (by rfl), List.take_left' rfl]
  have hB : isBytes (frameB b ++ t) := fun x hx => (List.mem_append.1 hx).elim (frameB_bytes hb x) (ht x)
  have hv : unV (frameB b ++ t) = true := (unV_iff hB).2 ⟨b, h, List.prefix_append _ _, by rw [hfr, hd]⟩
  unfold unF
  rw [if_pos hv, hfr, hd]
theorem unF_part {b t : List Int} (h : b.length ≤ 60000) (m : Nat) (h3 : 3 ≤ m) (hm : m < b.length + 7) : (unF ((frameB b ++ t).take m)).2.2 = 40 := by
  have hfr : frN ((frameB b ++ t).take m) = b.length := by rw [frN_take _ m h3, frN_frame h]
  have hv : unV ((frameB b ++ t).take m) = false := by
    unfold unV
    rw [hfr]
    have hl : ((frameB b ++ t).take m).length ≤ m := by rw [List.length_take]; omega
    have : decide (b.length + 7 ≤ ((frameB b ++ t).take m).length) = false := by simp only [decide_eq_false_iff_not]; omega
    rw [this]
    simp
  unfold unF
  rw [hv]
  rfl
/-- the frame of b lies in the ring from p on -/
def Frm (S : Int → List Int) (r p : Int) (b : List Int) : Prop := ∀ j : Nat, j < (b.length + 70) / 64 → S (sectP r (p + j)) = ((fzs b).drop (64 * j)).take 64
section
variable {D : PD} {n : Int} {S : Int → List Int} {r : Int}
theorem sectP_in {p : Int} (hr : 1 ≤ r) : 2 ≤ sectP r p ∧ sectP r p < r + 2 := by
  unfold sectP
  have := Int.emod_nonneg p (show r ≠ 0 by omega)
  have := Int.emod_lt_of_pos p (show 0 < r by omega)
  omega
theorem rec_frm {p : Int} {b : List Int} (hR : Rdy D n S) (hn : n = r + 2) (hr : 1 ≤ r) (hb : isBytes b) (hl : b.length ≤ 60000) (hF : Frm S r p b) :
    ∀ (d j k : Nat), j + d = (b.length + 70) / 64 → 0 < d → recGo D r p (k + d) ((fzs b).take (64 * j)) (p + j) = (b, p + needN b, 0) := by
  intro d
  induction d with
  | zero => intro j k _ h; omega
  | succ d ih =>
    intro j k hj _
    have hrd : readP D (sectP r (p + j)) = (((fzs b).drop (64 * j)).take 64, 0) := by
      have h1 := sectP_in (p := p + j) hr
      rw [hR.read _ (by omega) (by omega), hF j (by omega)]
    have hcat : (fzs b).take (64 * j) ++ ((fzs b).drop (64 * j)).take 64 = (fzs b).take (64 * (j + 1)) := by
      rw [show 64 * (j + 1) = 64 * j + 64 by omega, List.take_add]
    rw [show k + (d + 1) = (k + d) + 1 by omega]
    unfold recGo
    rw [hrd]
    simp only [hcat, ne_eq, not_true_eq_false, if_false]
    by_cases hd : d = 0
    · subst hd
      have hw : (fzs b).take (64 * (j + 1)) = fzs b := List.take_of_length_le (by rw [fzs_len]; omega)
      rw [hw]
      have hu : unF (fzs b) = (b, 7 + (b.length : Int), 0) := unF_whole hb (fun x hx => by have := List.eq_of_mem_replicate hx; omega) hl
      rw [hu, if_pos rfl]
      unfold needN
      rw [if_neg (by omega)]
      simp
      omega
    · have hu := unF_part (b := b) (t := List.replicate (64 * ((b.length + 70) / 64) - (b.length + 7)) 0) hl (64 * (j + 1)) (by omega) (by omega)
      rw [show frameB b ++ List.replicate (64 * ((b.length + 70) / 64) - (b.length + 7)) 0 = fzs b from rfl] at hu
      rw [if_neg (by rw [hu]; decide)]
      have := ih (j + 1) k (by omega) (by omega)
      rw [show p + (j : Int) + 1 = p + ((j + 1 : Nat) : Int) by omega]
      exact this
/-- records one behind the other -/
def Run (S : Int → List Int) (r : Int) : Int → List (List Int) → Int → Prop
  | p, [], t => p = t
  | p, b :: bs, t => Frm S r p b ∧ Run S r (p + needN b) bs t
def startsP : Int → List (List Int) → List Int
  | _, [] => []
  | p, b :: bs => p :: startsP (p + needN b) bs
theorem need_eq {b : List Int} (h : b.length ≤ 60000) : needN b = (((b.length + 70) / 64 : Nat) : Int) := by
  unfold needN
  rw [if_neg (by omega)]
  omega
theorem run_le {t : Int} : ∀ {R : List (List Int)} {p : Int}, (∀ b ∈ R, b.length ≤ 60000) → Run S r p R t → p + R.length ≤ t
  | [], p, _, h => by have : p = t := h; simp; omega
  | b :: bs, p, hl, h => by
    have h1 := run_le (fun b hb => hl b (List.mem_cons_of_mem _ hb)) h.2
    have h2 := need_eq (hl b (List.mem_cons_self ..))
    rw [List.length_cons]
    omega
theorem openGo_run {t : Int} (hR : Rdy D n S) (hn : n = r + 2) (hr : 1 ≤ r) : ∀ (R : List (List Int)) (p : Int) (k : Nat), (∀ b ∈ R, isBytes b ∧ b.length ≤ 60000) → Run S r p R t → R.length ≤ k → openGo D r t k p = (startsP p R, R, 0)
  | [], p, 0, _, h, _ => by
    have : p = t := h
    simp [openGo, startsP, this]
  | [], p, k + 1, _, h, _ => by
    have : p = t := h
    simp [openGo, startsP, this]
  | b :: bs, p, 0, _, _, hk => by simp at hk
  | b :: bs, p, k + 1, hb, h, hk => by
    have h1 := run_le (R := b :: bs) (fun b h => (hb b h).2) h
    have h3 := run_le (R := bs) (fun b h => (hb b (List.mem_cons_of_mem _ h)).2) h.2
    have hb0 := hb b (List.mem_cons_self ..)
    have h2 := need_eq hb0.2
    rw [List.length_cons] at h1
    have hg := rec_frm (p := p) hR hn hr hb0.1 hb0.2 h.1 ((b.length + 70) / 64) 0 ((t - p).toNat - (b.length + 70) / 64) (by omega) (by omega)
    rw [show (t - p).toNat - (b.length + 70) / 64 + (b.length + 70) / 64 = (t - p).toNat by omega, show p + ((0 : Nat) : Int) = p by omega, show (fzs b).take (64 * 0) = [] by simp] at hg
    have ih := openGo_run hR hn hr bs (p + needN b) k (fun b h => hb b (List.mem_cons_of_mem _ h)) h.2 (by rw [List.length_cons] at hk; omega)
    unfold openGo
    rw [if_neg (by omega), hg]
    simp only [ne_eq, not_true_eq_false, if_false, ih]
    rfl
theorem sect_inj {p q : Int} (hr : 1 ≤ r) (h1 : p < q) (h2 : q < p + r) : sectP r p ≠ sectP r q := by
  intro h
  unfold sectP at h
  have h3 : q % r = p % r := by omega
  have h4 := Int.emod_eq_emod_iff_emod_sub_eq_zero.1 h3
  rw [Int.emod_eq_of_lt (by omega) (by omega)] at h4
  omega
def wrS (S : Int → List Int) (r : Int) : List (List Int) → Int → Int → List Int
  | [], _ => S
  | c :: cs, s => wrS (updS S (sectP r s) (pad c)) r cs (s + 1)
theorem wrS_off (a : Int) : ∀ (cs : List (List Int)) (S : Int → List Int) (s : Int), (∀ j : Nat, j < cs.length → a ≠ sectP r (s + j)) → wrS S r cs s a = S a
  | [], S, s, _ => rfl
  | c :: cs, S, s, h => by
    unfold wrS
    rw [wrS_off a cs _ (s + 1) (fun j hj => by
      have := h (j + 1) (by simp; omega)
      rwa [show s + 1 + (j : Int) = s + ((j + 1 : Nat) : Int) by omega])]
    unfold updS
    rw [if_neg (by have := h 0 (by simp); rwa [show s + ((0 : Nat) : Int) = s by omega] at this)]
theorem wrS_at (hr : 1 ≤ r) : ∀ (cs : List (List Int)) (S : Int → List Int) (s : Int) (j : Nat), j < cs.length → (cs.length : Int) ≤ r → wrS S r cs s (sectP r (s + j)) = pad (cs.getD j [])
  | [], S, s, j, h, _ => by simp at h
  | c :: cs, S, s, 0, _, hl => by
    unfold wrS
    rw [List.length_cons] at hl
    rw [show s + ((0 : Nat) : Int) = s by omega, wrS_off _ cs _ (s + 1) (fun j hj => sect_inj hr (by omega) (by omega))]
    simp [updS]
  | c :: cs, S, s, j + 1, h, hl => by
    unfold wrS
    rw [List.length_cons] at h hl
    rw [show s + ((j + 1 : Nat) : Int) = s + 1 + (j : Int) by omega, wrS_at hr cs _ (s + 1) j (by omega) (by omega)]
    simp
theorem layC_rdy (hn : n = r + 2) (hr : 1 ≤ r) : ∀ (cs : List (List Int)) (D : PD) (S : Int → List Int) (s : Int), Rdy D n S → (∀ c ∈ cs, c.length ≤ 64) →
    ∃ D', layC r cs D s = (D', s + cs.length, 0) ∧ Rdy D' n (wrS S r cs s) ∧ D'.cache.length = D.cache.length + cs.length ∧ (OKD D → (∀ c ∈ cs, isBytes c) → OKD D')
  | [], D, S, s, h, _ => ⟨D, by simp [layC], h, by simp, fun h _ => h⟩
  | c :: cs, D, S, s, h, hc => by
    have h1 := sectP_in (p := s) hr
    have hw := h.write (sectP r s) c (by omega) (by omega) (hc c (List.mem_cons_self ..))
    obtain ⟨D', e1, e2, e3, e4⟩ := layC_rdy hn hr cs _ _ (s + 1) (h.wrote (sectP r s) c) (fun c hc' => hc c (List.mem_cons_of_mem _ hc'))
    refine ⟨D', ?_, e2, ?_, fun ho hb => e4 ?_ (fun c hc' => hb c (List.mem_cons_of_mem _ hc'))⟩
    · unfold layC
      rw [hw]
      simp only [ne_eq, not_true_eq_false, if_false, e1, List.length_cons]
      rw [show s + 1 + (cs.length : Int) = s + ((cs.length + 1 : Nat) : Int) by omega]
    · rw [e3]; simp; omega
    · have := ho.write (sectP r s) (b := c) (hb c (List.mem_cons_self ..))
      rwa [hw] at this
end
theorem chs_pad {b : List Int} (h : b.length ≤ 400) (j : Nat) (hj : j < (b.length + 70) / 64) : pad ((chs (frameX b)).getD j []) = ((fzs b).drop (64 * j)).take 64 := by
  have hfx : frameX b = frameB b := by unfold frameX; rw [if_neg (by omega)]
  have hl := frameB_len b
  rw [hfx]
  have hg : (chs (frameB b)).getD j [] = ((frameB b).drop (64 * j)).take 64 := by
    unfold chs
    rw [List.getD_eq_getElem?_getD, List.getElem?_map, List.getElem?_range (by rw [hl]; omega)]
    rfl
  rw [hg]
  unfold fzs pad
  rw [List.drop_append_of_le_length (by omega), List.take_append, List.length_take, List.length_drop, List.take_replicate]
  congr 2
  omega
end Go.Proofs.YtlepcmljmibdnaaGreat
namespace Go.Proofs.YtlepcmljmibdnaaGreat
open Go.RowKit Go.Proofs.YtlepcmljmibdnaaGreatW.PrintWords Go.Proofs.YtlepcmljmibdnaaGreatW.PrintLast Go.Proofs.YtlepcmljmibdnaaGreatW.PrintMore PWalOpens
set_option linter.unusedVariables false
set_option linter.unusedSimpArgs false
/-- no bad sector, nothing cached, whatever it is armed for -/
structure Qt (D : PD) (n : Int) (S : Int → List Int) : Prop where
  bad : ∀ a, D.bad a = false
  n : D.n = n
  kept : ∀ a, (D.kept a).getD zsec = S a
/-- what a slot that doesn't count may be -/
def lesser (u : Int × List Int × Int) (g : Int) : Prop := u.2.2 ≠ 0 ∨ u.1 < g
structure KInv (D : PD) (S : Int → List Int) (g : Int) (l : List Int) : Prop where
  rdy : Rdy D 4 S
  cache : D.cache = []
  ok : OKD D
  mine : unP (S (g % 2)) = (g, l, 0)
  other : lesser (unP (S ((g + 1) % 2))) g
  g0 : 0 ≤ g
  len : l.length ≤ 4
theorem pick_of {S : Int → List Int} {g : Int} {l : List Int} (hg : 0 ≤ g) (mine : unP (S (g % 2)) = (g, l, 0)) (other : lesser (unP (S ((g + 1) % 2))) g) : pickL (unP (S 0)) (unP (S 1)) = (g, l, 0) := by
  have h2 : g % 2 = 0 ∨ g % 2 = 1 := by omega
  rcases h2 with h | h
  · have h' : (g + 1) % 2 = 1 := by omega
    rw [h] at mine
    rw [h'] at other
    rw [mine]
    generalize unP (S 1) = u at other ⊢
    obtain ⟨ug, ul, ue⟩ := u
    have hs : stepL (true, g, l) (ug, ul, ue) = (true, g, l) := by
      unfold stepL
      rw [if_neg]
      rintro ⟨h1, h2⟩
      rcases other with ho | ho
      · exact ho h1
      · rcases h2 with h2 | h2
        · cases h2
        · exact absurd ho (Int.not_lt.2 (Int.le_of_lt h2))
    unfold pickL
    rw [show stepL (false, 0, []) (g, l, 0) = (true, g, l) from rfl, hs]
    rfl
  · have h' : (g + 1) % 2 = 0 := by omega
    rw [h] at mine
    rw [h'] at other
    rw [mine]
    generalize unP (S 0) = u at other ⊢
    obtain ⟨ug, ul, ue⟩ := u
    have hs : ∃ st, stepL (false, 0, []) (ug, ul, ue) = st ∧ (st.1 = false ∨ st.2.1 < g) := by
      refine ⟨_, rfl, ?_⟩
      unfold stepL
      split
      · rename_i hh
        rcases other with ho | ho
        · exact absurd hh.1 ho
        · exact .inr ho
      · exact .inl rfl
    obtain ⟨st, hst, hc⟩ := hs
    unfold pickL
    rw [hst]
    have : stepL st (g, l, 0) = (true, g, l) := by
      unfold stepL
      rw [if_pos ⟨rfl, hc⟩]
    rw [this]
    rfl
theorem next_mine {S : Int → List Int} {g : Int} {l k : List Int} (hg : 0 ≤ g ∧ g + 1 < 18446744073709551616) (mine : unP (S (g % 2)) = (g, l, 0)) (hk : k.length ≤ 4) (hn : ∀ n ∈ k, 0 ≤ n ∧ n < 18446744073709551616) :
    unP (updS S ((g + 1) % 2) (pad (slotB (g + 1) k)) ((g + 1) % 2)) = (g + 1, k, 0) ∧ lesser (unP (updS S ((g + 1) % 2) (pad (slotB (g + 1) k)) ((g + 1 + 1) % 2))) (g + 1) := by
  constructor
  · unfold updS
    rw [if_pos rfl]
    exact unP_pad (g + 1) k ⟨by omega, hg.2⟩ hk hn
  · unfold updS
    rw [if_neg (by omega), show (g + 1 + 1) % 2 = g % 2 by omega, mine]
    exact .inr (by show g < g + 1; omega)
end Go.Proofs.YtlepcmljmibdnaaGreat
namespace Go.Proofs.YtlepcmljmibdnaaGreat
open Go.RowKit Go.Proofs.YtlepcmljmibdnaaGreatW.PrintWords Go.Proofs.YtlepcmljmibdnaaGreatW.PrintLast Go.Proofs.YtlepcmljmibdnaaGreatW.PrintMore PWalOpens
set_option linter.unusedVariables false
set_option linter.unusedSimpArgs false
section
variable {D : PD} {n : Int} {S S' : Int → List Int} {r : Int}
theorem run_keep {t : Int} : ∀ {R : List (List Int)} {p : Int}, (∀ b ∈ R, b.length ≤ 60000) → (∀ q, p ≤ q → q < t → S' (sectP r q) = S (sectP r q)) → Run S r p R t → Run S' r p R t
  | [], p, _, _, h => h
  | b :: bs, p, hl, hq, h => by
    have hb := need_eq (hl b (List.mem_cons_self ..))
    have h1 := run_le (fun b hb => hl b (List.mem_cons_of_mem _ hb)) h.2
    refine ⟨fun j hj => ?_, run_keep (fun b hb => hl b (List.mem_cons_of_mem _ hb)) (fun q h1 h2 => hq q (by omega) h2) h.2⟩
    rw [hq (p + j) (by omega) (by omega)]
    exact h.1 j hj
theorem run_app {q t : Int} {R' : List (List Int)} : ∀ {R : List (List Int)} {p : Int}, Run S r p R q → Run S r q R' t → Run S r p (R ++ R') t
  | [], p, h, h' => by
    have : p = q := h
    rw [this]
    exact h'
  | b :: bs, p, h, h' => ⟨h.1, run_app h.2 h'⟩
theorem chs_len {b : List Int} (h : b.length ≤ 400) : (chs (frameX b)).length = (b.length + 70) / 64 := by
  unfold chs frameX
  rw [if_neg (by omega), List.length_map, List.length_range, frameB_len]
theorem chs_each {b : List Int} (hb : isBytes b) (h : b.length ≤ 400) : ∀ c ∈ chs (frameX b), c.length ≤ 64 ∧ isBytes c := by
  intro c hc
  unfold chs at hc
  obtain ⟨i, _, rfl⟩ := List.mem_map.1 hc
  refine ⟨by rw [List.length_take]; omega, ?_⟩
  exact ((frameX_facts hb h).2.1.drop _).take _
theorem lay_one {b : List Int} {s : Int} (hn : n = r + 2) (hr : 1 ≤ r) (hR : Rdy D n S) (hb : isBytes b ∧ b.length ≤ 400) (hK : needN b ≤ r) :
    ∃ D' S', layC r (chs (frameX b)) D s = (D', s + needN b, 0) ∧ Rdy D' n S' ∧ D'.cache.length ≤ D.cache.length + 7 ∧ Frm S' r s b ∧ (∀ a, (∀ j : Nat, j < (b.length + 70) / 64 → a ≠ sectP r (s + j)) → S' a = S a) ∧ (OKD D → OKD D') := by
  have hl := chs_len hb.2
  have he := chs_each hb.1 hb.2
  have hk := need_eq (b := b) (by omega)
  obtain ⟨D', e1, e2, e3, e4⟩ := layC_rdy hn hr (chs (frameX b)) D S s hR (fun c hc => (he c hc).1)
  refine ⟨D', wrS S r (chs (frameX b)) s, ?_, e2, by rw [e3, hl]; omega, fun j hj => ?_, fun a ha => wrS_off a _ S s (by rw [hl]; exact ha), fun h => e4 h fun c hc => (he c hc).2⟩
  · rw [e1, hl, hk]
  · rw [wrS_at hr _ S s j (by rw [hl]; exact hj) (by rw [hl]; omega)]
    exact chs_pad hb.2 j hj
theorem layR_run {head : Int} (hn : n = r + 2) (hr : 1 ≤ r) : ∀ (R : List (List Int)) (D : PD) (S : Int → List Int) (s : Int) (st : List Int) (recs : List (List Int)), Rdy D n S → (∀ b ∈ R, isBytes b ∧ b.length ≤ 400) → (∀ b ∈ recs, b.length ≤ 60000) → Run S r head recs s → s + needs R - head ≤ r →
    ∃ D' S', layR r R D s st = (D', st ++ startsP s R, s + needs R, 0) ∧ Rdy D' n S' ∧ Run S' r head (recs ++ R) (s + needs R) ∧ S' 0 = S 0 ∧ S' 1 = S 1 ∧ D'.cache.length ≤ D.cache.length + 7 * R.length ∧ (OKD D → OKD D')
  | [], D, S, s, st, recs, hR, _, _, hrun, _ => ⟨D, S, by simp [layR, startsP, needs], hR, by simpa [needs] using hrun, rfl, rfl, by simp, id⟩
  | b :: bs, D, S, s, st, recs, hR, hb, hrl, hrun, hfit => by
    have hb0 := hb b (List.mem_cons_self ..)
    have hk := need_eq (b := b) (by omega)
    have hns : needs (b :: bs) = needN b + needs bs := rfl
    have hns0 := (needs_le (R := bs) fun b h => (hb b (List.mem_cons_of_mem _ h)).2).1
    have hle := run_le hrl hrun
    rw [hns] at hfit
    obtain ⟨D1, S1, e1, e2, e3, e4, e5, e6⟩ := lay_one (s := s) hn hr hR hb0 (by omega)
    have hrun1 : Run S1 r head (recs ++ [b]) (s + needN b) := run_app (run_keep hrl (fun q h1 h2 => e5 _ (fun j hj => sect_inj hr (by omega) (by omega))) hrun) ⟨e4, rfl⟩
    obtain ⟨D2, S2, f1, f2, f3, f4, f4', f5, f6⟩ := layR_run (head := head) hn hr bs D1 S1 (s + needN b) (st ++ [s]) (recs ++ [b]) e2 (fun b h => hb b (List.mem_cons_of_mem _ h)) (fun c hc => by
      rcases List.mem_append.1 hc with h | h
      · exact hrl c h
      · rw [List.mem_singleton.1 h]; omega) hrun1 (by omega)
    have hs0 : ∀ a : Int, a < 2 → S1 a = S a := fun a ha => e5 a (fun j hj h => by have := sectP_in (p := s + j) hr; omega)
    refine ⟨D2, S2, ?_, f2, ?_, by rw [f4, hs0 0 (by omega)], by rw [f4', hs0 1 (by omega)], by rw [List.length_cons]; omega, fun h => f6 (e6 h)⟩
    · have : layR r (b :: bs) D s st = if (layC r (chs (frameX b)) D s).2.2 ≠ 0 then ((layC r (chs (frameX b)) D s).1, [], 0, (layC r (chs (frameX b)) D s).2.2) else layR r bs (layC r (chs (frameX b)) D s).1 (layC r (chs (frameX b)) D s).2.1 (st ++ [s]) := rfl
      rw [this, e1]
      simp only [ne_eq, not_true_eq_false, if_false, f1, hns, startsP, List.append_assoc, List.cons_append, List.nil_append]
      rw [Int.add_assoc]
    · rw [hns, ← Int.add_assoc]
      rw [List.append_assoc] at f3
      exact f3
end
/-- a wal that holds R -/
structure WInv (D : PD) (S : Int → List Int) (r g head tail : Int) (R : List (List Int)) : Prop where
  rdy : Rdy D (r + 2) S
  hr : 1 ≤ r
  cache : D.cache = []
  ok : OKD D
  mine : unP (S (g % 2)) = (g, [head, tail], 0)
  other : lesser (unP (S ((g + 1) % 2))) g
  g0 : 0 ≤ g
  run : Run S r head R tail
  fit : tail - head ≤ r
  h0 : 0 ≤ head
  recs : ∀ b ∈ R, isBytes b ∧ b.length ≤ 400
section
variable {D : PD} {S : Int → List Int} {r g head tail : Int} {R : List (List Int)}
theorem WInv.ring (h : WInv D S r g head tail R) : ringP D = r := by
  unfold ringP
  rw [h.rdy.n]
  have := h.hr
  omega
theorem WInv.le (h : WInv D S r g head tail R) : head + R.length ≤ tail := run_le (fun b hb => by have := (h.recs b hb).2; omega) h.run
theorem WInv.load (h : WInv D S r g head tail R) : loadP D = (g, [head, tail], 0) := by
  rw [h.rdy.load (by have := h.hr; omega)]
  exact pick_of h.g0 h.mine h.other
theorem WInv.open_ (h : WInv D S r g head tail R) : openP D = (g, head, tail, startsP head R, R, 0) := by
  have hle := h.le
  unfold openP
  rw [h.load]
  simp only [ne_eq, not_true_eq_false, if_false]
  rw [h.ring, if_neg (by have := h.fit; omega), openGo_run h.rdy rfl h.hr R head _ (fun b hb => ⟨(h.recs b hb).1, by have := (h.recs b hb).2; omega⟩) h.run (by omega)]
theorem WInv.save (h : WInv D S r g head tail R) {S1 : Int → List Int} {D1 : PD} {h1 t1 : Int} {R1 : List (List Int)} (h2 : Rdy D1 (r + 2) S1) (ho : OKD D1) (e0 : S1 0 = S 0) (e1 : S1 1 = S 1) (hrun : Run S1 r h1 R1 t1) (hfit : t1 - h1 ≤ r) (hh : 0 ≤ h1 ∧ t1 < 18446744073709551616) (hrec : ∀ b ∈ R1, isBytes b ∧ b.length ≤ 400) (hg : g + 1 < 18446744073709551616) :
    ∃ D2 S2, saveP D1 (g + 1) [h1, t1] = (D2, 0) ∧ WInv D2 S2 r (g + 1) h1 t1 R1 := by
  have hr := h.hr
  have g0 := h.g0
  have hle := run_le (fun b hb => by have := (hrec b hb).2; omega) hrun
  have hk : ∀ n ∈ [h1, t1], 0 ≤ n ∧ n < 18446744073709551616 := by
    intro n hn
    simp only [List.mem_cons, List.not_mem_nil, or_false] at hn
    rcases hn with rfl | rfl <;> omega
  obtain ⟨s1, s2, s3⟩ := h2.save (by omega) (g + 1) [h1, t1] (by omega) (by simp)
  have hp : ∀ a : Int, a = 0 ∨ a = 1 → S1 a = S a := by
    rintro a (rfl | rfl)
    · exact e0
    · exact e1
  obtain ⟨m1, m2⟩ := next_mine (S := S1) (g := g) (l := [head, tail]) (k := [h1, t1]) ⟨g0, hg⟩ (by rw [hp _ (by omega)]; exact h.mine) (by simp) hk
  refine ⟨_, _, Prod.ext rfl s1, s2, hr, s3, ho.save (g + 1) _ ⟨by omega, hg⟩ hk, m1, m2, by omega, ?_, hfit, hh.1, hrec⟩
  refine run_keep (fun b hb => by have := (hrec b hb).2; omega) (fun q _ _ => ?_) hrun
  have := sectP_in (p := q) hr
  unfold updS
  rw [if_neg (by omega)]
theorem WInv.add (h : WInv D S r g head tail R) {X : List (List Int)} (hX : RecsOK X) (hf : needs X ≤ r - (tail - head)) (ht : tail + needs X < 18446744073709551616) (hg : g + 1 < 18446744073709551616) :
    ∃ D1 D2 S2, layP D r (r - (tail - head)) tail X = (D1, startsP tail X, tail + needs X, 0) ∧ D1.cache.length ≤ 42 ∧ saveP D1 (g + 1) [head, tail + needs X] = (D2, 0) ∧ WInv D2 S2 r (g + 1) head (tail + needs X) (R ++ X) := by
  obtain ⟨D1, S1, f1, f2, f3, f4, f4', f5, f6⟩ := layR_run (head := head) rfl h.hr X D S tail [] R h.rdy hX.each (fun b hb => by have := (h.recs b hb).2; omega) h.run (by omega)
  have hrec : ∀ b ∈ R ++ X, isBytes b ∧ b.length ≤ 400 := fun b hb => (List.mem_append.1 hb).elim (h.recs b) (hX.each b)
  obtain ⟨D2, S2, g1, g2⟩ := h.save f2 (f6 h.ok) f4 f4' f3 (by omega) ⟨h.h0, ht⟩ hrec hg
  refine ⟨D1, D2, S2, ?_, ?_, g1, g2⟩
  · unfold layP
    rw [if_neg (by omega), f1]
    rfl
  · rw [h.cache] at f5
    have := hX.len
    simp only [List.length_nil] at f5
    omega
end
end Go.Proofs.YtlepcmljmibdnaaGreat
namespace Go.Proofs.YtlepcmljmibdnaaGreat
open Go.RowKit Go.Proofs.YtlepcmljmibdnaaGreatW.PrintWords Go.Proofs.YtlepcmljmibdnaaGreatW.PrintLast Go.Proofs.YtlepcmljmibdnaaGreatW.PrintMore PWalOpens
set_option linter.unusedVariables false
set_option linter.unusedSimpArgs false
/-- what a wal's deeds may change: the disk, the wal's own block -/
def isWD (M Bd : Nat) (k : Nat) (o : Obj) : Prop := isDisk M Bd k o ∨ isT 102 k o
/-- a wal, its disk, its starts -/
structure WV (n0 : Nat) (w : World) (Wb B M Bd : Nat) (vc vs : Value) (D : PD) (gen head tail : Int) (S : List Int) (over : Bool) : Prop where
  blk : WlC w Wb B gen head tail vs true over
  hW : n0 ≤ Wb
  dk : DK w n0 B M Bd vc D
  st : Kd.R (Kd.int .u64) 52 w n0 (fun _ => True) vs S
section
variable {n0 : Nat} {w w' : World} {Wb B M Bd : Nat} {vc vs v1 : Value} {D D1 : PD} {gen head tail h1 t1 : Int} {S S1 : List Int} {over : Bool}
theorem WV.away (h : WV n0 w Wb B M Bd vc vs D gen head tail S over) : ¬ FP B M Bd vc Wb := by
  have hb := h.blk
  unfold WlC at hb
  rintro (rfl | rfl | rfl | hk)
  · rw [h.dk.blk] at hb; simp at hb
  · obtain ⟨_, _, hk, _⟩ := h.dk.kept; rw [hk] at hb; cases hb
  · obtain ⟨_, _, hk, _⟩ := h.dk.bad; rw [hk] at hb; cases hb
  · obtain ⟨inner, ho⟩ := Kd.R_own h.dk.cache
    obtain ⟨cells, hc⟩ := own_typed ho Wb hk.symm
    rw [hc] at hb; simp at hb
theorem WV.fresh (h : WV n0 w Wb B M Bd vc vs D gen head tail S over) (hb : Below w.heap.size w w') : WV n0 w' Wb B M Bd vc vs D gen head tail S over :=
  ⟨(hb.block _ (Array.getElem?_eq_some_iff.1 h.blk).1).trans h.blk, h.hW, h.dk.chg (.of_below hb), Kd.R_below h.st hb⟩
/-- the disk alone went on -/
theorem WV.disk {vc' : Value} (h : WV n0 w Wb B M Bd vc vs D gen head tail S over) (ha : At w (FP B M Bd vc) w' B M Bd vc' D1) : WV n0 w' Wb B M Bd vc' vs D1 gen head tail S over ∧ TC n0 (isDisk M Bd) w w' := by
  have hc := h.dk.tc ha.chg
  exact ⟨⟨hc.blk _ _ h.blk (fun e => by simp [isDisk] at e), h.hW, At.based h.dk ha, R_tc h.st hc (fun q hq _ cells => by
    obtain rfl := q56 q hq
    simp [isDisk])⟩, hc⟩
theorem WV.tcW (h : WV n0 w Wb B M Bd vc vs D gen head tail S over) (i : Nat) (v : Value) : TC n0 (isT 102) w (w.setCell ⟨Wb, i, none⟩ v) := TC.set (T := isT 102) h.blk rfl h.hW v
theorem WV.overed (h : WV n0 w Wb B M Bd vc vs D gen head tail S over) : WV n0 (w.setCell ⟨Wb, 6, none⟩ (.bool true)) Wb B M Bd vc vs D gen head tail S true :=
  ⟨h.blk.overed, h.hW, h.dk.tkeep (h.tcW 6 _) (isT_disk (by decide)), R_tc h.st (h.tcW 6 _) (fun q hq _ cells => by
    obtain rfl := q56 q hq
    simp [isT])⟩
/-- four fields turned -/
theorem WV.turned (h : WV n0 w Wb B M Bd vc vs D gen head tail S over) (hr : Kd.R (Kd.int .u64) 52 w n0 (fun _ => True) v1 S1) (g1 : Int) :
    WV n0 ((((w.setCell ⟨Wb, 1, none⟩ (.int .u64 g1)).setCell ⟨Wb, 2, none⟩ (.int .u64 h1)).setCell ⟨Wb, 3, none⟩ (.int .u64 t1)).setCell ⟨Wb, 4, none⟩ v1) Wb B M Bd vc v1 D g1 h1 t1 S1 over ∧
      TC n0 (isT 102) w ((((w.setCell ⟨Wb, 1, none⟩ (.int .u64 g1)).setCell ⟨Wb, 2, none⟩ (.int .u64 h1)).setCell ⟨Wb, 3, none⟩ (.int .u64 t1)).setCell ⟨Wb, 4, none⟩ v1) := by
  have b0 := h.blk
  unfold WlC at b0
  have b1 := set7 b0 1 (.int .u64 g1)
  have b2 := set7 b1 2 (.int .u64 h1)
  have b3 := set7 b2 3 (.int .u64 t1)
  have b4 := set7 b3 4 v1
  have c1 : TC n0 (isT 102) w (w.setCell ⟨Wb, 1, none⟩ (.int .u64 g1)) := TC.set (T := isT 102) b0 rfl h.hW _
  have c2 := c1.trans (TC.set (T := isT 102) b1 rfl h.hW (.int .u64 h1) (j := 2))
  have c3 := c2.trans (TC.set (T := isT 102) b2 rfl h.hW (.int .u64 t1) (j := 3))
  have c4 := c3.trans (TC.set (T := isT 102) b3 rfl h.hW v1 (j := 4))
  exact ⟨⟨b4, h.hW, h.dk.tkeep c4 (isT_disk (by decide)), R_tc hr c4 (fun q hq _ cells => by
    obtain rfl := q56 q hq
    simp [isT])⟩, c4⟩
theorem save_two (g x y e : Int) (hsv : saveP D g [x, y] = (D1, e)) (hg : 0 ≤ g ∧ g < 18446744073709551616) (hx : 0 ≤ x ∧ x < 18446744073709551616) (hy : 0 ≤ y ∧ y < 18446744073709551616) (hc : D.cache.length ≤ 900) (h : At w (FP B M Bd vc) w B M Bd vc D) :
    Calls Tryz.prog 94 #[.pointer (some ⟨B, 0, none⟩), .int .u64 g, .slice (some ⟨w.heap.size, 0, none⟩) 2 2] (w.alloc (.cells #[.int .u64 x, .int .u64 y] 52)).drew fun r w' => r = .returned (.int .i64 e) ∧ ∃ vc', At w (FP B M Bd vc) w' B M Bd vc' D1 :=
  at_save (l := [x, y]) (A := some ⟨w.heap.size, 0, none⟩) (c := 2) hsv hg (by simp; exact ⟨hx, hy⟩) (Kd.C_drew (lit_Cu w [x, y] (fun _ => False) (by simp) (fun h => h) _ (Chg.refl _ _))) hc (h.grow (.of_below ((Below.refl w.heap.size w).alloc (Nat.le_refl _) _).drew))
theorem froz {w : World} {b : Nat} {cs : Array Value} {t : Nat} (h : w.heap[b]? = some (.cells cs t (0, 0))) (i : Nat) : w.frozen? ⟨b, i, none⟩ = false := by
  unfold World.frozen?
  simp [h]
/-- what turn does: 0, or over -/
def TuQ (n0 : Nat) (w : World) (Wb B M Bd : Nat) (vs v1 : Value) (D1 : PD) (gen head tail h1 t1 : Int) (S S1 : List Int) (over : Bool) (e : Int) (r : Ending) (w' : World) : Prop :=
  TC n0 (isWD M Bd) w w' ∧ ∃ vc', (e = 0 → r = .returned (.int .i64 0) ∧ WV n0 w' Wb B M Bd vc' v1 D1 (gen + 1) h1 t1 S1 over) ∧ (e ≠ 0 → r = .returned (.int .i64 50) ∧ WV n0 w' Wb B M Bd vc' vs D1 gen head tail S true)
theorem turn_calls (e : Int) (hsv : saveP D (gen + 1) [h1, t1] = (D1, e)) (hg : 0 ≤ gen ∧ gen < 18446744073709551615) (hh : 0 ≤ h1 ∧ h1 < 18446744073709551616) (ht : 0 ≤ t1 ∧ t1 < 18446744073709551616) (hc : D.cache.length ≤ 900)
    (h : WV n0 w Wb B M Bd vc vs D gen head tail S over) (hr : Kd.R (Kd.int .u64) 52 w n0 (fun _ => True) v1 S1) :
    Calls Tryz.prog 57 #[.pointer (some ⟨Wb, 0, none⟩), .int .u64 h1, .int .u64 t1, v1] w (TuQ n0 w Wb B M Bd vs v1 D1 gen head tail h1 t1 S S1 over e) := by
  have HH := Aside0.mk h
  have HRR := Aside0.mk hr
  have HSV := Aside0.mk (save_two (w := w) (B := B) (M := M) (Bd := Bd) (vc := vc) (gen + 1) h1 t1 e hsv ⟨by omega, by omega⟩ hh ht hc (At.refl h.dk))
  have HWG := Aside0.mk (IntWalk.u64_in (gen + 1) (by omega))
  obtain ⟨⟨q0, q1, q2, q3, q4, q5, q6⟩, k2, k4, k5, k6⟩ := cells7 h.blk
  obtain ⟨A1, c1, rfl⟩ := Kd.R_slice hr
  have g0 : 0 ≤ gen := hg.1
  have g1 : gen < 18446744073709551615 := hg.2
  clear hsv h hr q2 q3 q4 q5 q6 k2 k4 k5 k6
  go_enter Tryz.func57, Tryz.ntmps57
  go_wp2
  refine Fork.wp_fork (Fork.Lo.rel 0) [12] [] (.one 0 0 (.one 1 0 (.one 2 0 (.one 4 0 (.one 5 0 (.one 6 0 (.one 9 0 (.one 10 0 (.one 3 1 (.one 7 1 (.one 8 0 (.one 11 2 (.one 12 2 (.one 13 0 .nil)))))))))))))) (by kernel_rfl) (by kernel_rfl) ?_
  generalize hops : List.toArray (_ : List Oper) = ops
  have HO := Aside0.mk hops
  clear hops
  iterate 8 ((refine Fork.plain (Fork.at_ HO.out rfl) _ rfl (fun W => by go_simp; exact rfl) ?_); simp only [Act.put, List.setIfInBounds_toArray, List.set_cons_succ, List.set_cons_zero])
  refine Fork.reads (Fork.at_ HO.out rfl) _ rfl (fun W hW => Arr.ex_load1 rfl rfl (by kernel_rfl) (Fork.bel_cell hW (by assumption))) ?_
  simp only [Act.put, List.setIfInBounds_toArray, List.set_cons_succ, List.set_cons_zero]
  refine Fork.reads (Fork.at_ HO.out rfl) _ rfl (fun W hW => Arr.ex_load1 rfl rfl (by kernel_rfl) (Fork.bel_cell hW (by assumption))) ?_
  simp only [Act.put, List.setIfInBounds_toArray, List.set_cons_succ, List.set_cons_zero]
  ((refine Fork.plain (Fork.at_ HO.out rfl) _ rfl (fun W => by go_simp; exact rfl) ?_); simp only [Act.put, List.setIfInBounds_toArray, List.set_cons_succ, List.set_cons_zero])
  refine Fork.step (Fork.at_ HO.out rfl) (fun K hK => ?_)
  go_simp
  refine hK _ _ (.of_new ((Below.refl _ _).alloc (Nat.le_refl _) _) (Nat.zero_le _)) ?_
  clear hK K
  try simp only [Act.put, List.setIfInBounds_toArray, List.set_cons_succ, List.set_cons_zero]
  refine Fork.step (Fork.at_ HO.out rfl) (fun K hK => ?_)
  go_simp
  rw [HWG.out]
  (with_reducible refine HSV.out.mono ?_)
  rintro er w5 ⟨rfl, vc5, hd5⟩
  refine hK _ _ (Fork.Grow.of_old (Fork.Lo.zero hd5.chg.os hd5.chg.tape hd5.chg.output) rfl) ?_
  clear hK K
  have HD5 := Aside0.mk (HH.out.disk hd5)
  clear hd5
  try simp only [Act.put, List.setIfInBounds_toArray, List.set_cons_succ, List.set_cons_zero]
  ((refine Fork.plain (Fork.at_ HO.out rfl) _ rfl (fun W => by go_simp; exact rfl) ?_); simp only [Act.put, List.setIfInBounds_toArray, List.set_cons_succ, List.set_cons_zero])
  refine Fork.done ?_
  obtain ⟨⟨p0, p1, p2, p3, p4, p5, p6⟩, _⟩ := cells7 HD5.out.1.blk
  have f1 := froz HD5.out.1.blk 1
  have f2 := froz HD5.out.1.blk 2
  have f3 := froz HD5.out.1.blk 3
  have f4 := froz HD5.out.1.blk 4
  have f6 := froz HD5.out.1.blk 6
  have HR5 := Aside0.mk (R_tc HRR.out HD5.out.2 (fun q hq _ cells => by
    obtain rfl := q56 q hq
    simp [isDisk]))
  have HTD := Aside0.mk (show TC n0 (isWD M Bd) w w5 from HD5.out.2.mono fun _ _ h => .inl h)
  by_cases he : e = 0
  · subst he
    go_wp2
    go_ret
    have h5 := HD5.out.1.turned (h1 := h1) (t1 := t1) HR5.out (gen + 1)
    exact ⟨HTD.out.trans (h5.2.mono fun _ _ h => .inr h), vc5, fun _ => ⟨rfl, h5.1⟩, fun h => absurd rfl h⟩
  · have he' : (e != 0) = true := by simp; exact he
    go_wp2
    go_ret
    exact ⟨HTD.out.trans ((HD5.out.1.tcW 6 _).mono fun _ _ h => .inr h), vc5, fun h => absurd h he, fun _ => ⟨rfl, HD5.out.1.overed⟩⟩
end
end Go.Proofs.YtlepcmljmibdnaaGreat
namespace Go.Proofs.YtlepcmljmibdnaaGreat
open Go.RowKit Go.Proofs.YtlepcmljmibdnaaGreatW.PrintWords Go.Proofs.YtlepcmljmibdnaaGreatW.PrintLast Go.Proofs.YtlepcmljmibdnaaGreatW.PrintMore PWalOpens
set_option linter.unusedVariables false
set_option linter.unusedSimpArgs false
theorem grow_none (w : World) : Calls Tryz.prog 107 #[.slice none 0 0, .int .i64 0] w fun e w' => e = .returned (.slice none 0 0) ∧ w = w' := by
  go_enter Tryz.func107, Tryz.ntmps107
  go_wp2
  go_ret
  exact ⟨rfl, rfl⟩
set_option maxRecDepth 100000 in
theorem grow_some (w : World) (n : Nat) (hn : 0 < n ∧ n ≤ 1000000) : Calls Tryz.prog 107 #[.slice none 0 0, .int .i64 n] w fun e w' => ∃ v, e = .returned v ∧ Kd.R (Kd.int .u64) 52 w' w.heap.size (fun _ => True) v [] ∧ Below w.heap.size w w' := by
  have h1 : decide ((n : Int) < 0) = false := by simp
  have h2 : decide (0 < (n : Int)) = true := by simp; omega
  have hn1 : n ≤ 1000000 := hn.2
  have h3 : 0 < n := hn.1
  have HN := Aside0.mk hn
  clear hn
  go_enter Tryz.func107, Tryz.ntmps107
  go_wp2_with (first
    | ((with_reducible refine gate_builtin (b := .append) (xs := #[.tmp 20, .tmp 21]) rfl ?_); at_builtin; go_loud (refine Kd.R_append_zeros (Kd.int .u64) (w0 := w) w.heap.size rfl (.tmp 20) (.tmp 21) 98 3 52 (.int .u64 0) 8 rfl Tryz.underlying98 Tryz.underlying3 info56 rfl (by decide) (by decide) (.slice none 0 0) [] 0 (n : Int) (fun _ => True) rfl rfl rfl (fun _ _ => trivial) (Kd.R_nil _ _ _ _ _) (by omega) (Below.refl _ _) (Nat.le_refl _) (by simp; omega) ?_); intro v1 w1 ho hb hg hat; obtain ⟨A1, n1, c1, hv1⟩ := R_slice3 ho; subst hv1; have HO1 := Aside0.mk ho; have HB1 := Aside0.mk hb; clear ho hb hg hat))
  go_ret
  have h5 := Kd.R_take HO1.out (m := 0) (Nat.zero_le _)
  rw [List.take_zero] at h5
  exact ⟨_, rfl, h5, HB1.out⟩
theorem grow_calls (w : World) (n : Nat) (hn : n ≤ 1000000) : Calls Tryz.prog 107 #[.slice none 0 0, .int .i64 n] w fun e w' => ∃ v, e = .returned v ∧ Kd.R (Kd.int .u64) 52 w' w.heap.size (fun _ => True) v [] ∧ Below w.heap.size w w' := by
  by_cases h : n = 0
  · subst h
    refine (grow_none w).mono ?_
    rintro e w' ⟨rfl, rfl⟩
    exact ⟨_, rfl, Kd.R_nil _ _ _ _ _, Below.refl _ _⟩
  · exact grow_some w n ⟨by omega, hn⟩
set_option maxRecDepth 100000 in
theorem concat_calls (w : World) (b : Nat) (A1 A2 : Option Addr) (c1 c2 : Nat) (l1 l2 : List Int) (hb : w.heap[b]? = some (.cells #[.slice A1 l1.length c1, .slice A2 l2.length c2] 98 (0, 0))) (hC1 : (Kd.int .u64).C w A1 l1.length l1) (hC2 : (Kd.int .u64).C w A2 l2.length l2) (hl : l1.length + l2.length ≤ 1000000) :
    Calls Tryz.prog 58 #[.slice (some ⟨b, 0, none⟩) 2 2] w fun e w' => ∃ v, e = .returned v ∧ Kd.R (Kd.int .u64) 52 w' w.heap.size (fun _ => True) v (l1 ++ l2) ∧ Below w.heap.size w w' := by
  have HB := Aside0.mk hb
  have H1 := Aside0.mk hC1
  have H2 := Aside0.mk hC2
  have HL := Aside0.mk hl
  obtain ⟨p1, p2, _⟩ := cells2 hb
  have g1 : l1.length ≤ 1000000 := by omega
  have g2 : l2.length ≤ 1000000 := by omega
  clear hb hC1 hC2
  go_enter Tryz.func58, Tryz.ntmps58
  go_wp2
  go_loopg [3, 11] 2 (fun kq v3 v11 w' => w' = w ∧ ((kq = 2 ∧ v11 = .int .i64 0 ∧ v3 = .int .i64 0) ∨ (kq = 1 ∧ v11 = .int .i64 1 ∧ v3 = .int .i64 (l1.length : Int)) ∨ (kq = 0 ∧ v11 = .int .i64 2 ∧ v3 = .int .i64 ((l1.length : Int) + (l2.length : Int)))))
  case atStart => exact ⟨rfl, .inl ⟨rfl, rfl, rfl⟩⟩
  case round =>
    obtain ⟨hw, h⟩ := hrel
    subst wr
    rcases h with ⟨rfl, rfl, rfl⟩ | ⟨rfl, rfl, rfl⟩ | ⟨rfl, rfl, rfl⟩
    · go_wp2
      go_roundg 1
      case rel => exact ⟨rfl, .inr (.inl ⟨rfl, rfl, by simp⟩)⟩
      case measure => omega
    · go_wp2
      go_roundg 0
      case rel => exact ⟨rfl, .inr (.inr ⟨rfl, rfl, by simp⟩)⟩
      case measure => omega
    · have HG := Aside0.mk (grow_calls w (l1.length + l2.length) hl)
      rw [Int.natCast_add] at HG
      go_wp2_with (go_at_call 107; (with_reducible refine HG.out.mono ?_); rintro e w3 ⟨v3, rfl, hr, hb3⟩; have HR3 := Aside0.mk hr; have HB3 := Aside0.mk hb3; clear hr hb3)
      go_loopg [6, 27] 2 (fun kq v6 v27 wq => Aside0 (Below w.heap.size w wq) ∧ ((kq = 2 ∧ v27 = .int .i64 0 ∧ Aside0 (Kd.R (Kd.int .u64) 52 wq w.heap.size (fun _ => True) v6 [])) ∨ (kq = 1 ∧ v27 = .int .i64 1 ∧ Aside0 (Kd.R (Kd.int .u64) 52 wq w.heap.size (fun _ => True) v6 l1)) ∨ (kq = 0 ∧ v27 = .int .i64 2 ∧ Aside0 (Kd.R (Kd.int .u64) 52 wq w.heap.size (fun _ => True) v6 (l1 ++ l2)))))
      case atStart => exact ⟨HB3, .inl ⟨rfl, rfl, HR3⟩⟩
      case round =>
        obtain ⟨HBq, h⟩ := hrel
        obtain ⟨r1, r2, _⟩ := cells2 ((HBq.out.block _ (Array.getElem?_eq_some_iff.1 HB.out).1).trans HB.out)
        rcases h with ⟨rfl, rfl, HR⟩ | ⟨rfl, rfl, HR⟩ | ⟨rfl, rfl, HR⟩
        · have HZ := Aside0.mk (show (([] : List Int).length + l1.length) * 8 ≤ 140737488355328 from by simp; omega)
          obtain ⟨A6, c6, rfl⟩ := Kd.R_slice HR.out
          go_wp2_with (first | ((with_reducible refine gate_builtin (b := .append) (xs := #[.tmp 31, .tmp 32]) rfl ?_); at_builtin; go_loud (refine Kd.R_append_rows (Kd.int .u64) (W := wr) (w0 := wr) w.heap.size rfl (.tmp 31) (.tmp 32) 98 52 (.int .u64 0) 8 rfl Tryz.underlying98 info56 rfl (by decide) (by decide) _ ([] : List Int) l1 A1 l1.length c1 (fun _ => True) (fun _ => False) rfl rfl HR.out (Kd.C_below H1.out HBq.out) (fun _ _ h => h) (fun _ h => h.elim) (fun _ _ => trivial) (Below.refl _ _) HBq.out.size HZ.out ?_); intro v5 w5 ho hb hg hat; have HO5 := Aside0.mk ho; have HB5 := Aside0.mk (HBq.out.trans hb); clear ho hb hg hat))
          go_roundg 1
          case rel => exact ⟨HB5, .inr (.inl ⟨rfl, rfl, HO5⟩)⟩
          case measure => omega
        · have HZ := Aside0.mk (show (l1.length + l2.length) * 8 ≤ 140737488355328 from by omega)
          obtain ⟨A6, c6, rfl⟩ := Kd.R_slice HR.out
          go_wp2_with (first | ((with_reducible refine gate_builtin (b := .append) (xs := #[.tmp 31, .tmp 32]) rfl ?_); at_builtin; go_loud (refine Kd.R_append_rows (Kd.int .u64) (W := wr) (w0 := wr) w.heap.size rfl (.tmp 31) (.tmp 32) 98 52 (.int .u64 0) 8 rfl Tryz.underlying98 info56 rfl (by decide) (by decide) _ l1 l2 A2 l2.length c2 (fun _ => True) (fun _ => False) rfl rfl HR.out (Kd.C_below H2.out HBq.out) (fun _ _ h => h) (fun _ h => h.elim) (fun _ _ => trivial) (Below.refl _ _) HBq.out.size HZ.out ?_); intro v5 w5 ho hb hg hat; have HO5 := Aside0.mk ho; have HB5 := Aside0.mk (HBq.out.trans hb); clear ho hb hg hat))
          go_roundg 0
          case rel => exact ⟨HB5, .inr (.inr ⟨rfl, rfl, HO5⟩)⟩
          case measure => omega
        · obtain ⟨A6, c6, rfl⟩ := Kd.R_slice HR.out
          go_wp2
          go_ret
          have HRl := HR.out
          rw [List.length_append] at HRl
          exact ⟨_, rfl, HRl, HBq.out⟩
end Go.Proofs.YtlepcmljmibdnaaGreat
namespace Go.Proofs.YtlepcmljmibdnaaGreat
open Go.RowKit Go.Proofs.YtlepcmljmibdnaaGreatW.PrintWords Go.Proofs.YtlepcmljmibdnaaGreatW.PrintLast Go.Proofs.YtlepcmljmibdnaaGreatW.PrintMore PWalOpens
set_option linter.unusedVariables false
set_option linter.unusedSimpArgs false
section
variable {n0 : Nat} {w w' : World} {Wb B M Bd : Nat} {vc vs v1 : Value} {D D1 D2 : PD} {gen head tail h1 t1 : Int} {S S1 st : List Int} {over : Bool} {s e e2 : Int}
def AddQ (n0 : Nat) (w : World) (Wb B M Bd : Nat) (D1 D2 : PD) (gen head tail : Int) (S st : List Int) (s e e2 : Int) (r : Ending) (w' : World) : Prop :=
  TC n0 (isWD M Bd) w w' ∧ ∃ vc' vs',
    (e ≠ 0 → (e = 2 ∨ e = 51) → r = .returned (.int .i64 e) ∧ WV n0 w' Wb B M Bd vc' vs' D1 gen head tail S false) ∧
    (e ≠ 0 → (e ≠ 2 ∧ e ≠ 51) → r = .returned (.int .i64 50) ∧ WV n0 w' Wb B M Bd vc' vs' D1 gen head tail S true) ∧
    (e = 0 → e2 = 0 → r = .returned (.int .i64 0) ∧ WV n0 w' Wb B M Bd vc' vs' D2 (gen + 1) head s (S ++ st) false) ∧
    (e = 0 → e2 ≠ 0 → r = .returned (.int .i64 50) ∧ WV n0 w' Wb B M Bd vc' vs' D2 gen head tail S true)
theorem ret_code {er : Ending} {e2 : Int} {P Q : Prop} (h1 : e2 = 0 → er = .returned (.int .i64 0) ∧ P) (h2 : e2 ≠ 0 → er = .returned (.int .i64 50) ∧ Q) : ∃ x, er = .returned (.int .i64 x) := by
  by_cases h : e2 = 0
  · exact ⟨_, (h1 h).1⟩
  · exact ⟨_, (h2 h).1⟩
/-- lay, seen by the wal -/
theorem lay_wv {A : Option Addr} {c : Nat} {R : List (List Int)} {r f : Int} (hr : ringP D = r) (hR : RecsOK R) (hf : r - (tail - head) = f) (hres : layP D r f tail R = (D1, st, s, e))
    (ht : 0 ≤ head ∧ head ≤ tail ∧ tail < 18446744073709551000 ∧ tail - head ≤ 4094) (hl : D.cache.length ≤ 850) (h : WV n0 w Wb B M Bd vc vs D gen head tail S over)
    (hT : ∀ W, TC n0 (isWD M Bd) w W → bytesK.C W A R.length R) :
    Calls Tryz.prog 55 #[.pointer (some ⟨Wb, 0, none⟩), .slice A R.length c] w fun x w' => ∃ A' c' vc', x = .returned (.tuple #[.slice A' st.length c', .int .u64 s, .int .i64 e]) ∧ Kd.R (Kd.int .u64) 52 w' w.heap.size (fun _ => True) (.slice A' st.length c') st ∧ WV n0 w' Wb B M Bd vc' vs D1 gen head tail S over ∧ TC n0 (isWD M Bd) w w' := by
  refine (lay_calls A c R r f (D1, st, s, e) hr hR hf hres ht (by omega) h.blk h.away (h.dk.low 0 (Nat.zero_le _)) (fun W hc => hT W ((h.dk.tc hc).mono fun _ _ h => .inl h))).mono ?_
  rintro x w' ⟨v, rfl, hst, vc', ha⟩
  obtain ⟨A', c', rfl⟩ := Kd.R_slice hst
  have h5 := h.disk ha
  exact ⟨A', c', vc', rfl, hst, h5.1, h5.2.mono fun _ _ h => .inl h⟩
set_option maxHeartbeats 1000000 in
theorem add_calls {A : Option Addr} {c : Nat} {R : List (List Int)} {r f : Int} (hr : ringP D = r) (hR : RecsOK R) (hf : r - (tail - head) = f) (hres : layP D r f tail R = (D1, st, s, e)) (hsv : saveP D1 (gen + 1) [head, s] = (D2, e2))
    (ht : 0 ≤ head ∧ head ≤ tail ∧ tail < 18446744073709551000 ∧ tail - head ≤ 4094) (hg : 0 ≤ gen ∧ gen < 18446744073709551615) (hs : 0 ≤ s ∧ s < 18446744073709551616) (hl : D.cache.length ≤ 850) (hl1 : D1.cache.length ≤ 900) (hS : S.length + st.length ≤ 1000000) (h : WV n0 w Wb B M Bd vc vs D gen head tail S false)
    (hT : ∀ W, TC n0 (isWD M Bd) w W → bytesK.C W A R.length R) :
    Calls Tryz.prog 15 #[.pointer (some ⟨Wb, 0, none⟩), .slice A R.length c] w (AddQ n0 w Wb B M Bd D1 D2 gen head tail S st s e e2) := by
  obtain ⟨As, cs, rfl⟩ := Kd.R_slice h.st
  have HK := Aside0.mk (wok_calls h.blk)
  have HLY := Aside0.mk (lay_wv (c := c) hr hR hf hres ht hl h hT)
  have HH := Aside0.mk h
  have HSV := Aside0.mk hsv
  have HS := Aside0.mk hS
  have HL1 := Aside0.mk hl1
  have HHD := Aside0.mk (show 0 ≤ head ∧ head < 18446744073709551616 from by omega)
  have HN0 := Aside0.mk (show n0 ≤ w.heap.size from h.dk.base_le)
  simp only [Bool.not_false, Bool.and_self] at HK
  clear h hr hR hf hres hT hsv hS ht
  by_cases he : e = 0
  · subst he
    go_enter Tryz.func15, Tryz.ntmps15
    go_wp2_with (first
      | (go_at_call 54; (with_reducible refine HK.out.mono ?_); rintro e w' ⟨rfl, rfl⟩)
      | (go_at_call 55; (with_reducible refine HLY.out.mono ?_); rintro e w1 ⟨A1, c1, vc1, rfl, hst, hv, htc⟩; have HST := Aside0.mk hst; have HV := Aside0.mk hv; have HTC := Aside0.mk htc; clear hst hv htc))
    obtain ⟨⟨q0, q1, q2, q3, q4, q5, q6⟩, _⟩ := cells7 HV.out.blk
    clear q0 q1 q3 q5 q6
    obtain ⟨W2, hW2⟩ : ∃ W2, (w1.alloc (.cells #[.slice As S.length cs, .slice A1 st.length c1] 98)).drew = W2 := ⟨_, rfl⟩
    have HB2 := Aside0.mk (show Below w1.heap.size w1 W2 from by rw [← hW2]; exact ((Below.refl w1.heap.size w1).alloc (Nat.le_refl _) _).drew)
    have HCC := Aside0.mk (concat_calls W2 w1.heap.size As A1 cs c1 S st (by rw [← hW2]; exact heap_alloc_new w1 _) (Kd.C_below (Kd.R_reads' HV.out.st).2.2 HB2.out) (Kd.C_below (Kd.R_reads' HST.out).2.2 HB2.out) HS.out)
    have HW2 := Aside0.mk hW2
    clear hW2
    go_wp2
    refine Fork.wp_fork (Fork.Lo.rel 0) [13] [] (.one 0 0 (.one 1 0 (.one 2 0 (.one 3 0 (.one 5 0 (.one 6 0 (.one 7 0 (.one 8 0 (.one 10 0 (.one 4 1 (.one 9 1 (.one 11 2 (.one 12 2 (.one 13 2 (.one 14 0 .nil))))))))))))))) (by kernel_rfl) (by kernel_rfl) ?_
    generalize hops : List.toArray (_ : List Oper) = ops
    have HO := Aside0.mk hops
    clear hops
    iterate 9 ((refine Fork.plain (Fork.at_ HO.out rfl) _ rfl (fun W => by go_simp; exact rfl) ?_); simp only [Act.put, List.setIfInBounds_toArray, List.set_cons_succ, List.set_cons_zero])
    refine Fork.reads (Fork.at_ HO.out rfl) _ rfl (fun W hW => Arr.ex_load1 rfl rfl (by kernel_rfl) (Fork.bel_cell hW (by assumption))) ?_
    simp only [Act.put, List.setIfInBounds_toArray, List.set_cons_succ, List.set_cons_zero]
    refine Fork.reads (Fork.at_ HO.out rfl) _ rfl (fun W hW => Arr.ex_load1 rfl rfl (by kernel_rfl) (Fork.bel_cell hW (by assumption))) ?_
    simp only [Act.put, List.setIfInBounds_toArray, List.set_cons_succ, List.set_cons_zero]
    refine Fork.step (Fork.at_ HO.out rfl) (fun K hK => ?_)
    go_simp
    refine hK _ _ (.of_new ((Below.refl _ _).alloc (Nat.le_refl _) _) (Nat.zero_le _)) ?_
    clear hK K
    try simp only [Act.put, List.setIfInBounds_toArray, List.set_cons_succ, List.set_cons_zero]
    refine Fork.step (Fork.at_ HO.out rfl) (fun K hK => ?_)
    go_simp
    rw [HW2.out]
    (with_reducible refine HCC.out.mono ?_)
    rintro er w3 ⟨v3, rfl, hr3, hb3⟩
    refine hK _ _ (.of_new (by rw [HW2.out]; exact hb3) (Nat.zero_le _)) ?_
    clear hK K
    have HR3 := Aside0.mk (Kd.R_lower hr3 (Nat.le_trans HN0.out (Nat.le_trans HTC.out.low.size HB2.out.size)))
    have HV3 := Aside0.mk (HV.out.fresh (HB2.out.trans (hb3.mono HB2.out.size)))
    have HB3 := Aside0.mk (HB2.out.trans (hb3.mono HB2.out.size))
    clear hr3 hb3
    try simp only [Act.put, List.setIfInBounds_toArray, List.set_cons_succ, List.set_cons_zero]
    refine Fork.step (Fork.at_ HO.out rfl) (fun K hK => ?_)
    go_simp
    (with_reducible refine (turn_calls e2 HSV.out hg HHD.out hs HL1.out HV3.out HR3.out).mono ?_)
    rintro er w4 ⟨ht4, vc4, hq1, hq2⟩
    have HT4 := Aside0.mk (HTC.out.trans ((TC.of_below HB3.out (Nat.le_trans HN0.out HTC.out.low.size)).trans ht4))
    have HL4 := Aside0.mk (show Fork.Lo 0 w3 w4 from Fork.Lo.zero ht4.low.os ht4.low.tape ht4.low.output)
    have HQ4 := Aside0.mk (And.intro hq1 hq2)
    clear hq1 hq2 ht4
    obtain ⟨x4, rfl⟩ : ∃ x4, er = .returned (.int .i64 x4) := ret_code HQ4.out.1 HQ4.out.2
    refine hK _ _ (Fork.Grow.of_old HL4.out rfl) ?_
    clear hK K
    try simp only [Act.put, List.setIfInBounds_toArray, List.set_cons_succ, List.set_cons_zero]
    ((refine Fork.plain (Fork.at_ HO.out rfl) _ rfl (fun W => by go_simp; exact rfl) ?_); simp only [Act.put, List.setIfInBounds_toArray, List.set_cons_succ, List.set_cons_zero])
    refine Fork.done ?_
    go_wp2
    go_ret
    refine ⟨HT4.out, vc4, if e2 = 0 then v3 else .slice As S.length cs, fun h => absurd rfl h, fun h => absurd rfl h, fun _ h2 => ?_, fun _ h2 => ?_⟩
    · rw [if_pos h2]
      exact HQ4.out.1 h2
    · rw [if_neg h2]
      exact HQ4.out.2 h2
  · have he' : (e != 0) = true := by simp; exact he
    by_cases he2 : e = 2 ∨ e = 51
    · have HE := Aside0.mk (fun w => wend_same (w := w) (Wb := Wb) e he2)
      go_enter Tryz.func15, Tryz.ntmps15
      go_wp2_with (first
        | (go_at_call 54; (with_reducible refine HK.out.mono ?_); rintro e w' ⟨rfl, rfl⟩)
        | (go_at_call 55; (with_reducible refine HLY.out.mono ?_); rintro er w1 ⟨A1, c1, vc1, rfl, hst, hv, htc⟩; have HV := Aside0.mk hv; have HTC := Aside0.mk htc; clear hst hv htc)
        | (go_at_call 56; (with_reducible refine (HE.out w1).mono ?_); rintro er w' ⟨rfl, rfl⟩))
      go_ret
      exact ⟨HTC.out, vc1, .slice As S.length cs, fun _ _ => ⟨rfl, HV.out⟩, fun _ h => absurd he2 (by omega), fun h => absurd h he, fun h => absurd h he⟩
    · have HE := Aside0.mk (fun w (h : WlC w Wb B gen head tail (.slice As S.length cs) true false) => wend_over e (by omega) h)
      go_enter Tryz.func15, Tryz.ntmps15
      go_wp2_with (first
        | (go_at_call 54; (with_reducible refine HK.out.mono ?_); rintro e w' ⟨rfl, rfl⟩)
        | (go_at_call 55; (with_reducible refine HLY.out.mono ?_); rintro er w1 ⟨A1, c1, vc1, rfl, hst, hv, htc⟩; have HV := Aside0.mk hv; have HTC := Aside0.mk htc; clear hst hv htc)
        | (go_at_call 56; (with_reducible refine (HE.out w1 HV.out.blk).mono ?_); rintro er w' ⟨rfl, rfl⟩))
      go_ret
      exact ⟨HTC.out.trans ((HV.out.tcW 6 _).mono fun _ _ h => .inr h), vc1, .slice As S.length cs, fun _ h => absurd h he2, fun _ _ => ⟨rfl, HV.out.overed⟩, fun h => absurd h he, fun h => absurd h he⟩
end
end Go.Proofs.YtlepcmljmibdnaaGreat
namespace Go.Proofs.YtlepcmljmibdnaaGreat
open Go.RowKit Go.Proofs.YtlepcmljmibdnaaGreatW.PrintWords Go.Proofs.YtlepcmljmibdnaaGreatW.PrintLast Go.Proofs.YtlepcmljmibdnaaGreatW.PrintMore PWalOpens
set_option linter.unusedVariables false
set_option linter.unusedSimpArgs false
section
variable {n0 : Nat} {w w' : World} {Wb B M Bd : Nat} {vc vs v1 : Value} {D D1 D2 : PD} {gen head tail : Int} {S : List Int} {over : Bool} {x e : Int}
def CutQ (n0 : Nat) (w : World) (Wb B M Bd : Nat) (D1 : PD) (gen head tail x : Int) (S : List Int) (n : Nat) (e : Int) (r : Ending) (w' : World) : Prop :=
  TC n0 (isWD M Bd) w w' ∧ ∃ vc' vs', (e = 0 → r = .returned (.int .i64 0) ∧ WV n0 w' Wb B M Bd vc' vs' D1 (gen + 1) x tail (S.drop n) false) ∧ (e ≠ 0 → r = .returned (.int .i64 50) ∧ WV n0 w' Wb B M Bd vc' vs' D1 gen head tail S true)
end
end Go.Proofs.YtlepcmljmibdnaaGreat
namespace Go.Proofs.YtlepcmljmibdnaaGreat
open Go.RowKit Go.Proofs.YtlepcmljmibdnaaGreatW.PrintWords Go.Proofs.YtlepcmljmibdnaaGreatW.PrintLast Go.Proofs.YtlepcmljmibdnaaGreatW.PrintMore PWalOpens
set_option linter.unusedVariables false
set_option linter.unusedSimpArgs false
theorem winv_start {n r : Int} (hm : min (max n 0) 4096 = r + 2) (hr : 1 ≤ r) : ∃ D1 S1, wformatP (newP n) = (D1, 0) ∧ WInv D1 S1 r 0 0 0 [] := by
  have r0 := rdy_new n
  rw [hm] at r0
  have hz : ∀ x ∈ [(0 : Int), 0], 0 ≤ x ∧ x < 18446744073709551616 := by intro x hx; simp at hx; omega
  obtain ⟨f1, f2, f3⟩ := r0.format (by omega) [0, 0] (by simp)
  have hring : ringP (newP n) = r := by unfold ringP; rw [r0.n]; omega
  refine ⟨_, _, ?_, f2, hr, f3, (OKD.new n).format [0, 0] hz, ?_, ?_, by omega, rfl, by omega, by omega, fun b hb => by cases hb⟩
  · unfold wformatP
    rw [hring, if_neg (by omega)]
    exact Prod.ext rfl f1
  · show unP (updS _ 0 (pad (slotB 0 [0, 0])) 0) = _
    unfold updS
    rw [if_pos rfl]
    exact unP_pad 0 [0, 0] (by omega) (by simp) hz
  · left
    show (unP (updS (updS (updS (fun _ => zsec) 0 zsec) 1 zsec) 0 (pad (slotB 0 [0, 0])) 1)).2.2 ≠ 0
    unfold updS
    rw [if_neg (by decide), if_pos rfl, unP_zsec]
    decide
/-- two texts, laid as a literal lays them -/
theorem box_cellm {w : World} {b : Nat} {v : Value} {t : Nat} {m : Nat × Nat} (h : w.heap[b]? = some (.cells #[v] t m)) : w.cell? ⟨b, 0, none⟩ = some v := by
  unfold World.cell?
  simp [h]
section
variable {n0 : Nat} {w w' : World} {B M Bd : Nat} {vc : Value} {D : PD}
/-- Open went well -/
theorem op_ok {res : Int × Int × Int × List Int × List (List Int) × Int} {e : Ending} (h : OpQ w B M Bd vc D res e w') (h0 : opErr res = 0) (hn : n0 ≤ w.heap.size) (hd : DK w n0 B M Bd vc D) :
    ∃ Wb vs vo, e = .returned (.tuple #[.pointer (some ⟨Wb, 0, none⟩), vo, .int .i64 0]) ∧ WV n0 w' Wb B M Bd vc vs D res.1 res.2.1 res.2.2.1 res.2.2.2.1 false ∧ Below w.heap.size w w' ∧ Kd.R bytesK 58 w' w.heap.size (fun _ => True) vo res.2.2.2.2.1 := by
  rcases h with ⟨h1, _⟩ | ⟨_, Wb, vs, vo, rfl, hS⟩
  · exact absurd h0 h1
  · exact ⟨Wb, vs, vo, rfl, ⟨hS.blk, Nat.le_trans hn hS.hW, hd.chg (.of_below hS.low), Kd.R_lower hS.st hn⟩, hS.low, hS.out⟩
end
end Go.Proofs.YtlepcmljmibdnaaGreat
namespace Go.Proofs.YtlepcmljmibdnaaGreat
open Go.RowKit Go.Proofs.YtlepcmljmibdnaaGreatW.PrintWords Go.Proofs.YtlepcmljmibdnaaGreatW.PrintLast Go.Proofs.YtlepcmljmibdnaaGreatW.PrintMore PWalOpens
set_option linter.unusedVariables false
set_option linter.unusedSimpArgs false
end Go.Proofs.YtlepcmljmibdnaaGreat
namespace Go.Proofs.YtlepcmljmibdnaaGreat
open Go.RowKit Go.Proofs.YtlepcmljmibdnaaGreatW.PrintWords Go.Proofs.YtlepcmljmibdnaaGreatW.PrintLast Go.Proofs.YtlepcmljmibdnaaGreatW.PrintMore PWalOpens
set_option linter.unusedVariables false
set_option linter.unusedSimpArgs false
def rringX (X : RX) : Int := max ((X.S.length : Int) - 2) 0
def rwformatX (X : RX) : RX × Int := if rringX X < 1 then (X, 51) else rformatX X [0, 0]
section
variable {w : World} {base R : Nat} {vS vC vB : Value} {X X1 : RX} {e : Int}
end
end Go.Proofs.YtlepcmljmibdnaaGreat
namespace Go.Proofs.YtlepcmljmibdnaaGreat
open Go.RowKit Go.Proofs.YtlepcmljmibdnaaGreatW.PrintWords Go.Proofs.YtlepcmljmibdnaaGreatW.PrintLast Go.Proofs.YtlepcmljmibdnaaGreatW.PrintMore PWalOpens
set_option linter.unusedVariables false
set_option linter.unusedSimpArgs false
def UrQ (w : World) (b : List Int) (e : Ending) (w' : World) : Prop :=
  ∃ A' c', e = .returned (.tuple #[.slice A' (unF b).1.length c', .int .i64 (unF b).2.1, .int .i64 (unF b).2.2]) ∧ (Kd.int .u8).C w' A' (unF b).1.length (unF b).1 ∧ Below w.heap.size w w'
end Go.Proofs.YtlepcmljmibdnaaGreat
namespace Go.Proofs.YtlepcmljmibdnaaGreat
open Go.RowKit Go.Proofs.YtlepcmljmibdnaaGreatW.PrintWords Go.Proofs.YtlepcmljmibdnaaGreatW.PrintLast Go.Proofs.YtlepcmljmibdnaaGreatW.PrintMore PWalOpens
set_option linter.unusedVariables false
set_option linter.unusedSimpArgs false
def recK : Kd (List Int × Int × Int) := Kd.pair bytesK (Kd.pair (Kd.int .u64) (Kd.int .u64))
abbrev Rec := List Int × Int × Int
/-- the reference's loop: k sectors to go from p on; the record under way began at fr -/
def ropenGo (X : RX) (r : Int) : Nat → Int → Int → List Int → List Rec → List Rec × Int
  | 0, _, _, all, L => if 0 < all.length then ([], 70) else (L, 0)
  | k + 1, p, fr, all, L =>
    if (rreadX X (sectP r p)).2 ≠ 0 then ([], (rreadX X (sectP r p)).2) else
      if (unF (all ++ (rreadX X (sectP r p)).1)).2.2 = 0 then ropenGo X r k (p + 1) (p + 1) [] (L ++ [((unF (all ++ (rreadX X (sectP r p)).1)).1, fr, p + 1)])
      else ropenGo X r k (p + 1) fr (all ++ (rreadX X (sectP r p)).1) L
def ropenX (X : RX) : Int × Int × List Rec × Int :=
  if (rloadX X).2.2 ≠ 0 then (0, 0, [], (rloadX X).2.2) else
    match (rloadX X).2.1 with
    | [h, t] => if t < h ∨ rringX X < t - h then (0, 0, [], 70) else
        ((rloadX X).1, t, (ropenGo X (rringX X) (t - h).toNat h h [] []).1, (ropenGo X (rringX X) (t - h).toNat h h [] []).2)
    | _ => (0, 0, [], 70)
/-- a wal of the reference's, new, seen from w; va: a row that is not among the records' -/
structure RwS (w w' : World) (Rb R : Nat) (va vL : Value) (gen tail : Int) (L : List Rec) : Prop where
  blk : w'.heap[Rb]? = some (.cells #[.pointer (some ⟨R, 0, none⟩), .int .u64 gen, .int .u64 tail, vL, .bool false] 55 (0, 0))
  hW : w.heap.size ≤ Rb
  low : Below w.heap.size w w'
  L : Kd.R recK 112 w' w.heap.size (fun k => some k ≠ va.ownBlock) vL L
def OwQ (w : World) (R : Nat) (res : Int × Int × List Rec × Int) (e : Ending) (w' : World) : Prop :=
  (res.2.2.2 ≠ 0 ∧ e = .returned (.tuple #[.pointer none, .int .i64 res.2.2.2]) ∧ Below w.heap.size w w') ∨
  (res.2.2.2 = 0 ∧ ∃ Rb vL, e = .returned (.tuple #[.pointer (some ⟨Rb, 0, none⟩), .int .i64 0]) ∧ RwS w w' Rb R (.slice none 0 0) vL res.1 res.2.1 res.2.2.1)
/-- what a disk's readings are -/
structure RdX (X : RX) : Prop where
  bytes : ∀ a, isBytes (rreadX X a).1
  full : ∀ a, (rreadX X a).2 = 0 → (rreadX X a).1.length = 64
  most : ∀ a, (rreadX X a).1.length ≤ 64
  cache : X.cache.length ≤ 1000
section
variable {w : World} {base R : Nat} {vS vC vB : Value} {X : RX}
end
end Go.Proofs.YtlepcmljmibdnaaGreat
