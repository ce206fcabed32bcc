/- Parts of one proof, joined: Xh, Xi, Xj, Qk, Ql, Cu, Qm, Xk. Conditions: those of each statement. -/
import Derived.Test.YtlepcmljmibdnaaGreatQx11
import Derived.Test.YtlepcmljmibdnaaGreatQx9
namespace Go.Proofs.YtlepcmljmibdnaaGreat
open Go.RowKit Go.Proofs.YtlepcmljmibdnaaGreatW.PrintWords Go.Proofs.YtlepcmljmibdnaaGreatW.PrintLast Go.Proofs.YtlepcmljmibdnaaGreatW.PrintMore PWalOpens
set_option linter.unusedVariables false
set_option linter.unusedSimpArgs false
theorem read_full {X : RX} (hx : XOk X) (i : Int) (h0 : (rreadX X i).2 = 0) : (rreadX X i).1.length = 64 := by
  unfold rreadX at h0 ⊢
  split at h0
  · cases h0
  · rename_i h1
    rw [if_neg h1]
    split at h0
    · cases h0
    · rename_i h2
      rw [if_neg h2]
      split at h0
      · cases h0
      · rename_i h3
        rw [if_neg h3]
        have key : ∀ (l : List (Int × List Int)), (∀ p ∈ l, p.2.length = 64) → ∀ s : List Int, s.length = 64 → (readL s l i).length = 64 := by
          intro l
          induction l with
          | nil => intro _ s hs; exact hs
          | cons p l ih =>
            intro hl s hs
            unfold readL
            rw [List.foldl_cons]
            refine ih (fun q hq => hl q (by simp [hq])) _ ?_
            split
            · exact hl p (by simp)
            · exact hs
        refine key _ (fun p hp => (hx.c64 p hp).1) _ ?_
        have hi : inB i X.S.length = true := by simpa using h2
        unfold inB at hi
        have hi2 := of_decide_eq_true hi
        have hs : X.S[i.toNat]? = some (X.S[i.toNat]'(by omega)) := List.getElem?_eq_getElem (by omega)
        simp only [List.getD, hs, Option.getD_some]
        exact hx.s64 _ (List.getElem_mem _)
/-- a disk and the reference's disk, alike -/
structure Twin (D : PD) (X : RX) : Prop where
  corr : Corr D X
  xok : XOk X
  ok : OKD D
section
variable {D : PD} {X : RX}
theorem Twin.read (h : Twin D X) (a : Int) : readP D a = rreadX X a := corr_read h.corr h.xok a
theorem Twin.rdx (h : Twin D X) (hc : D.cache.length ≤ 1000) : RdX X :=
  ⟨fun a => by rw [← h.read a]; exact readP_bytes h.ok.ok a, fun a h0 => read_full h.xok a h0, fun a => read_len h.corr h.xok a, by rw [← h.corr.cache]; exact hc⟩
theorem Twin.ring (h : Twin D X) : rringX X = ringP D := by
  unfold rringX ringP
  rw [h.corr.n]
theorem Twin.write (h : Twin D X) (a : Int) {b : List Int} (hb : isBytes b) : (writeP D a b).2 = (rwriteX X a b).2 ∧ Twin (writeP D a b).1 (rwriteX X a b).1 := by
  obtain ⟨h1, h2⟩ := corr_write h.corr a b
  exact ⟨h1, h2, xok_write h.xok a b, h.ok.write a hb⟩
theorem Twin.save (h : Twin D X) (g : Int) (l : List Int) (hg : 0 ≤ g ∧ g < 18446744073709551616) (hn : ∀ n ∈ l, 0 ≤ n ∧ n < 18446744073709551616) : (saveP D g l).2 = (rsaveX X g l).2 ∧ Twin (saveP D g l).1 (rsaveX X g l).1 := by
  obtain ⟨h1, h2⟩ := corr_save h.corr h.xok g l
  refine ⟨h1, h2, ?_, h.ok.save g l hg hn⟩
  have x1 := xok_flush h.xok
  have x2 := xok_write x1 (g % 2) (slotB g l)
  have x3 := xok_flush x2
  unfold rsaveX
  repeat' split
  · exact h.xok
  · exact x1
  · exact x2
  · exact x3
end
/-- the sectors up to q don't begin with a frame, those up to q + 1 do: the frame ends in that sector -/
theorem unF_end {a b : List Int} {n : Int} (hb : isBytes (a ++ b)) (ha : a = [] ∨ (unF a).2.2 ≠ 0) (h0 : (unF (a ++ b)).2.2 = 0) (hn : (unF (a ++ b)).2.1 = n) : (a.length : Int) < n ∧ n ≤ a.length + b.length := by
  subst hn
  obtain ⟨m, hm, h7, hl⟩ := unF_size h0
  rw [hm]
  rw [List.length_append] at hl
  refine ⟨?_, by omega⟩
  rcases ha with rfl | ha
  · simp; omega
  · by_cases hc : a.length < m
    · omega
    · exfalso
      have hv : unV (a ++ b) = true := by
        unfold unF at h0
        split at h0
        · assumption
        · cases h0
      obtain ⟨x, hx, hp, hxx⟩ := (unV_iff hb).1 hv
      have hba : isBytes a := fun z hz => hb z (List.mem_append_left _ hz)
      have hxm : x.length + 7 = m := by
        have hfr : frN (a ++ b) = x.length := by
          have hle : 7 + frN (a ++ b) = m := by
            unfold unF at hm
            rw [if_pos hv] at hm
            simp only at hm
            omega
          have h1 : x.length = min (frN (a ++ b)) ((a ++ b).length - 3) := by
            have := congrArg List.length hxx
            rw [List.length_take, List.length_drop] at this
            exact this
          rw [List.length_append] at h1
          omega
        unfold unF at hm
        rw [if_pos hv, hfr] at hm
        simp only at hm
        omega
      have hpa : frameB x <+: a := by
        rw [List.prefix_iff_eq_take] at hp ⊢
        rw [hp, frameB_len, List.length_take, List.length_append, List.take_append_of_le_length (by omega)]
        congr 1
        omega
      obtain ⟨t, ht⟩ := hpa
      have hfa : frN a = x.length := by rw [← ht]; exact frN_frame hx
      have hva : unV a = true := (unV_iff hba).2 ⟨x, hx, ⟨t, ht⟩, by
        have hfab : frN (a ++ b) = frN a := by
          rw [hfa, ← ht, List.append_assoc]
          exact frN_frame hx
        refine hxx.trans ?_
        rw [hfab, hfa, List.drop_append_of_le_length (by omega), List.take_append_of_le_length (by rw [List.length_drop]; omega)]⟩
      refine ha ?_
      unfold unF
      rw [if_pos hva]
section
variable {D : PD} {X : RX} {r t : Int}
/-- one record: the wal's way beside the reference's -/
theorem rec_two (h : Twin D X) (p : Int) : ∀ (k : Nat) (all : List Int) (q : Int) (L : List Rec), q + k = t → (all.length : Int) = 64 * (q - p) → (all = [] ∨ (unF all).2.2 ≠ 0) → (k = 0 → all ≠ []) → isBytes all →
    ((recGo D r p k all q).2.2 ≠ 0 → (ropenGo X r k q p all L).2 = (recGo D r p k all q).2.2) ∧
    ((recGo D r p k all q).2.2 = 0 → q < (recGo D r p k all q).2.1 ∧ (recGo D r p k all q).2.1 ≤ t ∧ ropenGo X r k q p all L = ropenGo X r (t - (recGo D r p k all q).2.1).toNat (recGo D r p k all q).2.1 (recGo D r p k all q).2.1 [] (L ++ [((recGo D r p k all q).1, p, (recGo D r p k all q).2.1)]))
  | 0, all, q, L, hq, hl, ha, h0, hb => by
    have hne := h0 rfl
    have hlp : 0 < all.length := List.length_pos_iff.2 hne
    constructor
    · intro _
      unfold ropenGo recGo
      rw [if_pos hlp]
    · intro h
      cases h
  | k + 1, all, q, L, hq, hl, ha, h0, hb => by
    obtain ⟨s, e, hrd⟩ : ∃ s e, readP D (sectP r q) = (s, e) := ⟨_, _, rfl⟩
    have hrd2 : rreadX X (sectP r q) = (s, e) := by rw [← h.read]; exact hrd
    have hsb : isBytes s := by have := readP_bytes h.ok.ok (sectP r q); rw [hrd] at this; exact this
    have h64 : e = 0 → s.length = 64 := fun he => by have := read_full h.xok (sectP r q); rw [hrd2] at this; exact this he
    have hab : isBytes (all ++ s) := fun x hx => (List.mem_append.1 hx).elim (hb x) (hsb x)
    have u1 : recGo D r p (k + 1) all q = if (readP D (sectP r q)).2 ≠ 0 then ([], 0, (readP D (sectP r q)).2) else if (unF (all ++ (readP D (sectP r q)).1)).2.2 = 0 then ((unF (all ++ (readP D (sectP r q)).1)).1, p + ((unF (all ++ (readP D (sectP r q)).1)).2.1 + 63) / 64, 0) else recGo D r p k (all ++ (readP D (sectP r q)).1) (q + 1) := rfl
    have u2 : ropenGo X r (k + 1) q p all L = if (rreadX X (sectP r q)).2 ≠ 0 then ([], (rreadX X (sectP r q)).2) else if (unF (all ++ (rreadX X (sectP r q)).1)).2.2 = 0 then ropenGo X r k (q + 1) (q + 1) [] (L ++ [((unF (all ++ (rreadX X (sectP r q)).1)).1, p, q + 1)]) else ropenGo X r k (q + 1) p (all ++ (rreadX X (sectP r q)).1) L := rfl
    rw [u1, u2, hrd, hrd2]
    clear u1 u2
    simp only
    by_cases he : e = 0
    · subst he
      have h64' := h64 rfl
      simp only [ne_eq, not_true_eq_false, if_false]
      by_cases hu : (unF (all ++ s)).2.2 = 0
      · simp only [if_pos hu]
        obtain ⟨n, hn⟩ : ∃ n, (unF (all ++ s)).2.1 = n := ⟨_, rfl⟩
        have hend := unF_end hab ha hu hn
        rw [h64'] at hend
        have hnx : p + (n + 63) / 64 = q + 1 := by omega
        rw [hn, hnx]
        refine ⟨fun h => absurd trivial h, fun _ => ⟨by omega, by omega, ?_⟩⟩
        rw [show (t - (q + 1)).toNat = k by omega]
      · simp only [if_neg hu]
        have ih := rec_two h p k (all ++ s) (q + 1) L (by omega) (by rw [List.length_append, h64']; omega) (.inr hu) (fun _ e => by have := congrArg List.length e; rw [List.length_append, h64'] at this; simp at this) hab
        refine ⟨ih.1, fun h => ?_⟩
        have := ih.2 h
        exact ⟨by omega, this.2⟩
    · simp only [ne_eq, he, not_false_eq_true, if_true]
      exact ⟨fun _ => trivial, fun h => absurd h id⟩
/-- all of them -/
theorem open_two (h : Twin D X) : ∀ (f : Nat) (p : Int) (L : List Rec), p ≤ t → (t - p).toNat ≤ f →
    (ropenGo X r (t - p).toNat p p [] L).2 = (openGo D r t f p).2.2 ∧ ((openGo D r t f p).2.2 = 0 → ∃ L2 : List Rec, (ropenGo X r (t - p).toNat p p [] L).1 = L ++ L2 ∧ L2.map (·.1) = (openGo D r t f p).2.1 ∧ L2.map (·.2.1) = (openGo D r t f p).1)
  | 0, p, L, hp, hf => by
    have hpt : p = t := by omega
    rw [show (t - p).toNat = 0 by omega]
    unfold ropenGo openGo
    rw [if_pos hpt, if_neg (by simp)]
    exact ⟨rfl, fun _ => ⟨[], by simp, rfl, rfl⟩⟩
  | f + 1, p, L, hp, hf => by
    by_cases hpt : p = t
    · rw [show (t - p).toNat = 0 by omega]
      unfold ropenGo openGo
      rw [if_pos hpt, if_neg (by simp)]
      exact ⟨rfl, fun _ => ⟨[], by simp, rfl, rfl⟩⟩
    · obtain ⟨r1, r2⟩ := rec_two (r := r) (t := t) h p (t - p).toNat [] p L (by omega) (by simp) (.inl rfl) (fun hk => by omega) (fun x hx => by cases hx)
      unfold openGo
      rw [if_neg hpt]
      by_cases he : (recGo D r p (t - p).toNat [] p).2.2 = 0
      · obtain ⟨r3, r4, r5⟩ := r2 he
        rw [if_neg (fun hh => hh he), r5]
        obtain ⟨s1, s2⟩ := open_two h f (recGo D r p (t - p).toNat [] p).2.1 (L ++ [((recGo D r p (t - p).toNat [] p).1, p, (recGo D r p (t - p).toNat [] p).2.1)]) r4 (by omega)
        refine ⟨s1, fun h0 => ?_⟩
        obtain ⟨L2, k1, k2, k3⟩ := s2 h0
        exact ⟨((recGo D r p (t - p).toNat [] p).1, p, (recGo D r p (t - p).toNat [] p).2.1) :: L2, by rw [k1]; simp, by simp only [List.map_cons, k2], by simp only [List.map_cons, k3]⟩
      · rw [if_pos he]
        exact ⟨r1 he, fun h0 => absurd h0 he⟩
/-- what is opened, on both sides -/
theorem opens_two (h : Twin D X) : (ropenX X).2.2.2 = opErr (openP D) ∧ (opErr (openP D) = 0 → (ropenX X).1 = (openP D).1 ∧ (ropenX X).2.1 = (openP D).2.2.1 ∧ (ropenX X).2.2.1.map (·.1) = (openP D).2.2.2.2.1 ∧ (ropenX X).2.2.1.map (·.2.1) = (openP D).2.2.2.1) := by
  unfold ropenX openP opErr
  rw [← corr_load h.corr h.xok, h.ring]
  by_cases he : (loadP D).2.2 = 0
  · rw [if_neg (fun hh => hh he), if_neg (fun hh => hh he)]
    match hl : (loadP D).2.1 with
    | [] => exact ⟨rfl, fun h => by cases h⟩
    | [a] => exact ⟨rfl, fun h => by cases h⟩
    | [a, b] =>
      simp only
      by_cases hb : b < a ∨ ringP D < b - a
      · rw [if_pos hb, if_pos hb]
        exact ⟨rfl, fun h => by cases h⟩
      · rw [if_neg hb, if_neg hb]
        obtain ⟨s1, s2⟩ := open_two (r := ringP D) (t := b) h (b - a).toNat a [] (by omega) (Nat.le_refl _)
        refine ⟨s1, fun h0 => ?_⟩
        obtain ⟨L2, k1, k2, k3⟩ := s2 h0
        rw [List.nil_append] at k1
        exact ⟨rfl, rfl, by rw [k1]; exact k2, by rw [k1]; exact k3⟩
    | a :: b :: c :: d => exact ⟨rfl, fun h => by cases h⟩
  · rw [if_pos he, if_pos he]
    exact ⟨rfl, fun h => absurd h he⟩
end
end Go.Proofs.YtlepcmljmibdnaaGreat
namespace Go.Proofs.YtlepcmljmibdnaaGreat
open Go.RowKit Go.Proofs.YtlepcmljmibdnaaGreatW.PrintWords Go.Proofs.YtlepcmljmibdnaaGreatW.PrintLast Go.Proofs.YtlepcmljmibdnaaGreatW.PrintMore PWalOpens
set_option linter.unusedVariables false
set_option linter.unusedSimpArgs false
theorem writeP_n (D : PD) (a : Int) (b : List Int) : (writeP D a b).1.n = D.n := by
  unfold writeP
  split
  · rfl
  · split
    · rfl
    · split
      · rfl
      · split
        · exact actP_n D
        · exact actP_n D
section
variable {r : Int}
theorem write_code {D : PD} (hn : D.n = r + 2) (hr : 1 ≤ r) (s : Int) {c : List Int} (hc : c.length ≤ 64) : (writeP D (sectP r s) c).2 = 0 ∨ (writeP D (sectP r s) c).2 = 50 := by
  have hs := sectP_in (p := s) hr
  unfold writeP
  split
  · exact .inr rfl
  · rw [if_neg (by rw [hn]; unfold inB; simp; omega), if_neg (by omega)]
    split
    · exact actP_code D
    · exact .inl rfl
theorem layC_both (hr : 1 ≤ r) : ∀ (cs : List (List Int)) (D : PD) (X : RX) (s : Int), Twin D X → D.n = r + 2 → (∀ c ∈ cs, c.length ≤ 64 ∧ isBytes c) →
    ∃ D' X' s' e, layC r cs D s = (D', s', e) ∧ rlayC r cs X s = (X', s', e) ∧ Twin D' X' ∧ D'.n = r + 2 ∧ (e = 0 ∨ e = 50) ∧ (e = 0 → s' = s + cs.length) ∧ D'.cache.length ≤ D.cache.length + cs.length
  | [], D, X, s, h, hn, _ => ⟨D, X, s, 0, rfl, rfl, h, hn, .inl rfl, fun _ => by simp, by simp⟩
  | c :: cs, D, X, s, h, hn, hc => by
    have hc0 := hc c (List.mem_cons_self ..)
    obtain ⟨w1, w2⟩ := h.write (sectP r s) hc0.2
    have hn2 := (writeP_n D (sectP r s) c).trans hn
    have hcd := write_code hn hr s hc0.1
    have hca := writeP_cache D (sectP r s) c
    have u1 : layC r (c :: cs) D s = if (writeP D (sectP r s) c).2 ≠ 0 then ((writeP D (sectP r s) c).1, s, (writeP D (sectP r s) c).2) else layC r cs (writeP D (sectP r s) c).1 (s + 1) := rfl
    have u2 : rlayC r (c :: cs) X s = if (rwriteX X (sectP r s) c).2 ≠ 0 then ((rwriteX X (sectP r s) c).1, s, 50) else rlayC r cs (rwriteX X (sectP r s) c).1 (s + 1) := rfl
    rw [u1, u2, ← w1]
    rcases hcd with h0 | h0
    · rw [if_neg (fun hh => hh h0), if_neg (fun hh => hh h0)]
      obtain ⟨D', X', s', e, k1, k2, k3, k4, k5, k6, k7⟩ := layC_both hr cs _ _ (s + 1) w2 hn2 (fun c hc' => hc c (List.mem_cons_of_mem _ hc'))
      refine ⟨D', X', s', e, k1, k2, k3, k4, k5, fun he => ?_, ?_⟩
      · rw [k6 he, List.length_cons]; omega
      · rw [List.length_cons]; omega
    · rw [if_pos (by rw [h0]; decide), if_pos (by rw [h0]; decide), h0]
      exact ⟨_, _, s, 50, rfl, rfl, w2, hn2, .inr rfl, fun h => absurd h (by decide), by rw [List.length_cons]; omega⟩
theorem layR_both (hr : 1 ≤ r) : ∀ (R : List (List Int)) (D : PD) (X : RX) (s : Int) (st : List Int) (o : List Rec), Twin D X → D.n = r + 2 → (∀ b ∈ R, isBytes b ∧ b.length ≤ 400) →
    (∃ D' X' o', layR r R D s st = (D', st ++ o'.map (·.2.1), s + needs R, 0) ∧ rlayR r R X s o = (X', o ++ o', s + needs R, 0) ∧ Twin D' X' ∧ D'.n = r + 2 ∧ o'.map (·.1) = R ∧ headX o' (s + needs R) = s ∧ D'.cache.length ≤ D.cache.length + 7 * R.length) ∨
    (∃ D' X', layR r R D s st = (D', [], 0, 50) ∧ rlayR r R X s o = (X', [], 0, 50) ∧ Twin D' X' ∧ D'.n = r + 2 ∧ D'.cache.length ≤ D.cache.length + 7 * R.length)
  | [], D, X, s, st, o, h, hn, _ => .inl ⟨D, X, [], by simp [layR, needs], by simp [rlayR, needs], h, hn, rfl, by simp [headX, needs], by simp⟩
  | b :: bs, D, X, s, st, o, h, hn, hb => by
    have hb0 := hb b (List.mem_cons_self ..)
    have hk := need_eq (b := b) (by omega)
    have hcl := chs_len hb0.2
    have hns : needs (b :: bs) = needN b + needs bs := rfl
    have u1 : layR r (b :: bs) D s st = if (layC r (chs (frameX b)) D s).2.2 ≠ 0 then ((layC r (chs (frameX b)) D s).1, [], 0, (layC r (chs (frameX b)) D s).2.2) else layR r bs (layC r (chs (frameX b)) D s).1 (layC r (chs (frameX b)) D s).2.1 (st ++ [s]) := rfl
    have u2 : rlayR r (b :: bs) X s o = if (rlayC r (chs (frameX b)) X s).2.2 ≠ 0 then ((rlayC r (chs (frameX b)) X s).1, [], 0, 50) else rlayR r bs (rlayC r (chs (frameX b)) X s).1 (rlayC r (chs (frameX b)) X s).2.1 (o ++ [(b, s, (rlayC r (chs (frameX b)) X s).2.1)]) := rfl
    obtain ⟨D1, X1, s1, e, k1, k2, k3, k4, k5, k6, k7⟩ := layC_both hr (chs (frameX b)) D X s h hn (fun c hc => chs_each hb0.1 hb0.2 c hc)
    rw [u1, u2, k1, k2]
    simp only
    rw [hcl] at k7
    rcases k5 with rfl | rfl
    · have hs1 := k6 rfl
      rw [hcl, ← hk] at hs1
      subst hs1
      rw [if_neg (by simp), if_neg (by simp)]
      rcases layR_both hr bs D1 X1 (s + needN b) (st ++ [s]) (o ++ [(b, s, s + needN b)]) k3 k4 (fun b h => hb b (List.mem_cons_of_mem _ h)) with ⟨D', X', o', j1, j2, j3, j4, j5, j6, j7⟩ | ⟨D', X', j1, j2, j3, j4, j5⟩
      · refine .inl ⟨D', X', (b, s, s + needN b) :: o', ?_, ?_, j3, j4, ?_, rfl, ?_⟩
        · rw [j1, hns, ← Int.add_assoc]; simp
        · rw [j2, hns, ← Int.add_assoc]; simp
        · simp only [List.map_cons, j5]
        · rw [List.length_cons]; omega
      · exact .inr ⟨D', X', j1, j2, j3, j4, by rw [List.length_cons]; omega⟩
    · rw [if_pos (by decide), if_pos (by decide)]
      exact .inr ⟨D1, X1, rfl, rfl, k3, k4, by rw [List.length_cons]; omega⟩
end
/-- a wal that runs, and the reference's -/
structure Same (D : PD) (X : RX) (r head tail : Int) (S : List Int) (L : List Rec) (over : Bool) : Prop where
  twin : Twin D X
  ring : D.n = r + 2
  hr : 1 ≤ r
  st : L.map (·.2.1) = S
  hd : headX L tail = head
  h0 : 0 ≤ head
  le : head ≤ tail
  fit : tail - head ≤ r
  clean : over = false → D.cache = []
  few : D.cache.length ≤ 50
theorem headX_app {L o : List Rec} {tail p head : Int} (h1 : headX L tail = head) (h2 : headX o p = tail) : headX (L ++ o) p = head := by
  cases L with
  | nil =>
    have h1' : tail = head := h1
    rw [List.nil_append, h2]
    exact h1'
  | cons x L => exact h1
theorem keepAll_n (l : List (Int × List Int)) (D : PD) : (keepAll D l).n = D.n := (keepAll_keeps l D).1
theorem flushP_n (D : PD) : (flushP D).1.n = D.n := by
  unfold flushP
  split
  · exact actP_n D
  · show (keepAll _ _).n = _
    rw [keepAll_n, actP_n]
theorem saveP_n (D : PD) (g : Int) (l : List Int) : (saveP D g l).1.n = D.n := by
  unfold saveP
  repeat' split
  · rfl
  · exact flushP_n D
  · rw [writeP_n, flushP_n]
  · rw [flushP_n, writeP_n, flushP_n]
theorem flushP_clean (D : PD) (h : (flushP D).2 = 0) : (flushP D).1.cache = [] := by
  unfold flushP at h ⊢
  split at h
  · rename_i h1
    exact absurd h h1
  · rename_i h1
    rw [if_neg h1]
theorem saveP_clean (D : PD) (g : Int) (l : List Int) (hl : l.length ≤ 4) (h : (saveP D g l).2 = 0) : (saveP D g l).1.cache = [] := by
  unfold saveP at h ⊢
  rw [if_neg (by omega)] at h ⊢
  split at h
  · rename_i h1
    exact absurd h h1
  · rename_i h1
    rw [if_neg h1]
    split at h
    · rename_i h2
      exact absurd h h2
    · rename_i h2
      rw [if_neg h2]
      exact flushP_clean _ h
section
variable {D : PD} {X : RX} {r head tail : Int} {S : List Int} {L : List Rec} {over : Bool}
theorem Same.ringP (h : Same D X r head tail S L over) : ringP D = r := by
  unfold Proofs.YtlepcmljmibdnaaGreat.ringP
  have := h.hr
  rw [h.ring]
  omega
theorem Same.ringX (h : Same D X r head tail S L over) : rringX X = r := h.twin.ring.trans h.ringP
theorem Same.len (h : Same D X r head tail S L over) : L.length = S.length := by rw [← h.st, List.length_map]
/-- the disks went on, the wals did not -/
theorem Same.move (h : Same D X r head tail S L over) {D' : PD} {X' : RX} (ht : Twin D' X') (hn : D'.n = D.n) (hc : D'.cache.length ≤ 50) (o : Bool) (hcl : o = false → D'.cache = []) : Same D' X' r head tail S L o :=
  ⟨ht, hn.trans h.ring, h.hr, h.st, h.hd, h.h0, h.le, h.fit, hcl, hc⟩
/-- what is put, on both sides -/
theorem Same.put (h : Same D X r head tail S L false) {R : List (List Int)} (hR : RecsOK R) {gen : Int} (hg : 0 ≤ gen ∧ gen < 18446744073709551615) (htl : tail < 18446744073709551000) (hf : needs R ≤ r - (tail - head)) (sw : Bool) :
    ∃ D1 X1 st out s e D2 X2 e2 e3, layP D r (r - (tail - head)) tail R = (D1, st, s, e) ∧ rlayR r R X tail (if sw then [] else L) = (X1, out, s, e) ∧ saveP D1 (gen + 1) [if sw then tail else head, s] = (D2, e2) ∧ rsaveX X1 (gen + 1) [headX out s, s] = (X2, e3) ∧ (e = 0 ∨ e = 50) ∧ st.length ≤ 6 ∧ (0 ≤ s ∧ s ≤ tail + 42) ∧ (0 ≤ headX out s ∧ headX out s < 18446744073709551616) ∧ D1.cache.length ≤ 42 ∧
      (e = 50 → Same D1 X1 r head tail S L true) ∧
      (e = 0 → e3 = e2 ∧ (e2 ≠ 0 → Same D2 X2 r head tail S L true) ∧ (e2 = 0 → Same D2 X2 r (if sw then tail else head) s (if sw then st else S ++ st) out false ∧ out.map (·.1) = if sw then R else L.map (·.1) ++ R)) := by
  have hlen := hR.len
  have hns := needs_le (R := R) (fun b hb => (hR.each b hb).2)
  have hc0 := h.clean rfl
  have h0 := h.h0
  have hle := h.le
  have hfit := h.fit
  have hlay : layP D r (r - (tail - head)) tail R = layR r R D tail [] := by unfold layP; rw [if_neg (by omega)]
  rw [hlay]
  rcases layR_both h.hr R D X tail [] (if sw then [] else L) h.twin h.ring hR.each with ⟨D1, X1, o', j1, j2, j3, j4, j5, j6, j7⟩ | ⟨D1, X1, j1, j2, j3, j4, j5⟩
  · rw [hc0] at j7
    simp only [List.length_nil, Nat.zero_add] at j7
    have hol : o'.length = R.length := by rw [← j5, List.length_map]
    have hh : headX ((if sw then [] else L) ++ o') (tail + needs R) = if sw then tail else head := by
      cases sw with
      | true => exact j6
      | false => exact headX_app h.hd j6
    have hk : ∀ n ∈ [if sw then tail else head, tail + needs R], 0 ≤ n ∧ n < 18446744073709551616 := by
      intro n hn
      simp only [List.mem_cons, List.not_mem_nil, or_false] at hn
      rcases hn with rfl | rfl
      · split <;> omega
      · omega
    obtain ⟨s1, s2⟩ := j3.save (gen + 1) [if sw then tail else head, tail + needs R] ⟨by omega, by omega⟩ hk
    have hsn := saveP_n D1 (gen + 1) [if sw then tail else head, tail + needs R]
    have hsc := saveP_clean D1 (gen + 1) [if sw then tail else head, tail + needs R] (by simp)
    have hsl := saveP_cache D1 (gen + 1) [if sw then tail else head, tail + needs R]
    refine ⟨D1, X1, _, _, _, 0, _, _, _, _, j1, j2, rfl, rfl, .inl rfl, ?_, by omega, ?_, by omega, fun h => absurd h (by decide), fun _ => ⟨?_, ?_, ?_⟩⟩
    · rw [List.nil_append, List.length_map, hol]; exact hlen
    · rw [hh]; split <;> omega
    · rw [hh]; exact s1.symm
    · intro _
      rw [hh]
      exact h.move s2 (hsn.trans (j4.trans h.ring.symm)) (by omega) true (fun h => by cases h)
    · intro h2
      rw [hh]
      have hcl := hsc h2
      have hcl0 : (saveP D1 (gen + 1) [if sw then tail else head, tail + needs R]).1.cache.length ≤ 50 := by rw [hcl]; simp
      refine ⟨⟨s2, hsn.trans j4, h.hr, ?_, hh, by split <;> omega, by split <;> omega, by split <;> omega, fun _ => hcl, hcl0⟩, ?_⟩
      · cases sw with
        | true => simp
        | false => simp [h.st]
      · cases sw with
        | true => simpa using j5
        | false => simp [j5]
  · rw [hc0] at j5
    simp only [List.length_nil, Nat.zero_add] at j5
    refine ⟨D1, X1, _, _, _, 50, _, _, _, _, j1, j2, rfl, rfl, .inr rfl, by simp, by omega, by simp [headX], by omega, fun _ => h.move j3 (j4.trans h.ring.symm) (by omega) true (fun h => by cases h), fun h => absurd h (by decide)⟩
end
end Go.Proofs.YtlepcmljmibdnaaGreat
namespace Go.Proofs.YtlepcmljmibdnaaGreat
open Go.RowKit Go.Proofs.YtlepcmljmibdnaaGreatW.PrintWords Go.Proofs.YtlepcmljmibdnaaGreatW.PrintLast Go.Proofs.YtlepcmljmibdnaaGreatW.PrintMore PWalOpens
set_option linter.unusedVariables false
set_option linter.unusedSimpArgs false
theorem rw_disk (o : Obj) (h : isDisk o) : ¬ isRW o := by
  intro h2
  cases o with
  | cells c t f =>
    have h1 : t = 90 ∨ t = 124 := h
    have h3 : (t = 93 ∨ t = 58 ∨ t = 4) ∨ t = 55 := h2
    rcases h1 with rfl | rfl <;> rcases h3 with (h | h | h) | h <;> exact absurd h (by decide)
  | _ => first | exact h.elim | exact h2.elim (fun e => e) (fun e => e)
section
variable {n0 : Nat} {w w' : World} {Wb B M Bd Rb R : Nat} {vc vs vS vC vB vo vL : Value} {D : PD} {X : RX} {gen head tail rgen rtail : Int} {S : List Int} {L : List Rec} {over : Bool}
theorem DK.rw (h : DK w n0 B M Bd vc D) (hc : TC n0 isRW w w') : DK w' n0 B M Bd vc D := h.tkeep hc rw_disk
theorem WV.rw (h : WV n0 w Wb B M Bd vc vs D gen head tail S over) (hc : TC n0 isRW w w') : WV n0 w' Wb B M Bd vc vs D gen head tail S over :=
  ⟨hc.blk _ _ h.blk (by simp [isRW, isRef, isT]), h.hW, h.dk.rw hc, R_tc h.st hc (fun q hq cells => by
    obtain rfl := q56 q hq
    simp [isRW, isRef, isT])⟩
theorem RK.wd (h : RK w n0 R vS vC vB X) (hc : TC n0 isWD w w') : RK w' n0 R vS vC vB X :=
  ⟨h.toRM.tkeep hc (fun q hq cells => by rcases hq with h | h | h | h | h <;> simp [isWD, isDisk, isT, h]), h.ok⟩
theorem RV.wd (h : RV n0 w Rb R vS vC vB vo vL X rgen rtail L over) (hc : TC n0 isWD w w') : RV n0 w' Rb R vS vC vB vo vL X rgen rtail L over :=
  ⟨hc.blk _ _ h.blk (by simp [isWD, isDisk, isT]), h.hW, h.rk.wd hc, Q_tc h.L hc (fun q hq cells => by rcases q138 q hq with rfl | rfl <;> simp [isWD, isDisk, isT])⟩
end
/-- a wal's deed: what is answered, what becomes of the wal -/
def WdQ (n0 : Nat) (w : World) (Wb B M Bd : Nat) (D' : PD) (code gen head tail : Int) (S : List Int) (over : Bool) (e : Ending) (w' : World) : Prop :=
  e = .returned (.int .i64 code) ∧ TC n0 isWD w w' ∧ ∃ vc' vs', WV n0 w' Wb B M Bd vc' vs' D' gen head tail S over
def RdQ (n0 : Nat) (w : World) (Rb R : Nat) (vS vB : Value) (X' : RX) (code gen tail : Int) (L : List Rec) (over : Bool) (e : Ending) (w' : World) : Prop :=
  e = .returned (.int .i64 code) ∧ TC n0 isRW w w' ∧ ∃ vC' vL', RV n0 w' Rb R vS vC' vB (.slice none 0 0) vL' X' gen tail L over
theorem wd_add {n0 : Nat} {w : World} {Wb B M Bd : Nat} {D1 D2 : PD} {gen head tail s e e2 : Int} {S st : List Int} {A : Option Addr} {c : Nat} {R : List (List Int)} (h : Calls Tryz.prog 15 #[.pointer (some ⟨Wb, 0, none⟩), .slice A R.length c] w (AddQ n0 w Wb B M Bd D1 D2 gen head tail S st s e e2)) :
    (e = 51 → Calls Tryz.prog 15 #[.pointer (some ⟨Wb, 0, none⟩), .slice A R.length c] w (WdQ n0 w Wb B M Bd D1 51 gen head tail S false)) ∧
    (e = 50 → Calls Tryz.prog 15 #[.pointer (some ⟨Wb, 0, none⟩), .slice A R.length c] w (WdQ n0 w Wb B M Bd D1 50 gen head tail S true)) ∧
    (e = 0 → e2 = 0 → Calls Tryz.prog 15 #[.pointer (some ⟨Wb, 0, none⟩), .slice A R.length c] w (WdQ n0 w Wb B M Bd D2 0 (gen + 1) head s (S ++ st) false)) ∧
    (e = 0 → e2 ≠ 0 → Calls Tryz.prog 15 #[.pointer (some ⟨Wb, 0, none⟩), .slice A R.length c] w (WdQ n0 w Wb B M Bd D2 50 gen head tail S true)) := by
  refine ⟨fun he => h.mono ?_, fun he => h.mono ?_, fun he h2 => h.mono ?_, fun he h2 => h.mono ?_⟩
  · rintro x w' ⟨ht, vc', vs', q1, q2, q3, q4⟩
    obtain ⟨rfl, hv⟩ := q1 (by omega) (.inr he)
    exact ⟨by rw [he], ht, vc', vs', hv⟩
  · rintro x w' ⟨ht, vc', vs', q1, q2, q3, q4⟩
    obtain ⟨rfl, hv⟩ := q2 (by omega) (by omega)
    exact ⟨rfl, ht, vc', vs', hv⟩
  · rintro x w' ⟨ht, vc', vs', q1, q2, q3, q4⟩
    obtain ⟨rfl, hv⟩ := q3 he h2
    exact ⟨rfl, ht, vc', vs', hv⟩
  · rintro x w' ⟨ht, vc', vs', q1, q2, q3, q4⟩
    obtain ⟨rfl, hv⟩ := q4 he h2
    exact ⟨rfl, ht, vc', vs', hv⟩
theorem rd_put {n0 : Nat} {w : World} {Rb R : Nat} {vS vB : Value} {X X1 X2 : RX} {gen tail p e e2 : Int} {L oL : List Rec} {r : Ending} {w' : World} (h : PutQ n0 w Rb R vS vB X X1 X2 gen tail p L oL e e2 r w') :
    (e = 50 → RdQ n0 w Rb R vS vB X1 50 gen tail L true r w') ∧ (e = 0 → e2 = 0 → RdQ n0 w Rb R vS vB X2 0 (gen + 1) p oL false r w') ∧ (e = 0 → e2 ≠ 0 → RdQ n0 w Rb R vS vB X2 50 gen tail L true r w') := by
  obtain ⟨ht, vC', vL', q1, q2, q3, q4⟩ := h
  refine ⟨fun he => ?_, fun he h2 => ?_, fun he h2 => ?_⟩
  · obtain ⟨rfl, hv⟩ := q2 he
    exact ⟨rfl, ht, vC', vL', hv⟩
  · obtain ⟨rfl, hv⟩ := q3 he h2
    exact ⟨rfl, ht, vC', vL', hv⟩
  · obtain ⟨rfl, hv⟩ := q4 he h2
    exact ⟨rfl, ht, vC', vL', hv⟩
theorem rd_ret {n0 : Nat} {w : World} {Rb R : Nat} {vS vB : Value} {X' : RX} {code gen tail : Int} {L : List Rec} {over : Bool} : ∀ er w', RdQ n0 w Rb R vS vB X' code gen tail L over er w' → ∃ x, er = .returned (.int .i64 x) := fun er w' h => ⟨_, h.1⟩
end Go.Proofs.YtlepcmljmibdnaaGreat
namespace Go.Proofs.YtlepcmljmibdnaaGreat
open Go.RowKit Go.Proofs.YtlepcmljmibdnaaGreatW.PrintWords Go.Proofs.YtlepcmljmibdnaaGreatW.PrintLast Go.Proofs.YtlepcmljmibdnaaGreatW.PrintMore PWalOpens
set_option linter.unusedVariables false
set_option linter.unusedSimpArgs false
/-- a wal that holds R, on a disk that may die -/
structure QInv (D : PD) (S : Int → List Int) (r g head tail : Int) (R : List (List Int)) : Prop where
  qt : Qt D (r + 2) S
  hr : 1 ≤ r
  cache : D.cache = []
  ok : OKD D
  mine : unP (S (g % 2)) = (g, [head, tail], 0)
  other : lesser (unP (S ((g + 1) % 2))) g
  g0 : 0 ≤ g
  run : Run S r head R tail
  fit : tail - head ≤ r
  h0 : 0 ≤ head
  recs : ∀ b ∈ R, isBytes b ∧ b.length ≤ 400
theorem OKD.rest {D : PD} (h : OKD D) : OKD (restP D) := ⟨⟨h.ok.1, fun p hp => by cases hp⟩, fun p hp => by cases hp⟩
section
variable {D : PD} {S : Int → List Int} {r g head tail : Int} {R : List (List Int)}
theorem QInv.win (h : QInv D S r g head tail R) : WInv (restP D) S r g head tail R :=
  ⟨h.qt.rest, h.hr, rfl, h.ok.rest, h.mine, h.other, h.g0, h.run, h.fit, h.h0, h.recs⟩
theorem QInv.crash (h : QInv D S r g head tail R) (ks : List Bool) : WInv (crashP D ks) S r g head tail R := by
  have e : crashP D ks = restP D := by
    unfold crashP
    rw [h.cache]
    rfl
  rw [e]
  exact h.win
theorem WInv.q (h : WInv D S r g head tail R) : QInv D S r g head tail R :=
  ⟨⟨h.rdy.bad, h.rdy.n, fun a => by
    have := h.rdy.view a
    unfold view at this
    rw [h.cache] at this
    exact this⟩, h.hr, h.cache, h.ok, h.mine, h.other, h.g0, h.run, h.fit, h.h0, h.recs⟩
theorem QInv.arm (h : QInv D S r g head tail R) (n : Int) : QInv (armP D n) S r g head tail R :=
  ⟨⟨h.qt.bad, h.qt.n, h.qt.kept⟩, h.hr, h.cache, h.ok.arm n, h.mine, h.other, h.g0, h.run, h.fit, h.h0, h.recs⟩
theorem sel_arm (l : List (Int × List Int)) (ks : List Bool) (n : Int) : ∀ (i : Nat) (D : PD), sel (armP D n) l ks i = armP (sel D l ks i) n
  | 0, D => rfl
  | i + 1, D => by
    unfold sel
    rw [sel_arm l ks n i D]
    split <;> rfl
theorem crash_arm (D : PD) (n : Int) (ks : List Bool) : crashP (armP D n) ks = crashP D ks := by
  unfold crashP
  have h : (armP D n).cache = D.cache := rfl
  rw [h, sel_arm]
  rfl
theorem QInv.le (h : QInv D S r g head tail R) : head + R.length ≤ tail := h.win.le
/-- what a save does to it -/
theorem QInv.saved (h : QInv D S r g head tail R) {V : Int → List Int} {D1 : PD} {m h1 t1 : Int} {W : List (List Int)} (hm : m ≤ r - (tail - head)) (hp : Pn D1 (r + 2) S V (fun a => ∃ q, tail ≤ q ∧ q < tail + m ∧ a = sectP r q)) (ho : OKD D1) (e0 : V 0 = S 0) (e1 : V 1 = S 1) (hrun : Run V r h1 W t1) (hfit : t1 - h1 ≤ r) (hh : 0 ≤ h1 ∧ t1 < 18446744073709551616) (hrec : ∀ b ∈ W, isBytes b ∧ b.length ≤ 400) (hg : g + 1 < 18446744073709551616) {D2 : PD} {e2 : Int} (hsv : saveP D1 (g + 1) [h1, t1] = (D2, e2)) :
    (e2 ≠ 0 → ∀ ks, (∃ V', WInv (crashP D2 ks) V' r g head tail R) ∨ (∃ V', WInv (crashP D2 ks) V' r (g + 1) h1 t1 W)) ∧ (e2 = 0 → ∃ V', QInv D2 V' r (g + 1) h1 t1 W) := by
  have hr := h.hr
  have g0 := h.g0
  have hle := run_le (fun b hb => by have := (hrec b hb).2; omega) hrun
  have hk : ∀ n ∈ [h1, t1], 0 ≤ n ∧ n < 18446744073709551616 := by
    intro n hn
    simp only [List.mem_cons, List.not_mem_nil, or_false] at hn
    rcases hn with rfl | rfl <;> omega
  have hok : OKD D2 := by have := ho.save (g + 1) [h1, t1] ⟨by omega, hg⟩ hk; rwa [hsv] at this
  have key : ∀ ks, (∃ S', Rdy (crashP D2 ks) (r + 2) S' ∧ (∀ a, (¬ ∃ q, tail ≤ q ∧ q < tail + m ∧ a = sectP r q) → S' a = S a) ∧ e2 ≠ 0) ∨ Rdy (crashP D2 ks) (r + 2) (updS V ((g + 1) % 2) (pad (slotB (g + 1) [h1, t1]))) := by
    intro ks
    have := hp.crash_save (by omega) (g + 1) [h1, t1] (by omega) (by simp) ks
    rw [hsv] at this
    exact this
  refine ⟨fun he ks => ?_, fun he => ?_⟩
  · rcases key ks with ⟨S', q1, q2, _⟩ | q1
    · exact .inl ⟨S', h.win.free hm q1 rfl (hok.crash ks) q2⟩
    · exact .inr ⟨_, h.win.next q1 rfl (hok.crash ks) e0 e1 hrun hfit hh hrec hg⟩
  · have hcl : D2.cache = [] := by have := saveP_clean D1 (g + 1) [h1, t1] (by simp) (by rw [hsv]; exact he); rwa [hsv] at this
    rcases key [] with ⟨_, _, _, q3⟩ | q1
    · exact absurd he q3
    · have hw := h.win.next q1 rfl (hok.crash []) e0 e1 hrun hfit hh hrec hg
      have e : crashP D2 [] = restP D2 := by
        unfold crashP
        rw [hcl]
        rfl
      rw [e] at hw q1
      refine ⟨_, ⟨q1.bad, q1.n, fun a => ?_⟩, hw.hr, hcl, hok, hw.mine, hw.other, hw.g0, hw.run, hw.fit, hw.h0, hw.recs⟩
      exact q1.view a
/-- what a put does to it -/
theorem QInv.put (h : QInv D S r g head tail R) {X : List (List Int)} (hX : RecsOK X) (hf : needs X ≤ r - (tail - head)) (ht : tail + needs X < 18446744073709551616) (hg : g + 1 < 18446744073709551616) (sw : Bool) {D1 D2 : PD} {st : List Int} {s e e2 : Int} (hlay : layP D r (r - (tail - head)) tail X = (D1, st, s, e)) (hsv : saveP D1 (g + 1) [if sw then tail else head, s] = (D2, e2)) :
    (e = 50 → ∀ ks, ∃ V', WInv (crashP D1 ks) V' r g head tail R) ∧
    (e = 0 → st = startsP tail X ∧ (e2 ≠ 0 → ∀ ks, (∃ V', WInv (crashP D2 ks) V' r g head tail R) ∨ (∃ V', WInv (crashP D2 ks) V' r (g + 1) (if sw then tail else head) s (if sw then X else R ++ X))) ∧
      (e2 = 0 → ∃ V', QInv D2 V' r (g + 1) (if sw then tail else head) s (if sw then X else R ++ X))) := by
  have hle := h.le
  have hns := needs_le (R := X) fun b hb => (hX.each b hb).2
  have h0 := h.h0
  have hw := h.win
  obtain ⟨D0', V', f1, f2, f3, f4, f4', f5, f6⟩ := layR_run (head := head) rfl hw.hr X (restP D) S tail [] R hw.rdy hX.each (fun b hb => by have := (hw.recs b hb).2; omega) hw.run (by omega)
  obtain ⟨D0'', V'', f1b, f2b, f3b, _⟩ := layR_run (head := tail) rfl hw.hr X (restP D) S tail [] [] hw.rdy hX.each (fun b hb => by cases hb) rfl (by omega)
  have hDD : D0'' = D0' := by rw [f1] at f1b; injection f1b with e _; exact e.symm
  subst hDD
  have hVV : V'' = V' := funext fun a => by rw [← f2b.view a, ← f2.view a]
  subst hVV
  have p0 : Pn D (r + 2) S S (fun a => ∃ q, tail ≤ q ∧ q < tail + needs X ∧ a = sectP r q) := by
    refine ⟨h.qt, fun a => ?_, fun p hp => ?_⟩
    · unfold view
      rw [h.cache]
      exact h.qt.kept a
    · rw [h.cache] at hp
      cases hp
  have hlr : layP D r (r - (tail - head)) tail X = layR r X D tail [] := by unfold layP; rw [if_neg (by omega)]
  rw [hlr] at hlay
  have hok0 : OKD D1 := by have := OKD.layR (r := r) X tail [] h.ok hX.each; rwa [hlay] at this
  rcases layR_two (S := S) rfl h.hr X (restP D) D S tail [] D0'' _ _ V'' hw.rdy p0 hX.each (fun q h1 h2 => ⟨q, h1, h2, rfl⟩) f1 f2 with ⟨D1', k1, k2, k3⟩ | ⟨D1', V1, k1, k2, k3⟩
  · rw [hlay] at k1
    cases k1
    refine ⟨fun he => absurd he (by decide), fun _ => ⟨List.nil_append _, ?_⟩⟩
    cases sw with
    | true =>
      have := h.saved hf k2 hok0 f4 f4' f3b (by omega) ⟨by omega, ht⟩ (by rw [List.nil_append]; exact hX.each) hg hsv
      simpa using this
    | false =>
      have := h.saved hf k2 hok0 f4 f4' f3 (by omega) ⟨by omega, ht⟩ (fun b hb => (List.mem_append.1 hb).elim (h.recs b) (hX.each b)) hg hsv
      simpa using this
  · rw [hlay] at k1
    cases k1
    refine ⟨fun _ ks => ?_, fun he => absurd he (by decide)⟩
    obtain ⟨S', q1, q2⟩ := k2.crash ks
    exact ⟨S', hw.free hf q1 rfl (hok0.crash ks) q2⟩
/-- what a cut does to it -/
theorem QInv.cut (h : QInv D S r g head tail R) (ht : tail < 18446744073709551616) (hg : g + 1 < 18446744073709551616) {h1 : Int} {W : List (List Int)} (hW : ∀ V, Run V r head R tail → Run V r h1 W tail) (hh : head ≤ h1) (hrec : ∀ b ∈ W, b ∈ R) {D2 : PD} {e2 : Int} (hsv : saveP D (g + 1) [h1, tail] = (D2, e2)) :
    (e2 ≠ 0 → ∀ ks, (∃ V', WInv (crashP D2 ks) V' r g head tail R) ∨ (∃ V', WInv (crashP D2 ks) V' r (g + 1) h1 tail W)) ∧ (e2 = 0 → ∃ V', QInv D2 V' r (g + 1) h1 tail W) := by
  have hle := h.le
  have h0 := h.h0
  have p0 : Pn D (r + 2) S S (fun a => ∃ q, tail ≤ q ∧ q < tail + 0 ∧ a = sectP r q) := by
    refine ⟨h.qt, fun a => ?_, fun p hp => ?_⟩
    · unfold view
      rw [h.cache]
      exact h.qt.kept a
    · rw [h.cache] at hp
      cases hp
  exact h.saved (m := 0) (by have := h.fit; omega) p0 h.ok rfl rfl (hW S h.run) (by have := h.fit; omega) ⟨by omega, ht⟩ (fun b hb => h.recs b (hrec b hb)) hg hsv
end
end Go.Proofs.YtlepcmljmibdnaaGreat
namespace Go.Proofs.YtlepcmljmibdnaaGreat
open Go.RowKit Go.Proofs.YtlepcmljmibdnaaGreatW.PrintWords Go.Proofs.YtlepcmljmibdnaaGreatW.PrintLast Go.Proofs.YtlepcmljmibdnaaGreatW.PrintMore PWalOpens
set_option linter.unusedVariables false
set_option linter.unusedSimpArgs false
/-- both sides, and what a crash leaves -/
structure Live (D : PD) (X : RX) (r gen head tail : Int) (S : List Int) (L : List Rec) (over : Bool) (R : List (List Int)) : Prop where
  same : Same D X r head tail S L over
  r4 : r ≤ 4094
  live : over = false → ∃ V, QInv D V r gen head tail R ∧ S = startsP head R ∧ L.map (·.1) = R
  back : ∀ ks, ∃ V g h t R', WInv (crashP D ks) V r g h t R' ∧ g ≤ gen + 1 ∧ t ≤ tail + 42
  g0 : 0 ≤ gen
  sl : S.length ≤ 4094
theorem run_tail {S : Int → List Int} {r t : Int} : ∀ {R : List (List Int)} {p : Int}, Run S r p R t → t = p + needs R
  | [], p, h => by
    have e : p = t := h
    simp [needs, e]
  | b :: bs, p, h => by
    have := run_tail h.2
    have hn : needs (b :: bs) = needN b + needs bs := rfl
    omega
theorem startsP_app : ∀ (R P : List (List Int)) (p : Int), startsP p (R ++ P) = startsP p R ++ startsP (p + needs R) P
  | [], P, p => by simp [startsP, needs]
  | b :: bs, P, p => by
    have hn : needs (b :: bs) = needN b + needs bs := rfl
    have e1 : startsP p (b :: bs ++ P) = p :: startsP (p + needN b) (bs ++ P) := rfl
    have e2 : startsP p (b :: bs) = p :: startsP (p + needN b) bs := rfl
    rw [e1, e2, startsP_app bs P (p + needN b), hn, Int.add_assoc, List.cons_append]
theorem startsP_drop : ∀ (R : List (List Int)) (p : Int) (n : Nat), n < R.length → (startsP p R).drop n = startsP ((startsP p R).getD n 0) (R.drop n)
  | [], p, n, h => by simp at h
  | b :: bs, p, 0, h => by simp [startsP]
  | b :: bs, p, n + 1, h => by
    have h3 : (startsP p (b :: bs)).getD (n + 1) 0 = (startsP (p + needN b) bs).getD n 0 := by simp [startsP]
    rw [h3, List.drop_succ_cons]
    have := startsP_drop bs (p + needN b) n (by simpa using h)
    simpa [startsP] using this
theorem xok_arm {X : RX} (h : XOk X) (n : Int) (hn : n ≤ 9223372036854775807) : XOk (rarmX X n) := by
  refine ⟨h.s64, h.c64, h.hb, ?_, h.hn⟩
  unfold rarmX
  simp only
  split <;> omega
theorem xok_crash {X : RX} (h : XOk X) (ks : List Bool) : XOk (rcrashX X ks) := by
  have hl : (rsel X.S X.cache ks X.cache.length).length = X.S.length := rsel_len _ _ _ _
  refine ⟨fun s hs => rsel_64 X.S X.cache ks h.s64 (fun p hp => (h.c64 p hp).1) _ (Nat.le_refl _) s hs, (fun p hp => by cases hp), ?_, by show -1 ≤ (-1 : Int) ∧ (-1 : Int) ≤ _; omega, ?_⟩
  · show X.bad.length = (rsel X.S X.cache ks X.cache.length).length
    rw [hl]
    exact h.hb
  · show (rsel X.S X.cache ks X.cache.length).length ≤ 4096
    rw [hl]
    exact h.hn
section
variable {D : PD} {X : RX} {r gen head tail : Int} {S : List Int} {L : List Rec} {over : Bool} {R : List (List Int)}
theorem Live.put (h : Live D X r gen head tail S L false R) {P : List (List Int)} (hP : RecsOK P) (hg : gen < 18446744073709551614) (htl : tail < 18446744073709551000) (hf : needs P ≤ r - (tail - head)) (sw : Bool) :
    ∃ D1 X1 st out s e D2 X2 e2 e3, layP D r (r - (tail - head)) tail P = (D1, st, s, e) ∧ rlayR r P X tail (if sw then [] else L) = (X1, out, s, e) ∧ saveP D1 (gen + 1) [if sw then tail else head, s] = (D2, e2) ∧ rsaveX X1 (gen + 1) [headX out s, s] = (X2, e3) ∧ (e = 0 ∨ e = 50) ∧ st.length ≤ 6 ∧ (0 ≤ s ∧ s ≤ tail + 42) ∧ (0 ≤ headX out s ∧ headX out s < 18446744073709551616) ∧ D1.cache.length ≤ 42 ∧
      (e = 50 → Live D1 X1 r gen head tail S L true R) ∧
      (e = 0 → e3 = e2 ∧ (e2 ≠ 0 → Live D2 X2 r gen head tail S L true R) ∧ (e2 = 0 → Live D2 X2 r (gen + 1) (if sw then tail else head) s (if sw then st else S ++ st) out false (if sw then P else R ++ P))) := by
  have g0 := h.g0
  have hle := h.same.le
  have h0 := h.same.h0
  have hns := needs_le (R := P) (fun b hb => (hP.each b hb).2)
  have hlen := hP.len
  obtain ⟨V, hq, hS, hR⟩ := h.live rfl
  obtain ⟨D1, X1, st, out, s, e, D2, X2, e2, e3, k1, k2, k3, k4, k5, k6, k7, k8, k9, k10, k11⟩ := h.same.put hP (gen := gen) (by omega) htl hf sw
  obtain ⟨q1, q2⟩ := hq.put hP hf (by omega) (by omega) sw k1 k3
  refine ⟨D1, X1, st, out, s, e, D2, X2, e2, e3, k1, k2, k3, k4, k5, k6, k7, k8, k9, fun he => ?_, fun he => ?_⟩
  · refine ⟨k10 he, h.r4, (fun h => by cases h), fun ks => ?_, g0, h.sl⟩
    obtain ⟨V', hw⟩ := q1 he ks
    exact ⟨V', _, _, _, _, hw, by omega, by omega⟩
  · obtain ⟨m1, m2, m3⟩ := k11 he
    obtain ⟨n1, n2, n3⟩ := q2 he
    refine ⟨m1, fun h2 => ?_, fun h2 => ?_⟩
    · refine ⟨m2 h2, h.r4, (fun h => by cases h), fun ks => ?_, g0, h.sl⟩
      rcases n2 h2 ks with ⟨V', hw⟩ | ⟨V', hw⟩
      · exact ⟨V', _, _, _, _, hw, by omega, by omega⟩
      · exact ⟨V', _, _, _, _, hw, by omega, by omega⟩
    · obtain ⟨j1, j2⟩ := m3 h2
      obtain ⟨V', hq'⟩ := n3 h2
      have hst : (if sw then st else S ++ st) = startsP (if sw then tail else head) (if sw then P else R ++ P) := by
        cases sw with
        | true => simpa using n1
        | false =>
          simp only [Bool.false_eq_true, if_false]
          rw [startsP_app, ← run_tail hq.run, ← hS, n1]
      have hqle := hq'.le
      have hqf := hq'.fit
      refine ⟨j1, h.r4, fun _ => ⟨V', hq', hst, ?_⟩, fun ks => ⟨V', _, _, _, _, hq'.crash ks, by omega, by omega⟩, by omega, ?_⟩
      · rw [j2, hR]
      · rw [hst, starts_len]
        have := h.r4
        omega
/-- a cut: k records go -/
theorem Live.cut (h : Live D X r gen head tail S L false R) (hg : gen < 18446744073709551614) (htl : tail < 18446744073709551000) (k : Nat) (hk : k ≤ S.length) {x : Int} (hx : headX (L.drop k) tail = x) :
    ∃ D2 X2 e2, saveP D (gen + 1) [x, tail] = (D2, e2) ∧ rsaveX X (gen + 1) [x, tail] = (X2, e2) ∧ (0 ≤ x ∧ x ≤ tail) ∧ (k < S.length → S.getD k 0 = x) ∧ (k = S.length → x = tail) ∧
      (e2 ≠ 0 → Live D2 X2 r gen head tail S L true R) ∧ (e2 = 0 → Live D2 X2 r (gen + 1) x tail (S.drop k) (L.drop k) false (R.drop k)) := by
  subst hx
  have g0 := h.g0
  have hle := h.same.le
  have h0 := h.same.h0
  have hfit := h.same.fit
  obtain ⟨V, hq, hS, hR⟩ := h.live rfl
  have hlen : L.length = S.length := h.same.len
  have hRl : R.length = S.length := by rw [hS, starts_len]
  have hqle := hq.le
  have hlt : k < S.length → S.getD k 0 = headX (L.drop k) tail := fun hk2 => by
    have h1 : L.drop k = L[k] :: L.drop (k + 1) := List.drop_eq_getElem_cons (by omega)
    rw [h1]
    show S.getD k 0 = L[k].2.1
    have e3 : S.getD k 0 = (L.map (·.2.1)).getD k 0 := by rw [h.same.st]
    rw [e3]
    simp [List.getD, show k < L.length by omega]
  have heq : k = S.length → headX (L.drop k) tail = tail := fun hk2 => by
    rw [List.drop_of_length_le (by omega)]
    rfl
  have hge : head ≤ headX (L.drop k) tail ∧ headX (L.drop k) tail ≤ tail := by
    by_cases hk2 : k < S.length
    · rw [← hlt hk2, hS]
      have h1 := starts_ge (R := R) (p := head) k (fun b hb => by have := (hq.recs b hb).2; omega) (by omega)
      have h2 := run_drop k (by omega) hq.run
      have h3 := run_le (fun b hb => by have := (hq.recs b (List.mem_of_mem_drop hb)).2; omega) h2
      omega
    · rw [heq (by omega)]
      omega
  have hW : ∀ V, Run V r head R tail → Run V r (headX (L.drop k) tail) (R.drop k) tail := fun V hrun => by
    by_cases hk2 : k < S.length
    · rw [← hlt hk2, hS]
      exact run_drop k (by omega) hrun
    · rw [heq (by omega), List.drop_of_length_le (by omega)]
      exact rfl
  have hkk : ∀ n ∈ [headX (L.drop k) tail, tail], 0 ≤ n ∧ n < 18446744073709551616 := by
    intro n hn
    simp only [List.mem_cons, List.not_mem_nil, or_false] at hn
    rcases hn with rfl | rfl <;> omega
  obtain ⟨s1, s2⟩ := h.same.twin.save (gen + 1) [headX (L.drop k) tail, tail] ⟨by omega, by omega⟩ hkk
  have hsn := saveP_n D (gen + 1) [headX (L.drop k) tail, tail]
  have hsc := saveP_clean D (gen + 1) [headX (L.drop k) tail, tail] (by simp)
  have hsl := saveP_cache D (gen + 1) [headX (L.drop k) tail, tail]
  rw [h.same.clean rfl] at hsl
  obtain ⟨D2, e2, hsv⟩ : ∃ D2 e2, saveP D (gen + 1) [headX (L.drop k) tail, tail] = (D2, e2) := ⟨_, _, rfl⟩
  obtain ⟨X2, e3, hrsv⟩ : ∃ X2 e3, rsaveX X (gen + 1) [headX (L.drop k) tail, tail] = (X2, e3) := ⟨_, _, rfl⟩
  rw [hsv, hrsv] at s1 s2
  rw [hsv] at hsn hsc hsl
  simp only at s1 s2 hsn hsc hsl
  subst s1
  have hc := hq.cut (by omega) (by omega) hW hge.1 (fun b hb => List.mem_of_mem_drop hb) hsv
  refine ⟨D2, X2, e2, hsv, hrsv, ⟨by omega, hge.2⟩, hlt, heq, fun h2 => ?_, fun h2 => ?_⟩
  · refine ⟨h.same.move s2 hsn (by simp at hsl; omega) true (fun h => by cases h), h.r4, (fun h => by cases h), fun ks => ?_, g0, h.sl⟩
    rcases hc.1 h2 ks with ⟨V', hw⟩ | ⟨V', hw⟩
    · exact ⟨V', _, _, _, _, hw, by omega, by omega⟩
    · exact ⟨V', _, _, _, _, hw, by omega, by omega⟩
  · obtain ⟨V', hq'⟩ := hc.2 h2
    refine ⟨⟨s2, hsn.trans h.same.ring, h.same.hr, ?_, rfl, by omega, by omega, by omega, fun _ => hsc h2, by rw [hsc h2]; simp⟩, h.r4, fun _ => ⟨V', hq', ?_, ?_⟩, fun ks => ⟨V', _, _, _, _, hq'.crash ks, by omega, by omega⟩, by omega, ?_⟩
    · rw [List.map_drop, h.same.st]
    · by_cases hk2 : k < S.length
      · rw [← hlt hk2, hS]
        exact startsP_drop R head k (by omega)
      · have e3 : S.drop k = [] := List.drop_of_length_le (by omega)
        have e4 : R.drop k = [] := List.drop_of_length_le (by omega)
        rw [e3, e4]
        rfl
    · rw [List.map_drop, hR]
    · rw [List.length_drop]
      have := h.sl
      omega
theorem Live.arm (h : Live D X r gen head tail S L over R) (n : Int) (hn : -9223372036854775808 ≤ n ∧ n ≤ 9223372036854775807) : Live (armP D n) (rarmX X n) r gen head tail S L over R :=
  ⟨h.same.move ⟨corr_arm h.same.twin.corr n, xok_arm h.same.twin.xok n hn.2, h.same.twin.ok.arm n⟩ rfl h.same.few over h.same.clean, h.r4, fun ho => by
    obtain ⟨V, hq, h1, h2⟩ := h.live ho
    exact ⟨V, hq.arm n, h1, h2⟩, fun ks => by rw [crash_arm]; exact h.back ks, h.g0, h.sl⟩
/-- a crash, and what is opened behind it -/
theorem Live.crash (h : Live D X r gen head tail S L over R) (ks : List Bool) :
    ∃ g h' t R' L', openP (crashP D ks) = (g, h', t, startsP h' R', R', 0) ∧ ropenX (rcrashX X ks) = (g, t, L', 0) ∧ L'.map (·.1) = R' ∧ Twin (crashP D ks) (rcrashX X ks) ∧ g ≤ gen + 1 ∧ t ≤ tail + 42 ∧ Live (crashP D ks) (rcrashX X ks) r g h' t (startsP h' R') L' false R' := by
  obtain ⟨V, g, h', t, R', hw, hg, ht⟩ := h.back ks
  have tw : Twin (crashP D ks) (rcrashX X ks) := ⟨corr_crash h.same.twin.corr h.same.twin.xok ks, xok_crash h.same.twin.xok ks, h.same.twin.ok.crash ks⟩
  have ho := hw.open_
  obtain ⟨o1, o2⟩ := opens_two tw
  rw [ho] at o1 o2
  obtain ⟨p1, p2, p3, p4⟩ := o2 rfl
  generalize hx : ropenX (rcrashX X ks) = q at o1 p1 p2 p3 p4
  obtain ⟨qg, qt, L', qe⟩ := q
  simp only at o1 p1 p2 p3 p4
  have o1 : qe = 0 := o1
  subst o1 p1 p2
  have hle := hw.le
  have hfit := hw.fit
  have hh0 := hw.h0
  refine ⟨qg, h', qt, R', L', ho, rfl, p3, tw, hg, ht, ⟨tw, hw.rdy.n, hw.hr, p4, ?_, hh0, by omega, hfit, fun _ => rfl, by show ([] : List (Int × List Int)).length ≤ 50; decide⟩, h.r4, fun _ => ⟨V, hw.q, rfl, p3⟩, fun ks' => ⟨V, _, _, _, _, hw.q.crash ks', by omega, by omega⟩, hw.g0, ?_⟩
  · cases hR : R' with
    | nil =>
      rw [hR] at p3 hw
      have hL : L' = [] := List.map_eq_nil_iff.1 p3
      rw [hL]
      exact (show h' = qt from hw.run).symm
    | cons b bs =>
      rw [hR] at p4
      cases L' with
      | nil => simp [startsP] at p4
      | cons y ys =>
        simp only [List.map_cons, startsP, List.cons.injEq] at p4
        exact p4.1
  · rw [starts_len]
    have := h.r4
    omega
end
end Go.Proofs.YtlepcmljmibdnaaGreat
namespace Go.Proofs.YtlepcmljmibdnaaGreat
open Go.RowKit Go.Proofs.YtlepcmljmibdnaaGreatW.PrintWords Go.Proofs.YtlepcmljmibdnaaGreatW.PrintLast Go.Proofs.YtlepcmljmibdnaaGreatW.PrintMore PWalOpens
set_option linter.unusedVariables false
set_option linter.unusedSimpArgs false
section
variable {n0 : Nat} {w w' : World} {Wb B M Bd Rb R : Nat} {vc vs vS vC vB vo vL : Value} {D D1 : PD} {X X1 : RX} {gen head tail x e : Int} {S : List Int} {L : List Rec} {over : Bool}
theorem cut_over (n : Int) (h : WlC w Wb B gen head tail vs true true) : Calls Tryz.prog 19 #[.pointer (some ⟨Wb, 0, none⟩), .int .i64 n] w fun r w' => r = .returned (.int .i64 50) ∧ w = w' := by
  have HK := Aside0.mk (wok_calls h)
  go_enter Tryz.func19, Tryz.ntmps19
  go_wp2_with (go_at_call 54; (with_reducible refine HK.out.mono ?_); rintro e w' ⟨rfl, rfl⟩)
  go_ret
  exact ⟨rfl, rfl⟩
theorem cut_range (n : Int) (hn : n < 0 ∨ (S.length : Int) < n) (hS : S.length ≤ 1000000) (h : WV n0 w Wb B M Bd vc vs D gen head tail S false) : Calls Tryz.prog 19 #[.pointer (some ⟨Wb, 0, none⟩), .int .i64 n] w fun r w' => r = .returned (.int .i64 1) ∧ w = w' := by
  have HK := Aside0.mk (wok_calls h.blk)
  simp only [Bool.not_false, Bool.and_self] at HK
  obtain ⟨As, cs, rfl⟩ := Kd.R_slice h.st
  obtain ⟨⟨q0, q1, q2, q3, q4, q5, q6⟩, _⟩ := cells7 h.blk
  clear h q0 q1 q2 q3 q5 q6
  by_cases h0 : n < 0
  · have b1 : decide (n < 0) = true := decide_eq_true h0
    clear hn
    go_enter Tryz.func19, Tryz.ntmps19
    go_wp2_with (go_at_call 54; (with_reducible refine HK.out.mono ?_); rintro e w' ⟨rfl, rfl⟩)
    go_ret
    exact ⟨rfl, rfl⟩
  · have b1 : decide (n < 0) = false := decide_eq_false h0
    have b2 : decide ((S.length : Int) < n) = true := decide_eq_true (by omega)
    clear hn
    go_enter Tryz.func19, Tryz.ntmps19
    go_wp2_with (go_at_call 54; (with_reducible refine HK.out.mono ?_); rintro e w' ⟨rfl, rfl⟩)
    go_ret
    exact ⟨rfl, rfl⟩
set_option maxHeartbeats 1000000 in
theorem cut_all (hS : S.length ≤ 1000000) (hsv : saveP D (gen + 1) [tail, tail] = (D1, e)) (hg : 0 ≤ gen ∧ gen < 18446744073709551615) (ht : 0 ≤ tail ∧ tail < 18446744073709551616) (hc : D.cache.length ≤ 900)
    (h : WV n0 w Wb B M Bd vc vs D gen head tail S false) :
    Calls Tryz.prog 19 #[.pointer (some ⟨Wb, 0, none⟩), .int .i64 (S.length : Int)] w (CutQ n0 w Wb B M Bd D1 gen head tail tail S S.length e) := by
  have HK := Aside0.mk (wok_calls h.blk)
  simp only [Bool.not_false, Bool.and_self] at HK
  have HSV := Aside0.mk hsv
  have HCA := Aside0.mk hc
  have HN0 := Aside0.mk (show n0 ≤ w.heap.size from h.dk.base_le)
  obtain ⟨As, cs, rfl⟩ := Kd.R_slice h.st
  obtain ⟨⟨q0, q1, q2, q3, q4, q5, q6⟩, _⟩ := cells7 h.blk
  have hbd := (Below.refl w.heap.size w).drew
  have HV := Aside0.mk (h.fresh hbd)
  have HBD := Aside0.mk hbd
  obtain ⟨m, hm⟩ : ∃ m, S.length = m := ⟨_, rfl⟩
  have hd : S.drop m = [] := List.drop_of_length_le (by omega)
  rw [hm] at HV q4 ⊢
  have HDR := Aside0.mk hd
  have b1 : decide ((m : Int) < 0) = false := by simp
  have b2 : decide ((m : Int) < (m : Int)) = false := by simp
  have b3 : ((m : Int) == (m : Int)) = true := by simp
  clear q0 q1 q2 q5 q6 h hsv hc hbd hd hm
  go_enter Tryz.func19, Tryz.ntmps19
  go_wp2_with (go_at_call 54; (with_reducible refine HK.out.mono ?_); rintro e w' ⟨rfl, rfl⟩)
  refine Fork.wp_fork (Fork.Lo.rel 0) [9] [] (.one 0 0 (.one 1 0 (.one 2 0 (.one 3 0 (.one 5 0 (.one 6 0 (.one 7 0 (.one 4 1 (.one 8 1 (.one 9 2 (.one 10 0 .nil))))))))))) (by kernel_rfl) (by kernel_rfl) ?_
  generalize hops : List.toArray (_ : List Oper) = ops
  have HO := Aside0.mk hops
  clear hops
  iterate 7 ((refine Fork.plain (Fork.at_ HO.out rfl) _ rfl (fun W => by go_simp; exact rfl) ?_); simp only [Act.put, List.setIfInBounds_toArray, List.set_cons_succ, List.set_cons_zero])
  refine Fork.reads (Fork.at_ HO.out rfl) _ rfl (fun W hW => Arr.ex_load1 rfl rfl (by kernel_rfl) (Fork.bel_cell hW (by assumption))) ?_
  simp only [Act.put, List.setIfInBounds_toArray, List.set_cons_succ, List.set_cons_zero]
  refine Fork.reads (Fork.at_ HO.out rfl) _ rfl (fun W hW => Arr.ex_load1 rfl rfl (by kernel_rfl) (Fork.bel_cell hW (by assumption))) ?_
  simp only [Act.put, List.setIfInBounds_toArray, List.set_cons_succ, List.set_cons_zero]
  refine Fork.step (Fork.at_ HO.out rfl) (fun K hK => ?_)
  go_simp
  (with_reducible refine (turn_calls e HSV.out hg ht ht HCA.out HV.out (Kd.R_nil _ _ _ _ _)).mono ?_)
  rintro er w4 ⟨ht4, vc4, hq1, hq2⟩
  have HT4 := Aside0.mk ((TC.of_below HBD.out HN0.out).trans ht4)
  have HL4 := Aside0.mk (show Fork.Lo 0 w.drew w4 from Fork.Lo.zero ht4.low.os ht4.low.tape ht4.low.output)
  have HQ4 := Aside0.mk (And.intro hq1 hq2)
  clear hq1 hq2 ht4
  obtain ⟨x4, rfl⟩ : ∃ x4, er = .returned (.int .i64 x4) := ret_code' HQ4.out.1 HQ4.out.2
  refine hK _ _ (Fork.Grow.of_old HL4.out rfl) ?_
  clear hK K
  try simp only [Act.put, List.setIfInBounds_toArray, List.set_cons_succ, List.set_cons_zero]
  ((refine Fork.plain (Fork.at_ HO.out rfl) _ rfl (fun W => by go_simp; exact rfl) ?_); simp only [Act.put, List.setIfInBounds_toArray, List.set_cons_succ, List.set_cons_zero])
  refine Fork.done ?_
  go_wp2
  go_ret
  refine ⟨HT4.out, vc4, if e = 0 then .slice none 0 0 else .slice As m cs, fun h2 => ?_, fun h2 => ?_⟩
  · rw [if_pos h2, HDR.out]
    exact HQ4.out.1 h2
  · rw [if_neg h2]
    exact HQ4.out.2 h2
/-! ### the reference's -/
theorem rcut_over (n : Int) (h : RV n0 w Rb R vS vC vB vo vL X gen tail L true) : Calls Tryz.prog 20 #[.pointer (some ⟨Rb, 0, none⟩), .int .i64 n] w fun r w' => r = .returned (.int .i64 50) ∧ w = w' := by
  obtain ⟨⟨q0, q1, q2, q3, q4⟩, _⟩ := cells5 h.blk
  clear h
  go_enter Tryz.func20, Tryz.ntmps20
  go_wp2
  go_ret
  exact ⟨rfl, rfl⟩
theorem rcut_range (n : Int) (hn : n < 0 ∨ (L.length : Int) < n) (h : RV n0 w Rb R vS vC vB vo vL X gen tail L false) : Calls Tryz.prog 20 #[.pointer (some ⟨Rb, 0, none⟩), .int .i64 n] w fun r w' => r = .returned (.int .i64 1) ∧ w = w' := by
  obtain ⟨AL, cL, rfl, _⟩ := Kd.Q_slice h.L
  obtain ⟨⟨q0, q1, q2, q3, q4⟩, _⟩ := cells5 h.blk
  clear h q0 q1 q2
  by_cases h0 : n < 0
  · have b1 : decide (n < 0) = true := decide_eq_true h0
    clear hn
    go_enter Tryz.func20, Tryz.ntmps20
    go_wp2
    go_ret
    exact ⟨rfl, rfl⟩
  · have b1 : decide (n < 0) = false := decide_eq_false h0
    have b2 : decide ((L.length : Int) < n) = true := decide_eq_true (by omega)
    clear hn
    go_enter Tryz.func20, Tryz.ntmps20
    go_wp2
    go_ret
    exact ⟨rfl, rfl⟩
theorem Q_none {α : Type} {d : Kd α} {e base n c : Nat} {w : World} {ok : Nat → Prop} {xs : List α} (h : d.Q e w base ok (.slice none n c) xs) : n = 0 ∧ c = 0 := by
  obtain ⟨_, inner, ho, _⟩ := h
  rcases ho.2 with ⟨_, A, hv, _⟩ | ⟨g, off, cap, cur, hv, _⟩
  · cases hv
    exact ⟨rfl, rfl⟩
  · cases hv
def RcQ2 (n0 : Nat) (w : World) (Rb R : Nat) (vS vB : Value) (X1 : RX) (gen tail : Int) (L : List Rec) (n : Nat) (e : Int) (r : Ending) (w' : World) : Prop :=
  TC n0 isRW w w' ∧ ∃ vC' vL', (e = 0 → r = .returned (.int .i64 0) ∧ RV n0 w' Rb R vS vC' vB (.slice none 0 0) vL' X1 (gen + 1) tail (L.drop n) false) ∧ (e ≠ 0 → r = .returned (.int .i64 50) ∧ RV n0 w' Rb R vS vC' vB (.slice none 0 0) vL' X1 gen tail L true)
set_option maxHeartbeats 1000000 in
theorem rcut_some (n : Nat) (hn : n ≤ L.length) (hl : L.length ≤ 1000000) (hx : headX (L.drop n) tail = x) (hsv : rsaveX X (gen + 1) [x, tail] = (X1, e)) (hg : 0 ≤ gen ∧ gen < 18446744073709551615) (hh : 0 ≤ x ∧ x < 18446744073709551616) (ht : 0 ≤ tail ∧ tail < 18446744073709551616) (hc : X.cache.length ≤ 900)
    (h : RV n0 w Rb R vS vC vB vo vL X gen tail L false) :
    Calls Tryz.prog 20 #[.pointer (some ⟨Rb, 0, none⟩), .int .i64 (n : Int)] w (RcQ2 n0 w Rb R vS vB X1 gen tail L n e) := by
  have HSV := Aside0.mk hsv
  have HCA := Aside0.mk hc
  have HN0 := Aside0.mk (show n0 ≤ w.heap.size from h.rk.base_le)
  obtain ⟨AL, cL, rfl, hlc⟩ := Kd.Q_slice h.L
  obtain ⟨⟨q0, q1, q2, q3, q4⟩, _⟩ := cells5 h.blk
  have hbd := (Below.refl w.heap.size w).drew
  have HV := Aside0.mk (h.fresh hbd)
  have HBD := Aside0.mk hbd
  have HX := Aside0.mk hx
  obtain ⟨m, hm⟩ : ∃ m, L.length = m := ⟨_, rfl⟩
  have b1 : decide ((n : Int) < 0) = false := by simp
  have b2 : decide ((m : Int) < (n : Int)) = false := by simp; omega
  have n1 : (n : Int) ≤ (m : Int) := by omega
  have hlc' : m ≤ cL := by omega
  have HQD := Aside0.mk (Kd.Q_drop HV.out.L hn)
  rw [hm] at HV q3 HQD
  clear q0 q1 h hsv hc hbd hx hlc
  cases AL with
  | none =>
    obtain ⟨hm0, hc0⟩ := Q_none HV.out.L
    subst hm0 hc0
    obtain rfl : n = 0 := by omega
    have HQ1 := Aside0.mk (show Kd.Q recK 112 w.drew n0 (fun _ => True) (.slice none 0 0) (L.drop 0) from Kd.Q_mono HQD.out (fun _ _ => trivial))
    clear HQD b1 b2 n1 hlc'
    go_enter Tryz.func20, Tryz.ntmps20
    go_wp2
    refine Fork.wp_fork (Fork.Lo.rel 0) [11] [] (.one 0 0 (.one 1 0 (.one 2 0 (.one 3 0 (.one 5 0 (.one 7 0 (.one 8 0 (.one 9 0 (.one 4 1 (.one 6 0 (.one 10 1 (.one 11 2 (.one 12 0 .nil))))))))))))) (by kernel_rfl) (by kernel_rfl) ?_
    generalize hops : List.toArray (_ : List Oper) = ops
    have HO := Aside0.mk hops
    clear hops
    iterate 8 ((refine Fork.plain (Fork.at_ HO.out rfl) _ rfl (fun W => by go_simp; exact rfl) ?_); simp only [Act.put, List.setIfInBounds_toArray, List.set_cons_succ, List.set_cons_zero])
    refine Fork.reads (Fork.at_ HO.out rfl) _ rfl (fun W hW => Arr.ex_load1 rfl rfl (by kernel_rfl) (Fork.bel_cell hW (by assumption))) ?_
    simp only [Act.put, List.setIfInBounds_toArray, List.set_cons_succ, List.set_cons_zero]
    ((refine Fork.plain (Fork.at_ HO.out rfl) _ rfl (fun W => by go_simp; exact rfl) ?_); simp only [Act.put, List.setIfInBounds_toArray, List.set_cons_succ, List.set_cons_zero])
    refine Fork.reads (Fork.at_ HO.out rfl) _ rfl (fun W hW => Arr.ex_load1 rfl rfl (by kernel_rfl) (Fork.bel_cell hW (by assumption))) ?_
    simp only [Act.put, List.setIfInBounds_toArray, List.set_cons_succ, List.set_cons_zero]
    refine Fork.step (Fork.at_ HO.out rfl) (fun K hK => ?_)
    go_simp
    (with_reducible refine (rturn_calls e HX.out HSV.out hg hh ht HCA.out HV.out HQ1.out).mono ?_)
    rintro er w4 ⟨ht4, vc4, hq1, hq2⟩
    have HT4 := Aside0.mk ((TC.of_below HBD.out HN0.out).trans ht4)
    have HL4 := Aside0.mk (show Fork.Lo 0 w.drew w4 from Fork.Lo.zero ht4.low.os ht4.low.tape ht4.low.output)
    have HQ4 := Aside0.mk (And.intro hq1 hq2)
    clear hq1 hq2 ht4
    obtain ⟨x4, rfl⟩ : ∃ x4, er = .returned (.int .i64 x4) := ret_code' HQ4.out.1 HQ4.out.2
    refine hK _ _ (Fork.Grow.of_old HL4.out rfl) ?_
    clear hK K
    try simp only [Act.put, List.setIfInBounds_toArray, List.set_cons_succ, List.set_cons_zero]
    ((refine Fork.plain (Fork.at_ HO.out rfl) _ rfl (fun W => by go_simp; exact rfl) ?_); simp only [Act.put, List.setIfInBounds_toArray, List.set_cons_succ, List.set_cons_zero])
    refine Fork.done ?_
    go_wp2
    go_ret
    refine ⟨HT4.out, vc4, if e = 0 then .slice none 0 0 else .slice none 0 0, fun h2 => ?_, fun h2 => ?_⟩
    · rw [if_pos h2]
      exact HQ4.out.1 h2
    · rw [if_neg h2]
      exact HQ4.out.2 h2
  | some ad =>
    obtain ⟨A1, hA1⟩ : ∃ A1, (if cL = n then some ad else some (ad.add (n * 3))) = A1 := ⟨_, rfl⟩
    have HQ1 := Aside0.mk (show Kd.Q recK 112 w.drew n0 (fun _ => True) (.slice A1 (m - n) (cL - n)) (L.drop n) from by
      have q := Kd.Q_mono (ok' := fun _ => True) HQD.out (fun _ _ => trivial)
      rw [show (if cL = n then some ad else Option.map (fun x => x.add (n * recK.sz)) (some ad)) = A1 from by rw [← hA1]; rfl] at q
      exact q)
    have k1 : (n : Int) ≤ (cL : Int) := by omega
    have k2 : (0 : Int) ≤ (n : Int) := by omega
    clear HQD
    go_enter Tryz.func20, Tryz.ntmps20
    go_wp2
    refine Fork.wp_fork (Fork.Lo.rel 0) [11] [] (.one 0 0 (.one 1 0 (.one 2 0 (.one 3 0 (.one 5 0 (.one 7 0 (.one 8 0 (.one 9 0 (.one 4 1 (.one 6 0 (.one 10 1 (.one 11 2 (.one 12 0 .nil))))))))))))) (by kernel_rfl) (by kernel_rfl) ?_
    generalize hops : List.toArray (_ : List Oper) = ops
    have HO := Aside0.mk hops
    clear hops
    iterate 8 ((refine Fork.plain (Fork.at_ HO.out rfl) _ rfl (fun W => by go_simp; exact rfl) ?_); simp only [Act.put, List.setIfInBounds_toArray, List.set_cons_succ, List.set_cons_zero])
    refine Fork.reads (Fork.at_ HO.out rfl) _ rfl (fun W hW => Arr.ex_load1 rfl rfl (by kernel_rfl) (Fork.bel_cell hW (by assumption))) ?_
    simp only [Act.put, List.setIfInBounds_toArray, List.set_cons_succ, List.set_cons_zero]
    ((refine Fork.plain (Fork.at_ HO.out rfl) _ rfl (fun W => by go_simp; exact rfl) ?_); simp only [Act.put, List.setIfInBounds_toArray, List.set_cons_succ, List.set_cons_zero])
    refine Fork.reads (Fork.at_ HO.out rfl) _ rfl (fun W hW => Arr.ex_load1 rfl rfl (by kernel_rfl) (Fork.bel_cell hW (by assumption))) ?_
    simp only [Act.put, List.setIfInBounds_toArray, List.set_cons_succ, List.set_cons_zero]
    refine Fork.step (Fork.at_ HO.out rfl) (fun K hK => ?_)
    go_simp
    (with_reducible refine (rturn_calls e HX.out HSV.out hg hh ht HCA.out HV.out HQ1.out).mono ?_)
    rintro er w4 ⟨ht4, vc4, hq1, hq2⟩
    have HT4 := Aside0.mk ((TC.of_below HBD.out HN0.out).trans ht4)
    have HL4 := Aside0.mk (show Fork.Lo 0 w.drew w4 from Fork.Lo.zero ht4.low.os ht4.low.tape ht4.low.output)
    have HQ4 := Aside0.mk (And.intro hq1 hq2)
    clear hq1 hq2 ht4
    obtain ⟨x4, rfl⟩ : ∃ x4, er = .returned (.int .i64 x4) := ret_code' HQ4.out.1 HQ4.out.2
    refine hK _ _ (Fork.Grow.of_old HL4.out rfl) ?_
    clear hK K
    try simp only [Act.put, List.setIfInBounds_toArray, List.set_cons_succ, List.set_cons_zero]
    ((refine Fork.plain (Fork.at_ HO.out rfl) _ rfl (fun W => by go_simp; exact rfl) ?_); simp only [Act.put, List.setIfInBounds_toArray, List.set_cons_succ, List.set_cons_zero])
    refine Fork.done ?_
    go_wp2
    go_ret
    refine ⟨HT4.out, vc4, if e = 0 then .slice A1 (m - n) (cL - n) else .slice (some ad) m cL, fun h2 => ?_, fun h2 => ?_⟩
    · rw [if_pos h2]
      exact HQ4.out.1 h2
    · rw [if_neg h2]
      exact HQ4.out.2 h2
theorem rswap_of {A : Option Addr} {n c : Nat} {Q : Ending → World → Prop} (h : Calls Tryz.prog 59 #[.pointer (some ⟨Rb, 0, none⟩), .slice A n c, .bool true] w Q) (hv : ∀ e w', Q e w' → ∃ x, e = .returned (.int .i64 x)) :
    Calls Tryz.prog 18 #[.pointer (some ⟨Rb, 0, none⟩), .slice A n c] w Q := by
  go_enter Tryz.func18, Tryz.ntmps18
  go_wp2_with (first
    | (go_at_call 59; (with_reducible refine h.mono ?_); rintro er w5 hq; obtain ⟨x, rfl⟩ := hv _ _ hq))
  exact hq
theorem swap_over (A : Option Addr) (n c : Nat) (h : WlC w Wb B gen head tail vs true true) : Calls Tryz.prog 17 #[.pointer (some ⟨Wb, 0, none⟩), .slice A n c] w fun r w' => r = .returned (.int .i64 50) ∧ w = w' := by
  have HK := Aside0.mk (wok_calls h)
  go_enter Tryz.func17, Tryz.ntmps17
  go_wp2_with (go_at_call 54; (with_reducible refine HK.out.mono ?_); rintro e w' ⟨rfl, rfl⟩)
  go_ret
  exact ⟨rfl, rfl⟩
theorem wlen_calls (h : WV n0 w Wb B M Bd vc vs D gen head tail S over) : Calls Tryz.prog 27 #[.pointer (some ⟨Wb, 0, none⟩)] w fun e w' => e = .returned (.int .i64 (S.length : Int)) ∧ w = w' := by
  obtain ⟨As, cs, rfl⟩ := Kd.R_slice h.st
  obtain ⟨⟨q0, q1, q2, q3, q4, q5, q6⟩, _⟩ := cells7 h.blk
  clear h q0 q1 q2 q3 q5 q6
  go_enter Tryz.func27, Tryz.ntmps27
  go_wp2
  go_ret
  exact ⟨rfl, rfl⟩
end
end Go.Proofs.YtlepcmljmibdnaaGreat
namespace Go.Proofs.YtlepcmljmibdnaaGreat
open Go.RowKit Go.Proofs.YtlepcmljmibdnaaGreatW.PrintWords Go.Proofs.YtlepcmljmibdnaaGreatW.PrintLast Go.Proofs.YtlepcmljmibdnaaGreatW.PrintMore PWalOpens
set_option linter.unusedVariables false
set_option linter.unusedSimpArgs false
theorem wd_swap {n0 : Nat} {w : World} {Wb B M Bd : Nat} {D1 D2 : PD} {gen head tail s e e2 : Int} {S st : List Int} {A : Option Addr} {c : Nat} {R : List (List Int)} (h : Calls Tryz.prog 17 #[.pointer (some ⟨Wb, 0, none⟩), .slice A R.length c] w (SwapQ n0 w Wb B M Bd D1 D2 gen head tail S st s e e2)) :
    (e = 51 → Calls Tryz.prog 17 #[.pointer (some ⟨Wb, 0, none⟩), .slice A R.length c] w (WdQ n0 w Wb B M Bd D1 51 gen head tail S false)) ∧
    (e = 50 → Calls Tryz.prog 17 #[.pointer (some ⟨Wb, 0, none⟩), .slice A R.length c] w (WdQ n0 w Wb B M Bd D1 50 gen head tail S true)) ∧
    (e = 0 → e2 = 0 → Calls Tryz.prog 17 #[.pointer (some ⟨Wb, 0, none⟩), .slice A R.length c] w (WdQ n0 w Wb B M Bd D2 0 (gen + 1) tail s st false)) ∧
    (e = 0 → e2 ≠ 0 → Calls Tryz.prog 17 #[.pointer (some ⟨Wb, 0, none⟩), .slice A R.length c] w (WdQ n0 w Wb B M Bd D2 50 gen head tail S true)) := by
  refine ⟨fun he => h.mono ?_, fun he => h.mono ?_, fun he h2 => h.mono ?_, fun he h2 => h.mono ?_⟩
  · rintro x w' ⟨ht, vc', vs', q1, q2, q3, q4⟩
    obtain ⟨rfl, hv⟩ := q1 (by omega) (.inr he)
    exact ⟨by rw [he], ht, vc', vs', hv⟩
  · rintro x w' ⟨ht, vc', vs', q1, q2, q3, q4⟩
    obtain ⟨rfl, hv⟩ := q2 (by omega) (by omega)
    exact ⟨rfl, ht, vc', vs', hv⟩
  · rintro x w' ⟨ht, vc', vs', q1, q2, q3, q4⟩
    obtain ⟨rfl, hv⟩ := q3 he h2
    exact ⟨rfl, ht, vc', vs', hv⟩
  · rintro x w' ⟨ht, vc', vs', q1, q2, q3, q4⟩
    obtain ⟨rfl, hv⟩ := q4 he h2
    exact ⟨rfl, ht, vc', vs', hv⟩
/-- a deed, on both sides -/
def Deed2 (w0 : World) (D : PD) (X : RX) (r gen head tail : Int) (S : List Int) (L : List Rec) (over : Bool) (f g : Nat) (args : List Value) : Prop :=
  ∃ D' X' code gen' head' tail' S' L' over' R', Live D' X' r gen' head' tail' S' L' over' R' ∧ gen' ≤ gen + 1 ∧ tail' ≤ tail + 42 ∧
    (∀ (w : World) (Wb B M Bd : Nat) (vc vs : Value), Below w0.heap.size w0 w → WV w0.heap.size w Wb B M Bd vc vs D gen head tail S over → Calls Tryz.prog f (.pointer (some ⟨Wb, 0, none⟩) :: args).toArray w (WdQ w0.heap.size w Wb B M Bd D' code gen' head' tail' S' over')) ∧
    (∀ (w : World) (Rb R : Nat) (vS vC vB vL : Value), Below w0.heap.size w0 w → RV w0.heap.size w Rb R vS vC vB (.slice none 0 0) vL X gen tail L over → Calls Tryz.prog g (.pointer (some ⟨Rb, 0, none⟩) :: args).toArray w (RdQ w0.heap.size w Rb R vS vB X' code gen' tail' L' over'))
section
variable {w0 : World} {D : PD} {X : RX} {r gen head tail : Int} {S : List Int} {L : List Rec} {over : Bool} {R : List (List Int)}
theorem deed_put (h : Live D X r gen head tail S L over R) {P : List (List Int)} (hP : RecsOK P) (hg : gen < 18446744073709551614) (htl : tail < 18446744073709551000) (sw : Bool) {A : Option Addr} {c : Nat} (hC : bytesK.C w0 A P.length P) :
    Deed2 w0 D X r gen head tail S L over (if sw then 17 else 15) (if sw then 18 else 16) [.slice A P.length c] := by
  have hlen := hP.len
  have hns := needs_le (R := P) (fun b hb => (hP.each b hb).2)
  have g0 := h.g0
  have h0 := h.same.h0
  have hle := h.same.le
  have hfit := h.same.fit
  have hr1 := h.same.hr
  have hr4 := h.r4
  have hsl := h.sl
  have h := h
  cases over with
  | true =>
    refine ⟨D, X, 50, gen, head, tail, S, L, true, R, h, by omega, by omega, ?_, ?_⟩
    · intro w Wb B M Bd vc vs hb hv
      cases sw with
      | true =>
        refine (swap_over A P.length c hv.blk).mono ?_
        rintro e w' ⟨rfl, rfl⟩
        exact ⟨rfl, TC.refl _ _ _, vc, vs, hv⟩
      | false =>
        refine (add_over A P.length c hv.blk).mono ?_
        rintro e w' ⟨rfl, rfl⟩
        exact ⟨rfl, TC.refl _ _ _, vc, vs, hv⟩
    · intro w Rb R vS vC vB vL hb hv
      cases sw with
      | true =>
        refine rswap_of ((rput_over A P.length c true hv).mono ?_) rd_ret
        rintro e w' ⟨rfl, rfl⟩
        exact ⟨rfl, TC.refl _ _ _, vC, vL, hv⟩
      | false =>
        refine radd_of ((rput_over A P.length c false hv).mono ?_) rd_ret
        rintro e w' ⟨rfl, rfl⟩
        exact ⟨rfl, TC.refl _ _ _, vC, vL, hv⟩
  | false =>
    have hc0 := h.same.clean rfl
    by_cases hf : r - (tail - head) < needs P
    · refine ⟨D, X, 51, gen, head, tail, S, L, false, R, h, by omega, by omega, ?_, ?_⟩
      · intro w Wb B M Bd vc vs hb hv
        have hlay : layP D r (r - (tail - head)) tail P = (D, [], 0, 51) := by unfold layP; rw [if_pos hf]
        cases sw with
        | true => exact (wd_swap (swap_calls (c := c) (D2 := (saveP D (gen + 1) [tail, 0]).1) (e2 := (saveP D (gen + 1) [tail, 0]).2) h.same.ringP hP rfl hlay rfl (by omega) (by omega) (by omega) (by rw [hc0]; decide) (by rw [hc0]; decide) hv (fun W hc => Kd.C_below hC (hb.trans hc.low)))).1 rfl
        | false => exact (wd_add (add_calls (c := c) (D2 := (saveP D (gen + 1) [head, 0]).1) (e2 := (saveP D (gen + 1) [head, 0]).2) h.same.ringP hP rfl hlay rfl (by omega) (by omega) (by omega) (by rw [hc0]; decide) (by rw [hc0]; decide) (by simp; omega) hv (fun W hc => Kd.C_below hC (hb.trans hc.low)))).1 rfl
      · intro w Rb R vS vC vB vL hb hv
        cases sw with
        | true =>
          refine rswap_of ((rput_full (c := c) true h.same.ringX hP h.same.hd hf (by omega) hv (txts_of hC (Nat.le_refl _) hb)).mono ?_) rd_ret
          rintro e w' ⟨rfl, hb2⟩
          exact ⟨rfl, TC.of_below hb2 hv.rk.base_le, vC, vL, hv.fresh hb2⟩
        | false =>
          refine radd_of ((rput_full (c := c) false h.same.ringX hP h.same.hd hf (by omega) hv (txts_of hC (Nat.le_refl _) hb)).mono ?_) rd_ret
          rintro e w' ⟨rfl, hb2⟩
          exact ⟨rfl, TC.of_below hb2 hv.rk.base_le, vC, vL, hv.fresh hb2⟩
    · obtain ⟨D1, X1, st, out, s, e, D2, X2, e2, e3, k1, k2, k3, k4, k5, k6, k7, k8, k9, k10, k11⟩ := h.put hP hg htl (by omega) sw
      have hLl : L.length ≤ 1000000 := by rw [h.same.len]; omega
      have hcX : X.cache.length ≤ 800 := by rw [← h.same.twin.corr.cache, hc0]; decide
      cases sw with
      | true =>
        simp only [if_true] at k2 k3 k11 ⊢
        have real : ∀ (w : World) (Wb B M Bd : Nat) (vc vs : Value), Below w0.heap.size w0 w → WV w0.heap.size w Wb B M Bd vc vs D gen head tail S false → Calls Tryz.prog 17 #[.pointer (some ⟨Wb, 0, none⟩), .slice A P.length c] w (SwapQ w0.heap.size w Wb B M Bd D1 D2 gen head tail S st s e e2) := fun w Wb B M Bd vc vs hb hv =>
          swap_calls (c := c) h.same.ringP hP rfl k1 k3 (by omega) (by omega) (by omega) (by rw [hc0]; decide) (by omega) hv (fun W hc => Kd.C_below hC (hb.trans hc.low))
        have ref : ∀ (w : World) (Rb R : Nat) (vS vC vB vL : Value), Below w0.heap.size w0 w → RV w0.heap.size w Rb R vS vC vB (.slice none 0 0) vL X gen tail L false → Calls Tryz.prog 59 #[.pointer (some ⟨Rb, 0, none⟩), .slice A P.length c, .bool true] w (PutQ w0.heap.size w Rb R vS vB X X1 X2 gen tail s L out e e3) := fun w Rb R vS vC vB vL hb hv =>
          rput_swap (c := c) h.same.ringX hr1 hP h.same.hd (by omega) (by omega) (by omega) k2 k4 (by omega) k8 hcX hLl hv (txts_of hC (Nat.le_refl _) hb)
        rcases k5 with rfl | rfl
        · obtain ⟨m1, m2, m3⟩ := k11 rfl
          subst m1
          by_cases h2 : e3 = 0
          · refine ⟨D2, X2, 0, gen + 1, tail, s, st, out, false, P, m3 h2, by omega, by omega, ?_, ?_⟩
            · intro w Wb B M Bd vc vs hb hv
              exact (wd_swap (real w Wb B M Bd vc vs hb hv)).2.2.1 rfl h2
            · intro w Rb R vS vC vB vL hb hv
              exact rswap_of ((ref w Rb R vS vC vB vL hb hv).mono fun e w' hq => (rd_put hq).2.1 rfl h2) rd_ret
          · refine ⟨D2, X2, 50, gen, head, tail, S, L, true, R, m2 h2, by omega, by omega, ?_, ?_⟩
            · intro w Wb B M Bd vc vs hb hv
              exact (wd_swap (real w Wb B M Bd vc vs hb hv)).2.2.2 rfl h2
            · intro w Rb R vS vC vB vL hb hv
              exact rswap_of ((ref w Rb R vS vC vB vL hb hv).mono fun e w' hq => (rd_put hq).2.2 rfl h2) rd_ret
        · refine ⟨D1, X1, 50, gen, head, tail, S, L, true, R, k10 rfl, by omega, by omega, ?_, ?_⟩
          · intro w Wb B M Bd vc vs hb hv
            exact (wd_swap (real w Wb B M Bd vc vs hb hv)).2.1 rfl
          · intro w Rb R vS vC vB vL hb hv
            exact rswap_of ((ref w Rb R vS vC vB vL hb hv).mono fun e w' hq => (rd_put hq).1 rfl) rd_ret
      | false =>
        simp only [Bool.false_eq_true, if_false] at k2 k3 k11 ⊢
        have real : ∀ (w : World) (Wb B M Bd : Nat) (vc vs : Value), Below w0.heap.size w0 w → WV w0.heap.size w Wb B M Bd vc vs D gen head tail S false → Calls Tryz.prog 15 #[.pointer (some ⟨Wb, 0, none⟩), .slice A P.length c] w (AddQ w0.heap.size w Wb B M Bd D1 D2 gen head tail S st s e e2) := fun w Wb B M Bd vc vs hb hv =>
          add_calls (c := c) h.same.ringP hP rfl k1 k3 (by omega) (by omega) (by omega) (by rw [hc0]; decide) (by omega) (by omega) hv (fun W hc => Kd.C_below hC (hb.trans hc.low))
        have ref : ∀ (w : World) (Rb R : Nat) (vS vC vB vL : Value), Below w0.heap.size w0 w → RV w0.heap.size w Rb R vS vC vB (.slice none 0 0) vL X gen tail L false → Calls Tryz.prog 59 #[.pointer (some ⟨Rb, 0, none⟩), .slice A P.length c, .bool false] w (PutQ w0.heap.size w Rb R vS vB X X1 X2 gen tail s L out e e3) := fun w Rb R vS vC vB vL hb hv =>
          rput_add (c := c) h.same.ringX hr1 hP h.same.hd (by omega) (by omega) (by omega) k2 k4 (by omega) k8 hcX hLl hv (txts_of hC (Nat.le_refl _) hb)
        rcases k5 with rfl | rfl
        · obtain ⟨m1, m2, m3⟩ := k11 rfl
          subst m1
          by_cases h2 : e3 = 0
          · refine ⟨D2, X2, 0, gen + 1, head, s, S ++ st, out, false, R ++ P, m3 h2, by omega, by omega, ?_, ?_⟩
            · intro w Wb B M Bd vc vs hb hv
              exact (wd_add (real w Wb B M Bd vc vs hb hv)).2.2.1 rfl h2
            · intro w Rb R vS vC vB vL hb hv
              exact radd_of ((ref w Rb R vS vC vB vL hb hv).mono fun e w' hq => (rd_put hq).2.1 rfl h2) rd_ret
          · refine ⟨D2, X2, 50, gen, head, tail, S, L, true, R, m2 h2, by omega, by omega, ?_, ?_⟩
            · intro w Wb B M Bd vc vs hb hv
              exact (wd_add (real w Wb B M Bd vc vs hb hv)).2.2.2 rfl h2
            · intro w Rb R vS vC vB vL hb hv
              exact radd_of ((ref w Rb R vS vC vB vL hb hv).mono fun e w' hq => (rd_put hq).2.2 rfl h2) rd_ret
        · refine ⟨D1, X1, 50, gen, head, tail, S, L, true, R, k10 rfl, by omega, by omega, ?_, ?_⟩
          · intro w Wb B M Bd vc vs hb hv
            exact (wd_add (real w Wb B M Bd vc vs hb hv)).2.1 rfl
          · intro w Rb R vS vC vB vL hb hv
            exact radd_of ((ref w Rb R vS vC vB vL hb hv).mono fun e w' hq => (rd_put hq).1 rfl) rd_ret
theorem deed_cut (h : Live D X r gen head tail S L over R) (hg : gen < 18446744073709551614) (htl : tail < 18446744073709551000) (n : Int) :
    Deed2 w0 D X r gen head tail S L over 19 20 [.int .i64 n] := by
  have g0 := h.g0
  have h0 := h.same.h0
  have hle := h.same.le
  have hsl := h.sl
  have hLl : L.length = S.length := h.same.len
  have h := h
  cases over with
  | true =>
    refine ⟨D, X, 50, gen, head, tail, S, L, true, R, h, by omega, by omega, ?_, ?_⟩
    · intro w Wb B M Bd vc vs hb hv
      refine (cut_over n hv.blk).mono ?_
      rintro e w' ⟨rfl, rfl⟩
      exact ⟨rfl, TC.refl _ _ _, vc, vs, hv⟩
    · intro w Rb R vS vC vB vL hb hv
      refine (rcut_over n hv).mono ?_
      rintro e w' ⟨rfl, rfl⟩
      exact ⟨rfl, TC.refl _ _ _, vC, vL, hv⟩
  | false =>
    by_cases hn : n < 0 ∨ (S.length : Int) < n
    · refine ⟨D, X, 1, gen, head, tail, S, L, false, R, h, by omega, by omega, ?_, ?_⟩
      · intro w Wb B M Bd vc vs hb hv
        refine (cut_range n hn (by omega) hv).mono ?_
        rintro e w' ⟨rfl, rfl⟩
        exact ⟨rfl, TC.refl _ _ _, vc, vs, hv⟩
      · intro w Rb R vS vC vB vL hb hv
        refine (rcut_range n (by rw [hLl]; exact hn) hv).mono ?_
        rintro e w' ⟨rfl, rfl⟩
        exact ⟨rfl, TC.refl _ _ _, vC, vL, hv⟩
    · obtain ⟨k, rfl⟩ := Int.eq_ofNat_of_zero_le (show 0 ≤ n by omega)
      have hk : k ≤ S.length := by omega
      obtain ⟨D2, X2, e2, c1, c2, c3, c4, c5, c6, c7⟩ := h.cut hg htl k hk rfl
      have hcD := h.same.clean rfl
      have hcX : X.cache.length ≤ 900 := by rw [← h.same.twin.corr.cache, hcD]; decide
      have real : ∀ (w : World) (Wb B M Bd : Nat) (vc vs : Value), WV w0.heap.size w Wb B M Bd vc vs D gen head tail S false → Calls Tryz.prog 19 #[.pointer (some ⟨Wb, 0, none⟩), .int .i64 (k : Int)] w (CutQ w0.heap.size w Wb B M Bd D2 gen head tail (headX (L.drop k) tail) S k e2) := fun w Wb B M Bd vc vs hv => by
        by_cases hk2 : k < S.length
        · exact wcut_some k hk2 (by omega) (c4 hk2) c1 (by omega) (by omega) (by omega) (by rw [hcD]; decide) hv
        · obtain rfl : k = S.length := by omega
          have hx := c5 rfl
          rw [hx] at c1 ⊢
          exact cut_all (by omega) c1 (by omega) (by omega) (by rw [hcD]; decide) hv
      have ref : ∀ (w : World) (Rb R : Nat) (vS vC vB vL : Value), RV w0.heap.size w Rb R vS vC vB (.slice none 0 0) vL X gen tail L false → Calls Tryz.prog 20 #[.pointer (some ⟨Rb, 0, none⟩), .int .i64 (k : Int)] w (RcQ2 w0.heap.size w Rb R vS vB X2 gen tail L k e2) := fun w Rb R vS vC vB vL hv =>
        rcut_some k (by omega) (by omega) rfl c2 (by omega) (by omega) (by omega) hcX hv
      by_cases h2 : e2 = 0
      · refine ⟨D2, X2, 0, gen + 1, headX (L.drop k) tail, tail, S.drop k, L.drop k, false, R.drop k, c7 h2, by omega, by omega, ?_, ?_⟩
        · intro w Wb B M Bd vc vs hb hv
          refine (real w Wb B M Bd vc vs hv).mono ?_
          rintro e w' ⟨ht, vc', vs', q1, q2⟩
          obtain ⟨rfl, hv'⟩ := q1 h2
          exact ⟨rfl, ht, vc', vs', hv'⟩
        · intro w Rb R vS vC vB vL hb hv
          refine (ref w Rb R vS vC vB vL hv).mono ?_
          rintro e w' ⟨ht, vC', vL', q1, q2⟩
          obtain ⟨rfl, hv'⟩ := q1 h2
          exact ⟨rfl, ht, vC', vL', hv'⟩
      · refine ⟨D2, X2, 50, gen, head, tail, S, L, true, R, c6 h2, by omega, by omega, ?_, ?_⟩
        · intro w Wb B M Bd vc vs hb hv
          refine (real w Wb B M Bd vc vs hv).mono ?_
          rintro e w' ⟨ht, vc', vs', q1, q2⟩
          obtain ⟨rfl, hv'⟩ := q2 h2
          exact ⟨rfl, ht, vc', vs', hv'⟩
        · intro w Rb R vS vC vB vL hb hv
          refine (ref w Rb R vS vC vB vL hv).mono ?_
          rintro e w' ⟨ht, vC', vL', q1, q2⟩
          obtain ⟨rfl, hv'⟩ := q2 h2
          exact ⟨rfl, ht, vC', vL', hv'⟩
end
end Go.Proofs.YtlepcmljmibdnaaGreat
namespace Go.Proofs.YtlepcmljmibdnaaGreat
open Go.RowKit Go.Proofs.YtlepcmljmibdnaaGreatW.PrintWords Go.Proofs.YtlepcmljmibdnaaGreatW.PrintLast Go.Proofs.YtlepcmljmibdnaaGreatW.PrintMore PWalOpens
set_option linter.unusedVariables false
set_option linter.unusedSimpArgs false
theorem nil_bytes : isBytes [] := fun x hx => by cases hx
theorem Twin.format {D : PD} {X : RX} (h : Twin D X) (l : List Int) (hn : ∀ n ∈ l, 0 ≤ n ∧ n < 18446744073709551616) : (formatP D l).2 = (rformatX X l).2 ∧ Twin (formatP D l).1 (rformatX X l).1 := by
  obtain ⟨a1, a2⟩ := h.write 0 nil_bytes
  obtain ⟨b1, b2⟩ := a2.write 1 nil_bytes
  obtain ⟨c1, c2⟩ := b2.save 0 l (by omega) hn
  unfold formatP rformatX
  rw [a1, b1]
  split
  · exact ⟨a1, a2⟩
  · split
    · exact ⟨b1, b2⟩
    · exact ⟨c1, c2⟩
theorem Twin.new (n : Int) : Twin (newP n) (rnewX (rnewN n)) := ⟨corr_new n, rnew_ok _ (by unfold rnewN; omega), OKD.new n⟩
theorem Twin.wformat {D : PD} {X : RX} (h : Twin D X) : (wformatP D).2 = (rwformatX X).2 ∧ Twin (wformatP D).1 (rwformatX X).1 := by
  unfold wformatP rwformatX
  rw [h.ring]
  split
  · exact ⟨rfl, h⟩
  · exact h.format [0, 0] (by intro n hn; simp at hn; omega)
theorem ropen_start {D : PD} {X : RX} {S : Int → List Int} {r : Int} (h : Twin D X) (hi : WInv D S r 0 0 0 []) : ropenX X = (0, 0, [], 0) := by
  obtain ⟨o1, o2⟩ := opens_two h
  rw [hi.open_] at o1 o2
  obtain ⟨g1, g2, g3, g4⟩ := o2 rfl
  generalize ropenX X = x at o1 g1 g2 g3 ⊢
  obtain ⟨a, b, L, e⟩ := x
  simp only at o1 g1 g2 g3
  have hL : L = [] := List.map_eq_nil_iff.1 g3
  have he : e = 0 := o1
  rw [g1, g2, hL, he]
section
variable {w0 w : World} {B M Bd R : Nat} {vc vS vC vB : Value} {D D' : PD} {X X' : RX}
theorem bo_wformat (e : Int) (hf : wformatP D = (D', e)) (hc : D.cache.length ≤ 800) (h : Both w0 w B M Bd vc D R vS vC vB X) :
    Calls Tryz.prog 10 #[.pointer (some ⟨B, 0, none⟩)] w fun r w' => r = .returned (.int .i64 e) ∧ ∃ vc', Both w0 w' B M Bd vc' D' R vS vC vB X := by
  refine (at_wformat e hf hc (At.refl h.dk)).mono ?_
  rintro r w' ⟨rfl, vc', ha⟩
  exact ⟨rfl, vc', (h.disk (At.based h.dk ha) ha.chg).1⟩
theorem bo_rwformat (e : Int) (hf : rwformatX X = (X', e)) (hc : X.cache.length ≤ 800) (h : Both w0 w B M Bd vc D R vS vC vB X) :
    Calls Tryz.prog 11 #[.pointer (some ⟨R, 0, none⟩)] w fun r w' => r = .returned (.int .i64 e) ∧ ∃ vC', Both w0 w' B M Bd vc D R vS vC' vB X' := by
  refine (rwformat_calls hf hc h.rk).mono ?_
  rintro r w' ⟨rfl, ht, vC', hr⟩
  exact ⟨rfl, vC', (h.ref hr ht).1⟩
theorem row_ok {res : Int × Int × List Rec × Int} {e : Ending} {w' : World} (h : OwQ w R res e w') (h0 : res.2.2.2 = 0) {n0 : Nat} (hn : n0 ≤ w.heap.size) (hd : RK w n0 R vS vC vB X) :
    ∃ Rb vL, e = .returned (.tuple #[.pointer (some ⟨Rb, 0, none⟩), .int .i64 0]) ∧ RV n0 w' Rb R vS vC vB (.slice none 0 0) vL X res.1 res.2.1 res.2.2.1 false ∧ Below w.heap.size w w' := by
  rcases h with ⟨h1, _⟩ | ⟨_, Rb, vL, rfl, hs⟩
  · exact absurd h0 h1
  · exact ⟨Rb, vL, rfl, ⟨hs.blk, Nat.le_trans hn hs.hW, hd.fresh hs.low, Kd.Q_lower (Kd.Q_of_R hs.L) hn⟩, hs.low⟩
end
theorem sametexts2 {w : World} {A B : Option Addr} {c d n : Nat} {a b : List (List Int)} {q : Bool} (hq : sameT a b = q) (hn : b.length = n) (hl : a.length ≤ 1000000 ∧ n ≤ 1000000) (ha : bytesK.C w A a.length a) (hb : bytesK.C w B n b) :
    Calls Tryz.prog 25 #[.slice A a.length c, .slice B n d] w fun e w' => e = .returned (.bool q) ∧ Drawn0 w w' := by
  subst hn
  exact sametexts_calls w A B c d a b q hq hl ha hb
end Go.Proofs.YtlepcmljmibdnaaGreat
