/- Parts of one proof, joined: Xf, Pk, Sw, Sk, Wk, Xg, Xh, Xi, Xj. Conditions: those of each statement. -/
import Derived.Test.YtlepcmljmibdnaaGreatZh8
import Derived.Test.YtlepcmljmibdnaaGreatZh7
import Derived.Test.YtlepcmljmibdnaaGreatZh5
namespace Go.Proofs.YtlepcmljmibdnaaGreat
open Go.RowKit Go.Proofs.YtlepcmljmibdnaaGreatW.PrintWords Go.Proofs.YtlepcmljmibdnaaGreatW.PrintLast Go.Proofs.YtlepcmljmibdnaaGreatW.PrintMore PWalOpens
set_option linter.unusedVariables false
set_option linter.unusedSimpArgs false
section
variable {n0 : Nat} {w w' w2 : World} {Rb R : Nat} {vS vC vB vo vo' vL v1 : Value} {X X1 X2 : RX} {gen tail : Int} {L L1 oL : List Rec} {over : Bool}
end
end Go.Proofs.YtlepcmljmibdnaaGreat
namespace Go.Proofs.YtlepcmljmibdnaaGreat
open Go.RowKit Go.Proofs.YtlepcmljmibdnaaGreatW.PrintWords Go.Proofs.YtlepcmljmibdnaaGreatW.PrintLast Go.Proofs.YtlepcmljmibdnaaGreatW.PrintMore PWalOpens
set_option linter.unusedVariables false
set_option linter.unusedSimpArgs false
/-- what is kept (S), what is seen (V), and the sectors that are cached (T) -/
structure Pn (D : PD) (n : Int) (S V : Int → List Int) (T : Int → Prop) : Prop where
  qt : Qt D n S
  view : ∀ a, view D a = V a
  cache : ∀ p ∈ D.cache, T p.1
theorem readL_off {T : Int → Prop} (s : List Int) (a : Int) (ha : ¬ T a) : ∀ (l : List (Int × List Int)), (∀ p ∈ l, T p.1) → readL s l a = s
  | [], _ => rfl
  | p :: l, h => by
    unfold readL
    rw [List.foldl_cons, if_neg (fun e => ha (by rw [← e]; exact h p (List.mem_cons_self ..)))]
    exact readL_off s a ha l (fun q hq => h q (List.mem_cons_of_mem _ hq))
section
variable {D : PD} {n : Int} {S V : Int → List Int} {T : Int → Prop}
theorem Pn.off (h : Pn D n S V T) (a : Int) (ha : ¬ T a) : V a = S a := by
  rw [← h.view a, ← h.qt.kept a]
  unfold Proofs.YtlepcmljmibdnaaGreat.view
  exact readL_off _ a ha _ h.cache
theorem actP_kept (D : PD) : (actP D).1.kept = D.kept := by
  unfold actP
  simp only
  split
  · rfl
  · split <;> rfl
theorem actP_code (D : PD) : (actP D).2 = 0 ∨ (actP D).2 = 50 := by
  unfold actP
  simp only
  split
  · exact .inr rfl
  · split <;> exact .inl rfl
theorem Pn.act (h : Pn D n S V T) : Pn (actP D).1 n S V T := by
  obtain ⟨a1, a2, _⟩ := h.qt.act
  refine ⟨a1, fun a => ?_, by rw [a2]; exact h.cache⟩
  rw [← h.view a]
  unfold Proofs.YtlepcmljmibdnaaGreat.view
  rw [a2, actP_kept]
theorem Pn.write (h : Pn D n S V T) (at_ : Int) (b : List Int) (h0 : 0 ≤ at_) (h1 : at_ < n) (hb : b.length ≤ 64) (hT : T at_) :
    (∃ D', writeP D at_ b = (D', 0) ∧ Pn D' n S (updS V at_ (pad b)) T ∧ D'.cache.length = D.cache.length + 1) ∨ (∃ D', writeP D at_ b = (D', 50) ∧ Pn D' n S V T ∧ D'.cache.length = D.cache.length) := by
  unfold writeP
  by_cases hd : D.dead = true
  · rw [if_pos hd]
    exact .inr ⟨D, rfl, h, rfl⟩
  · rw [if_neg hd, if_neg (by rw [h.qt.n]; unfold inB; simp; omega), if_neg (by omega)]
    obtain ⟨a1, a2, _⟩ := h.qt.act
    rcases actP_code D with hc | hc
    · rw [if_neg (fun e => e hc)]
      left
      refine ⟨_, rfl, ⟨⟨a1.bad, a1.n, a1.kept⟩, fun a => ?_, fun p hp => ?_⟩, ?_⟩
      · have hv := h.act.view a
        unfold Proofs.YtlepcmljmibdnaaGreat.view at hv ⊢
        show readL _ ((actP D).1.cache ++ _) a = _
        rw [readL_snoc, hv]
        unfold updS
        by_cases e : a = at_
        · rw [if_pos e, if_pos e.symm]
        · rw [if_neg e, if_neg (fun h => e h.symm)]
      · rcases List.mem_append.1 hp with hp | hp
        · exact h.act.cache p hp
        · rw [List.mem_singleton] at hp; subst hp; exact hT
      · show ((actP D).1.cache ++ _).length = _
        rw [List.length_append, a2]
        rfl
    · rw [if_pos (by rw [hc]; decide)]
      exact .inr ⟨(actP D).1, Prod.ext rfl hc, h.act, by rw [a2]⟩
/-- what a crash leaves -/
theorem Pn.crash (h : Pn D n S V T) (ks : List Bool) : ∃ S', Rdy (crashP D ks) n S' ∧ ∀ a, ¬ T a → S' a = S a := by
  have key : ∀ i, i ≤ D.cache.length → ∃ S', Qt (sel D D.cache ks i) n S' ∧ ∀ a, ¬ T a → S' a = S a := by
    intro i
    induction i with
    | zero => intro _; exact ⟨S, h.qt, fun _ _ => rfl⟩
    | succ i ih =>
      intro hi
      obtain ⟨S', q, hs⟩ := ih (by omega)
      unfold sel
      split
      · refine ⟨_, q.keep _, fun a ha => ?_⟩
        have hm : D.cache[i]? = some D.cache[i] := List.getElem?_eq_getElem (by omega)
        have hT := h.cache _ (List.getElem_mem (show i < D.cache.length by omega))
        unfold updS
        simp only [List.getD, hm, Option.getD_some]
        rw [if_neg (fun e => ha (by rw [e]; exact hT))]
        exact hs a ha
      · exact ⟨S', q, hs⟩
  obtain ⟨S', q, hs⟩ := key D.cache.length (Nat.le_refl _)
  exact ⟨S', q.rest, hs⟩
/-- the part of a save behind its first flush -/
theorem crash_tail (q1 : Qt D n S) (d1 : D.dead = false) (c1 : D.cache = []) (hn : 2 ≤ n) (g : Int) (l : List Int) (hg : 0 ≤ g) (hl : l.length ≤ 4) (ks : List Bool) (X : PD × Int) (hX : X = if (writeP D (g % 2) (slotB g l)).2 ≠ 0 then writeP D (g % 2) (slotB g l) else flushP (writeP D (g % 2) (slotB g l)).1) :
    (Rdy (crashP X.1 ks) n S ∧ X.2 ≠ 0) ∨ Rdy (crashP X.1 ks) n (updS S (g % 2) (pad (slotB g l))) := by
  obtain ⟨b1, b2, b3⟩ := q1.act
  rw [c1] at b2
  have w0 : writeP D (g % 2) (slotB g l) = if (actP D).2 ≠ 0 then actP D else ({ (actP D).1 with cache := [(g % 2, pad (slotB g l))] }, 0) := by
    have h64 := slotB_64 g l hl
    unfold writeP
    rw [d1]
    simp only [Bool.false_eq_true, if_false]
    rw [if_neg (by rw [q1.n]; unfold inB; simp; omega), if_neg (by omega), b2]
    rfl
  by_cases e2 : (actP D).2 = 0
  · rw [if_neg (fun hh => hh e2)] at w0
    rw [w0, if_neg (by simp)] at hX
    have q2 : Qt { (actP D).1 with cache := [(g % 2, pad (slotB g l))] } n S := ⟨b1.bad, b1.n, b1.kept⟩
    generalize hD2 : { (actP D).1 with cache := [(g % 2, pad (slotB g l))] } = D2 at *
    have c2 : D2.cache = [(g % 2, pad (slotB g l))] := by rw [← hD2]
    obtain ⟨g1, g2, g3⟩ := q2.act
    rw [c2] at g2
    by_cases e3 : (actP D2).2 = 0
    · right
      rw [hX]
      unfold flushP
      rw [if_neg (fun hh => hh e3), g2]
      have q3 := g1.keep (g % 2, pad (slotB g l))
      have q4 : Qt { keepAll (actP D2).1 [(g % 2, pad (slotB g l))] with cache := [] } n (updS S (g % 2) (pad (slotB g l))) := ⟨q3.bad, q3.n, q3.kept⟩
      exact q4.crash0 rfl ks
    · have f3 : flushP D2 = actP D2 := by unfold flushP; rw [if_pos e3]
      rw [hX, f3]
      rcases g1.crash1 _ g2 ks with hh | hh
      · exact .inl ⟨hh, e3⟩
      · exact .inr hh
  · rw [if_pos e2] at w0
    rw [w0, if_pos e2] at hX
    rw [hX]
    exact .inl ⟨b1.crash0 b2 ks, e2⟩
/-- whatever crash strikes within a save, with something cached -/
theorem Pn.crash_save (h : Pn D n S V T) (hn : 2 ≤ n) (g : Int) (l : List Int) (hg : 0 ≤ g) (hl : l.length ≤ 4) (ks : List Bool) :
    (∃ S', Rdy (crashP (saveP D g l).1 ks) n S' ∧ (∀ a, ¬ T a → S' a = S a) ∧ (saveP D g l).2 ≠ 0) ∨ Rdy (crashP (saveP D g l).1 ks) n (updS V (g % 2) (pad (slotB g l))) := by
  obtain ⟨a1, a2, a3⟩ := h.qt.act
  by_cases e1 : (actP D).2 = 0
  · have f1 : flushP D = ({ keepAll (actP D).1 (actP D).1.cache with cache := [] }, 0) := by
      unfold flushP
      rw [if_neg (fun hh => hh e1)]
    obtain ⟨k1, k2, k3, k4, k5⟩ := keepAll_keeps (actP D).1.cache (actP D).1
    have q1 : Qt { keepAll (actP D).1 (actP D).1.cache with cache := [] } n V := ⟨fun a => by show (keepAll (actP D).1 (actP D).1.cache).bad a = false; rw [k2]; exact a1.bad a, k1.trans a1.n, fun a => by
      have hv := h.act.view a
      unfold Proofs.YtlepcmljmibdnaaGreat.view at hv
      exact (keepAll_view (actP D).1.cache (actP D).1 a).trans hv⟩
    have hX := crash_tail q1 (k5.trans (a3 e1)) rfl hn g l hg hl ks (saveP D g l) (by
      conv => lhs; unfold saveP
      rw [if_neg (by omega), f1, if_neg (by simp)])
    rcases hX with ⟨h1, h2⟩ | h1
    · exact .inl ⟨V, h1, fun a ha => h.off a ha, h2⟩
    · exact .inr h1
  · have f1 : flushP D = actP D := by unfold flushP; rw [if_pos e1]
    have hs : saveP D g l = actP D := by
      unfold saveP
      rw [if_neg (by omega), f1, if_pos e1]
    rw [hs]
    obtain ⟨S', h1, h2⟩ := h.act.crash ks
    exact .inl ⟨S', h1, h2, e1⟩
end
section
variable {n r : Int} {S : Int → List Int} {T : Int → Prop}
theorem layC_pn (hn : n = r + 2) (hr : 1 ≤ r) : ∀ (cs : List (List Int)) (D : PD) (V : Int → List Int) (s : Int), Pn D n S V T → (∀ c ∈ cs, c.length ≤ 64) → (∀ q, s ≤ q → q < s + cs.length → T (sectP r q)) →
    (∃ D', layC r cs D s = (D', s + cs.length, 0) ∧ Pn D' n S (wrS V r cs s) T ∧ D'.cache.length ≤ D.cache.length + cs.length) ∨ (∃ D' s' V', layC r cs D s = (D', s', 50) ∧ Pn D' n S V' T ∧ D'.cache.length ≤ D.cache.length + cs.length)
  | [], D, V, s, h, _, _ => .inl ⟨D, by simp [layC], h, by simp⟩
  | c :: cs, D, V, s, h, hc, hT => by
    have h1 := sectP_in (p := s) hr
    rw [List.length_cons] at hT
    rcases h.write (sectP r s) c (by omega) (by omega) (hc c (List.mem_cons_self ..)) (hT s (by omega) (by omega)) with ⟨D1, hw, p1, l1⟩ | ⟨D1, hw, p1, l1⟩
    · have hlay : layC r (c :: cs) D s = layC r cs D1 (s + 1) := by
        show (if (writeP D (sectP r s) c).2 ≠ 0 then _ else _) = _
        rw [hw, if_neg (by simp)]
      rw [hlay]
      rcases layC_pn hn hr cs D1 _ (s + 1) p1 (fun c hc' => hc c (List.mem_cons_of_mem _ hc')) (fun q h1 h2 => hT q (by omega) (by omega)) with ⟨D', e1, e2, e3⟩ | ⟨D', s', V', e1, e2, e3⟩
      · refine .inl ⟨D', ?_, e2, by rw [List.length_cons]; omega⟩
        rw [e1, List.length_cons, show s + 1 + (cs.length : Int) = s + ((cs.length + 1 : Nat) : Int) by omega]
      · exact .inr ⟨D', s', V', e1, e2, by rw [List.length_cons]; omega⟩
    · refine .inr ⟨D1, s, V, ?_, p1, by rw [List.length_cons]; omega⟩
      show (if (writeP D (sectP r s) c).2 ≠ 0 then _ else _) = _
      rw [hw, if_pos (by simp)]
/-- a disk that may die beside one that doesn't -/
theorem layR_two (hn : n = r + 2) (hr : 1 ≤ r) : ∀ (R : List (List Int)) (D0 D : PD) (V : Int → List Int) (s : Int) (st : List Int) (D0' : PD) (st' : List Int) (s' : Int) (V' : Int → List Int), Rdy D0 n V → Pn D n S V T → (∀ b ∈ R, isBytes b ∧ b.length ≤ 40000) →
    (∀ q, s ≤ q → q < s + needs R → T (sectP r q)) → layR r R D0 s st = (D0', st', s', 0) → Rdy D0' n V' →
    (∃ D', layR r R D s st = (D', st', s', 0) ∧ Pn D' n S V' T ∧ D'.cache.length ≤ D.cache.length + 700 * R.length) ∨ (∃ D' V'', layR r R D s st = (D', [], 0, 50) ∧ Pn D' n S V'' T ∧ D'.cache.length ≤ D.cache.length + 700 * R.length)
  | [], D0, D, V, s, st, D0', st', s', V', h0, h, _, _, hl, h' => by
    have e : layR r [] D0 s st = (D0, st, s, 0) := rfl
    rw [e] at hl
    obtain ⟨rfl, rfl, rfl, _⟩ := hl
    have : V' = V := funext fun a => by rw [← h'.view a, ← h0.view a]
    subst this
    exact .inl ⟨D, rfl, h, by simp⟩
  | b :: bs, D0, D, V, s, st, D0', st', s', V', h0, h, hb, hT, hl, h' => by
    have hb0 := hb b (List.mem_cons_self ..)
    have hk := need_eq (b := b) (by omega)
    have hns : needs (b :: bs) = needN b + needs bs := rfl
    have hns0 := (needs_le (R := bs) fun b h => (hb b (List.mem_cons_of_mem _ h)).2).1
    rw [hns] at hT
    have hcl := chs_len hb0.2
    have he := chs_each hb0.1 hb0.2
    obtain ⟨D01, e1, e2, _, _⟩ := layC_rdy hn hr (chs (frameX b)) D0 V s h0 (fun c hc => (he c hc).1)
    have unf : ∀ D : PD, layR r (b :: bs) D s st = if (layC r (chs (frameX b)) D s).2.2 ≠ 0 then ((layC r (chs (frameX b)) D s).1, [], 0, (layC r (chs (frameX b)) D s).2.2) else layR r bs (layC r (chs (frameX b)) D s).1 (layC r (chs (frameX b)) D s).2.1 (st ++ [s]) := fun _ => rfl
    rw [unf, e1] at hl
    simp only [ne_eq, not_true_eq_false, if_false] at hl
    rw [hcl, ← hk] at hl
    rcases layC_pn hn hr (chs (frameX b)) D V s h (fun c hc => (he c hc).1) (fun q h1 h2 => hT q h1 (by rw [hcl] at h2; omega)) with ⟨D1, f1, f2, f3⟩ | ⟨D1, s1, V1, f1, f2, f3⟩
    · rw [unf, f1]
      simp only [ne_eq, not_true_eq_false, if_false]
      rw [hcl, ← hk]
      rw [hcl] at f3
      rcases layR_two hn hr bs D01 D1 _ (s + needN b) (st ++ [s]) D0' st' s' V' e2 f2 (fun b h => hb b (List.mem_cons_of_mem _ h)) (fun q h1 h2 => hT q (by omega) (by omega)) hl h' with ⟨D', g1, g2, g3⟩ | ⟨D', V'', g1, g2, g3⟩
      · exact .inl ⟨D', g1, g2, by rw [List.length_cons]; omega⟩
      · exact .inr ⟨D', V'', g1, g2, by rw [List.length_cons]; omega⟩
    · rw [unf, f1]
      rw [hcl] at f3
      exact .inr ⟨D1, V1, by simp, f2, by rw [List.length_cons]; omega⟩
end
theorem OKD.layC {r : Int} : ∀ (cs : List (List Int)) {D : PD} (s : Int), OKD D → (∀ c ∈ cs, isBytes c) → OKD (layC r cs D s).1
  | [], D, s, h, _ => h
  | c :: cs, D, s, h, hc => by
    have h1 := h.write (sectP r s) (hc c (List.mem_cons_self ..))
    unfold Proofs.YtlepcmljmibdnaaGreat.layC
    split
    · exact h1
    · exact OKD.layC cs (s + 1) h1 (fun c hc' => hc c (List.mem_cons_of_mem _ hc'))
theorem OKD.layR {r : Int} : ∀ (R : List (List Int)) {D : PD} (s : Int) (st : List Int), OKD D → (∀ b ∈ R, isBytes b ∧ b.length ≤ 40000) → OKD (layR r R D s st).1
  | [], D, s, st, h, _ => h
  | b :: bs, D, s, st, h, hb => by
    have hb0 := hb b (List.mem_cons_self ..)
    have h1 := OKD.layC (r := r) (chs (frameX b)) s h (fun c hc => (chs_each hb0.1 hb0.2 c hc).2)
    unfold Proofs.YtlepcmljmibdnaaGreat.layR
    split
    · exact h1
    · exact OKD.layR bs _ _ h1 (fun b h => hb b (List.mem_cons_of_mem _ h))
section
variable {D : PD} {S : Int → List Int} {r g head tail : Int} {R : List (List Int)}
/-- the new head counts -/
theorem WInv.next (h : WInv D S r g head tail R) {V : Int → List Int} {D3 : PD} {h1 t1 : Int} {R1 : List (List Int)} (h3 : Rdy D3 (r + 2) (updS V ((g + 1) % 2) (pad (slotB (g + 1) [h1, t1])))) (hc : D3.cache = []) (ho : OKD D3) (e0 : V 0 = S 0) (e1 : V 1 = S 1) (hrun : Run V r h1 R1 t1) (hfit : t1 - h1 ≤ r) (hh : 0 ≤ h1 ∧ t1 < 18446744073709551616) (hrec : ∀ b ∈ R1, isBytes b ∧ b.length ≤ 40000) (hg : g + 1 < 18446744073709551616) :
    WInv D3 (updS V ((g + 1) % 2) (pad (slotB (g + 1) [h1, t1]))) r (g + 1) h1 t1 R1 := by
  have hr := h.hr
  have g0 := h.g0
  have hle := run_le (fun b hb => by have := (hrec b hb).2; omega) hrun
  have hk : ∀ n ∈ [h1, t1], 0 ≤ n ∧ n < 18446744073709551616 := by
    intro n hn
    simp only [List.mem_cons, List.not_mem_nil, or_false] at hn
    rcases hn with rfl | rfl <;> omega
  have hp : ∀ a : Int, a = 0 ∨ a = 1 → V a = S a := by
    rintro a (rfl | rfl)
    · exact e0
    · exact e1
  obtain ⟨m1, m2⟩ := next_mine (S := V) (g := g) (l := [head, tail]) (k := [h1, t1]) ⟨g0, hg⟩ (by rw [hp _ (by omega)]; exact h.mine) (by simp) hk
  refine ⟨h3, hr, hc, ho, m1, m2, by omega, ?_, hfit, hh.1, hrec⟩
  refine run_keep (fun b hb => by have := (hrec b hb).2; omega) (fun q _ _ => ?_) hrun
  have := sectP_in (p := q) hr
  unfold updS
  rw [if_neg (by omega)]
/-- what the free part of the ring holds doesn't count -/
theorem WInv.free (h : WInv D S r g head tail R) {S' : Int → List Int} {D3 : PD} {m : Int} (hm : m ≤ r - (tail - head)) (h3 : Rdy D3 (r + 2) S') (hc : D3.cache = []) (ho : OKD D3) (hs : ∀ a, (¬ ∃ q, tail ≤ q ∧ q < tail + m ∧ a = sectP r q) → S' a = S a) :
    WInv D3 S' r g head tail R := by
  have hr := h.hr
  have low : ∀ a : Int, a < 2 → S' a = S a := fun a ha => hs a (by
    rintro ⟨q, _, _, rfl⟩
    have := sectP_in (p := q) hr
    omega)
  refine ⟨h3, hr, hc, ho, ?_, ?_, h.g0, ?_, h.fit, h.h0, h.recs⟩
  · rw [low _ (by omega)]; exact h.mine
  · rw [low _ (by omega)]; exact h.other
  · refine run_keep (fun b hb => by have := (h.recs b hb).2; omega) (fun p h1 h2 => hs _ ?_) h.run
    rintro ⟨q, h3, h4, he⟩
    exact sect_inj hr (show p < q by omega) (by omega) he
end
theorem starts_len : ∀ (X : List (List Int)) (p : Int), (startsP p X).length = X.length
  | [], p => rfl
  | b :: bs, p => by simp [startsP, starts_len bs]
/-- what the wal's change answers, and the disk behind it -/
noncomputable def chgD (D1 : PD) (e : Int) (h1 s g : Int) : PD := if e = 0 then (saveP D1 g [h1, s]).1 else D1
noncomputable def chgE (D1 : PD) (e : Int) (h1 s g : Int) : Int := if e = 0 ∧ (saveP D1 g [h1, s]).2 = 0 then 0 else 50
structure Keeps (r : Int) (D1 : PD) (e : Int) (h1 s g : Int) (ks : List Bool) (R W : List (List Int)) : Prop where
  code : e = 0 ∨ e = 50
  s0 : 0 ≤ s ∧ s < 18446744073709551616
  len : D1.cache.length ≤ 4200
  ok : OKD (crashP (chgD D1 e h1 s g) ks)
  got : ∃ S g' h' t' X, WInv (crashP (chgD D1 e h1 s g) ks) S r g' h' t' X ∧ (X = W ∨ (chgE D1 e h1 s g ≠ 0 ∧ X = R))
section
variable {D : PD} {S : Int → List Int} {r g head tail : Int} {R : List (List Int)}
theorem WInv.keeps (h : WInv D S r g head tail R) {X : List (List Int)} (hX : RecsOK X) (hf : needs X ≤ r - (tail - head)) (ht : tail + needs X < 18446744073709551616) (hg : g + 1 < 18446744073709551616) (swap : Bool) (arm : Int) (ks : List Bool) :
    ∃ D1 st s e, layP (armP D arm) r (r - (tail - head)) tail X = (D1, st, s, e) ∧ st.length ≤ X.length ∧
      Keeps r D1 e (if swap then tail else head) s (g + 1) ks R (if swap then X else R ++ X) := by
  have hle := h.le
  have hr1 := h.hr
  have hns := needs_le (R := X) fun b hb => (hX.each b hb).2
  have h0 := h.h0
  obtain ⟨D0', V', f1, f2, f3, f4, f4', f5, f6⟩ := layR_run (head := head) rfl h.hr X D S tail [] R h.rdy hX.each (fun b hb => by have := (h.recs b hb).2; omega) h.run (by omega)
  obtain ⟨D0'', V'', f1b, f2b, f3b, _⟩ := layR_run (head := tail) rfl h.hr X D S tail [] [] h.rdy hX.each (fun b hb => by cases hb) rfl (by omega)
  have hDD : D0'' = D0' := by rw [f1] at f1b; injection f1b with e _; exact e.symm
  subst hDD
  have hVV : V'' = V' := funext fun a => by rw [← f2b.view a, ← f2.view a]
  subst hVV
  have p0 : Pn (armP D arm) (r + 2) S S (fun a => ∃ q, tail ≤ q ∧ q < tail + needs X ∧ a = sectP r q) := by
    have hv := h.rdy.view
    refine ⟨⟨h.rdy.bad, h.rdy.n, fun a => ?_⟩, hv, fun p hp => ?_⟩
    · have := hv a
      unfold view at this
      rw [h.cache] at this
      exact this
    · have hp' : p ∈ D.cache := hp
      rw [h.cache] at hp'
      cases hp'
  have hlen : (armP D arm).cache.length = 0 := by show D.cache.length = 0; rw [h.cache]; rfl
  have hXl := hX.len
  have hlay : ∀ D, layP D r (r - (tail - head)) tail X = layR r X D tail [] := fun D => by unfold layP; rw [if_neg (by omega)]
  rw [hlay]
  have hok0 : OKD (layR r X (armP D arm) tail []).1 := OKD.layR X tail [] (h.ok.arm arm) hX.each
  rcases layR_two (S := S) rfl h.hr X D (armP D arm) S tail [] D0'' _ _ V'' h.rdy p0 hX.each (fun q h1 h2 => ⟨q, h1, h2, rfl⟩) f1 f2 with ⟨D1, k1, k2, k3⟩ | ⟨D1, V1, k1, k2, k3⟩
  · rw [k1] at hok0
    have hok : OKD (saveP D1 (g + 1) [if swap then tail else head, tail + needs X]).1 := OKD.save hok0 (g + 1) _ ⟨by have := h.g0; omega, hg⟩ (by
      intro n hn
      simp only [List.mem_cons, List.not_mem_nil, or_false] at hn
      rcases hn with rfl | rfl
      · split <;> omega
      · omega)
    have hst : (startsP tail X).length = X.length := starts_len X tail
    refine ⟨D1, _, _, 0, k1, by rw [List.nil_append, hst]; exact Nat.le_refl _, .inl rfl, by omega, by omega, ?_, ?_⟩
    · unfold chgD
      rw [if_pos rfl]
      exact hok.crash ks
    · unfold chgD chgE
      rw [if_pos rfl]
      rcases k2.crash_save (by omega) (g + 1) [if swap then tail else head, tail + needs X] (by have := h.g0; omega) (by simp) ks with ⟨S', q1, q2, q3⟩ | q1
      · refine ⟨S', g, head, tail, R, h.free hf q1 rfl (hok.crash ks) q2, .inr ⟨?_, rfl⟩⟩
        rw [if_neg (fun e => q3 e.2)]
        decide
      · cases swap with
        | true =>
          have hw := h.next q1 rfl (hok.crash ks) f4 f4' f3b (by simp only [if_true]; omega) (by simp only [if_true]; omega) (by rw [List.nil_append]; exact hX.each) hg
          exact ⟨_, _, _, _, _, hw, .inl (by simp)⟩
        | false =>
          have hw := h.next q1 rfl (hok.crash ks) f4 f4' f3 (by simp only [Bool.false_eq_true, if_false]; omega) (by simp only [Bool.false_eq_true, if_false]; omega) (fun b hb => (List.mem_append.1 hb).elim (h.recs b) (hX.each b)) hg
          exact ⟨_, _, _, _, _, hw, .inl (by simp)⟩
  · rw [k1] at hok0
    refine ⟨D1, _, _, 50, k1, by simp, .inr rfl, by omega, by omega, ?_, ?_⟩
    · unfold chgD
      rw [if_neg (by decide)]
      exact hok0.crash ks
    · unfold chgD chgE
      rw [if_neg (by decide)]
      obtain ⟨S', q1, q2⟩ := k2.crash ks
      exact ⟨S', g, head, tail, R, h.free hf q1 rfl (hok0.crash ks) q2, .inr ⟨by rw [if_neg (fun e => by cases e.1)]; decide, rfl⟩⟩
end
end Go.Proofs.YtlepcmljmibdnaaGreat
namespace Go.Proofs.YtlepcmljmibdnaaGreat
open Go.RowKit Go.Proofs.YtlepcmljmibdnaaGreatW.PrintWords Go.Proofs.YtlepcmljmibdnaaGreatW.PrintLast Go.Proofs.YtlepcmljmibdnaaGreatW.PrintMore PWalOpens
set_option linter.unusedVariables false
set_option linter.unusedSimpArgs false
section
variable {n0 : Nat} {w w' : World} {Wb B M Bd : Nat} {vc vs v1 : Value} {D D1 D2 : PD} {gen head tail h1 t1 : Int} {S S1 st : List Int} {over : Bool} {s e e2 : Int}
def SwapQ (n0 : Nat) (w : World) (Wb B M Bd : Nat) (D1 D2 : PD) (gen head tail : Int) (S st : List Int) (s e e2 : Int) (r : Ending) (w' : World) : Prop :=
  TC n0 (isWD M Bd) w w' ∧ ∃ vc' vs',
    (e ≠ 0 → (e = 2 ∨ e = 51) → r = .returned (.int .i64 e) ∧ WV n0 w' Wb B M Bd vc' vs' D1 gen head tail S false) ∧
    (e ≠ 0 → (e ≠ 2 ∧ e ≠ 51) → r = .returned (.int .i64 50) ∧ WV n0 w' Wb B M Bd vc' vs' D1 gen head tail S true) ∧
    (e = 0 → e2 = 0 → r = .returned (.int .i64 0) ∧ WV n0 w' Wb B M Bd vc' vs' D2 (gen + 1) tail s st false) ∧
    (e = 0 → e2 ≠ 0 → r = .returned (.int .i64 50) ∧ WV n0 w' Wb B M Bd vc' vs' D2 gen head tail S true)
set_option maxHeartbeats 1000000 in
theorem swap_calls {A : Option Addr} {c : Nat} {R : List (List Int)} {r f : Int} (hr : ringP D = r) (hR : RecsOK R) (hf : r - (tail - head) = f) (hres : layP D r f tail R = (D1, st, s, e)) (hsv : saveP D1 (gen + 1) [tail, s] = (D2, e2))
    (ht : 0 ≤ head ∧ head ≤ tail ∧ tail < 18446744073709540000 ∧ tail - head ≤ 4094) (hg : 0 ≤ gen ∧ gen < 18446744073709551615) (hs : 0 ≤ s ∧ s < 18446744073709551616) (hl : D.cache.length ≤ 20000) (hl1 : D1.cache.length ≤ 30000) (h : WV n0 w Wb B M Bd vc vs D gen head tail S false)
    (hT : ∀ W, TC n0 (isWD M Bd) w W → bytesK.C W A R.length R) :
    Calls Tryz.prog 17 #[.pointer (some ⟨Wb, 0, none⟩), .slice A R.length c] w (SwapQ n0 w Wb B M Bd D1 D2 gen head tail S st s e e2) := by
  have HK := Aside0.mk (wok_calls h.blk)
  have HLY := Aside0.mk (lay_wv (c := c) hr hR hf hres ht hl h hT)
  have HSV := Aside0.mk hsv
  have HL1 := Aside0.mk hl1
  have HTD := Aside0.mk (show 0 ≤ tail ∧ tail < 18446744073709551616 from by omega)
  have HN0 := Aside0.mk (show n0 ≤ w.heap.size from h.dk.base_le)
  obtain ⟨⟨q0, q1, q2, q3, q4, q5, q6⟩, _⟩ := cells7 h.blk
  simp only [Bool.not_false, Bool.and_self] at HK
  clear h hr hR hf hres hT hsv ht q0 q1 q2 q4 q5 q6
  by_cases he : e = 0
  · subst he
    go_enter Tryz.func17, Tryz.ntmps17
    go_wp2_with (first
      | (go_at_call 54; (with_reducible refine HK.out.mono ?_); rintro e w' ⟨rfl, rfl⟩)
      | (go_at_call 55; (with_reducible refine HLY.out.mono ?_); rintro e w1 ⟨A1, c1, vc1, rfl, hst, hv, htc⟩; have HST := Aside0.mk hst; have HV := Aside0.mk hv; have HTC := Aside0.mk htc; clear hst hv htc)
      | (go_at_call 57; (with_reducible refine (turn_calls e2 HSV.out hg HTD.out hs HL1.out HV.out (Kd.R_lower HST.out HN0.out)).mono ?_); rintro er w4 ⟨ht4, vc4, hq1, hq2⟩; have HT4 := Aside0.mk (HTC.out.trans ht4); have HQ4 := Aside0.mk (And.intro hq1 hq2); clear hq1 hq2 ht4; obtain ⟨x4, rfl⟩ : ∃ x4, er = .returned (.int .i64 x4) := ret_code HQ4.out.1 HQ4.out.2))
    go_ret
    refine ⟨HT4.out, vc4, if e2 = 0 then .slice A1 st.length c1 else vs, fun h => absurd rfl h, fun h => absurd rfl h, fun _ h2 => ?_, fun _ h2 => ?_⟩
    · rw [if_pos h2]
      exact HQ4.out.1 h2
    · rw [if_neg h2]
      exact HQ4.out.2 h2
  · have he' : (e != 0) = true := by simp; exact he
    by_cases he2 : e = 2 ∨ e = 51
    · have HE := Aside0.mk (fun w => wend_same (w := w) (Wb := Wb) e he2)
      go_enter Tryz.func17, Tryz.ntmps17
      go_wp2_with (first
        | (go_at_call 54; (with_reducible refine HK.out.mono ?_); rintro e w' ⟨rfl, rfl⟩)
        | (go_at_call 55; (with_reducible refine HLY.out.mono ?_); rintro er w1 ⟨A1, c1, vc1, rfl, hst, hv, htc⟩; have HV := Aside0.mk hv; have HTC := Aside0.mk htc; clear hst hv htc)
        | (go_at_call 56; (with_reducible refine (HE.out w1).mono ?_); rintro er w' ⟨rfl, rfl⟩))
      go_ret
      exact ⟨HTC.out, vc1, vs, fun _ _ => ⟨rfl, HV.out⟩, fun _ h => absurd he2 (by omega), fun h => absurd h he, fun h => absurd h he⟩
    · have HE := Aside0.mk (fun w (h : WlC w Wb B gen head tail vs true false) => wend_over e (by omega) h)
      go_enter Tryz.func17, Tryz.ntmps17
      go_wp2_with (first
        | (go_at_call 54; (with_reducible refine HK.out.mono ?_); rintro e w' ⟨rfl, rfl⟩)
        | (go_at_call 55; (with_reducible refine HLY.out.mono ?_); rintro er w1 ⟨A1, c1, vc1, rfl, hst, hv, htc⟩; have HV := Aside0.mk hv; have HTC := Aside0.mk htc; clear hst hv htc)
        | (go_at_call 56; (with_reducible refine (HE.out w1 HV.out.blk).mono ?_); rintro er w' ⟨rfl, rfl⟩))
      go_ret
      exact ⟨HTC.out.trans ((HV.out.tcW 6 _).mono fun _ _ h => .inr h), vc1, vs, fun _ h => absurd h he2, fun _ _ => ⟨rfl, HV.out.overed⟩, fun h => absurd h he, fun h => absurd h he⟩
end
end Go.Proofs.YtlepcmljmibdnaaGreat
namespace Go.Proofs.YtlepcmljmibdnaaGreat
open Go.RowKit Go.Proofs.YtlepcmljmibdnaaGreatW.PrintWords Go.Proofs.YtlepcmljmibdnaaGreatW.PrintLast Go.Proofs.YtlepcmljmibdnaaGreatW.PrintMore PWalOpens
set_option linter.unusedVariables false
set_option linter.unusedSimpArgs false
section
variable {w0 w : World} {F : Nat → Prop} {B M Bd : Nat} {vc : Value} {D D1 : PD}
theorem at_arm (n : Int) (hn : -9223372036854775808 ≤ n ∧ n ≤ 9223372036854775807) (h : At w0 F w B M Bd vc D) :
    Calls Tryz.prog 21 #[.pointer (some ⟨B, 0, none⟩), .int .i64 n] w fun e w' => e = .returned (.tuple #[]) ∧ At w0 F w' B M Bd vc (armP D n) := by
  refine (arm_calls w 0 B M Bd vc D n hn h.dk).mono ?_
  rintro e w' ⟨rfl, hd, ho⟩
  exact ⟨rfl, h.next hd (ho.chg fun k hk => .inl hk) (fun k _ hk => hk)⟩
end
end Go.Proofs.YtlepcmljmibdnaaGreat
namespace Go.Proofs.YtlepcmljmibdnaaGreat
open Go.RowKit Go.Proofs.YtlepcmljmibdnaaGreatW.PrintWords Go.Proofs.YtlepcmljmibdnaaGreatW.PrintLast Go.Proofs.YtlepcmljmibdnaaGreatW.PrintMore PWalOpens
set_option linter.unusedVariables false
set_option linter.unusedSimpArgs false
/-- texts that lie in an elder world -/
def farK (w0 : World) : Kd (List Int) where
  sz := 1
  E := []
  K := fun _ xs cs => bytesK.K w0 xs cs
  M := fun _ _ _ xs cs => bytesK.K w0 xs cs
  K_len := fun h => bytesK.K_len h
  K_one := fun h => bytesK.K_one h
  K_below := fun _ h => h
  K_of_M := fun h => h
  M_mono := fun _ h => h
  M_bound := fun h => h
  M_move := fun _ h => h
  M_lower := fun _ h => h
section
variable {n0 : Nat} {w w' : World} {Wb B M Bd : Nat} {vc vs v1 : Value} {D D1 D2 : PD} {gen head tail h1 t1 : Int} {S S1 st : List Int} {over : Bool} {s e e2 : Int}
/-- a crash on a disk above a base -/
theorem crash_dk (A : Option Addr) (c : Nat) (ks : List Bool) (hw : crashP D ks = D1) (hl : D.cache.length ≤ 40000) (hb : ∀ w', TC n0 (isDisk M Bd) w w' → Kd.bool.C w' A ks.length ks) (h : DK w n0 B M Bd vc D) :
    Calls Tryz.prog 23 #[.pointer (some ⟨B, 0, none⟩), .slice A ks.length c] w fun e w' => e = .returned (.tuple #[]) ∧ TC n0 (isDisk M Bd) w w' ∧ ∃ vc', DK w' n0 B M Bd vc' D1 := by
  refine (at_crash A c ks hw hl (fun w' hc => hb w' (h.tc hc)) (At.refl h)).mono ?_
  rintro e w2 ⟨rfl, ha⟩
  exact ⟨rfl, h.tc ha.chg, _, At.based h ha⟩
end
end Go.Proofs.YtlepcmljmibdnaaGreat
namespace Go.Proofs.YtlepcmljmibdnaaGreat
open Go.RowKit Go.Proofs.YtlepcmljmibdnaaGreatW.PrintWords Go.Proofs.YtlepcmljmibdnaaGreatW.PrintLast Go.Proofs.YtlepcmljmibdnaaGreatW.PrintMore PWalOpens
set_option linter.unusedVariables false
set_option linter.unusedSimpArgs false
section
variable {n0 : Nat} {w w' w2 : World} {Rb R : Nat} {vS vC vB vo vo' vL v1 : Value} {X X1 X2 : RX} {gen tail : Int} {L L1 oL : List Rec} {over : Bool}
def RcsQ (w : World) (L : List Rec) (e : Ending) (w' : World) : Prop := ∃ A c, e = .returned (.slice A L.length c) ∧ bytesK.C w' A L.length (L.map (·.1)) ∧ Below w.heap.size w w'
end
end Go.Proofs.YtlepcmljmibdnaaGreat
namespace Go.Proofs.YtlepcmljmibdnaaGreat
open Go.RowKit Go.Proofs.YtlepcmljmibdnaaGreatW.PrintWords Go.Proofs.YtlepcmljmibdnaaGreatW.PrintLast Go.Proofs.YtlepcmljmibdnaaGreatW.PrintMore PWalOpens
set_option linter.unusedVariables false
set_option linter.unusedSimpArgs false
/-- a disk and the reference's disk, alike -/
structure Twin (D : PD) (X : RX) : Prop where
  corr : Corr D X
  xok : XOk X
  ok : OKD D
section
variable {D : PD} {X : RX}
end
section
variable {D : PD} {X : RX} {r t : Int}
end
end Go.Proofs.YtlepcmljmibdnaaGreat
namespace Go.Proofs.YtlepcmljmibdnaaGreat
open Go.RowKit Go.Proofs.YtlepcmljmibdnaaGreatW.PrintWords Go.Proofs.YtlepcmljmibdnaaGreatW.PrintLast Go.Proofs.YtlepcmljmibdnaaGreatW.PrintMore PWalOpens
set_option linter.unusedVariables false
set_option linter.unusedSimpArgs false
section
variable {r : Int}
end
/-- a wal that runs, and the reference's -/
structure Same (D : PD) (X : RX) (r head tail : Int) (S : List Int) (L : List Rec) (over : Bool) : Prop where
  twin : Twin D X
  ring : D.n = r + 2
  hr : 1 ≤ r
  st : L.map (·.2.1) = S
  hd : headX L tail = head
  h0 : 0 ≤ head
  le : head ≤ tail
  fit : tail - head ≤ r
  clean : over = false → D.cache = []
  few : D.cache.length ≤ 5000
section
variable {D : PD} {X : RX} {r head tail : Int} {S : List Int} {L : List Rec} {over : Bool}
end
end Go.Proofs.YtlepcmljmibdnaaGreat
namespace Go.Proofs.YtlepcmljmibdnaaGreat
open Go.RowKit Go.Proofs.YtlepcmljmibdnaaGreatW.PrintWords Go.Proofs.YtlepcmljmibdnaaGreatW.PrintLast Go.Proofs.YtlepcmljmibdnaaGreatW.PrintMore PWalOpens
set_option linter.unusedVariables false
set_option linter.unusedSimpArgs false
section
variable {n0 : Nat} {w w' : World} {Wb B M Bd Rb R : Nat} {vc vs vS vC vB vo vL : Value} {D : PD} {X : RX} {gen head tail rgen rtail : Int} {S : List Int} {L : List Rec} {over : Bool}
end
/-- a wal's deed: what is answered, what becomes of the wal -/
def WdQ (n0 : Nat) (w : World) (Wb B M Bd : Nat) (D' : PD) (code gen head tail : Int) (S : List Int) (over : Bool) (e : Ending) (w' : World) : Prop :=
  e = .returned (.int .i64 code) ∧ TC n0 (isWD M Bd) w w' ∧ ∃ vc' vs', WV n0 w' Wb B M Bd vc' vs' D' gen head tail S over
def RdQ (n0 : Nat) (w : World) (Rb R : Nat) (vS vB : Value) (X' : RX) (code gen tail : Int) (L : List Rec) (over : Bool) (e : Ending) (w' : World) : Prop :=
  e = .returned (.int .i64 code) ∧ TC n0 isRW w w' ∧ ∃ vC' vL', RV n0 w' Rb R vS vC' vB (.slice none 0 0) vL' X' gen tail L over
theorem wd_add {n0 : Nat} {w : World} {Wb B M Bd : Nat} {D1 D2 : PD} {gen head tail s e e2 : Int} {S st : List Int} {A : Option Addr} {c : Nat} {R : List (List Int)} (h : Calls Tryz.prog 15 #[.pointer (some ⟨Wb, 0, none⟩), .slice A R.length c] w (AddQ n0 w Wb B M Bd D1 D2 gen head tail S st s e e2)) :
    (e = 51 → Calls Tryz.prog 15 #[.pointer (some ⟨Wb, 0, none⟩), .slice A R.length c] w (WdQ n0 w Wb B M Bd D1 51 gen head tail S false)) ∧
    (e = 50 → Calls Tryz.prog 15 #[.pointer (some ⟨Wb, 0, none⟩), .slice A R.length c] w (WdQ n0 w Wb B M Bd D1 50 gen head tail S true)) ∧
    (e = 0 → e2 = 0 → Calls Tryz.prog 15 #[.pointer (some ⟨Wb, 0, none⟩), .slice A R.length c] w (WdQ n0 w Wb B M Bd D2 0 (gen + 1) head s (S ++ st) false)) ∧
    (e = 0 → e2 ≠ 0 → Calls Tryz.prog 15 #[.pointer (some ⟨Wb, 0, none⟩), .slice A R.length c] w (WdQ n0 w Wb B M Bd D2 50 gen head tail S true)) := by
  refine ⟨fun he => h.mono ?_, fun he => h.mono ?_, fun he h2 => h.mono ?_, fun he h2 => h.mono ?_⟩
  · rintro x w' ⟨ht, vc', vs', q1, q2, q3, q4⟩
    obtain ⟨rfl, hv⟩ := q1 (by omega) (.inr he)
    exact ⟨by rw [he], ht, vc', vs', hv⟩
  · rintro x w' ⟨ht, vc', vs', q1, q2, q3, q4⟩
    obtain ⟨rfl, hv⟩ := q2 (by omega) (by omega)
    exact ⟨rfl, ht, vc', vs', hv⟩
  · rintro x w' ⟨ht, vc', vs', q1, q2, q3, q4⟩
    obtain ⟨rfl, hv⟩ := q3 he h2
    exact ⟨rfl, ht, vc', vs', hv⟩
  · rintro x w' ⟨ht, vc', vs', q1, q2, q3, q4⟩
    obtain ⟨rfl, hv⟩ := q4 he h2
    exact ⟨rfl, ht, vc', vs', hv⟩
end Go.Proofs.YtlepcmljmibdnaaGreat
