/- Parts of one proof, joined: Kp, Pv, Pk, Tu, Cn, Ad, Ct. Conditions: those of each statement. -/
import Derived.Test.YtlepcmljmibdnaaWy8
import Derived.Test.YtlepcmljmibdnaaWy11
namespace Go.Proofs.Ytlepcmljmibdnaa
open Go.RowKit Go.Proofs.YtlepcmljmibdnaaW.PrintWords Go.Proofs.YtlepcmljmibdnaaW.PrintLast Go.Proofs.YtlepcmljmibdnaaW.PrintMore PWalOpens
set_option linter.unusedVariables false
set_option linter.unusedSimpArgs false
/-- no bad sector, nothing cached, whatever it is armed for -/
structure Qt (D : PD) (n : Int) (S : Int → List Int) : Prop where
  bad : ∀ a, D.bad a = false
  n : D.n = n
  kept : ∀ a, (D.kept a).getD zsec = S a
theorem Qt.act {D : PD} {n : Int} {S : Int → List Int} (h : Qt D n S) : Qt (actP D).1 n S ∧ (actP D).1.cache = D.cache ∧ ((actP D).2 = 0 → (actP D).1.dead = false) := by
  unfold actP
  simp only
  split
  · exact ⟨⟨h.bad, h.n, h.kept⟩, rfl, fun h => by cases h⟩
  · rename_i hd
    have hd' : D.dead = false := by
      cases hh : D.dead with
      | false => rfl
      | true => rw [hh] at hd; simp at hd
    split
    · exact ⟨⟨h.bad, h.n, h.kept⟩, rfl, fun _ => hd'⟩
    · exact ⟨h, rfl, fun _ => hd'⟩
theorem Qt.keep {D : PD} {n : Int} {S : Int → List Int} (h : Qt D n S) (p : Int × List Int) : Qt (keepP D p) n (updS S p.1 p.2) := by
  refine ⟨h.bad, h.n, fun a => ?_⟩
  rw [keepP_at]
  unfold updS
  split
  · rfl
  · exact h.kept a
theorem Qt.rest {D : PD} {n : Int} {S : Int → List Int} (h : Qt D n S) : Rdy (restP D) n S := ⟨rfl, rfl, h.bad, h.n, fun a => h.kept a⟩
theorem Qt.crash0 {D : PD} {n : Int} {S : Int → List Int} (h : Qt D n S) (hc : D.cache = []) (ks : List Bool) : Rdy (crashP D ks) n S := by
  unfold crashP
  rw [hc]
  exact h.rest
theorem Qt.crash1 {D : PD} {n : Int} {S : Int → List Int} (h : Qt D n S) (p : Int × List Int) (hc : D.cache = [p]) (ks : List Bool) : Rdy (crashP D ks) n S ∨ Rdy (crashP D ks) n (updS S p.1 p.2) := by
  unfold crashP
  rw [hc]
  show Rdy (restP (sel D [p] ks 1)) n S ∨ Rdy (restP (sel D [p] ks 1)) n (updS S p.1 p.2)
  rw [show sel D [p] ks 1 = if ks.getD 0 false then keepP D p else D from rfl]
  split
  · exact .inr (h.keep p).rest
  · exact .inl h.rest
/-- what a slot that doesn't count may be -/
def lesser (u : Int × List Int × Int) (g : Int) : Prop := u.2.2 ≠ 0 ∨ u.1 < g
structure KInv (D : PD) (S : Int → List Int) (g : Int) (l : List Int) : Prop where
  rdy : Rdy D 4 S
  cache : D.cache = []
  ok : OKD D
  mine : unP (S (g % 2)) = (g, l, 0)
  other : lesser (unP (S ((g + 1) % 2))) g
  g0 : 0 ≤ g
  len : l.length ≤ 4
theorem pick_of {S : Int → List Int} {g : Int} {l : List Int} (hg : 0 ≤ g) (mine : unP (S (g % 2)) = (g, l, 0)) (other : lesser (unP (S ((g + 1) % 2))) g) : pickL (unP (S 0)) (unP (S 1)) = (g, l, 0) := by
  have h2 : g % 2 = 0 ∨ g % 2 = 1 := by omega
  rcases h2 with h | h
  · have h' : (g + 1) % 2 = 1 := by omega
    rw [h] at mine
    rw [h'] at other
    rw [mine]
    generalize unP (S 1) = u at other ⊢
    obtain ⟨ug, ul, ue⟩ := u
    have hs : stepL (true, g, l) (ug, ul, ue) = (true, g, l) := by
      unfold stepL
      rw [if_neg]
      rintro ⟨h1, h2⟩
      rcases other with ho | ho
      · exact ho h1
      · rcases h2 with h2 | h2
        · cases h2
        · exact absurd ho (Int.not_lt.2 (Int.le_of_lt h2))
    unfold pickL
    rw [show stepL (false, 0, []) (g, l, 0) = (true, g, l) from rfl, hs]
    rfl
  · have h' : (g + 1) % 2 = 0 := by omega
    rw [h] at mine
    rw [h'] at other
    rw [mine]
    generalize unP (S 0) = u at other ⊢
    obtain ⟨ug, ul, ue⟩ := u
    have hs : ∃ st, stepL (false, 0, []) (ug, ul, ue) = st ∧ (st.1 = false ∨ st.2.1 < g) := by
      refine ⟨_, rfl, ?_⟩
      unfold stepL
      split
      · rename_i hh
        rcases other with ho | ho
        · exact absurd hh.1 ho
        · exact .inr ho
      · exact .inl rfl
    obtain ⟨st, hst, hc⟩ := hs
    unfold pickL
    rw [hst]
    have : stepL st (g, l, 0) = (true, g, l) := by
      unfold stepL
      rw [if_pos ⟨rfl, hc⟩]
    rw [this]
    rfl
theorem next_mine {S : Int → List Int} {g : Int} {l k : List Int} (hg : 0 ≤ g ∧ g + 1 < 18446744073709551616) (mine : unP (S (g % 2)) = (g, l, 0)) (hk : k.length ≤ 4) (hn : ∀ n ∈ k, 0 ≤ n ∧ n < 18446744073709551616) :
    unP (updS S ((g + 1) % 2) (pad (slotB (g + 1) k)) ((g + 1) % 2)) = (g + 1, k, 0) ∧ lesser (unP (updS S ((g + 1) % 2) (pad (slotB (g + 1) k)) ((g + 1 + 1) % 2))) (g + 1) := by
  constructor
  · unfold updS
    rw [if_pos rfl]
    exact unP_pad (g + 1) k ⟨by omega, hg.2⟩ hk hn
  · unfold updS
    rw [if_neg (by omega), show (g + 1 + 1) % 2 = g % 2 by omega, mine]
    exact .inr (by show g < g + 1; omega)
theorem OKD.arm {D : PD} (h : OKD D) (n : Int) : OKD (armP D n) := ⟨h.ok, h.c64⟩
theorem OKD.crash {D : PD} (h : OKD D) (ks : List Bool) : OKD (crashP D ks) := by
  have key : ∀ i, i ≤ D.cache.length → OKD (sel D D.cache ks i) := by
    intro i
    induction i with
    | zero => intro _; exact h
    | succ i ih =>
      intro hi
      unfold sel
      split
      · refine (ih (by omega)).keep ?_
        have hm : D.cache[i]? = some D.cache[i] := List.getElem?_eq_getElem (by omega)
        simp only [List.getD, hm, Option.getD_some]
        exact h.ok.2 _ (List.getElem_mem _)
      · exact ih (by omega)
  have hk := key D.cache.length (Nat.le_refl _)
  exact ⟨⟨hk.ok.1, fun p hp => by cases hp⟩, fun p hp => by cases hp⟩
end Go.Proofs.Ytlepcmljmibdnaa
namespace Go.Proofs.Ytlepcmljmibdnaa
open Go.RowKit Go.Proofs.YtlepcmljmibdnaaW.PrintWords Go.Proofs.YtlepcmljmibdnaaW.PrintLast Go.Proofs.YtlepcmljmibdnaaW.PrintMore PWalOpens
set_option linter.unusedVariables false
set_option linter.unusedSimpArgs false
section
variable {D : PD} {n : Int} {S S' : Int → List Int} {r : Int}
theorem run_keep {t : Int} : ∀ {R : List (List Int)} {p : Int}, (∀ b ∈ R, b.length ≤ 60000) → (∀ q, p ≤ q → q < t → S' (sectP r q) = S (sectP r q)) → Run S r p R t → Run S' r p R t
  | [], p, _, _, h => h
  | b :: bs, p, hl, hq, h => by
    have hb := need_eq (hl b (List.mem_cons_self ..))
    have h1 := run_le (fun b hb => hl b (List.mem_cons_of_mem _ hb)) h.2
    refine ⟨fun j hj => ?_, run_keep (fun b hb => hl b (List.mem_cons_of_mem _ hb)) (fun q h1 h2 => hq q (by omega) h2) h.2⟩
    rw [hq (p + j) (by omega) (by omega)]
    exact h.1 j hj
theorem run_app {q t : Int} {R' : List (List Int)} : ∀ {R : List (List Int)} {p : Int}, Run S r p R q → Run S r q R' t → Run S r p (R ++ R') t
  | [], p, h, h' => by
    have : p = q := h
    rw [this]
    exact h'
  | b :: bs, p, h, h' => ⟨h.1, run_app h.2 h'⟩
theorem chs_len {b : List Int} (h : b.length ≤ 400) : (chs (frameX b)).length = (b.length + 70) / 64 := by
  unfold chs frameX
  rw [if_neg (by omega), List.length_map, List.length_range, frameB_len]
theorem chs_each {b : List Int} (hb : isBytes b) (h : b.length ≤ 400) : ∀ c ∈ chs (frameX b), c.length ≤ 64 ∧ isBytes c := by
  intro c hc
  unfold chs at hc
  obtain ⟨i, _, rfl⟩ := List.mem_map.1 hc
  refine ⟨by rw [List.length_take]; omega, ?_⟩
  exact ((frameX_facts hb h).2.1.drop _).take _
theorem lay_one {b : List Int} {s : Int} (hn : n = r + 2) (hr : 1 ≤ r) (hR : Rdy D n S) (hb : isBytes b ∧ b.length ≤ 400) (hK : needN b ≤ r) :
    ∃ D' S', layC r (chs (frameX b)) D s = (D', s + needN b, 0) ∧ Rdy D' n S' ∧ D'.cache.length ≤ D.cache.length + 7 ∧ Frm S' r s b ∧ (∀ a, (∀ j : Nat, j < (b.length + 70) / 64 → a ≠ sectP r (s + j)) → S' a = S a) ∧ (OKD D → OKD D') := by
  have hl := chs_len hb.2
  have he := chs_each hb.1 hb.2
  have hk := need_eq (b := b) (by omega)
  obtain ⟨D', e1, e2, e3, e4⟩ := layC_rdy hn hr (chs (frameX b)) D S s hR (fun c hc => (he c hc).1)
  refine ⟨D', wrS S r (chs (frameX b)) s, ?_, e2, by rw [e3, hl]; omega, fun j hj => ?_, fun a ha => wrS_off a _ S s (by rw [hl]; exact ha), fun h => e4 h fun c hc => (he c hc).2⟩
  · rw [e1, hl, hk]
  · rw [wrS_at hr _ S s j (by rw [hl]; exact hj) (by rw [hl]; omega)]
    exact chs_pad hb.2 j hj
theorem layR_run {head : Int} (hn : n = r + 2) (hr : 1 ≤ r) : ∀ (R : List (List Int)) (D : PD) (S : Int → List Int) (s : Int) (st : List Int) (recs : List (List Int)), Rdy D n S → (∀ b ∈ R, isBytes b ∧ b.length ≤ 400) → (∀ b ∈ recs, b.length ≤ 60000) → Run S r head recs s → s + needs R - head ≤ r →
    ∃ D' S', layR r R D s st = (D', st ++ startsP s R, s + needs R, 0) ∧ Rdy D' n S' ∧ Run S' r head (recs ++ R) (s + needs R) ∧ S' 0 = S 0 ∧ S' 1 = S 1 ∧ D'.cache.length ≤ D.cache.length + 7 * R.length ∧ (OKD D → OKD D')
  | [], D, S, s, st, recs, hR, _, _, hrun, _ => ⟨D, S, by simp [layR, startsP, needs], hR, by simpa [needs] using hrun, rfl, rfl, by simp, id⟩
  | b :: bs, D, S, s, st, recs, hR, hb, hrl, hrun, hfit => by
    have hb0 := hb b (List.mem_cons_self ..)
    have hk := need_eq (b := b) (by omega)
    have hns : needs (b :: bs) = needN b + needs bs := rfl
    have hns0 := (needs_le (R := bs) fun b h => (hb b (List.mem_cons_of_mem _ h)).2).1
    have hle := run_le hrl hrun
    rw [hns] at hfit
    obtain ⟨D1, S1, e1, e2, e3, e4, e5, e6⟩ := lay_one (s := s) hn hr hR hb0 (by omega)
    have hrun1 : Run S1 r head (recs ++ [b]) (s + needN b) := run_app (run_keep hrl (fun q h1 h2 => e5 _ (fun j hj => sect_inj hr (by omega) (by omega))) hrun) ⟨e4, rfl⟩
    obtain ⟨D2, S2, f1, f2, f3, f4, f4', f5, f6⟩ := layR_run (head := head) hn hr bs D1 S1 (s + needN b) (st ++ [s]) (recs ++ [b]) e2 (fun b h => hb b (List.mem_cons_of_mem _ h)) (fun c hc => by
      rcases List.mem_append.1 hc with h | h
      · exact hrl c h
      · rw [List.mem_singleton.1 h]; omega) hrun1 (by omega)
    have hs0 : ∀ a : Int, a < 2 → S1 a = S a := fun a ha => e5 a (fun j hj h => by have := sectP_in (p := s + j) hr; omega)
    refine ⟨D2, S2, ?_, f2, ?_, by rw [f4, hs0 0 (by omega)], by rw [f4', hs0 1 (by omega)], by rw [List.length_cons]; omega, fun h => f6 (e6 h)⟩
    · have : layR r (b :: bs) D s st = if (layC r (chs (frameX b)) D s).2.2 ≠ 0 then ((layC r (chs (frameX b)) D s).1, [], 0, (layC r (chs (frameX b)) D s).2.2) else layR r bs (layC r (chs (frameX b)) D s).1 (layC r (chs (frameX b)) D s).2.1 (st ++ [s]) := rfl
      rw [this, e1]
      simp only [ne_eq, not_true_eq_false, if_false, f1, hns, startsP, List.append_assoc, List.cons_append, List.nil_append]
      rw [Int.add_assoc]
    · rw [hns, ← Int.add_assoc]
      rw [List.append_assoc] at f3
      exact f3
end
/-- a wal that holds R -/
structure WInv (D : PD) (S : Int → List Int) (r g head tail : Int) (R : List (List Int)) : Prop where
  rdy : Rdy D (r + 2) S
  hr : 1 ≤ r
  cache : D.cache = []
  ok : OKD D
  mine : unP (S (g % 2)) = (g, [head, tail], 0)
  other : lesser (unP (S ((g + 1) % 2))) g
  g0 : 0 ≤ g
  run : Run S r head R tail
  fit : tail - head ≤ r
  h0 : 0 ≤ head
  recs : ∀ b ∈ R, isBytes b ∧ b.length ≤ 400
section
variable {D : PD} {S : Int → List Int} {r g head tail : Int} {R : List (List Int)}
theorem WInv.ring (h : WInv D S r g head tail R) : ringP D = r := by
  unfold ringP
  rw [h.rdy.n]
  have := h.hr
  omega
theorem WInv.le (h : WInv D S r g head tail R) : head + R.length ≤ tail := run_le (fun b hb => by have := (h.recs b hb).2; omega) h.run
theorem WInv.load (h : WInv D S r g head tail R) : loadP D = (g, [head, tail], 0) := by
  rw [h.rdy.load (by have := h.hr; omega)]
  exact pick_of h.g0 h.mine h.other
theorem WInv.open_ (h : WInv D S r g head tail R) : openP D = (g, head, tail, startsP head R, R, 0) := by
  have hle := h.le
  unfold openP
  rw [h.load]
  simp only [ne_eq, not_true_eq_false, if_false]
  rw [h.ring, if_neg (by have := h.fit; omega), openGo_run h.rdy rfl h.hr R head _ (fun b hb => ⟨(h.recs b hb).1, by have := (h.recs b hb).2; omega⟩) h.run (by omega)]
theorem WInv.save (h : WInv D S r g head tail R) {S1 : Int → List Int} {D1 : PD} {h1 t1 : Int} {R1 : List (List Int)} (h2 : Rdy D1 (r + 2) S1) (ho : OKD D1) (e0 : S1 0 = S 0) (e1 : S1 1 = S 1) (hrun : Run S1 r h1 R1 t1) (hfit : t1 - h1 ≤ r) (hh : 0 ≤ h1 ∧ t1 < 18446744073709551616) (hrec : ∀ b ∈ R1, isBytes b ∧ b.length ≤ 400) (hg : g + 1 < 18446744073709551616) :
    ∃ D2 S2, saveP D1 (g + 1) [h1, t1] = (D2, 0) ∧ WInv D2 S2 r (g + 1) h1 t1 R1 := by
  have hr := h.hr
  have g0 := h.g0
  have hle := run_le (fun b hb => by have := (hrec b hb).2; omega) hrun
  have hk : ∀ n ∈ [h1, t1], 0 ≤ n ∧ n < 18446744073709551616 := by
    intro n hn
    simp only [List.mem_cons, List.not_mem_nil, or_false] at hn
    rcases hn with rfl | rfl <;> omega
  obtain ⟨s1, s2, s3⟩ := h2.save (by omega) (g + 1) [h1, t1] (by omega) (by simp)
  have hp : ∀ a : Int, a = 0 ∨ a = 1 → S1 a = S a := by
    rintro a (rfl | rfl)
    · exact e0
    · exact e1
  obtain ⟨m1, m2⟩ := next_mine (S := S1) (g := g) (l := [head, tail]) (k := [h1, t1]) ⟨g0, hg⟩ (by rw [hp _ (by omega)]; exact h.mine) (by simp) hk
  refine ⟨_, _, Prod.ext rfl s1, s2, hr, s3, ho.save (g + 1) _ ⟨by omega, hg⟩ hk, m1, m2, by omega, ?_, hfit, hh.1, hrec⟩
  refine run_keep (fun b hb => by have := (hrec b hb).2; omega) (fun q _ _ => ?_) hrun
  have := sectP_in (p := q) hr
  unfold updS
  rw [if_neg (by omega)]
theorem WInv.add (h : WInv D S r g head tail R) {X : List (List Int)} (hX : RecsOK X) (hf : needs X ≤ r - (tail - head)) (ht : tail + needs X < 18446744073709551616) (hg : g + 1 < 18446744073709551616) :
    ∃ D1 D2 S2, layP D r (r - (tail - head)) tail X = (D1, startsP tail X, tail + needs X, 0) ∧ D1.cache.length ≤ 42 ∧ saveP D1 (g + 1) [head, tail + needs X] = (D2, 0) ∧ WInv D2 S2 r (g + 1) head (tail + needs X) (R ++ X) := by
  obtain ⟨D1, S1, f1, f2, f3, f4, f4', f5, f6⟩ := layR_run (head := head) rfl h.hr X D S tail [] R h.rdy hX.each (fun b hb => by have := (h.recs b hb).2; omega) h.run (by omega)
  have hrec : ∀ b ∈ R ++ X, isBytes b ∧ b.length ≤ 400 := fun b hb => (List.mem_append.1 hb).elim (h.recs b) (hX.each b)
  obtain ⟨D2, S2, g1, g2⟩ := h.save f2 (f6 h.ok) f4 f4' f3 (by omega) ⟨h.h0, ht⟩ hrec hg
  refine ⟨D1, D2, S2, ?_, ?_, g1, g2⟩
  · unfold layP
    rw [if_neg (by omega), f1]
    rfl
  · rw [h.cache] at f5
    have := hX.len
    simp only [List.length_nil] at f5
    omega
theorem run_drop {t : Int} : ∀ {R : List (List Int)} {p : Int} (k : Nat), k < R.length → Run S r p R t → Run S r ((startsP p R).getD k 0) (R.drop k) t
  | [], p, k, hk, _ => by simp at hk
  | b :: bs, p, 0, _, h => h
  | b :: bs, p, k + 1, hk, h => by
    have := run_drop (p := p + needN b) k (by simpa using hk) h.2
    simpa [startsP] using this
theorem starts_ge : ∀ {R : List (List Int)} {p : Int} (k : Nat), (∀ b ∈ R, b.length ≤ 60000) → k < R.length → p ≤ (startsP p R).getD k 0
  | [], p, k, _, hk => by simp at hk
  | b :: bs, p, 0, _, _ => by simp [startsP]
  | b :: bs, p, k + 1, hl, hk => by
    have h1 := starts_ge (R := bs) (p := p + needN b) k (fun b hb => hl b (List.mem_cons_of_mem _ hb)) (by simpa using hk)
    have h2 := need_eq (hl b (List.mem_cons_self ..))
    have h3 : (startsP p (b :: bs)).getD (k + 1) 0 = (startsP (p + needN b) bs).getD k 0 := by simp [startsP]
    rw [h3]
    omega
theorem WInv.cut (h : WInv D S r g head tail R) {k : Nat} {x : Int} (hk : k < R.length) (hx : (startsP head R).getD k 0 = x) (ht : tail < 18446744073709551616) (hg : g + 1 < 18446744073709551616) :
    ∃ D2 S2, saveP D (g + 1) [x, tail] = (D2, 0) ∧ WInv D2 S2 r (g + 1) x tail (R.drop k) := by
  subst hx
  have hge := starts_ge (R := R) (p := head) k (fun b hb => by have := (h.recs b hb).2; omega) hk
  exact h.save h.rdy h.ok rfl rfl (run_drop k hk h.run) (by have := h.fit; omega) ⟨by have := h.h0; omega, ht⟩ (fun b hb => h.recs b (List.mem_of_mem_drop hb)) hg
end
end Go.Proofs.Ytlepcmljmibdnaa
namespace Go.Proofs.Ytlepcmljmibdnaa
open Go.RowKit Go.Proofs.YtlepcmljmibdnaaW.PrintWords Go.Proofs.YtlepcmljmibdnaaW.PrintLast Go.Proofs.YtlepcmljmibdnaaW.PrintMore PWalOpens
set_option linter.unusedVariables false
set_option linter.unusedSimpArgs false
/-- what is kept (S), what is seen (V), and the sectors that are cached (T) -/
structure Pn (D : PD) (n : Int) (S V : Int → List Int) (T : Int → Prop) : Prop where
  qt : Qt D n S
  view : ∀ a, view D a = V a
  cache : ∀ p ∈ D.cache, T p.1
theorem readL_off {T : Int → Prop} (s : List Int) (a : Int) (ha : ¬ T a) : ∀ (l : List (Int × List Int)), (∀ p ∈ l, T p.1) → readL s l a = s
  | [], _ => rfl
  | p :: l, h => by
    unfold readL
    rw [List.foldl_cons, if_neg (fun e => ha (by rw [← e]; exact h p (List.mem_cons_self ..)))]
    exact readL_off s a ha l (fun q hq => h q (List.mem_cons_of_mem _ hq))
section
variable {D : PD} {n : Int} {S V : Int → List Int} {T : Int → Prop}
theorem Pn.off (h : Pn D n S V T) (a : Int) (ha : ¬ T a) : V a = S a := by
  rw [← h.view a, ← h.qt.kept a]
  unfold Proofs.Ytlepcmljmibdnaa.view
  exact readL_off _ a ha _ h.cache
theorem actP_kept (D : PD) : (actP D).1.kept = D.kept := by
  unfold actP
  simp only
  split
  · rfl
  · split <;> rfl
theorem actP_code (D : PD) : (actP D).2 = 0 ∨ (actP D).2 = 50 := by
  unfold actP
  simp only
  split
  · exact .inr rfl
  · split <;> exact .inl rfl
theorem Pn.act (h : Pn D n S V T) : Pn (actP D).1 n S V T := by
  obtain ⟨a1, a2, _⟩ := h.qt.act
  refine ⟨a1, fun a => ?_, by rw [a2]; exact h.cache⟩
  rw [← h.view a]
  unfold Proofs.Ytlepcmljmibdnaa.view
  rw [a2, actP_kept]
theorem Pn.write (h : Pn D n S V T) (at_ : Int) (b : List Int) (h0 : 0 ≤ at_) (h1 : at_ < n) (hb : b.length ≤ 64) (hT : T at_) :
    (∃ D', writeP D at_ b = (D', 0) ∧ Pn D' n S (updS V at_ (pad b)) T ∧ D'.cache.length = D.cache.length + 1) ∨ (∃ D', writeP D at_ b = (D', 50) ∧ Pn D' n S V T ∧ D'.cache.length = D.cache.length) := by
  unfold writeP
  by_cases hd : D.dead = true
  · rw [if_pos hd]
    exact .inr ⟨D, rfl, h, rfl⟩
  · rw [if_neg hd, if_neg (by rw [h.qt.n]; unfold inB; simp; omega), if_neg (by omega)]
    obtain ⟨a1, a2, _⟩ := h.qt.act
    rcases actP_code D with hc | hc
    · rw [if_neg (fun e => e hc)]
      left
      refine ⟨_, rfl, ⟨⟨a1.bad, a1.n, a1.kept⟩, fun a => ?_, fun p hp => ?_⟩, ?_⟩
      · have hv := h.act.view a
        unfold Proofs.Ytlepcmljmibdnaa.view at hv ⊢
        show readL _ ((actP D).1.cache ++ _) a = _
        rw [readL_snoc, hv]
        unfold updS
        by_cases e : a = at_
        · rw [if_pos e, if_pos e.symm]
        · rw [if_neg e, if_neg (fun h => e h.symm)]
      · rcases List.mem_append.1 hp with hp | hp
        · exact h.act.cache p hp
        · rw [List.mem_singleton] at hp; subst hp; exact hT
      · show ((actP D).1.cache ++ _).length = _
        rw [List.length_append, a2]
        rfl
    · rw [if_pos (by rw [hc]; decide)]
      exact .inr ⟨(actP D).1, Prod.ext rfl hc, h.act, by rw [a2]⟩
/-- what a crash leaves -/
theorem Pn.crash (h : Pn D n S V T) (ks : List Bool) : ∃ S', Rdy (crashP D ks) n S' ∧ ∀ a, ¬ T a → S' a = S a := by
  have key : ∀ i, i ≤ D.cache.length → ∃ S', Qt (sel D D.cache ks i) n S' ∧ ∀ a, ¬ T a → S' a = S a := by
    intro i
    induction i with
    | zero => intro _; exact ⟨S, h.qt, fun _ _ => rfl⟩
    | succ i ih =>
      intro hi
      obtain ⟨S', q, hs⟩ := ih (by omega)
      unfold sel
      split
      · refine ⟨_, q.keep _, fun a ha => ?_⟩
        have hm : D.cache[i]? = some D.cache[i] := List.getElem?_eq_getElem (by omega)
        have hT := h.cache _ (List.getElem_mem (show i < D.cache.length by omega))
        unfold updS
        simp only [List.getD, hm, Option.getD_some]
        rw [if_neg (fun e => ha (by rw [e]; exact hT))]
        exact hs a ha
      · exact ⟨S', q, hs⟩
  obtain ⟨S', q, hs⟩ := key D.cache.length (Nat.le_refl _)
  exact ⟨S', q.rest, hs⟩
/-- the part of a save behind its first flush -/
theorem crash_tail (q1 : Qt D n S) (d1 : D.dead = false) (c1 : D.cache = []) (hn : 2 ≤ n) (g : Int) (l : List Int) (hg : 0 ≤ g) (hl : l.length ≤ 4) (ks : List Bool) (X : PD × Int) (hX : X = if (writeP D (g % 2) (slotB g l)).2 ≠ 0 then writeP D (g % 2) (slotB g l) else flushP (writeP D (g % 2) (slotB g l)).1) :
    (Rdy (crashP X.1 ks) n S ∧ X.2 ≠ 0) ∨ Rdy (crashP X.1 ks) n (updS S (g % 2) (pad (slotB g l))) := by
  obtain ⟨b1, b2, b3⟩ := q1.act
  rw [c1] at b2
  have w0 : writeP D (g % 2) (slotB g l) = if (actP D).2 ≠ 0 then actP D else ({ (actP D).1 with cache := [(g % 2, pad (slotB g l))] }, 0) := by
    have h64 := slotB_64 g l hl
    unfold writeP
    rw [d1]
    simp only [Bool.false_eq_true, if_false]
    rw [if_neg (by rw [q1.n]; unfold inB; simp; omega), if_neg (by omega), b2]
    rfl
  by_cases e2 : (actP D).2 = 0
  · rw [if_neg (fun hh => hh e2)] at w0
    rw [w0, if_neg (by simp)] at hX
    have q2 : Qt { (actP D).1 with cache := [(g % 2, pad (slotB g l))] } n S := ⟨b1.bad, b1.n, b1.kept⟩
    generalize hD2 : { (actP D).1 with cache := [(g % 2, pad (slotB g l))] } = D2 at *
    have c2 : D2.cache = [(g % 2, pad (slotB g l))] := by rw [← hD2]
    obtain ⟨g1, g2, g3⟩ := q2.act
    rw [c2] at g2
    by_cases e3 : (actP D2).2 = 0
    · right
      rw [hX]
      unfold flushP
      rw [if_neg (fun hh => hh e3), g2]
      have q3 := g1.keep (g % 2, pad (slotB g l))
      have q4 : Qt { keepAll (actP D2).1 [(g % 2, pad (slotB g l))] with cache := [] } n (updS S (g % 2) (pad (slotB g l))) := ⟨q3.bad, q3.n, q3.kept⟩
      exact q4.crash0 rfl ks
    · have f3 : flushP D2 = actP D2 := by unfold flushP; rw [if_pos e3]
      rw [hX, f3]
      rcases g1.crash1 _ g2 ks with hh | hh
      · exact .inl ⟨hh, e3⟩
      · exact .inr hh
  · rw [if_pos e2] at w0
    rw [w0, if_pos e2] at hX
    rw [hX]
    exact .inl ⟨b1.crash0 b2 ks, e2⟩
/-- whatever crash strikes within a save, with something cached -/
theorem Pn.crash_save (h : Pn D n S V T) (hn : 2 ≤ n) (g : Int) (l : List Int) (hg : 0 ≤ g) (hl : l.length ≤ 4) (ks : List Bool) :
    (∃ S', Rdy (crashP (saveP D g l).1 ks) n S' ∧ (∀ a, ¬ T a → S' a = S a) ∧ (saveP D g l).2 ≠ 0) ∨ Rdy (crashP (saveP D g l).1 ks) n (updS V (g % 2) (pad (slotB g l))) := by
  obtain ⟨a1, a2, a3⟩ := h.qt.act
  by_cases e1 : (actP D).2 = 0
  · have f1 : flushP D = ({ keepAll (actP D).1 (actP D).1.cache with cache := [] }, 0) := by
      unfold flushP
      rw [if_neg (fun hh => hh e1)]
    obtain ⟨k1, k2, k3, k4, k5⟩ := keepAll_keeps (actP D).1.cache (actP D).1
    have q1 : Qt { keepAll (actP D).1 (actP D).1.cache with cache := [] } n V := ⟨fun a => by show (keepAll (actP D).1 (actP D).1.cache).bad a = false; rw [k2]; exact a1.bad a, k1.trans a1.n, fun a => by
      have hv := h.act.view a
      unfold Proofs.Ytlepcmljmibdnaa.view at hv
      exact (keepAll_view (actP D).1.cache (actP D).1 a).trans hv⟩
    have hX := crash_tail q1 (k5.trans (a3 e1)) rfl hn g l hg hl ks (saveP D g l) (by
      conv => lhs; unfold saveP
      rw [if_neg (by omega), f1, if_neg (by simp)])
    rcases hX with ⟨h1, h2⟩ | h1
    · exact .inl ⟨V, h1, fun a ha => h.off a ha, h2⟩
    · exact .inr h1
  · have f1 : flushP D = actP D := by unfold flushP; rw [if_pos e1]
    have hs : saveP D g l = actP D := by
      unfold saveP
      rw [if_neg (by omega), f1, if_pos e1]
    rw [hs]
    obtain ⟨S', h1, h2⟩ := h.act.crash ks
    exact .inl ⟨S', h1, h2, e1⟩
end
section
variable {n r : Int} {S : Int → List Int} {T : Int → Prop}
theorem layC_pn (hn : n = r + 2) (hr : 1 ≤ r) : ∀ (cs : List (List Int)) (D : PD) (V : Int → List Int) (s : Int), Pn D n S V T → (∀ c ∈ cs, c.length ≤ 64) → (∀ q, s ≤ q → q < s + cs.length → T (sectP r q)) →
    (∃ D', layC r cs D s = (D', s + cs.length, 0) ∧ Pn D' n S (wrS V r cs s) T ∧ D'.cache.length ≤ D.cache.length + cs.length) ∨ (∃ D' s' V', layC r cs D s = (D', s', 50) ∧ Pn D' n S V' T ∧ D'.cache.length ≤ D.cache.length + cs.length)
  | [], D, V, s, h, _, _ => .inl ⟨D, by simp [layC], h, by simp⟩
  | c :: cs, D, V, s, h, hc, hT => by
    have h1 := sectP_in (p := s) hr
    rw [List.length_cons] at hT
    rcases h.write (sectP r s) c (by omega) (by omega) (hc c (List.mem_cons_self ..)) (hT s (by omega) (by omega)) with ⟨D1, hw, p1, l1⟩ | ⟨D1, hw, p1, l1⟩
    · have hlay : layC r (c :: cs) D s = layC r cs D1 (s + 1) := by
        show (if (writeP D (sectP r s) c).2 ≠ 0 then _ else _) = _
        rw [hw, if_neg (by simp)]
      rw [hlay]
      rcases layC_pn hn hr cs D1 _ (s + 1) p1 (fun c hc' => hc c (List.mem_cons_of_mem _ hc')) (fun q h1 h2 => hT q (by omega) (by omega)) with ⟨D', e1, e2, e3⟩ | ⟨D', s', V', e1, e2, e3⟩
      · refine .inl ⟨D', ?_, e2, by rw [List.length_cons]; omega⟩
        rw [e1, List.length_cons, show s + 1 + (cs.length : Int) = s + ((cs.length + 1 : Nat) : Int) by omega]
      · exact .inr ⟨D', s', V', e1, e2, by rw [List.length_cons]; omega⟩
    · refine .inr ⟨D1, s, V, ?_, p1, by rw [List.length_cons]; omega⟩
      show (if (writeP D (sectP r s) c).2 ≠ 0 then _ else _) = _
      rw [hw, if_pos (by simp)]
/-- a disk that may die beside one that doesn't -/
theorem layR_two (hn : n = r + 2) (hr : 1 ≤ r) : ∀ (R : List (List Int)) (D0 D : PD) (V : Int → List Int) (s : Int) (st : List Int) (D0' : PD) (st' : List Int) (s' : Int) (V' : Int → List Int), Rdy D0 n V → Pn D n S V T → (∀ b ∈ R, isBytes b ∧ b.length ≤ 400) →
    (∀ q, s ≤ q → q < s + needs R → T (sectP r q)) → layR r R D0 s st = (D0', st', s', 0) → Rdy D0' n V' →
    (∃ D', layR r R D s st = (D', st', s', 0) ∧ Pn D' n S V' T ∧ D'.cache.length ≤ D.cache.length + 7 * R.length) ∨ (∃ D' V'', layR r R D s st = (D', [], 0, 50) ∧ Pn D' n S V'' T ∧ D'.cache.length ≤ D.cache.length + 7 * R.length)
  | [], D0, D, V, s, st, D0', st', s', V', h0, h, _, _, hl, h' => by
    have e : layR r [] D0 s st = (D0, st, s, 0) := rfl
    rw [e] at hl
    obtain ⟨rfl, rfl, rfl, _⟩ := hl
    have : V' = V := funext fun a => by rw [← h'.view a, ← h0.view a]
    subst this
    exact .inl ⟨D, rfl, h, by simp⟩
  | b :: bs, D0, D, V, s, st, D0', st', s', V', h0, h, hb, hT, hl, h' => by
    have hb0 := hb b (List.mem_cons_self ..)
    have hk := need_eq (b := b) (by omega)
    have hns : needs (b :: bs) = needN b + needs bs := rfl
    have hns0 := (needs_le (R := bs) fun b h => (hb b (List.mem_cons_of_mem _ h)).2).1
    rw [hns] at hT
    have hcl := chs_len hb0.2
    have he := chs_each hb0.1 hb0.2
    obtain ⟨D01, e1, e2, _, _⟩ := layC_rdy hn hr (chs (frameX b)) D0 V s h0 (fun c hc => (he c hc).1)
    have unf : ∀ D : PD, layR r (b :: bs) D s st = if (layC r (chs (frameX b)) D s).2.2 ≠ 0 then ((layC r (chs (frameX b)) D s).1, [], 0, (layC r (chs (frameX b)) D s).2.2) else layR r bs (layC r (chs (frameX b)) D s).1 (layC r (chs (frameX b)) D s).2.1 (st ++ [s]) := fun _ => rfl
    rw [unf, e1] at hl
    simp only [ne_eq, not_true_eq_false, if_false] at hl
    rw [hcl, ← hk] at hl
    rcases layC_pn hn hr (chs (frameX b)) D V s h (fun c hc => (he c hc).1) (fun q h1 h2 => hT q h1 (by rw [hcl] at h2; omega)) with ⟨D1, f1, f2, f3⟩ | ⟨D1, s1, V1, f1, f2, f3⟩
    · rw [unf, f1]
      simp only [ne_eq, not_true_eq_false, if_false]
      rw [hcl, ← hk]
      rw [hcl] at f3
      rcases layR_two hn hr bs D01 D1 _ (s + needN b) (st ++ [s]) D0' st' s' V' e2 f2 (fun b h => hb b (List.mem_cons_of_mem _ h)) (fun q h1 h2 => hT q (by omega) (by omega)) hl h' with ⟨D', g1, g2, g3⟩ | ⟨D', V'', g1, g2, g3⟩
      · exact .inl ⟨D', g1, g2, by rw [List.length_cons]; omega⟩
      · exact .inr ⟨D', V'', g1, g2, by rw [List.length_cons]; omega⟩
    · rw [unf, f1]
      rw [hcl] at f3
      exact .inr ⟨D1, V1, by simp, f2, by rw [List.length_cons]; omega⟩
end
theorem OKD.layC {r : Int} : ∀ (cs : List (List Int)) {D : PD} (s : Int), OKD D → (∀ c ∈ cs, isBytes c) → OKD (layC r cs D s).1
  | [], D, s, h, _ => h
  | c :: cs, D, s, h, hc => by
    have h1 := h.write (sectP r s) (hc c (List.mem_cons_self ..))
    unfold Proofs.Ytlepcmljmibdnaa.layC
    split
    · exact h1
    · exact OKD.layC cs (s + 1) h1 (fun c hc' => hc c (List.mem_cons_of_mem _ hc'))
theorem OKD.layR {r : Int} : ∀ (R : List (List Int)) {D : PD} (s : Int) (st : List Int), OKD D → (∀ b ∈ R, isBytes b ∧ b.length ≤ 400) → OKD (layR r R D s st).1
  | [], D, s, st, h, _ => h
  | b :: bs, D, s, st, h, hb => by
    have hb0 := hb b (List.mem_cons_self ..)
    have h1 := OKD.layC (r := r) (chs (frameX b)) s h (fun c hc => (chs_each hb0.1 hb0.2 c hc).2)
    unfold Proofs.Ytlepcmljmibdnaa.layR
    split
    · exact h1
    · exact OKD.layR bs _ _ h1 (fun b h => hb b (List.mem_cons_of_mem _ h))
section
variable {D : PD} {S : Int → List Int} {r g head tail : Int} {R : List (List Int)}
/-- the new head counts -/
theorem WInv.next (h : WInv D S r g head tail R) {V : Int → List Int} {D3 : PD} {h1 t1 : Int} {R1 : List (List Int)} (h3 : Rdy D3 (r + 2) (updS V ((g + 1) % 2) (pad (slotB (g + 1) [h1, t1])))) (hc : D3.cache = []) (ho : OKD D3) (e0 : V 0 = S 0) (e1 : V 1 = S 1) (hrun : Run V r h1 R1 t1) (hfit : t1 - h1 ≤ r) (hh : 0 ≤ h1 ∧ t1 < 18446744073709551616) (hrec : ∀ b ∈ R1, isBytes b ∧ b.length ≤ 400) (hg : g + 1 < 18446744073709551616) :
    WInv D3 (updS V ((g + 1) % 2) (pad (slotB (g + 1) [h1, t1]))) r (g + 1) h1 t1 R1 := by
  have hr := h.hr
  have g0 := h.g0
  have hle := run_le (fun b hb => by have := (hrec b hb).2; omega) hrun
  have hk : ∀ n ∈ [h1, t1], 0 ≤ n ∧ n < 18446744073709551616 := by
    intro n hn
    simp only [List.mem_cons, List.not_mem_nil, or_false] at hn
    rcases hn with rfl | rfl <;> omega
  have hp : ∀ a : Int, a = 0 ∨ a = 1 → V a = S a := by
    rintro a (rfl | rfl)
    · exact e0
    · exact e1
  obtain ⟨m1, m2⟩ := next_mine (S := V) (g := g) (l := [head, tail]) (k := [h1, t1]) ⟨g0, hg⟩ (by rw [hp _ (by omega)]; exact h.mine) (by simp) hk
  refine ⟨h3, hr, hc, ho, m1, m2, by omega, ?_, hfit, hh.1, hrec⟩
  refine run_keep (fun b hb => by have := (hrec b hb).2; omega) (fun q _ _ => ?_) hrun
  have := sectP_in (p := q) hr
  unfold updS
  rw [if_neg (by omega)]
/-- what the free part of the ring holds doesn't count -/
theorem WInv.free (h : WInv D S r g head tail R) {S' : Int → List Int} {D3 : PD} {m : Int} (hm : m ≤ r - (tail - head)) (h3 : Rdy D3 (r + 2) S') (hc : D3.cache = []) (ho : OKD D3) (hs : ∀ a, (¬ ∃ q, tail ≤ q ∧ q < tail + m ∧ a = sectP r q) → S' a = S a) :
    WInv D3 S' r g head tail R := by
  have hr := h.hr
  have low : ∀ a : Int, a < 2 → S' a = S a := fun a ha => hs a (by
    rintro ⟨q, _, _, rfl⟩
    have := sectP_in (p := q) hr
    omega)
  refine ⟨h3, hr, hc, ho, ?_, ?_, h.g0, ?_, h.fit, h.h0, h.recs⟩
  · rw [low _ (by omega)]; exact h.mine
  · rw [low _ (by omega)]; exact h.other
  · refine run_keep (fun b hb => by have := (h.recs b hb).2; omega) (fun p h1 h2 => hs _ ?_) h.run
    rintro ⟨q, h3, h4, he⟩
    exact sect_inj hr (show p < q by omega) (by omega) he
end
theorem starts_len : ∀ (X : List (List Int)) (p : Int), (startsP p X).length = X.length
  | [], p => rfl
  | b :: bs, p => by simp [startsP, starts_len bs]
/-- what the wal's change answers, and the disk behind it -/
noncomputable def chgD (D1 : PD) (e : Int) (h1 s g : Int) : PD := if e = 0 then (saveP D1 g [h1, s]).1 else D1
noncomputable def chgE (D1 : PD) (e : Int) (h1 s g : Int) : Int := if e = 0 ∧ (saveP D1 g [h1, s]).2 = 0 then 0 else 50
structure Keeps (D1 : PD) (e : Int) (h1 s g : Int) (ks : List Bool) (R W : List (List Int)) : Prop where
  code : e = 0 ∨ e = 50
  s0 : 0 ≤ s ∧ s < 18446744073709551616
  len : D1.cache.length ≤ 42
  ok : OKD (crashP (chgD D1 e h1 s g) ks)
  got : ∃ S g' h' t' X, WInv (crashP (chgD D1 e h1 s g) ks) S 98 g' h' t' X ∧ (X = W ∨ (chgE D1 e h1 s g ≠ 0 ∧ X = R))
section
variable {D : PD} {S : Int → List Int} {r g head tail : Int} {R : List (List Int)}
theorem WInv.keeps (h : WInv D S 98 g head tail R) {X : List (List Int)} (hX : RecsOK X) (hf : needs X ≤ 98 - (tail - head)) (ht : tail + needs X < 18446744073709551616) (hg : g + 1 < 18446744073709551616) (swap : Bool) (arm : Int) (ks : List Bool) :
    ∃ D1 st s e, layP (armP D arm) 98 (98 - (tail - head)) tail X = (D1, st, s, e) ∧ st.length ≤ X.length ∧
      Keeps D1 e (if swap then tail else head) s (g + 1) ks R (if swap then X else R ++ X) := by
  have hle := h.le
  have hns := needs_le (R := X) fun b hb => (hX.each b hb).2
  have h0 := h.h0
  obtain ⟨D0', V', f1, f2, f3, f4, f4', f5, f6⟩ := layR_run (head := head) rfl h.hr X D S tail [] R h.rdy hX.each (fun b hb => by have := (h.recs b hb).2; omega) h.run (by omega)
  obtain ⟨D0'', V'', f1b, f2b, f3b, _⟩ := layR_run (head := tail) rfl h.hr X D S tail [] [] h.rdy hX.each (fun b hb => by cases hb) rfl (by omega)
  have hDD : D0'' = D0' := by rw [f1] at f1b; injection f1b with e _; exact e.symm
  subst hDD
  have hVV : V'' = V' := funext fun a => by rw [← f2b.view a, ← f2.view a]
  subst hVV
  have p0 : Pn (armP D arm) (98 + 2) S S (fun a => ∃ q, tail ≤ q ∧ q < tail + needs X ∧ a = sectP 98 q) := by
    have hv := h.rdy.view
    refine ⟨⟨h.rdy.bad, h.rdy.n, fun a => ?_⟩, hv, fun p hp => ?_⟩
    · have := hv a
      unfold view at this
      rw [h.cache] at this
      exact this
    · have hp' : p ∈ D.cache := hp
      rw [h.cache] at hp'
      cases hp'
  have hlen : (armP D arm).cache.length = 0 := by show D.cache.length = 0; rw [h.cache]; rfl
  have hXl := hX.len
  have hlay : ∀ D, layP D 98 (98 - (tail - head)) tail X = layR 98 X D tail [] := fun D => by unfold layP; rw [if_neg (by omega)]
  rw [hlay]
  have hok0 : OKD (layR 98 X (armP D arm) tail []).1 := OKD.layR X tail [] (h.ok.arm arm) hX.each
  rcases layR_two (S := S) rfl h.hr X D (armP D arm) S tail [] D0'' _ _ V'' h.rdy p0 hX.each (fun q h1 h2 => ⟨q, h1, h2, rfl⟩) f1 f2 with ⟨D1, k1, k2, k3⟩ | ⟨D1, V1, k1, k2, k3⟩
  · rw [k1] at hok0
    have hok : OKD (saveP D1 (g + 1) [if swap then tail else head, tail + needs X]).1 := OKD.save hok0 (g + 1) _ ⟨by have := h.g0; omega, hg⟩ (by
      intro n hn
      simp only [List.mem_cons, List.not_mem_nil, or_false] at hn
      rcases hn with rfl | rfl
      · split <;> omega
      · omega)
    have hst : (startsP tail X).length = X.length := starts_len X tail
    refine ⟨D1, _, _, 0, k1, by rw [List.nil_append, hst]; exact Nat.le_refl _, .inl rfl, by omega, by omega, ?_, ?_⟩
    · unfold chgD
      rw [if_pos rfl]
      exact hok.crash ks
    · unfold chgD chgE
      rw [if_pos rfl]
      rcases k2.crash_save (by omega) (g + 1) [if swap then tail else head, tail + needs X] (by have := h.g0; omega) (by simp) ks with ⟨S', q1, q2, q3⟩ | q1
      · refine ⟨S', g, head, tail, R, h.free hf q1 rfl (hok.crash ks) q2, .inr ⟨?_, rfl⟩⟩
        rw [if_neg (fun e => q3 e.2)]
        decide
      · cases swap with
        | true =>
          have hw := h.next q1 rfl (hok.crash ks) f4 f4' f3b (by simp only [if_true]; omega) (by simp only [if_true]; omega) (by rw [List.nil_append]; exact hX.each) hg
          exact ⟨_, _, _, _, _, hw, .inl (by simp)⟩
        | false =>
          have hw := h.next q1 rfl (hok.crash ks) f4 f4' f3 (by simp only [Bool.false_eq_true, if_false]; omega) (by simp only [Bool.false_eq_true, if_false]; omega) (fun b hb => (List.mem_append.1 hb).elim (h.recs b) (hX.each b)) hg
          exact ⟨_, _, _, _, _, hw, .inl (by simp)⟩
  · rw [k1] at hok0
    refine ⟨D1, _, _, 50, k1, by simp, .inr rfl, by omega, by omega, ?_, ?_⟩
    · unfold chgD
      rw [if_neg (by decide)]
      exact hok0.crash ks
    · unfold chgD chgE
      rw [if_neg (by decide)]
      obtain ⟨S', q1, q2⟩ := k2.crash ks
      exact ⟨S', g, head, tail, R, h.free hf q1 rfl (hok0.crash ks) q2, .inr ⟨by rw [if_neg (fun e => by cases e.1)]; decide, rfl⟩⟩
end
end Go.Proofs.Ytlepcmljmibdnaa
namespace Go.Proofs.Ytlepcmljmibdnaa
open Go.RowKit Go.Proofs.YtlepcmljmibdnaaW.PrintWords Go.Proofs.YtlepcmljmibdnaaW.PrintLast Go.Proofs.YtlepcmljmibdnaaW.PrintMore PWalOpens
set_option linter.unusedVariables false
set_option linter.unusedSimpArgs false
/-- what a wal's deeds may change: the disk, the wal's own block -/
def isWD (o : Obj) : Prop := isDisk o ∨ isT 129 o
/-- a wal, its disk, its starts -/
structure WV (n0 : Nat) (w : World) (Wb B M Bd : Nat) (vc vs : Value) (D : PD) (gen head tail : Int) (S : List Int) (over : Bool) : Prop where
  blk : WlC w Wb B gen head tail vs true over
  hW : n0 ≤ Wb
  dk : DK w n0 B M Bd vc D
  st : Kd.R (Kd.int .u64) 56 w n0 (fun _ => True) vs S
section
variable {n0 : Nat} {w w' : World} {Wb B M Bd : Nat} {vc vs v1 : Value} {D D1 : PD} {gen head tail h1 t1 : Int} {S S1 : List Int} {over : Bool}
theorem WV.away (h : WV n0 w Wb B M Bd vc vs D gen head tail S over) : ¬ FP B M Bd vc Wb := by
  have hb := h.blk
  unfold WlC at hb
  rintro (rfl | rfl | rfl | hk)
  · rw [h.dk.blk] at hb; simp at hb
  · obtain ⟨_, _, hk, _⟩ := h.dk.kept; rw [hk] at hb; cases hb
  · obtain ⟨_, _, hk, _⟩ := h.dk.bad; rw [hk] at hb; cases hb
  · obtain ⟨inner, ho⟩ := Kd.R_own h.dk.cache
    obtain ⟨cells, hc⟩ := own_typed ho Wb hk.symm
    rw [hc] at hb; simp at hb
theorem WV.fresh (h : WV n0 w Wb B M Bd vc vs D gen head tail S over) (hb : Below w.heap.size w w') : WV n0 w' Wb B M Bd vc vs D gen head tail S over :=
  ⟨(hb.block _ (Array.getElem?_eq_some_iff.1 h.blk).1).trans h.blk, h.hW, h.dk.chg (.of_below hb), Kd.R_below h.st hb⟩
/-- the disk alone went on -/
theorem WV.disk {vc' : Value} (h : WV n0 w Wb B M Bd vc vs D gen head tail S over) (ha : At w (FP B M Bd vc) w' B M Bd vc' D1) : WV n0 w' Wb B M Bd vc' vs D1 gen head tail S over ∧ TC n0 isDisk w w' := by
  have hc := h.dk.tc ha.chg
  exact ⟨⟨hc.blk _ _ h.blk (fun e => by simp [isDisk] at e), h.hW, At.based h.dk ha, R_tc h.st hc (fun q hq cells => by
    obtain rfl := q56 q hq
    simp [isDisk])⟩, hc⟩
theorem WV.tcW (h : WV n0 w Wb B M Bd vc vs D gen head tail S over) (i : Nat) (v : Value) : TC n0 (isT 129) w (w.setCell ⟨Wb, i, none⟩ v) := TC.set (T := isT 129) h.blk rfl h.hW v
theorem WV.overed (h : WV n0 w Wb B M Bd vc vs D gen head tail S over) : WV n0 (w.setCell ⟨Wb, 6, none⟩ (.bool true)) Wb B M Bd vc vs D gen head tail S true :=
  ⟨h.blk.overed, h.hW, h.dk.tkeep (h.tcW 6 _) (isT_disk (by decide)), R_tc h.st (h.tcW 6 _) (fun q hq cells => by
    obtain rfl := q56 q hq
    simp [isT])⟩
/-- four fields turned -/
theorem WV.turned (h : WV n0 w Wb B M Bd vc vs D gen head tail S over) (hr : Kd.R (Kd.int .u64) 56 w n0 (fun _ => True) v1 S1) (g1 : Int) :
    WV n0 ((((w.setCell ⟨Wb, 1, none⟩ (.int .u64 g1)).setCell ⟨Wb, 2, none⟩ (.int .u64 h1)).setCell ⟨Wb, 3, none⟩ (.int .u64 t1)).setCell ⟨Wb, 4, none⟩ v1) Wb B M Bd vc v1 D g1 h1 t1 S1 over ∧
      TC n0 (isT 129) w ((((w.setCell ⟨Wb, 1, none⟩ (.int .u64 g1)).setCell ⟨Wb, 2, none⟩ (.int .u64 h1)).setCell ⟨Wb, 3, none⟩ (.int .u64 t1)).setCell ⟨Wb, 4, none⟩ v1) := by
  have b0 := h.blk
  unfold WlC at b0
  have b1 := set7 b0 1 (.int .u64 g1)
  have b2 := set7 b1 2 (.int .u64 h1)
  have b3 := set7 b2 3 (.int .u64 t1)
  have b4 := set7 b3 4 v1
  have c1 : TC n0 (isT 129) w (w.setCell ⟨Wb, 1, none⟩ (.int .u64 g1)) := TC.set (T := isT 129) b0 rfl h.hW _
  have c2 := c1.trans (TC.set (T := isT 129) b1 rfl h.hW (.int .u64 h1) (j := 2))
  have c3 := c2.trans (TC.set (T := isT 129) b2 rfl h.hW (.int .u64 t1) (j := 3))
  have c4 := c3.trans (TC.set (T := isT 129) b3 rfl h.hW v1 (j := 4))
  exact ⟨⟨b4, h.hW, h.dk.tkeep c4 (isT_disk (by decide)), R_tc hr c4 (fun q hq cells => by
    obtain rfl := q56 q hq
    simp [isT])⟩, c4⟩
theorem save_two (g x y e : Int) (hsv : saveP D g [x, y] = (D1, e)) (hg : 0 ≤ g ∧ g < 18446744073709551616) (hx : 0 ≤ x ∧ x < 18446744073709551616) (hy : 0 ≤ y ∧ y < 18446744073709551616) (hc : D.cache.length ≤ 900) (h : At w (FP B M Bd vc) w B M Bd vc D) :
    Calls Try.prog 42 #[.pointer (some ⟨B, 0, none⟩), .int .u64 g, .slice (some ⟨w.heap.size, 0, none⟩) 2 2] (w.alloc (.cells #[.int .u64 x, .int .u64 y] 56)).drew fun r w' => r = .returned (.int .i64 e) ∧ ∃ vc', At w (FP B M Bd vc) w' B M Bd vc' D1 :=
  at_save (l := [x, y]) (A := some ⟨w.heap.size, 0, none⟩) (c := 2) hsv hg (by simp; exact ⟨hx, hy⟩) (Kd.C_drew (lit_Cu w [x, y] (fun _ => False) (by simp) (fun h => h) _ (Chg.refl _ _))) hc (h.grow (.of_below ((Below.refl w.heap.size w).alloc (Nat.le_refl _) _).drew))
theorem froz {w : World} {b : Nat} {cs : Array Value} {t : Nat} (h : w.heap[b]? = some (.cells cs t (0, 0))) (i : Nat) : w.frozen? ⟨b, i, none⟩ = false := by
  unfold World.frozen?
  simp [h]
/-- what turn does: 0, or over -/
def TuQ (n0 : Nat) (w : World) (Wb B M Bd : Nat) (vs v1 : Value) (D1 : PD) (gen head tail h1 t1 : Int) (S S1 : List Int) (over : Bool) (e : Int) (r : Ending) (w' : World) : Prop :=
  TC n0 isWD w w' ∧ ∃ vc', (e = 0 → r = .returned (.int .i64 0) ∧ WV n0 w' Wb B M Bd vc' v1 D1 (gen + 1) h1 t1 S1 over) ∧ (e ≠ 0 → r = .returned (.int .i64 50) ∧ WV n0 w' Wb B M Bd vc' vs D1 gen head tail S true)
theorem turn_calls (e : Int) (hsv : saveP D (gen + 1) [h1, t1] = (D1, e)) (hg : 0 ≤ gen ∧ gen < 18446744073709551615) (hh : 0 ≤ h1 ∧ h1 < 18446744073709551616) (ht : 0 ≤ t1 ∧ t1 < 18446744073709551616) (hc : D.cache.length ≤ 900)
    (h : WV n0 w Wb B M Bd vc vs D gen head tail S over) (hr : Kd.R (Kd.int .u64) 56 w n0 (fun _ => True) v1 S1) :
    Calls Try.prog 92 #[.pointer (some ⟨Wb, 0, none⟩), .int .u64 h1, .int .u64 t1, v1] w (TuQ n0 w Wb B M Bd vs v1 D1 gen head tail h1 t1 S S1 over e) := by
  have HH := Aside0.mk h
  have HRR := Aside0.mk hr
  have HSV := Aside0.mk (save_two (w := w) (B := B) (M := M) (Bd := Bd) (vc := vc) (gen + 1) h1 t1 e hsv ⟨by omega, by omega⟩ hh ht hc (At.refl h.dk))
  have HWG := Aside0.mk (IntWalk.u64_in (gen + 1) (by omega))
  obtain ⟨⟨q0, q1, q2, q3, q4, q5, q6⟩, k2, k4, k5, k6⟩ := cells7 h.blk
  obtain ⟨A1, c1, rfl⟩ := Kd.R_slice hr
  have g0 : 0 ≤ gen := hg.1
  have g1 : gen < 18446744073709551615 := hg.2
  clear hsv h hr q2 q3 q4 q5 q6 k2 k4 k5 k6
  go_enter Try.func92, Try.ntmps92
  go_wp2
  refine Fork.wp_fork (Fork.Lo.rel 0) [12] [] (.one 0 0 (.one 1 0 (.one 2 0 (.one 4 0 (.one 5 0 (.one 6 0 (.one 9 0 (.one 10 0 (.one 3 1 (.one 7 1 (.one 8 0 (.one 11 2 (.one 12 2 (.one 13 0 .nil)))))))))))))) (by kernel_rfl) (by kernel_rfl) ?_
  generalize hops : List.toArray (_ : List Oper) = ops
  have HO := Aside0.mk hops
  clear hops
  iterate 8 ((refine Fork.plain (Fork.at_ HO.out rfl) _ rfl (fun W => by go_simp; exact rfl) ?_); simp only [Act.put, List.setIfInBounds_toArray, List.set_cons_succ, List.set_cons_zero])
  refine Fork.reads (Fork.at_ HO.out rfl) _ rfl (fun W hW => Arr.ex_load1 rfl rfl (by kernel_rfl) (Fork.bel_cell hW (by assumption))) ?_
  simp only [Act.put, List.setIfInBounds_toArray, List.set_cons_succ, List.set_cons_zero]
  refine Fork.reads (Fork.at_ HO.out rfl) _ rfl (fun W hW => Arr.ex_load1 rfl rfl (by kernel_rfl) (Fork.bel_cell hW (by assumption))) ?_
  simp only [Act.put, List.setIfInBounds_toArray, List.set_cons_succ, List.set_cons_zero]
  ((refine Fork.plain (Fork.at_ HO.out rfl) _ rfl (fun W => by go_simp; exact rfl) ?_); simp only [Act.put, List.setIfInBounds_toArray, List.set_cons_succ, List.set_cons_zero])
  refine Fork.step (Fork.at_ HO.out rfl) (fun K hK => ?_)
  go_simp
  refine hK _ _ (.of_new ((Below.refl _ _).alloc (Nat.le_refl _) _) (Nat.zero_le _)) ?_
  clear hK K
  try simp only [Act.put, List.setIfInBounds_toArray, List.set_cons_succ, List.set_cons_zero]
  refine Fork.step (Fork.at_ HO.out rfl) (fun K hK => ?_)
  go_simp
  rw [HWG.out]
  (with_reducible refine HSV.out.mono ?_)
  rintro er w5 ⟨rfl, vc5, hd5⟩
  refine hK _ _ (Fork.Grow.of_old (Fork.Lo.zero hd5.chg.os hd5.chg.tape hd5.chg.output) rfl) ?_
  clear hK K
  have HD5 := Aside0.mk (HH.out.disk hd5)
  clear hd5
  try simp only [Act.put, List.setIfInBounds_toArray, List.set_cons_succ, List.set_cons_zero]
  ((refine Fork.plain (Fork.at_ HO.out rfl) _ rfl (fun W => by go_simp; exact rfl) ?_); simp only [Act.put, List.setIfInBounds_toArray, List.set_cons_succ, List.set_cons_zero])
  refine Fork.done ?_
  obtain ⟨⟨p0, p1, p2, p3, p4, p5, p6⟩, _⟩ := cells7 HD5.out.1.blk
  have f1 := froz HD5.out.1.blk 1
  have f2 := froz HD5.out.1.blk 2
  have f3 := froz HD5.out.1.blk 3
  have f4 := froz HD5.out.1.blk 4
  have f6 := froz HD5.out.1.blk 6
  have HR5 := Aside0.mk (R_tc HRR.out HD5.out.2 (fun q hq cells => by
    obtain rfl := q56 q hq
    simp [isDisk]))
  have HTD := Aside0.mk (show TC n0 isWD w w5 from HD5.out.2.mono fun _ h => .inl h)
  by_cases he : e = 0
  · subst he
    go_wp2
    go_ret
    have h5 := HD5.out.1.turned (h1 := h1) (t1 := t1) HR5.out (gen + 1)
    exact ⟨HTD.out.trans (h5.2.mono fun _ h => .inr h), vc5, fun _ => ⟨rfl, h5.1⟩, fun h => absurd rfl h⟩
  · have he' : (e != 0) = true := by simp; exact he
    go_wp2
    go_ret
    exact ⟨HTD.out.trans ((HD5.out.1.tcW 6 _).mono fun _ h => .inr h), vc5, fun h => absurd h he, fun _ => ⟨rfl, HD5.out.1.overed⟩⟩
end
end Go.Proofs.Ytlepcmljmibdnaa
namespace Go.Proofs.Ytlepcmljmibdnaa
open Go.RowKit Go.Proofs.YtlepcmljmibdnaaW.PrintWords Go.Proofs.YtlepcmljmibdnaaW.PrintLast Go.Proofs.YtlepcmljmibdnaaW.PrintMore PWalOpens
set_option linter.unusedVariables false
set_option linter.unusedSimpArgs false
theorem run_eql_slice_nil57 (w : World) (a : Option Addr) (l c : Nat) : (binOp .eql 57 (.slice a l c) (.slice none 0 0)).run Try.prog w = .ok (.bool a.isNone) w := by
  exact Lib.run_eql_slice_nil (P := Try.prog) w 57 56 a l c 0 0 Try.underlying57
theorem clone64u_calls (w : World) (ad : Addr) (c : Nat) (b : List Int) (hl : b.length ≤ 1000000) (hC : (Kd.int .u64).C w (some ad) b.length b) :
    Calls Try.prog 98 #[.slice (some ad) b.length c] w fun e w' => ∃ v, e = .returned v ∧ Kd.R (Kd.int .u64) 56 w' w.heap.size (fun _ => True) v b ∧ Below w.heap.size w w' := by
  have hq := run_eql_slice_nil57 w (some ad) b.length c
  simp only [Option.isNone_some] at hq
  have HC := Aside0.mk hC
  have HL := Aside0.mk hl
  clear hC hl
  go_enter Try.func98, Try.ntmps98
  go_wp2_with (first | ((with_reducible refine gate_dst (N := 5) rfl ?_); refine Kd.R_lit (Kd.int .u64) _ 56 ?hg (N := 5) ?hd (xs := ([] : List Int)) (inner := []) (ok := fun _ => True) (okp := fun _ => True) ?hr ?hp (fun _ hk => hk) trivial (Below.refl _ _) (Nat.le_refl _) (by simp) ?_; (case hd => rfl); (case hg => rfl); (case hr => first | (go_simp; done) | (go_simp; rfl)); (case hp => exact (Reps.none _ _)); intro v10 w10 ho11 hb hg_ hnew_; clear hg_ hnew_; have HO := Aside0.mk ho11; have HB := Aside0.mk hb; clear ho11 hb) | ((with_reducible refine gate_builtin (b := .append) (xs := #[.tmp 5, .tmp 6]) rfl ?_); at_builtin; go_loud (refine Kd.R_append_rows (Kd.int .u64) (w0 := w) w.heap.size rfl (.tmp 5) (.tmp 6) 57 56 (.int .u64 0) 8 rfl Try.underlying57 info56 rfl (by decide) (by omega) v10 [] b (some ad) b.length c (fun _ => True) (fun _ => False) rfl rfl HO.out (Kd.C_below HC.out HB.out) (fun _ _ h => h) (fun _ h => h.elim) (fun _ _ => trivial) HB.out HB.out.size (by have := HL.out; simp; omega) ?_; intro v1 w1 ho hb hg hat; have HO1 := Aside0.mk ho; have HB1 := Aside0.mk hb; clear ho hb hg hat)))
  go_ret
  exact ⟨v1, rfl, HO1.out, HB1.out⟩
theorem grow_none (w : World) : Calls Try.prog 115 #[.slice none 0 0, .int .i64 0] w fun e w' => e = .returned (.slice none 0 0) ∧ w = w' := by
  go_enter Try.func115, Try.ntmps115
  go_wp2
  go_ret
  exact ⟨rfl, rfl⟩
set_option maxRecDepth 100000 in
theorem grow_some (w : World) (n : Nat) (hn : 0 < n ∧ n ≤ 1000000) : Calls Try.prog 115 #[.slice none 0 0, .int .i64 n] w fun e w' => ∃ v, e = .returned v ∧ Kd.R (Kd.int .u64) 56 w' w.heap.size (fun _ => True) v [] ∧ Below w.heap.size w w' := by
  have h1 : decide ((n : Int) < 0) = false := by simp
  have h2 : decide (0 < (n : Int)) = true := by simp; omega
  have hn1 : n ≤ 1000000 := hn.2
  have h3 : 0 < n := hn.1
  have HN := Aside0.mk hn
  clear hn
  go_enter Try.func115, Try.ntmps115
  go_wp2_with (first
    | ((with_reducible refine gate_builtin (b := .append) (xs := #[.tmp 20, .tmp 21]) rfl ?_); at_builtin; go_loud (refine Kd.R_append_zeros (Kd.int .u64) (w0 := w) w.heap.size rfl (.tmp 20) (.tmp 21) 57 3 56 (.int .u64 0) 8 rfl Try.underlying57 Try.underlying3 info56 rfl (by decide) (by decide) (.slice none 0 0) [] 0 (n : Int) (fun _ => True) rfl rfl rfl (fun _ _ => trivial) (Kd.R_nil _ _ _ _ _) (by omega) (Below.refl _ _) (Nat.le_refl _) (by simp; omega) ?_); intro v1 w1 ho hb hg hat; obtain ⟨A1, n1, c1, hv1⟩ := R_slice3 ho; subst hv1; have HO1 := Aside0.mk ho; have HB1 := Aside0.mk hb; clear ho hb hg hat))
  go_ret
  have h5 := Kd.R_take HO1.out (m := 0) (Nat.zero_le _)
  rw [List.take_zero] at h5
  exact ⟨_, rfl, h5, HB1.out⟩
theorem grow_calls (w : World) (n : Nat) (hn : n ≤ 1000000) : Calls Try.prog 115 #[.slice none 0 0, .int .i64 n] w fun e w' => ∃ v, e = .returned v ∧ Kd.R (Kd.int .u64) 56 w' w.heap.size (fun _ => True) v [] ∧ Below w.heap.size w w' := by
  by_cases h : n = 0
  · subst h
    refine (grow_none w).mono ?_
    rintro e w' ⟨rfl, rfl⟩
    exact ⟨_, rfl, Kd.R_nil _ _ _ _ _, Below.refl _ _⟩
  · exact grow_some w n ⟨by omega, hn⟩
set_option maxRecDepth 100000 in
theorem concat_calls (w : World) (b : Nat) (A1 A2 : Option Addr) (c1 c2 : Nat) (l1 l2 : List Int) (hb : w.heap[b]? = some (.cells #[.slice A1 l1.length c1, .slice A2 l2.length c2] 57 (0, 0))) (hC1 : (Kd.int .u64).C w A1 l1.length l1) (hC2 : (Kd.int .u64).C w A2 l2.length l2) (hl : l1.length + l2.length ≤ 1000000) :
    Calls Try.prog 93 #[.slice (some ⟨b, 0, none⟩) 2 2] w fun e w' => ∃ v, e = .returned v ∧ Kd.R (Kd.int .u64) 56 w' w.heap.size (fun _ => True) v (l1 ++ l2) ∧ Below w.heap.size w w' := by
  have HB := Aside0.mk hb
  have H1 := Aside0.mk hC1
  have H2 := Aside0.mk hC2
  have HL := Aside0.mk hl
  obtain ⟨p1, p2, _⟩ := cells2 hb
  have g1 : l1.length ≤ 1000000 := by omega
  have g2 : l2.length ≤ 1000000 := by omega
  clear hb hC1 hC2
  go_enter Try.func93, Try.ntmps93
  go_wp2
  go_loopg [3, 11] 2 (fun kq v3 v11 w' => w' = w ∧ ((kq = 2 ∧ v11 = .int .i64 0 ∧ v3 = .int .i64 0) ∨ (kq = 1 ∧ v11 = .int .i64 1 ∧ v3 = .int .i64 (l1.length : Int)) ∨ (kq = 0 ∧ v11 = .int .i64 2 ∧ v3 = .int .i64 ((l1.length : Int) + (l2.length : Int)))))
  case atStart => exact ⟨rfl, .inl ⟨rfl, rfl, rfl⟩⟩
  case round =>
    obtain ⟨hw, h⟩ := hrel
    subst wr
    rcases h with ⟨rfl, rfl, rfl⟩ | ⟨rfl, rfl, rfl⟩ | ⟨rfl, rfl, rfl⟩
    · go_wp2
      go_roundg 1
      case rel => exact ⟨rfl, .inr (.inl ⟨rfl, rfl, by simp⟩)⟩
      case measure => omega
    · go_wp2
      go_roundg 0
      case rel => exact ⟨rfl, .inr (.inr ⟨rfl, rfl, by simp⟩)⟩
      case measure => omega
    · have HG := Aside0.mk (grow_calls w (l1.length + l2.length) hl)
      rw [Int.natCast_add] at HG
      go_wp2_with (go_at_call 115; (with_reducible refine HG.out.mono ?_); rintro e w3 ⟨v3, rfl, hr, hb3⟩; have HR3 := Aside0.mk hr; have HB3 := Aside0.mk hb3; clear hr hb3)
      go_loopg [6, 27] 2 (fun kq v6 v27 wq => Aside0 (Below w.heap.size w wq) ∧ ((kq = 2 ∧ v27 = .int .i64 0 ∧ Aside0 (Kd.R (Kd.int .u64) 56 wq w.heap.size (fun _ => True) v6 [])) ∨ (kq = 1 ∧ v27 = .int .i64 1 ∧ Aside0 (Kd.R (Kd.int .u64) 56 wq w.heap.size (fun _ => True) v6 l1)) ∨ (kq = 0 ∧ v27 = .int .i64 2 ∧ Aside0 (Kd.R (Kd.int .u64) 56 wq w.heap.size (fun _ => True) v6 (l1 ++ l2)))))
      case atStart => exact ⟨HB3, .inl ⟨rfl, rfl, HR3⟩⟩
      case round =>
        obtain ⟨HBq, h⟩ := hrel
        obtain ⟨r1, r2, _⟩ := cells2 ((HBq.out.block _ (Array.getElem?_eq_some_iff.1 HB.out).1).trans HB.out)
        rcases h with ⟨rfl, rfl, HR⟩ | ⟨rfl, rfl, HR⟩ | ⟨rfl, rfl, HR⟩
        · have HZ := Aside0.mk (show (([] : List Int).length + l1.length) * 8 ≤ 140737488355328 from by simp; omega)
          obtain ⟨A6, c6, rfl⟩ := Kd.R_slice HR.out
          go_wp2_with (first | ((with_reducible refine gate_builtin (b := .append) (xs := #[.tmp 31, .tmp 32]) rfl ?_); at_builtin; go_loud (refine Kd.R_append_rows (Kd.int .u64) (W := wr) (w0 := wr) w.heap.size rfl (.tmp 31) (.tmp 32) 57 56 (.int .u64 0) 8 rfl Try.underlying57 info56 rfl (by decide) (by decide) _ ([] : List Int) l1 A1 l1.length c1 (fun _ => True) (fun _ => False) rfl rfl HR.out (Kd.C_below H1.out HBq.out) (fun _ _ h => h) (fun _ h => h.elim) (fun _ _ => trivial) (Below.refl _ _) HBq.out.size HZ.out ?_); intro v5 w5 ho hb hg hat; have HO5 := Aside0.mk ho; have HB5 := Aside0.mk (HBq.out.trans hb); clear ho hb hg hat))
          go_roundg 1
          case rel => exact ⟨HB5, .inr (.inl ⟨rfl, rfl, HO5⟩)⟩
          case measure => omega
        · have HZ := Aside0.mk (show (l1.length + l2.length) * 8 ≤ 140737488355328 from by omega)
          obtain ⟨A6, c6, rfl⟩ := Kd.R_slice HR.out
          go_wp2_with (first | ((with_reducible refine gate_builtin (b := .append) (xs := #[.tmp 31, .tmp 32]) rfl ?_); at_builtin; go_loud (refine Kd.R_append_rows (Kd.int .u64) (W := wr) (w0 := wr) w.heap.size rfl (.tmp 31) (.tmp 32) 57 56 (.int .u64 0) 8 rfl Try.underlying57 info56 rfl (by decide) (by decide) _ l1 l2 A2 l2.length c2 (fun _ => True) (fun _ => False) rfl rfl HR.out (Kd.C_below H2.out HBq.out) (fun _ _ h => h) (fun _ h => h.elim) (fun _ _ => trivial) (Below.refl _ _) HBq.out.size HZ.out ?_); intro v5 w5 ho hb hg hat; have HO5 := Aside0.mk ho; have HB5 := Aside0.mk (HBq.out.trans hb); clear ho hb hg hat))
          go_roundg 0
          case rel => exact ⟨HB5, .inr (.inr ⟨rfl, rfl, HO5⟩)⟩
          case measure => omega
        · obtain ⟨A6, c6, rfl⟩ := Kd.R_slice HR.out
          go_wp2
          go_ret
          have HRl := HR.out
          rw [List.length_append] at HRl
          exact ⟨_, rfl, HRl, HBq.out⟩
end Go.Proofs.Ytlepcmljmibdnaa
namespace Go.Proofs.Ytlepcmljmibdnaa
open Go.RowKit Go.Proofs.YtlepcmljmibdnaaW.PrintWords Go.Proofs.YtlepcmljmibdnaaW.PrintLast Go.Proofs.YtlepcmljmibdnaaW.PrintMore PWalOpens
set_option linter.unusedVariables false
set_option linter.unusedSimpArgs false
section
variable {n0 : Nat} {w w' : World} {Wb B M Bd : Nat} {vc vs v1 : Value} {D D1 D2 : PD} {gen head tail h1 t1 : Int} {S S1 st : List Int} {over : Bool} {s e e2 : Int}
def AddQ (n0 : Nat) (w : World) (Wb B M Bd : Nat) (D1 D2 : PD) (gen head tail : Int) (S st : List Int) (s e e2 : Int) (r : Ending) (w' : World) : Prop :=
  TC n0 isWD w w' ∧ ∃ vc' vs',
    (e ≠ 0 → (e = 2 ∨ e = 51) → r = .returned (.int .i64 e) ∧ WV n0 w' Wb B M Bd vc' vs' D1 gen head tail S false) ∧
    (e ≠ 0 → (e ≠ 2 ∧ e ≠ 51) → r = .returned (.int .i64 50) ∧ WV n0 w' Wb B M Bd vc' vs' D1 gen head tail S true) ∧
    (e = 0 → e2 = 0 → r = .returned (.int .i64 0) ∧ WV n0 w' Wb B M Bd vc' vs' D2 (gen + 1) head s (S ++ st) false) ∧
    (e = 0 → e2 ≠ 0 → r = .returned (.int .i64 50) ∧ WV n0 w' Wb B M Bd vc' vs' D2 gen head tail S true)
theorem ret_code {er : Ending} {e2 : Int} {P Q : Prop} (h1 : e2 = 0 → er = .returned (.int .i64 0) ∧ P) (h2 : e2 ≠ 0 → er = .returned (.int .i64 50) ∧ Q) : ∃ x, er = .returned (.int .i64 x) := by
  by_cases h : e2 = 0
  · exact ⟨_, (h1 h).1⟩
  · exact ⟨_, (h2 h).1⟩
/-- lay, seen by the wal -/
theorem lay_wv {A : Option Addr} {c : Nat} {R : List (List Int)} {r f : Int} (hr : ringP D = r) (hR : RecsOK R) (hf : r - (tail - head) = f) (hres : layP D r f tail R = (D1, st, s, e))
    (ht : 0 ≤ head ∧ head ≤ tail ∧ tail < 18446744073709551000 ∧ tail - head ≤ 4094) (hl : D.cache.length ≤ 850) (h : WV n0 w Wb B M Bd vc vs D gen head tail S over)
    (hT : ∀ W, TC n0 isWD w W → bytesK.C W A R.length R) :
    Calls Try.prog 90 #[.pointer (some ⟨Wb, 0, none⟩), .slice A R.length c] w fun x w' => ∃ A' c' vc', x = .returned (.tuple #[.slice A' st.length c', .int .u64 s, .int .i64 e]) ∧ Kd.R (Kd.int .u64) 56 w' w.heap.size (fun _ => True) (.slice A' st.length c') st ∧ WV n0 w' Wb B M Bd vc' vs D1 gen head tail S over ∧ TC n0 isWD w w' := by
  refine (lay_calls A c R r f (D1, st, s, e) hr hR hf hres ht (by omega) h.blk h.away (h.dk.low 0 (Nat.zero_le _)) (fun W hc => hT W ((h.dk.tc hc).mono fun _ h => .inl h))).mono ?_
  rintro x w' ⟨v, rfl, hst, vc', ha⟩
  obtain ⟨A', c', rfl⟩ := Kd.R_slice hst
  have h5 := h.disk ha
  exact ⟨A', c', vc', rfl, hst, h5.1, h5.2.mono fun _ h => .inl h⟩
set_option maxHeartbeats 1000000 in
theorem add_calls {A : Option Addr} {c : Nat} {R : List (List Int)} {r f : Int} (hr : ringP D = r) (hR : RecsOK R) (hf : r - (tail - head) = f) (hres : layP D r f tail R = (D1, st, s, e)) (hsv : saveP D1 (gen + 1) [head, s] = (D2, e2))
    (ht : 0 ≤ head ∧ head ≤ tail ∧ tail < 18446744073709551000 ∧ tail - head ≤ 4094) (hg : 0 ≤ gen ∧ gen < 18446744073709551615) (hs : 0 ≤ s ∧ s < 18446744073709551616) (hl : D.cache.length ≤ 850) (hl1 : D1.cache.length ≤ 900) (hS : S.length + st.length ≤ 1000000) (h : WV n0 w Wb B M Bd vc vs D gen head tail S false)
    (hT : ∀ W, TC n0 isWD w W → bytesK.C W A R.length R) :
    Calls Try.prog 53 #[.pointer (some ⟨Wb, 0, none⟩), .slice A R.length c] w (AddQ n0 w Wb B M Bd D1 D2 gen head tail S st s e e2) := by
  obtain ⟨As, cs, rfl⟩ := Kd.R_slice h.st
  have HK := Aside0.mk (wok_calls h.blk)
  have HLY := Aside0.mk (lay_wv (c := c) hr hR hf hres ht hl h hT)
  have HH := Aside0.mk h
  have HSV := Aside0.mk hsv
  have HS := Aside0.mk hS
  have HL1 := Aside0.mk hl1
  have HHD := Aside0.mk (show 0 ≤ head ∧ head < 18446744073709551616 from by omega)
  have HN0 := Aside0.mk (show n0 ≤ w.heap.size from h.dk.base_le)
  simp only [Bool.not_false, Bool.and_self] at HK
  clear h hr hR hf hres hT hsv hS ht
  by_cases he : e = 0
  · subst he
    go_enter Try.func53, Try.ntmps53
    go_wp2_with (first
      | (go_at_call 89; (with_reducible refine HK.out.mono ?_); rintro e w' ⟨rfl, rfl⟩)
      | (go_at_call 90; (with_reducible refine HLY.out.mono ?_); rintro e w1 ⟨A1, c1, vc1, rfl, hst, hv, htc⟩; have HST := Aside0.mk hst; have HV := Aside0.mk hv; have HTC := Aside0.mk htc; clear hst hv htc))
    obtain ⟨⟨q0, q1, q2, q3, q4, q5, q6⟩, _⟩ := cells7 HV.out.blk
    clear q0 q1 q3 q5 q6
    obtain ⟨W2, hW2⟩ : ∃ W2, (w1.alloc (.cells #[.slice As S.length cs, .slice A1 st.length c1] 57)).drew = W2 := ⟨_, rfl⟩
    have HB2 := Aside0.mk (show Below w1.heap.size w1 W2 from by rw [← hW2]; exact ((Below.refl w1.heap.size w1).alloc (Nat.le_refl _) _).drew)
    have HCC := Aside0.mk (concat_calls W2 w1.heap.size As A1 cs c1 S st (by rw [← hW2]; exact heap_alloc_new w1 _) (Kd.C_below (Kd.R_reads' HV.out.st).2.2 HB2.out) (Kd.C_below (Kd.R_reads' HST.out).2.2 HB2.out) HS.out)
    have HW2 := Aside0.mk hW2
    clear hW2
    go_wp2
    refine Fork.wp_fork (Fork.Lo.rel 0) [13] [] (.one 0 0 (.one 1 0 (.one 2 0 (.one 3 0 (.one 5 0 (.one 6 0 (.one 7 0 (.one 8 0 (.one 10 0 (.one 4 1 (.one 9 1 (.one 11 2 (.one 12 2 (.one 13 2 (.one 14 0 .nil))))))))))))))) (by kernel_rfl) (by kernel_rfl) ?_
    generalize hops : List.toArray (_ : List Oper) = ops
    have HO := Aside0.mk hops
    clear hops
    iterate 9 ((refine Fork.plain (Fork.at_ HO.out rfl) _ rfl (fun W => by go_simp; exact rfl) ?_); simp only [Act.put, List.setIfInBounds_toArray, List.set_cons_succ, List.set_cons_zero])
    refine Fork.reads (Fork.at_ HO.out rfl) _ rfl (fun W hW => Arr.ex_load1 rfl rfl (by kernel_rfl) (Fork.bel_cell hW (by assumption))) ?_
    simp only [Act.put, List.setIfInBounds_toArray, List.set_cons_succ, List.set_cons_zero]
    refine Fork.reads (Fork.at_ HO.out rfl) _ rfl (fun W hW => Arr.ex_load1 rfl rfl (by kernel_rfl) (Fork.bel_cell hW (by assumption))) ?_
    simp only [Act.put, List.setIfInBounds_toArray, List.set_cons_succ, List.set_cons_zero]
    refine Fork.step (Fork.at_ HO.out rfl) (fun K hK => ?_)
    go_simp
    refine hK _ _ (.of_new ((Below.refl _ _).alloc (Nat.le_refl _) _) (Nat.zero_le _)) ?_
    clear hK K
    try simp only [Act.put, List.setIfInBounds_toArray, List.set_cons_succ, List.set_cons_zero]
    refine Fork.step (Fork.at_ HO.out rfl) (fun K hK => ?_)
    go_simp
    rw [HW2.out]
    (with_reducible refine HCC.out.mono ?_)
    rintro er w3 ⟨v3, rfl, hr3, hb3⟩
    refine hK _ _ (.of_new (by rw [HW2.out]; exact hb3) (Nat.zero_le _)) ?_
    clear hK K
    have HR3 := Aside0.mk (Kd.R_lower hr3 (Nat.le_trans HN0.out (Nat.le_trans HTC.out.low.size HB2.out.size)))
    have HV3 := Aside0.mk (HV.out.fresh (HB2.out.trans (hb3.mono HB2.out.size)))
    have HB3 := Aside0.mk (HB2.out.trans (hb3.mono HB2.out.size))
    clear hr3 hb3
    try simp only [Act.put, List.setIfInBounds_toArray, List.set_cons_succ, List.set_cons_zero]
    refine Fork.step (Fork.at_ HO.out rfl) (fun K hK => ?_)
    go_simp
    (with_reducible refine (turn_calls e2 HSV.out hg HHD.out hs HL1.out HV3.out HR3.out).mono ?_)
    rintro er w4 ⟨ht4, vc4, hq1, hq2⟩
    have HT4 := Aside0.mk (HTC.out.trans ((TC.of_below HB3.out (Nat.le_trans HN0.out HTC.out.low.size)).trans ht4))
    have HL4 := Aside0.mk (show Fork.Lo 0 w3 w4 from Fork.Lo.zero ht4.low.os ht4.low.tape ht4.low.output)
    have HQ4 := Aside0.mk (And.intro hq1 hq2)
    clear hq1 hq2 ht4
    obtain ⟨x4, rfl⟩ : ∃ x4, er = .returned (.int .i64 x4) := ret_code HQ4.out.1 HQ4.out.2
    refine hK _ _ (Fork.Grow.of_old HL4.out rfl) ?_
    clear hK K
    try simp only [Act.put, List.setIfInBounds_toArray, List.set_cons_succ, List.set_cons_zero]
    ((refine Fork.plain (Fork.at_ HO.out rfl) _ rfl (fun W => by go_simp; exact rfl) ?_); simp only [Act.put, List.setIfInBounds_toArray, List.set_cons_succ, List.set_cons_zero])
    refine Fork.done ?_
    go_wp2
    go_ret
    refine ⟨HT4.out, vc4, if e2 = 0 then v3 else .slice As S.length cs, fun h => absurd rfl h, fun h => absurd rfl h, fun _ h2 => ?_, fun _ h2 => ?_⟩
    · rw [if_pos h2]
      exact HQ4.out.1 h2
    · rw [if_neg h2]
      exact HQ4.out.2 h2
  · have he' : (e != 0) = true := by simp; exact he
    by_cases he2 : e = 2 ∨ e = 51
    · have HE := Aside0.mk (fun w => wend_same (w := w) (Wb := Wb) e he2)
      go_enter Try.func53, Try.ntmps53
      go_wp2_with (first
        | (go_at_call 89; (with_reducible refine HK.out.mono ?_); rintro e w' ⟨rfl, rfl⟩)
        | (go_at_call 90; (with_reducible refine HLY.out.mono ?_); rintro er w1 ⟨A1, c1, vc1, rfl, hst, hv, htc⟩; have HV := Aside0.mk hv; have HTC := Aside0.mk htc; clear hst hv htc)
        | (go_at_call 91; (with_reducible refine (HE.out w1).mono ?_); rintro er w' ⟨rfl, rfl⟩))
      go_ret
      exact ⟨HTC.out, vc1, .slice As S.length cs, fun _ _ => ⟨rfl, HV.out⟩, fun _ h => absurd he2 (by omega), fun h => absurd h he, fun h => absurd h he⟩
    · have HE := Aside0.mk (fun w (h : WlC w Wb B gen head tail (.slice As S.length cs) true false) => wend_over e (by omega) h)
      go_enter Try.func53, Try.ntmps53
      go_wp2_with (first
        | (go_at_call 89; (with_reducible refine HK.out.mono ?_); rintro e w' ⟨rfl, rfl⟩)
        | (go_at_call 90; (with_reducible refine HLY.out.mono ?_); rintro er w1 ⟨A1, c1, vc1, rfl, hst, hv, htc⟩; have HV := Aside0.mk hv; have HTC := Aside0.mk htc; clear hst hv htc)
        | (go_at_call 91; (with_reducible refine (HE.out w1 HV.out.blk).mono ?_); rintro er w' ⟨rfl, rfl⟩))
      go_ret
      exact ⟨HTC.out.trans ((HV.out.tcW 6 _).mono fun _ h => .inr h), vc1, .slice As S.length cs, fun _ h => absurd h he2, fun _ _ => ⟨rfl, HV.out.overed⟩, fun h => absurd h he, fun h => absurd h he⟩
end
end Go.Proofs.Ytlepcmljmibdnaa
namespace Go.Proofs.Ytlepcmljmibdnaa
open Go.RowKit Go.Proofs.YtlepcmljmibdnaaW.PrintWords Go.Proofs.YtlepcmljmibdnaaW.PrintLast Go.Proofs.YtlepcmljmibdnaaW.PrintMore PWalOpens
set_option linter.unusedVariables false
set_option linter.unusedSimpArgs false
theorem C_drop {w : World} {ad : Addr} {xs : List Int} (h : (Kd.int .u64).C w (some ad) xs.length xs) (k : Nat) (hk : k ≤ xs.length) : (Kd.int .u64).C w (some (ad.add k)) (xs.drop k).length (xs.drop k) := by
  have hl : (xs.drop k).length = xs.length - k := List.length_drop
  refine ⟨rfl, by have := h.2.1; omega, fun h0 => ⟨_, rfl, fun j p hj => ?_⟩⟩
  obtain ⟨ad', e, hc⟩ := h.2.2 (by omega)
  cases e
  have hj' : xs[k + j]? = some p := by rw [List.getElem?_drop] at hj; exact hj
  obtain ⟨c, h1, h2, h3⟩ := hc (k + j) p hj'
  refine ⟨c, h1, h2, fun i u hu => ?_⟩
  have := h3 i u hu
  rw [add_add]
  rw [show k + (j * (Kd.int .u64).sz + i) = (k + j) * (Kd.int .u64).sz + i from by show k + (j * 1 + i) = (k + j) * 1 + i; omega]
  exact this
section
variable {n0 : Nat} {w w' : World} {Wb B M Bd : Nat} {vc vs v1 : Value} {D D1 D2 : PD} {gen head tail : Int} {S : List Int} {over : Bool} {x e : Int}
def CutQ (n0 : Nat) (w : World) (Wb B M Bd : Nat) (D1 : PD) (gen head tail x : Int) (S : List Int) (n : Nat) (e : Int) (r : Ending) (w' : World) : Prop :=
  TC n0 isWD w w' ∧ ∃ vc' vs', (e = 0 → r = .returned (.int .i64 0) ∧ WV n0 w' Wb B M Bd vc' vs' D1 (gen + 1) x tail (S.drop n) false) ∧ (e ≠ 0 → r = .returned (.int .i64 50) ∧ WV n0 w' Wb B M Bd vc' vs' D1 gen head tail S true)
theorem ret_code' {er : Ending} {e2 : Int} {P Q : Prop} (h1 : e2 = 0 → er = .returned (.int .i64 0) ∧ P) (h2 : e2 ≠ 0 → er = .returned (.int .i64 50) ∧ Q) : ∃ x, er = .returned (.int .i64 x) := by
  by_cases h : e2 = 0
  · exact ⟨_, (h1 h).1⟩
  · exact ⟨_, (h2 h).1⟩
set_option maxHeartbeats 1000000 in
theorem wcut_calls (n : Nat) (hn : 0 < n ∧ n < S.length) (hS : S.length ≤ 1000000) (hx : S.getD n 0 = x) (hsv : saveP D (gen + 1) [x, tail] = (D1, e)) (hg : 0 ≤ gen ∧ gen < 18446744073709551615) (hh : 0 ≤ x ∧ x < 18446744073709551616) (ht : 0 ≤ tail ∧ tail < 18446744073709551616) (hc : D.cache.length ≤ 900)
    (h : WV n0 w Wb B M Bd vc vs D gen head tail S false) :
    Calls Try.prog 60 #[.pointer (some ⟨Wb, 0, none⟩), .int .i64 (n : Int)] w (CutQ n0 w Wb B M Bd D1 gen head tail x S n e) := by
  have HK := Aside0.mk (wok_calls h.blk)
  simp only [Bool.not_false, Bool.and_self] at HK
  have HSV := Aside0.mk hsv
  have HCA := Aside0.mk hc
  have HN0 := Aside0.mk (show n0 ≤ w.heap.size from h.dk.base_le)
  obtain ⟨ad, cs, rfl⟩ := Kd.R_slice1 h.st (by omega)
  obtain ⟨_, hcap, hC⟩ := Kd.R_reads' h.st
  have hcn : w.cell? (ad.add n) = some (.int .u64 x) := by
    obtain ⟨ad', e', hcl⟩ := hC.2.2 (by omega)
    cases e'
    obtain ⟨cc, h1, h2, h3⟩ := hcl n x (by rw [← hx, List.getD_eq_getElem?_getD, List.getElem?_eq_getElem hn.2]; rfl)
    have h4 : cc = [.int .u64 x] := h2
    have h5 := h3 0 (.int .u64 x) (by rw [h4]; rfl)
    rw [show n * (Kd.int .u64).sz + 0 = n from by show n * 1 + 0 = n; omega] at h5
    exact h5
  have HCL := Aside0.mk (clone64u_calls w.drew (ad.add n) (cs - n) (S.drop n) (by rw [List.length_drop]; omega) (Kd.C_drew (C_drop hC n (by omega))))
  rw [List.length_drop] at HCL
  obtain ⟨⟨q0, q1, q2, q3, q4, q5, q6⟩, _⟩ := cells7 h.blk
  have HH := Aside0.mk h
  have n1 : (0 : Int) ≤ (n : Int) := by omega
  have n2 : (n : Int) < (S.length : Int) := by omega
  have b1 : decide ((n : Int) < 0) = false := by simp
  have b2 : decide ((S.length : Int) < (n : Int)) = false := by simp; omega
  have b3 : ((n : Int) == (S.length : Int)) = false := by simp; omega
  clear q0 q1 q2 q5 q6 h hsv hc hC hx
  go_enter Try.func60, Try.ntmps60
  go_wp2_with (go_at_call 89; (with_reducible refine HK.out.mono ?_); rintro e w' ⟨rfl, rfl⟩)
  refine Fork.wp_fork (Fork.Lo.rel 0) [19] [] (.one 0 0 (.one 1 0 (.one 2 0 (.one 3 0 (.one 5 0 (.one 8 0 (.one 9 0 (.one 10 0 (.one 12 0 (.one 13 0 (.one 14 0 (.one 16 0 (.one 4 1 (.one 6 0 (.one 7 1 (.one 11 1 (.one 15 1 (.one 17 0 (.one 18 2 (.one 19 2 (.one 20 0 .nil))))))))))))))))))))) (by kernel_rfl) (by kernel_rfl) ?_
  generalize hops : List.toArray (_ : List Oper) = ops
  have HO := Aside0.mk hops
  clear hops
  iterate 12 ((refine Fork.plain (Fork.at_ HO.out rfl) _ rfl (fun W => by go_simp; exact rfl) ?_); simp only [Act.put, List.setIfInBounds_toArray, List.set_cons_succ, List.set_cons_zero])
  refine Fork.reads (Fork.at_ HO.out rfl) _ rfl (fun W hW => Arr.ex_load1 rfl rfl (by kernel_rfl) (Fork.bel_cell hW (by assumption))) ?_
  simp only [Act.put, List.setIfInBounds_toArray, List.set_cons_succ, List.set_cons_zero]
  refine Fork.plain (Fork.at_ HO.out rfl) _ rfl (fun W => by go_simp; exact rfl) ?_
  simp only [Act.put, List.setIfInBounds_toArray, List.set_cons_succ, List.set_cons_zero]
  refine Fork.reads (Fork.at_ HO.out rfl) _ rfl (fun W hW => Arr.ex_load1 rfl rfl (by kernel_rfl) (Fork.bel_cell hW (by assumption))) ?_
  simp only [Act.put, List.setIfInBounds_toArray, List.set_cons_succ, List.set_cons_zero]
  refine Fork.reads (Fork.at_ HO.out rfl) _ rfl (fun W hW => Arr.ex_load1 rfl rfl (by kernel_rfl) (Fork.bel_cell hW (by assumption))) ?_
  simp only [Act.put, List.setIfInBounds_toArray, List.set_cons_succ, List.set_cons_zero]
  refine Fork.reads (Fork.at_ HO.out rfl) _ rfl (fun W hW => Arr.ex_load1 rfl rfl (by kernel_rfl) (Fork.bel_cell hW (by assumption))) ?_
  simp only [Act.put, List.setIfInBounds_toArray, List.set_cons_succ, List.set_cons_zero]
  refine Fork.plain (Fork.at_ HO.out rfl) _ rfl (fun W => by go_simp; rw [if_pos (by omega), if_neg (by omega)]) ?_
  simp only [Act.put, List.setIfInBounds_toArray, List.set_cons_succ, List.set_cons_zero]
  refine Fork.step (Fork.at_ HO.out rfl) (fun K hK => ?_)
  go_simp
  (with_reducible refine HCL.out.mono ?_)
  rintro er w3 ⟨v3, rfl, hr3, hb3⟩
  refine hK _ _ (.of_new hb3 (Nat.zero_le _)) ?_
  clear hK K
  have HR3 := Aside0.mk (Kd.R_lower hr3 HN0.out)
  have HV3 := Aside0.mk (HH.out.fresh ((Below.refl w.heap.size w).drew.trans hb3))
  have HB3 := Aside0.mk ((Below.refl w.heap.size w).drew.trans hb3)
  clear hr3 hb3
  try simp only [Act.put, List.setIfInBounds_toArray, List.set_cons_succ, List.set_cons_zero]
  refine Fork.step (Fork.at_ HO.out rfl) (fun K hK => ?_)
  go_simp
  (with_reducible refine (turn_calls e HSV.out hg hh ht HCA.out HV3.out HR3.out).mono ?_)
  rintro er w4 ⟨ht4, vc4, hq1, hq2⟩
  have HT4 := Aside0.mk ((TC.of_below HB3.out HN0.out).trans ht4)
  have HL4 := Aside0.mk (show Fork.Lo 0 w3 w4 from Fork.Lo.zero ht4.low.os ht4.low.tape ht4.low.output)
  have HQ4 := Aside0.mk (And.intro hq1 hq2)
  clear hq1 hq2 ht4
  obtain ⟨x4, rfl⟩ : ∃ x4, er = .returned (.int .i64 x4) := ret_code' HQ4.out.1 HQ4.out.2
  refine hK _ _ (Fork.Grow.of_old HL4.out rfl) ?_
  clear hK K
  try simp only [Act.put, List.setIfInBounds_toArray, List.set_cons_succ, List.set_cons_zero]
  ((refine Fork.plain (Fork.at_ HO.out rfl) _ rfl (fun W => by go_simp; exact rfl) ?_); simp only [Act.put, List.setIfInBounds_toArray, List.set_cons_succ, List.set_cons_zero])
  refine Fork.done ?_
  go_wp2
  go_ret
  refine ⟨HT4.out, vc4, if e = 0 then v3 else .slice (some ad) S.length cs, fun h2 => ?_, fun h2 => ?_⟩
  · rw [if_pos h2]
    exact HQ4.out.1 h2
  · rw [if_neg h2]
    exact HQ4.out.2 h2
end
end Go.Proofs.Ytlepcmljmibdnaa
