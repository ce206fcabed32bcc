/- Parts of one proof, joined: Kp, Pv, Tu, Cn, Ad, Ct, Aq. Conditions: those of each statement. -/
import Derived.Test.YtlepcmljmibdnaaWx9
import Derived.Test.YtlepcmljmibdnaaWx11
import Derived.Lib.SmallJoins
import Derived.Lib.SlBytesConst
namespace Go.Proofs.Ytlepcmljmibdnaa
open Go.RowKit Go.Proofs.YtlepcmljmibdnaaW.PrintWords Go.Proofs.YtlepcmljmibdnaaW.PrintLast Go.Proofs.YtlepcmljmibdnaaW.PrintMore PWalOpens
set_option linter.unusedVariables false
set_option linter.unusedSimpArgs false
/-- no bad sector, nothing cached, whatever it is armed for -/
structure Qt (D : PD) (n : Int) (S : Int → List Int) : Prop where
  bad : ∀ a, D.bad a = false
  n : D.n = n
  kept : ∀ a, (D.kept a).getD zsec = S a
/-- what a slot that doesn't count may be -/
def lesser (u : Int × List Int × Int) (g : Int) : Prop := u.2.2 ≠ 0 ∨ u.1 < g
structure KInv (D : PD) (S : Int → List Int) (g : Int) (l : List Int) : Prop where
  rdy : Rdy D 4 S
  cache : D.cache = []
  ok : OKD D
  mine : unP (S (g % 2)) = (g, l, 0)
  other : lesser (unP (S ((g + 1) % 2))) g
  g0 : 0 ≤ g
  len : l.length ≤ 4
theorem pick_of {S : Int → List Int} {g : Int} {l : List Int} (hg : 0 ≤ g) (mine : unP (S (g % 2)) = (g, l, 0)) (other : lesser (unP (S ((g + 1) % 2))) g) : pickL (unP (S 0)) (unP (S 1)) = (g, l, 0) := by
  have h2 : g % 2 = 0 ∨ g % 2 = 1 := by omega
  rcases h2 with h | h
  · have h' : (g + 1) % 2 = 1 := by omega
    rw [h] at mine
    rw [h'] at other
    rw [mine]
    generalize unP (S 1) = u at other ⊢
    obtain ⟨ug, ul, ue⟩ := u
    have hs : stepL (true, g, l) (ug, ul, ue) = (true, g, l) := by
      unfold stepL
      rw [if_neg]
      rintro ⟨h1, h2⟩
      rcases other with ho | ho
      · exact ho h1
      · rcases h2 with h2 | h2
        · cases h2
        · exact absurd ho (Int.not_lt.2 (Int.le_of_lt h2))
    unfold pickL
    rw [show stepL (false, 0, []) (g, l, 0) = (true, g, l) from rfl, hs]
    rfl
  · have h' : (g + 1) % 2 = 0 := by omega
    rw [h] at mine
    rw [h'] at other
    rw [mine]
    generalize unP (S 0) = u at other ⊢
    obtain ⟨ug, ul, ue⟩ := u
    have hs : ∃ st, stepL (false, 0, []) (ug, ul, ue) = st ∧ (st.1 = false ∨ st.2.1 < g) := by
      refine ⟨_, rfl, ?_⟩
      unfold stepL
      split
      · rename_i hh
        rcases other with ho | ho
        · exact absurd hh.1 ho
        · exact .inr ho
      · exact .inl rfl
    obtain ⟨st, hst, hc⟩ := hs
    unfold pickL
    rw [hst]
    have : stepL st (g, l, 0) = (true, g, l) := by
      unfold stepL
      rw [if_pos ⟨rfl, hc⟩]
    rw [this]
    rfl
theorem next_mine {S : Int → List Int} {g : Int} {l k : List Int} (hg : 0 ≤ g ∧ g + 1 < 18446744073709551616) (mine : unP (S (g % 2)) = (g, l, 0)) (hk : k.length ≤ 4) (hn : ∀ n ∈ k, 0 ≤ n ∧ n < 18446744073709551616) :
    unP (updS S ((g + 1) % 2) (pad (slotB (g + 1) k)) ((g + 1) % 2)) = (g + 1, k, 0) ∧ lesser (unP (updS S ((g + 1) % 2) (pad (slotB (g + 1) k)) ((g + 1 + 1) % 2))) (g + 1) := by
  constructor
  · unfold updS
    rw [if_pos rfl]
    exact unP_pad (g + 1) k ⟨by omega, hg.2⟩ hk hn
  · unfold updS
    rw [if_neg (by omega), show (g + 1 + 1) % 2 = g % 2 by omega, mine]
    exact .inr (by show g < g + 1; omega)
end Go.Proofs.Ytlepcmljmibdnaa
namespace Go.Proofs.Ytlepcmljmibdnaa
open Go.RowKit Go.Proofs.YtlepcmljmibdnaaW.PrintWords Go.Proofs.YtlepcmljmibdnaaW.PrintLast Go.Proofs.YtlepcmljmibdnaaW.PrintMore PWalOpens
set_option linter.unusedVariables false
set_option linter.unusedSimpArgs false
section
variable {D : PD} {n : Int} {S S' : Int → List Int} {r : Int}
theorem run_keep {t : Int} : ∀ {R : List (List Int)} {p : Int}, (∀ b ∈ R, b.length ≤ 60000) → (∀ q, p ≤ q → q < t → S' (sectP r q) = S (sectP r q)) → Run S r p R t → Run S' r p R t
  | [], p, _, _, h => h
  | b :: bs, p, hl, hq, h => by
    have hb := need_eq (hl b (List.mem_cons_self ..))
    have h1 := run_le (fun b hb => hl b (List.mem_cons_of_mem _ hb)) h.2
    refine ⟨fun j hj => ?_, run_keep (fun b hb => hl b (List.mem_cons_of_mem _ hb)) (fun q h1 h2 => hq q (by omega) h2) h.2⟩
    rw [hq (p + j) (by omega) (by omega)]
    exact h.1 j hj
theorem run_app {q t : Int} {R' : List (List Int)} : ∀ {R : List (List Int)} {p : Int}, Run S r p R q → Run S r q R' t → Run S r p (R ++ R') t
  | [], p, h, h' => by
    have : p = q := h
    rw [this]
    exact h'
  | b :: bs, p, h, h' => ⟨h.1, run_app h.2 h'⟩
theorem chs_len {b : List Int} (h : b.length ≤ 400) : (chs (frameX b)).length = (b.length + 70) / 64 := by
  unfold chs frameX
  rw [if_neg (by omega), List.length_map, List.length_range, frameB_len]
theorem chs_each {b : List Int} (hb : isBytes b) (h : b.length ≤ 400) : ∀ c ∈ chs (frameX b), c.length ≤ 64 ∧ isBytes c := by
  intro c hc
  unfold chs at hc
  obtain ⟨i, _, rfl⟩ := List.mem_map.1 hc
  refine ⟨by rw [List.length_take]; omega, ?_⟩
  exact ((frameX_facts hb h).2.1.drop _).take _
theorem lay_one {b : List Int} {s : Int} (hn : n = r + 2) (hr : 1 ≤ r) (hR : Rdy D n S) (hb : isBytes b ∧ b.length ≤ 400) (hK : needN b ≤ r) :
    ∃ D' S', layC r (chs (frameX b)) D s = (D', s + needN b, 0) ∧ Rdy D' n S' ∧ D'.cache.length ≤ D.cache.length + 7 ∧ Frm S' r s b ∧ (∀ a, (∀ j : Nat, j < (b.length + 70) / 64 → a ≠ sectP r (s + j)) → S' a = S a) ∧ (OKD D → OKD D') := by
  have hl := chs_len hb.2
  have he := chs_each hb.1 hb.2
  have hk := need_eq (b := b) (by omega)
  obtain ⟨D', e1, e2, e3, e4⟩ := layC_rdy hn hr (chs (frameX b)) D S s hR (fun c hc => (he c hc).1)
  refine ⟨D', wrS S r (chs (frameX b)) s, ?_, e2, by rw [e3, hl]; omega, fun j hj => ?_, fun a ha => wrS_off a _ S s (by rw [hl]; exact ha), fun h => e4 h fun c hc => (he c hc).2⟩
  · rw [e1, hl, hk]
  · rw [wrS_at hr _ S s j (by rw [hl]; exact hj) (by rw [hl]; omega)]
    exact chs_pad hb.2 j hj
theorem layR_run {head : Int} (hn : n = r + 2) (hr : 1 ≤ r) : ∀ (R : List (List Int)) (D : PD) (S : Int → List Int) (s : Int) (st : List Int) (recs : List (List Int)), Rdy D n S → (∀ b ∈ R, isBytes b ∧ b.length ≤ 400) → (∀ b ∈ recs, b.length ≤ 60000) → Run S r head recs s → s + needs R - head ≤ r →
    ∃ D' S', layR r R D s st = (D', st ++ startsP s R, s + needs R, 0) ∧ Rdy D' n S' ∧ Run S' r head (recs ++ R) (s + needs R) ∧ S' 0 = S 0 ∧ S' 1 = S 1 ∧ D'.cache.length ≤ D.cache.length + 7 * R.length ∧ (OKD D → OKD D')
  | [], D, S, s, st, recs, hR, _, _, hrun, _ => ⟨D, S, by simp [layR, startsP, needs], hR, by simpa [needs] using hrun, rfl, rfl, by simp, id⟩
  | b :: bs, D, S, s, st, recs, hR, hb, hrl, hrun, hfit => by
    have hb0 := hb b (List.mem_cons_self ..)
    have hk := need_eq (b := b) (by omega)
    have hns : needs (b :: bs) = needN b + needs bs := rfl
    have hns0 := (needs_le (R := bs) fun b h => (hb b (List.mem_cons_of_mem _ h)).2).1
    have hle := run_le hrl hrun
    rw [hns] at hfit
    obtain ⟨D1, S1, e1, e2, e3, e4, e5, e6⟩ := lay_one (s := s) hn hr hR hb0 (by omega)
    have hrun1 : Run S1 r head (recs ++ [b]) (s + needN b) := run_app (run_keep hrl (fun q h1 h2 => e5 _ (fun j hj => sect_inj hr (by omega) (by omega))) hrun) ⟨e4, rfl⟩
    obtain ⟨D2, S2, f1, f2, f3, f4, f4', f5, f6⟩ := layR_run (head := head) hn hr bs D1 S1 (s + needN b) (st ++ [s]) (recs ++ [b]) e2 (fun b h => hb b (List.mem_cons_of_mem _ h)) (fun c hc => by
      rcases List.mem_append.1 hc with h | h
      · exact hrl c h
      · rw [List.mem_singleton.1 h]; omega) hrun1 (by omega)
    have hs0 : ∀ a : Int, a < 2 → S1 a = S a := fun a ha => e5 a (fun j hj h => by have := sectP_in (p := s + j) hr; omega)
    refine ⟨D2, S2, ?_, f2, ?_, by rw [f4, hs0 0 (by omega)], by rw [f4', hs0 1 (by omega)], by rw [List.length_cons]; omega, fun h => f6 (e6 h)⟩
    · have : layR r (b :: bs) D s st = if (layC r (chs (frameX b)) D s).2.2 ≠ 0 then ((layC r (chs (frameX b)) D s).1, [], 0, (layC r (chs (frameX b)) D s).2.2) else layR r bs (layC r (chs (frameX b)) D s).1 (layC r (chs (frameX b)) D s).2.1 (st ++ [s]) := rfl
      rw [this, e1]
      simp only [ne_eq, not_true_eq_false, if_false, f1, hns, startsP, List.append_assoc, List.cons_append, List.nil_append]
      rw [Int.add_assoc]
    · rw [hns, ← Int.add_assoc]
      rw [List.append_assoc] at f3
      exact f3
end
/-- a wal that holds R -/
structure WInv (D : PD) (S : Int → List Int) (r g head tail : Int) (R : List (List Int)) : Prop where
  rdy : Rdy D (r + 2) S
  hr : 1 ≤ r
  cache : D.cache = []
  ok : OKD D
  mine : unP (S (g % 2)) = (g, [head, tail], 0)
  other : lesser (unP (S ((g + 1) % 2))) g
  g0 : 0 ≤ g
  run : Run S r head R tail
  fit : tail - head ≤ r
  h0 : 0 ≤ head
  recs : ∀ b ∈ R, isBytes b ∧ b.length ≤ 400
section
variable {D : PD} {S : Int → List Int} {r g head tail : Int} {R : List (List Int)}
theorem WInv.ring (h : WInv D S r g head tail R) : ringP D = r := by
  unfold ringP
  rw [h.rdy.n]
  have := h.hr
  omega
theorem WInv.le (h : WInv D S r g head tail R) : head + R.length ≤ tail := run_le (fun b hb => by have := (h.recs b hb).2; omega) h.run
theorem WInv.load (h : WInv D S r g head tail R) : loadP D = (g, [head, tail], 0) := by
  rw [h.rdy.load (by have := h.hr; omega)]
  exact pick_of h.g0 h.mine h.other
theorem WInv.open_ (h : WInv D S r g head tail R) : openP D = (g, head, tail, startsP head R, R, 0) := by
  have hle := h.le
  unfold openP
  rw [h.load]
  simp only [ne_eq, not_true_eq_false, if_false]
  rw [h.ring, if_neg (by have := h.fit; omega), openGo_run h.rdy rfl h.hr R head _ (fun b hb => ⟨(h.recs b hb).1, by have := (h.recs b hb).2; omega⟩) h.run (by omega)]
theorem WInv.save (h : WInv D S r g head tail R) {S1 : Int → List Int} {D1 : PD} {h1 t1 : Int} {R1 : List (List Int)} (h2 : Rdy D1 (r + 2) S1) (ho : OKD D1) (e0 : S1 0 = S 0) (e1 : S1 1 = S 1) (hrun : Run S1 r h1 R1 t1) (hfit : t1 - h1 ≤ r) (hh : 0 ≤ h1 ∧ t1 < 18446744073709551616) (hrec : ∀ b ∈ R1, isBytes b ∧ b.length ≤ 400) (hg : g + 1 < 18446744073709551616) :
    ∃ D2 S2, saveP D1 (g + 1) [h1, t1] = (D2, 0) ∧ WInv D2 S2 r (g + 1) h1 t1 R1 := by
  have hr := h.hr
  have g0 := h.g0
  have hle := run_le (fun b hb => by have := (hrec b hb).2; omega) hrun
  have hk : ∀ n ∈ [h1, t1], 0 ≤ n ∧ n < 18446744073709551616 := by
    intro n hn
    simp only [List.mem_cons, List.not_mem_nil, or_false] at hn
    rcases hn with rfl | rfl <;> omega
  obtain ⟨s1, s2, s3⟩ := h2.save (by omega) (g + 1) [h1, t1] (by omega) (by simp)
  have hp : ∀ a : Int, a = 0 ∨ a = 1 → S1 a = S a := by
    rintro a (rfl | rfl)
    · exact e0
    · exact e1
  obtain ⟨m1, m2⟩ := next_mine (S := S1) (g := g) (l := [head, tail]) (k := [h1, t1]) ⟨g0, hg⟩ (by rw [hp _ (by omega)]; exact h.mine) (by simp) hk
  refine ⟨_, _, Prod.ext rfl s1, s2, hr, s3, ho.save (g + 1) _ ⟨by omega, hg⟩ hk, m1, m2, by omega, ?_, hfit, hh.1, hrec⟩
  refine run_keep (fun b hb => by have := (hrec b hb).2; omega) (fun q _ _ => ?_) hrun
  have := sectP_in (p := q) hr
  unfold updS
  rw [if_neg (by omega)]
theorem WInv.add (h : WInv D S r g head tail R) {X : List (List Int)} (hX : RecsOK X) (hf : needs X ≤ r - (tail - head)) (ht : tail + needs X < 18446744073709551616) (hg : g + 1 < 18446744073709551616) :
    ∃ D1 D2 S2, layP D r (r - (tail - head)) tail X = (D1, startsP tail X, tail + needs X, 0) ∧ D1.cache.length ≤ 42 ∧ saveP D1 (g + 1) [head, tail + needs X] = (D2, 0) ∧ WInv D2 S2 r (g + 1) head (tail + needs X) (R ++ X) := by
  obtain ⟨D1, S1, f1, f2, f3, f4, f4', f5, f6⟩ := layR_run (head := head) rfl h.hr X D S tail [] R h.rdy hX.each (fun b hb => by have := (h.recs b hb).2; omega) h.run (by omega)
  have hrec : ∀ b ∈ R ++ X, isBytes b ∧ b.length ≤ 400 := fun b hb => (List.mem_append.1 hb).elim (h.recs b) (hX.each b)
  obtain ⟨D2, S2, g1, g2⟩ := h.save f2 (f6 h.ok) f4 f4' f3 (by omega) ⟨h.h0, ht⟩ hrec hg
  refine ⟨D1, D2, S2, ?_, ?_, g1, g2⟩
  · unfold layP
    rw [if_neg (by omega), f1]
    rfl
  · rw [h.cache] at f5
    have := hX.len
    simp only [List.length_nil] at f5
    omega
theorem run_drop {t : Int} : ∀ {R : List (List Int)} {p : Int} (k : Nat), k < R.length → Run S r p R t → Run S r ((startsP p R).getD k 0) (R.drop k) t
  | [], p, k, hk, _ => by simp at hk
  | b :: bs, p, 0, _, h => h
  | b :: bs, p, k + 1, hk, h => by
    have := run_drop (p := p + needN b) k (by simpa using hk) h.2
    simpa [startsP] using this
theorem starts_ge : ∀ {R : List (List Int)} {p : Int} (k : Nat), (∀ b ∈ R, b.length ≤ 60000) → k < R.length → p ≤ (startsP p R).getD k 0
  | [], p, k, _, hk => by simp at hk
  | b :: bs, p, 0, _, _ => by simp [startsP]
  | b :: bs, p, k + 1, hl, hk => by
    have h1 := starts_ge (R := bs) (p := p + needN b) k (fun b hb => hl b (List.mem_cons_of_mem _ hb)) (by simpa using hk)
    have h2 := need_eq (hl b (List.mem_cons_self ..))
    have h3 : (startsP p (b :: bs)).getD (k + 1) 0 = (startsP (p + needN b) bs).getD k 0 := by simp [startsP]
    rw [h3]
    omega
theorem WInv.cut (h : WInv D S r g head tail R) {k : Nat} {x : Int} (hk : k < R.length) (hx : (startsP head R).getD k 0 = x) (ht : tail < 18446744073709551616) (hg : g + 1 < 18446744073709551616) :
    ∃ D2 S2, saveP D (g + 1) [x, tail] = (D2, 0) ∧ WInv D2 S2 r (g + 1) x tail (R.drop k) := by
  subst hx
  have hge := starts_ge (R := R) (p := head) k (fun b hb => by have := (h.recs b hb).2; omega) hk
  exact h.save h.rdy h.ok rfl rfl (run_drop k hk h.run) (by have := h.fit; omega) ⟨by have := h.h0; omega, ht⟩ (fun b hb => h.recs b (List.mem_of_mem_drop hb)) hg
end
end Go.Proofs.Ytlepcmljmibdnaa
namespace Go.Proofs.Ytlepcmljmibdnaa
open Go.RowKit Go.Proofs.YtlepcmljmibdnaaW.PrintWords Go.Proofs.YtlepcmljmibdnaaW.PrintLast Go.Proofs.YtlepcmljmibdnaaW.PrintMore PWalOpens
set_option linter.unusedVariables false
set_option linter.unusedSimpArgs false
/-- what a wal's deeds may change: the disk, the wal's own block -/
def isWD (o : Obj) : Prop := isDisk o ∨ isT 129 o
/-- a wal, its disk, its starts -/
structure WV (n0 : Nat) (w : World) (Wb B M Bd : Nat) (vc vs : Value) (D : PD) (gen head tail : Int) (S : List Int) (over : Bool) : Prop where
  blk : WlC w Wb B gen head tail vs true over
  hW : n0 ≤ Wb
  dk : DK w n0 B M Bd vc D
  st : Kd.R (Kd.int .u64) 56 w n0 (fun _ => True) vs S
section
variable {n0 : Nat} {w w' : World} {Wb B M Bd : Nat} {vc vs v1 : Value} {D D1 : PD} {gen head tail h1 t1 : Int} {S S1 : List Int} {over : Bool}
theorem WV.away (h : WV n0 w Wb B M Bd vc vs D gen head tail S over) : ¬ FP B M Bd vc Wb := by
  have hb := h.blk
  unfold WlC at hb
  rintro (rfl | rfl | rfl | hk)
  · rw [h.dk.blk] at hb; simp at hb
  · obtain ⟨_, _, hk, _⟩ := h.dk.kept; rw [hk] at hb; cases hb
  · obtain ⟨_, _, hk, _⟩ := h.dk.bad; rw [hk] at hb; cases hb
  · obtain ⟨inner, ho⟩ := Kd.R_own h.dk.cache
    obtain ⟨cells, hc⟩ := own_typed ho Wb hk.symm
    rw [hc] at hb; simp at hb
theorem WV.fresh (h : WV n0 w Wb B M Bd vc vs D gen head tail S over) (hb : Below w.heap.size w w') : WV n0 w' Wb B M Bd vc vs D gen head tail S over :=
  ⟨(hb.block _ (Array.getElem?_eq_some_iff.1 h.blk).1).trans h.blk, h.hW, h.dk.chg (.of_below hb), Kd.R_below h.st hb⟩
/-- the disk alone went on -/
theorem WV.disk {vc' : Value} (h : WV n0 w Wb B M Bd vc vs D gen head tail S over) (ha : At w (FP B M Bd vc) w' B M Bd vc' D1) : WV n0 w' Wb B M Bd vc' vs D1 gen head tail S over ∧ TC n0 isDisk w w' := by
  have hc := h.dk.tc ha.chg
  exact ⟨⟨hc.blk _ _ h.blk (fun e => by simp [isDisk] at e), h.hW, At.based h.dk ha, R_tc h.st hc (fun q hq cells => by
    obtain rfl := q56 q hq
    simp [isDisk])⟩, hc⟩
theorem WV.tcW (h : WV n0 w Wb B M Bd vc vs D gen head tail S over) (i : Nat) (v : Value) : TC n0 (isT 129) w (w.setCell ⟨Wb, i, none⟩ v) := TC.set (T := isT 129) h.blk rfl h.hW v
theorem WV.overed (h : WV n0 w Wb B M Bd vc vs D gen head tail S over) : WV n0 (w.setCell ⟨Wb, 6, none⟩ (.bool true)) Wb B M Bd vc vs D gen head tail S true :=
  ⟨h.blk.overed, h.hW, h.dk.tkeep (h.tcW 6 _) (isT_disk (by decide)), R_tc h.st (h.tcW 6 _) (fun q hq cells => by
    obtain rfl := q56 q hq
    simp [isT])⟩
/-- four fields turned -/
theorem WV.turned (h : WV n0 w Wb B M Bd vc vs D gen head tail S over) (hr : Kd.R (Kd.int .u64) 56 w n0 (fun _ => True) v1 S1) (g1 : Int) :
    WV n0 ((((w.setCell ⟨Wb, 1, none⟩ (.int .u64 g1)).setCell ⟨Wb, 2, none⟩ (.int .u64 h1)).setCell ⟨Wb, 3, none⟩ (.int .u64 t1)).setCell ⟨Wb, 4, none⟩ v1) Wb B M Bd vc v1 D g1 h1 t1 S1 over ∧
      TC n0 (isT 129) w ((((w.setCell ⟨Wb, 1, none⟩ (.int .u64 g1)).setCell ⟨Wb, 2, none⟩ (.int .u64 h1)).setCell ⟨Wb, 3, none⟩ (.int .u64 t1)).setCell ⟨Wb, 4, none⟩ v1) := by
  have b0 := h.blk
  unfold WlC at b0
  have b1 := set7 b0 1 (.int .u64 g1)
  have b2 := set7 b1 2 (.int .u64 h1)
  have b3 := set7 b2 3 (.int .u64 t1)
  have b4 := set7 b3 4 v1
  have c1 : TC n0 (isT 129) w (w.setCell ⟨Wb, 1, none⟩ (.int .u64 g1)) := TC.set (T := isT 129) b0 rfl h.hW _
  have c2 := c1.trans (TC.set (T := isT 129) b1 rfl h.hW (.int .u64 h1) (j := 2))
  have c3 := c2.trans (TC.set (T := isT 129) b2 rfl h.hW (.int .u64 t1) (j := 3))
  have c4 := c3.trans (TC.set (T := isT 129) b3 rfl h.hW v1 (j := 4))
  exact ⟨⟨b4, h.hW, h.dk.tkeep c4 (isT_disk (by decide)), R_tc hr c4 (fun q hq cells => by
    obtain rfl := q56 q hq
    simp [isT])⟩, c4⟩
theorem save_two (g x y e : Int) (hsv : saveP D g [x, y] = (D1, e)) (hg : 0 ≤ g ∧ g < 18446744073709551616) (hx : 0 ≤ x ∧ x < 18446744073709551616) (hy : 0 ≤ y ∧ y < 18446744073709551616) (hc : D.cache.length ≤ 900) (h : At w (FP B M Bd vc) w B M Bd vc D) :
    Calls Try.prog 42 #[.pointer (some ⟨B, 0, none⟩), .int .u64 g, .slice (some ⟨w.heap.size, 0, none⟩) 2 2] (w.alloc (.cells #[.int .u64 x, .int .u64 y] 56)).drew fun r w' => r = .returned (.int .i64 e) ∧ ∃ vc', At w (FP B M Bd vc) w' B M Bd vc' D1 :=
  at_save (l := [x, y]) (A := some ⟨w.heap.size, 0, none⟩) (c := 2) hsv hg (by simp; exact ⟨hx, hy⟩) (Kd.C_drew (lit_Cu w [x, y] (fun _ => False) (by simp) (fun h => h) _ (Chg.refl _ _))) hc (h.grow (.of_below ((Below.refl w.heap.size w).alloc (Nat.le_refl _) _).drew))
theorem froz {w : World} {b : Nat} {cs : Array Value} {t : Nat} (h : w.heap[b]? = some (.cells cs t (0, 0))) (i : Nat) : w.frozen? ⟨b, i, none⟩ = false := by
  unfold World.frozen?
  simp [h]
/-- what turn does: 0, or over -/
def TuQ (n0 : Nat) (w : World) (Wb B M Bd : Nat) (vs v1 : Value) (D1 : PD) (gen head tail h1 t1 : Int) (S S1 : List Int) (over : Bool) (e : Int) (r : Ending) (w' : World) : Prop :=
  TC n0 isWD w w' ∧ ∃ vc', (e = 0 → r = .returned (.int .i64 0) ∧ WV n0 w' Wb B M Bd vc' v1 D1 (gen + 1) h1 t1 S1 over) ∧ (e ≠ 0 → r = .returned (.int .i64 50) ∧ WV n0 w' Wb B M Bd vc' vs D1 gen head tail S true)
theorem turn_calls (e : Int) (hsv : saveP D (gen + 1) [h1, t1] = (D1, e)) (hg : 0 ≤ gen ∧ gen < 18446744073709551615) (hh : 0 ≤ h1 ∧ h1 < 18446744073709551616) (ht : 0 ≤ t1 ∧ t1 < 18446744073709551616) (hc : D.cache.length ≤ 900)
    (h : WV n0 w Wb B M Bd vc vs D gen head tail S over) (hr : Kd.R (Kd.int .u64) 56 w n0 (fun _ => True) v1 S1) :
    Calls Try.prog 92 #[.pointer (some ⟨Wb, 0, none⟩), .int .u64 h1, .int .u64 t1, v1] w (TuQ n0 w Wb B M Bd vs v1 D1 gen head tail h1 t1 S S1 over e) := by
  have HH := Aside0.mk h
  have HRR := Aside0.mk hr
  have HSV := Aside0.mk (save_two (w := w) (B := B) (M := M) (Bd := Bd) (vc := vc) (gen + 1) h1 t1 e hsv ⟨by omega, by omega⟩ hh ht hc (At.refl h.dk))
  have HWG := Aside0.mk (IntWalk.u64_in (gen + 1) (by omega))
  obtain ⟨⟨q0, q1, q2, q3, q4, q5, q6⟩, k2, k4, k5, k6⟩ := cells7 h.blk
  obtain ⟨A1, c1, rfl⟩ := Kd.R_slice hr
  have g0 : 0 ≤ gen := hg.1
  have g1 : gen < 18446744073709551615 := hg.2
  clear hsv h hr q2 q3 q4 q5 q6 k2 k4 k5 k6
  go_enter Try.func92, Try.ntmps92
  go_wp2
  refine Fork.wp_fork (Fork.Lo.rel 0) [12] [] (.one 0 0 (.one 1 0 (.one 2 0 (.one 4 0 (.one 5 0 (.one 6 0 (.one 9 0 (.one 10 0 (.one 3 1 (.one 7 1 (.one 8 0 (.one 11 2 (.one 12 2 (.one 13 0 .nil)))))))))))))) (by kernel_rfl) (by kernel_rfl) ?_
  generalize hops : List.toArray (_ : List Oper) = ops
  have HO := Aside0.mk hops
  clear hops
  iterate 8 ((refine Fork.plain (Fork.at_ HO.out rfl) _ rfl (fun W => by go_simp; exact rfl) ?_); simp only [Act.put, List.setIfInBounds_toArray, List.set_cons_succ, List.set_cons_zero])
  refine Fork.reads (Fork.at_ HO.out rfl) _ rfl (fun W hW => Arr.ex_load1 rfl rfl (by kernel_rfl) (Fork.bel_cell hW (by assumption))) ?_
  simp only [Act.put, List.setIfInBounds_toArray, List.set_cons_succ, List.set_cons_zero]
  refine Fork.reads (Fork.at_ HO.out rfl) _ rfl (fun W hW => Arr.ex_load1 rfl rfl (by kernel_rfl) (Fork.bel_cell hW (by assumption))) ?_
  simp only [Act.put, List.setIfInBounds_toArray, List.set_cons_succ, List.set_cons_zero]
  ((refine Fork.plain (Fork.at_ HO.out rfl) _ rfl (fun W => by go_simp; exact rfl) ?_); simp only [Act.put, List.setIfInBounds_toArray, List.set_cons_succ, List.set_cons_zero])
  refine Fork.step (Fork.at_ HO.out rfl) (fun K hK => ?_)
  go_simp
  refine hK _ _ (.of_new ((Below.refl _ _).alloc (Nat.le_refl _) _) (Nat.zero_le _)) ?_
  clear hK K
  try simp only [Act.put, List.setIfInBounds_toArray, List.set_cons_succ, List.set_cons_zero]
  refine Fork.step (Fork.at_ HO.out rfl) (fun K hK => ?_)
  go_simp
  rw [HWG.out]
  (with_reducible refine HSV.out.mono ?_)
  rintro er w5 ⟨rfl, vc5, hd5⟩
  refine hK _ _ (Fork.Grow.of_old (Fork.Lo.zero hd5.chg.os hd5.chg.tape hd5.chg.output) rfl) ?_
  clear hK K
  have HD5 := Aside0.mk (HH.out.disk hd5)
  clear hd5
  try simp only [Act.put, List.setIfInBounds_toArray, List.set_cons_succ, List.set_cons_zero]
  ((refine Fork.plain (Fork.at_ HO.out rfl) _ rfl (fun W => by go_simp; exact rfl) ?_); simp only [Act.put, List.setIfInBounds_toArray, List.set_cons_succ, List.set_cons_zero])
  refine Fork.done ?_
  obtain ⟨⟨p0, p1, p2, p3, p4, p5, p6⟩, _⟩ := cells7 HD5.out.1.blk
  have f1 := froz HD5.out.1.blk 1
  have f2 := froz HD5.out.1.blk 2
  have f3 := froz HD5.out.1.blk 3
  have f4 := froz HD5.out.1.blk 4
  have f6 := froz HD5.out.1.blk 6
  have HR5 := Aside0.mk (R_tc HRR.out HD5.out.2 (fun q hq cells => by
    obtain rfl := q56 q hq
    simp [isDisk]))
  have HTD := Aside0.mk (show TC n0 isWD w w5 from HD5.out.2.mono fun _ h => .inl h)
  by_cases he : e = 0
  · subst he
    go_wp2
    go_ret
    have h5 := HD5.out.1.turned (h1 := h1) (t1 := t1) HR5.out (gen + 1)
    exact ⟨HTD.out.trans (h5.2.mono fun _ h => .inr h), vc5, fun _ => ⟨rfl, h5.1⟩, fun h => absurd rfl h⟩
  · have he' : (e != 0) = true := by simp; exact he
    go_wp2
    go_ret
    exact ⟨HTD.out.trans ((HD5.out.1.tcW 6 _).mono fun _ h => .inr h), vc5, fun h => absurd h he, fun _ => ⟨rfl, HD5.out.1.overed⟩⟩
end
end Go.Proofs.Ytlepcmljmibdnaa
namespace Go.Proofs.Ytlepcmljmibdnaa
open Go.RowKit Go.Proofs.YtlepcmljmibdnaaW.PrintWords Go.Proofs.YtlepcmljmibdnaaW.PrintLast Go.Proofs.YtlepcmljmibdnaaW.PrintMore PWalOpens
set_option linter.unusedVariables false
set_option linter.unusedSimpArgs false
theorem run_eql_slice_nil57 (w : World) (a : Option Addr) (l c : Nat) : (binOp .eql 57 (.slice a l c) (.slice none 0 0)).run Try.prog w = .ok (.bool a.isNone) w := by
  exact Lib.run_eql_slice_nil (P := Try.prog) w 57 56 a l c 0 0 Try.underlying57
theorem clone64u_calls (w : World) (ad : Addr) (c : Nat) (b : List Int) (hl : b.length ≤ 1000000) (hC : (Kd.int .u64).C w (some ad) b.length b) :
    Calls Try.prog 98 #[.slice (some ad) b.length c] w fun e w' => ∃ v, e = .returned v ∧ Kd.R (Kd.int .u64) 56 w' w.heap.size (fun _ => True) v b ∧ Below w.heap.size w w' := by
  have hq := run_eql_slice_nil57 w (some ad) b.length c
  simp only [Option.isNone_some] at hq
  have HC := Aside0.mk hC
  have HL := Aside0.mk hl
  clear hC hl
  go_enter Try.func98, Try.ntmps98
  go_wp2_with (first | ((with_reducible refine gate_dst (N := 5) rfl ?_); refine Kd.R_lit (Kd.int .u64) _ 56 ?hg (N := 5) ?hd (xs := ([] : List Int)) (inner := []) (ok := fun _ => True) (okp := fun _ => True) ?hr ?hp (fun _ hk => hk) trivial (Below.refl _ _) (Nat.le_refl _) (by simp) ?_; (case hd => rfl); (case hg => rfl); (case hr => first | (go_simp; done) | (go_simp; rfl)); (case hp => exact (Reps.none _ _)); intro v10 w10 ho11 hb hg_ hnew_; clear hg_ hnew_; have HO := Aside0.mk ho11; have HB := Aside0.mk hb; clear ho11 hb) | ((with_reducible refine gate_builtin (b := .append) (xs := #[.tmp 5, .tmp 6]) rfl ?_); at_builtin; go_loud (refine Kd.R_append_rows (Kd.int .u64) (w0 := w) w.heap.size rfl (.tmp 5) (.tmp 6) 57 56 (.int .u64 0) 8 rfl Try.underlying57 info56 rfl (by decide) (by omega) v10 [] b (some ad) b.length c (fun _ => True) (fun _ => False) rfl rfl HO.out (Kd.C_below HC.out HB.out) (fun _ _ h => h) (fun _ h => h.elim) (fun _ _ => trivial) HB.out HB.out.size (by have := HL.out; simp; omega) ?_; intro v1 w1 ho hb hg hat; have HO1 := Aside0.mk ho; have HB1 := Aside0.mk hb; clear ho hb hg hat)))
  go_ret
  exact ⟨v1, rfl, HO1.out, HB1.out⟩
theorem grow_none (w : World) : Calls Try.prog 115 #[.slice none 0 0, .int .i64 0] w fun e w' => e = .returned (.slice none 0 0) ∧ w = w' := by
  go_enter Try.func115, Try.ntmps115
  go_wp2
  go_ret
  exact ⟨rfl, rfl⟩
set_option maxRecDepth 100000 in
theorem grow_some (w : World) (n : Nat) (hn : 0 < n ∧ n ≤ 1000000) : Calls Try.prog 115 #[.slice none 0 0, .int .i64 n] w fun e w' => ∃ v, e = .returned v ∧ Kd.R (Kd.int .u64) 56 w' w.heap.size (fun _ => True) v [] ∧ Below w.heap.size w w' := by
  have h1 : decide ((n : Int) < 0) = false := by simp
  have h2 : decide (0 < (n : Int)) = true := by simp; omega
  have hn1 : n ≤ 1000000 := hn.2
  have h3 : 0 < n := hn.1
  have HN := Aside0.mk hn
  clear hn
  go_enter Try.func115, Try.ntmps115
  go_wp2_with (first
    | ((with_reducible refine gate_builtin (b := .append) (xs := #[.tmp 20, .tmp 21]) rfl ?_); at_builtin; go_loud (refine Kd.R_append_zeros (Kd.int .u64) (w0 := w) w.heap.size rfl (.tmp 20) (.tmp 21) 57 3 56 (.int .u64 0) 8 rfl Try.underlying57 Try.underlying3 info56 rfl (by decide) (by decide) (.slice none 0 0) [] 0 (n : Int) (fun _ => True) rfl rfl rfl (fun _ _ => trivial) (Kd.R_nil _ _ _ _ _) (by omega) (Below.refl _ _) (Nat.le_refl _) (by simp; omega) ?_); intro v1 w1 ho hb hg hat; obtain ⟨A1, n1, c1, hv1⟩ := R_slice3 ho; subst hv1; have HO1 := Aside0.mk ho; have HB1 := Aside0.mk hb; clear ho hb hg hat))
  go_ret
  have h5 := Kd.R_take HO1.out (m := 0) (Nat.zero_le _)
  rw [List.take_zero] at h5
  exact ⟨_, rfl, h5, HB1.out⟩
theorem grow_calls (w : World) (n : Nat) (hn : n ≤ 1000000) : Calls Try.prog 115 #[.slice none 0 0, .int .i64 n] w fun e w' => ∃ v, e = .returned v ∧ Kd.R (Kd.int .u64) 56 w' w.heap.size (fun _ => True) v [] ∧ Below w.heap.size w w' := by
  by_cases h : n = 0
  · subst h
    refine (grow_none w).mono ?_
    rintro e w' ⟨rfl, rfl⟩
    exact ⟨_, rfl, Kd.R_nil _ _ _ _ _, Below.refl _ _⟩
  · exact grow_some w n ⟨by omega, hn⟩
set_option maxRecDepth 100000 in
theorem concat_calls (w : World) (b : Nat) (A1 A2 : Option Addr) (c1 c2 : Nat) (l1 l2 : List Int) (hb : w.heap[b]? = some (.cells #[.slice A1 l1.length c1, .slice A2 l2.length c2] 57 (0, 0))) (hC1 : (Kd.int .u64).C w A1 l1.length l1) (hC2 : (Kd.int .u64).C w A2 l2.length l2) (hl : l1.length + l2.length ≤ 1000000) :
    Calls Try.prog 93 #[.slice (some ⟨b, 0, none⟩) 2 2] w fun e w' => ∃ v, e = .returned v ∧ Kd.R (Kd.int .u64) 56 w' w.heap.size (fun _ => True) v (l1 ++ l2) ∧ Below w.heap.size w w' := by
  have HB := Aside0.mk hb
  have H1 := Aside0.mk hC1
  have H2 := Aside0.mk hC2
  have HL := Aside0.mk hl
  obtain ⟨p1, p2, _⟩ := cells2 hb
  have g1 : l1.length ≤ 1000000 := by omega
  have g2 : l2.length ≤ 1000000 := by omega
  clear hb hC1 hC2
  go_enter Try.func93, Try.ntmps93
  go_wp2
  go_loopg [3, 11] 2 (fun kq v3 v11 w' => w' = w ∧ ((kq = 2 ∧ v11 = .int .i64 0 ∧ v3 = .int .i64 0) ∨ (kq = 1 ∧ v11 = .int .i64 1 ∧ v3 = .int .i64 (l1.length : Int)) ∨ (kq = 0 ∧ v11 = .int .i64 2 ∧ v3 = .int .i64 ((l1.length : Int) + (l2.length : Int)))))
  case atStart => exact ⟨rfl, .inl ⟨rfl, rfl, rfl⟩⟩
  case round =>
    obtain ⟨hw, h⟩ := hrel
    subst wr
    rcases h with ⟨rfl, rfl, rfl⟩ | ⟨rfl, rfl, rfl⟩ | ⟨rfl, rfl, rfl⟩
    · go_wp2
      go_roundg 1
      case rel => exact ⟨rfl, .inr (.inl ⟨rfl, rfl, by simp⟩)⟩
      case measure => omega
    · go_wp2
      go_roundg 0
      case rel => exact ⟨rfl, .inr (.inr ⟨rfl, rfl, by simp⟩)⟩
      case measure => omega
    · have HG := Aside0.mk (grow_calls w (l1.length + l2.length) hl)
      rw [Int.natCast_add] at HG
      go_wp2_with (go_at_call 115; (with_reducible refine HG.out.mono ?_); rintro e w3 ⟨v3, rfl, hr, hb3⟩; have HR3 := Aside0.mk hr; have HB3 := Aside0.mk hb3; clear hr hb3)
      go_loopg [6, 27] 2 (fun kq v6 v27 wq => Aside0 (Below w.heap.size w wq) ∧ ((kq = 2 ∧ v27 = .int .i64 0 ∧ Aside0 (Kd.R (Kd.int .u64) 56 wq w.heap.size (fun _ => True) v6 [])) ∨ (kq = 1 ∧ v27 = .int .i64 1 ∧ Aside0 (Kd.R (Kd.int .u64) 56 wq w.heap.size (fun _ => True) v6 l1)) ∨ (kq = 0 ∧ v27 = .int .i64 2 ∧ Aside0 (Kd.R (Kd.int .u64) 56 wq w.heap.size (fun _ => True) v6 (l1 ++ l2)))))
      case atStart => exact ⟨HB3, .inl ⟨rfl, rfl, HR3⟩⟩
      case round =>
        obtain ⟨HBq, h⟩ := hrel
        obtain ⟨r1, r2, _⟩ := cells2 ((HBq.out.block _ (Array.getElem?_eq_some_iff.1 HB.out).1).trans HB.out)
        rcases h with ⟨rfl, rfl, HR⟩ | ⟨rfl, rfl, HR⟩ | ⟨rfl, rfl, HR⟩
        · have HZ := Aside0.mk (show (([] : List Int).length + l1.length) * 8 ≤ 140737488355328 from by simp; omega)
          obtain ⟨A6, c6, rfl⟩ := Kd.R_slice HR.out
          go_wp2_with (first | ((with_reducible refine gate_builtin (b := .append) (xs := #[.tmp 31, .tmp 32]) rfl ?_); at_builtin; go_loud (refine Kd.R_append_rows (Kd.int .u64) (W := wr) (w0 := wr) w.heap.size rfl (.tmp 31) (.tmp 32) 57 56 (.int .u64 0) 8 rfl Try.underlying57 info56 rfl (by decide) (by decide) _ ([] : List Int) l1 A1 l1.length c1 (fun _ => True) (fun _ => False) rfl rfl HR.out (Kd.C_below H1.out HBq.out) (fun _ _ h => h) (fun _ h => h.elim) (fun _ _ => trivial) (Below.refl _ _) HBq.out.size HZ.out ?_); intro v5 w5 ho hb hg hat; have HO5 := Aside0.mk ho; have HB5 := Aside0.mk (HBq.out.trans hb); clear ho hb hg hat))
          go_roundg 1
          case rel => exact ⟨HB5, .inr (.inl ⟨rfl, rfl, HO5⟩)⟩
          case measure => omega
        · have HZ := Aside0.mk (show (l1.length + l2.length) * 8 ≤ 140737488355328 from by omega)
          obtain ⟨A6, c6, rfl⟩ := Kd.R_slice HR.out
          go_wp2_with (first | ((with_reducible refine gate_builtin (b := .append) (xs := #[.tmp 31, .tmp 32]) rfl ?_); at_builtin; go_loud (refine Kd.R_append_rows (Kd.int .u64) (W := wr) (w0 := wr) w.heap.size rfl (.tmp 31) (.tmp 32) 57 56 (.int .u64 0) 8 rfl Try.underlying57 info56 rfl (by decide) (by decide) _ l1 l2 A2 l2.length c2 (fun _ => True) (fun _ => False) rfl rfl HR.out (Kd.C_below H2.out HBq.out) (fun _ _ h => h) (fun _ h => h.elim) (fun _ _ => trivial) (Below.refl _ _) HBq.out.size HZ.out ?_); intro v5 w5 ho hb hg hat; have HO5 := Aside0.mk ho; have HB5 := Aside0.mk (HBq.out.trans hb); clear ho hb hg hat))
          go_roundg 0
          case rel => exact ⟨HB5, .inr (.inr ⟨rfl, rfl, HO5⟩)⟩
          case measure => omega
        · obtain ⟨A6, c6, rfl⟩ := Kd.R_slice HR.out
          go_wp2
          go_ret
          have HRl := HR.out
          rw [List.length_append] at HRl
          exact ⟨_, rfl, HRl, HBq.out⟩
end Go.Proofs.Ytlepcmljmibdnaa
namespace Go.Proofs.Ytlepcmljmibdnaa
open Go.RowKit Go.Proofs.YtlepcmljmibdnaaW.PrintWords Go.Proofs.YtlepcmljmibdnaaW.PrintLast Go.Proofs.YtlepcmljmibdnaaW.PrintMore PWalOpens
set_option linter.unusedVariables false
set_option linter.unusedSimpArgs false
section
variable {n0 : Nat} {w w' : World} {Wb B M Bd : Nat} {vc vs v1 : Value} {D D1 D2 : PD} {gen head tail h1 t1 : Int} {S S1 st : List Int} {over : Bool} {s e e2 : Int}
def AddQ (n0 : Nat) (w : World) (Wb B M Bd : Nat) (D1 D2 : PD) (gen head tail : Int) (S st : List Int) (s e e2 : Int) (r : Ending) (w' : World) : Prop :=
  TC n0 isWD w w' ∧ ∃ vc' vs',
    (e ≠ 0 → (e = 2 ∨ e = 51) → r = .returned (.int .i64 e) ∧ WV n0 w' Wb B M Bd vc' vs' D1 gen head tail S false) ∧
    (e ≠ 0 → (e ≠ 2 ∧ e ≠ 51) → r = .returned (.int .i64 50) ∧ WV n0 w' Wb B M Bd vc' vs' D1 gen head tail S true) ∧
    (e = 0 → e2 = 0 → r = .returned (.int .i64 0) ∧ WV n0 w' Wb B M Bd vc' vs' D2 (gen + 1) head s (S ++ st) false) ∧
    (e = 0 → e2 ≠ 0 → r = .returned (.int .i64 50) ∧ WV n0 w' Wb B M Bd vc' vs' D2 gen head tail S true)
theorem add_nil (A : Option Addr) (n c : Nat) : Calls Try.prog 53 #[.pointer none, .slice A n c] w fun r w' => r = .returned (.int .i64 50) ∧ w = w' := by
  go_enter Try.func53, Try.ntmps53
  go_wp2_with (go_at_call 89; (with_reducible refine wok_nil.mono ?_); rintro e w' ⟨rfl, rfl⟩)
  go_ret
  exact ⟨rfl, rfl⟩
theorem ret_code {er : Ending} {e2 : Int} {P Q : Prop} (h1 : e2 = 0 → er = .returned (.int .i64 0) ∧ P) (h2 : e2 ≠ 0 → er = .returned (.int .i64 50) ∧ Q) : ∃ x, er = .returned (.int .i64 x) := by
  by_cases h : e2 = 0
  · exact ⟨_, (h1 h).1⟩
  · exact ⟨_, (h2 h).1⟩
/-- lay, seen by the wal -/
theorem lay_wv {A : Option Addr} {c : Nat} {R : List (List Int)} {r f : Int} (hr : ringP D = r) (hR : RecsOK R) (hf : r - (tail - head) = f) (hres : layP D r f tail R = (D1, st, s, e))
    (ht : 0 ≤ head ∧ head ≤ tail ∧ tail < 18446744073709551000 ∧ tail - head ≤ 4094) (hl : D.cache.length ≤ 850) (h : WV n0 w Wb B M Bd vc vs D gen head tail S over)
    (hT : ∀ W, TC n0 isWD w W → bytesK.C W A R.length R) :
    Calls Try.prog 90 #[.pointer (some ⟨Wb, 0, none⟩), .slice A R.length c] w fun x w' => ∃ A' c' vc', x = .returned (.tuple #[.slice A' st.length c', .int .u64 s, .int .i64 e]) ∧ Kd.R (Kd.int .u64) 56 w' w.heap.size (fun _ => True) (.slice A' st.length c') st ∧ WV n0 w' Wb B M Bd vc' vs D1 gen head tail S over ∧ TC n0 isWD w w' := by
  refine (lay_calls A c R r f (D1, st, s, e) hr hR hf hres ht (by omega) h.blk h.away (h.dk.low 0 (Nat.zero_le _)) (fun W hc => hT W ((h.dk.tc hc).mono fun _ h => .inl h))).mono ?_
  rintro x w' ⟨v, rfl, hst, vc', ha⟩
  obtain ⟨A', c', rfl⟩ := Kd.R_slice hst
  have h5 := h.disk ha
  exact ⟨A', c', vc', rfl, hst, h5.1, h5.2.mono fun _ h => .inl h⟩
set_option maxHeartbeats 1000000 in
theorem add_calls {A : Option Addr} {c : Nat} {R : List (List Int)} {r f : Int} (hr : ringP D = r) (hR : RecsOK R) (hf : r - (tail - head) = f) (hres : layP D r f tail R = (D1, st, s, e)) (hsv : saveP D1 (gen + 1) [head, s] = (D2, e2))
    (ht : 0 ≤ head ∧ head ≤ tail ∧ tail < 18446744073709551000 ∧ tail - head ≤ 4094) (hg : 0 ≤ gen ∧ gen < 18446744073709551615) (hs : 0 ≤ s ∧ s < 18446744073709551616) (hl : D.cache.length ≤ 850) (hl1 : D1.cache.length ≤ 900) (hS : S.length + st.length ≤ 1000000) (h : WV n0 w Wb B M Bd vc vs D gen head tail S false)
    (hT : ∀ W, TC n0 isWD w W → bytesK.C W A R.length R) :
    Calls Try.prog 53 #[.pointer (some ⟨Wb, 0, none⟩), .slice A R.length c] w (AddQ n0 w Wb B M Bd D1 D2 gen head tail S st s e e2) := by
  obtain ⟨As, cs, rfl⟩ := Kd.R_slice h.st
  have HK := Aside0.mk (wok_calls h.blk)
  have HLY := Aside0.mk (lay_wv (c := c) hr hR hf hres ht hl h hT)
  have HH := Aside0.mk h
  have HSV := Aside0.mk hsv
  have HS := Aside0.mk hS
  have HL1 := Aside0.mk hl1
  have HHD := Aside0.mk (show 0 ≤ head ∧ head < 18446744073709551616 from by omega)
  have HN0 := Aside0.mk (show n0 ≤ w.heap.size from h.dk.base_le)
  simp only [Bool.not_false, Bool.and_self] at HK
  clear h hr hR hf hres hT hsv hS ht
  by_cases he : e = 0
  · subst he
    go_enter Try.func53, Try.ntmps53
    go_wp2_with (first
      | (go_at_call 89; (with_reducible refine HK.out.mono ?_); rintro e w' ⟨rfl, rfl⟩)
      | (go_at_call 90; (with_reducible refine HLY.out.mono ?_); rintro e w1 ⟨A1, c1, vc1, rfl, hst, hv, htc⟩; have HST := Aside0.mk hst; have HV := Aside0.mk hv; have HTC := Aside0.mk htc; clear hst hv htc))
    obtain ⟨⟨q0, q1, q2, q3, q4, q5, q6⟩, _⟩ := cells7 HV.out.blk
    clear q0 q1 q3 q5 q6
    obtain ⟨W2, hW2⟩ : ∃ W2, (w1.alloc (.cells #[.slice As S.length cs, .slice A1 st.length c1] 57)).drew = W2 := ⟨_, rfl⟩
    have HB2 := Aside0.mk (show Below w1.heap.size w1 W2 from by rw [← hW2]; exact ((Below.refl w1.heap.size w1).alloc (Nat.le_refl _) _).drew)
    have HCC := Aside0.mk (concat_calls W2 w1.heap.size As A1 cs c1 S st (by rw [← hW2]; exact heap_alloc_new w1 _) (Kd.C_below (Kd.R_reads' HV.out.st).2.2 HB2.out) (Kd.C_below (Kd.R_reads' HST.out).2.2 HB2.out) HS.out)
    have HW2 := Aside0.mk hW2
    clear hW2
    go_wp2
    refine Fork.wp_fork (Fork.Lo.rel 0) [13] [] (.one 0 0 (.one 1 0 (.one 2 0 (.one 3 0 (.one 5 0 (.one 6 0 (.one 7 0 (.one 8 0 (.one 10 0 (.one 4 1 (.one 9 1 (.one 11 2 (.one 12 2 (.one 13 2 (.one 14 0 .nil))))))))))))))) (by kernel_rfl) (by kernel_rfl) ?_
    generalize hops : List.toArray (_ : List Oper) = ops
    have HO := Aside0.mk hops
    clear hops
    iterate 9 ((refine Fork.plain (Fork.at_ HO.out rfl) _ rfl (fun W => by go_simp; exact rfl) ?_); simp only [Act.put, List.setIfInBounds_toArray, List.set_cons_succ, List.set_cons_zero])
    refine Fork.reads (Fork.at_ HO.out rfl) _ rfl (fun W hW => Arr.ex_load1 rfl rfl (by kernel_rfl) (Fork.bel_cell hW (by assumption))) ?_
    simp only [Act.put, List.setIfInBounds_toArray, List.set_cons_succ, List.set_cons_zero]
    refine Fork.reads (Fork.at_ HO.out rfl) _ rfl (fun W hW => Arr.ex_load1 rfl rfl (by kernel_rfl) (Fork.bel_cell hW (by assumption))) ?_
    simp only [Act.put, List.setIfInBounds_toArray, List.set_cons_succ, List.set_cons_zero]
    refine Fork.step (Fork.at_ HO.out rfl) (fun K hK => ?_)
    go_simp
    refine hK _ _ (.of_new ((Below.refl _ _).alloc (Nat.le_refl _) _) (Nat.zero_le _)) ?_
    clear hK K
    try simp only [Act.put, List.setIfInBounds_toArray, List.set_cons_succ, List.set_cons_zero]
    refine Fork.step (Fork.at_ HO.out rfl) (fun K hK => ?_)
    go_simp
    rw [HW2.out]
    (with_reducible refine HCC.out.mono ?_)
    rintro er w3 ⟨v3, rfl, hr3, hb3⟩
    refine hK _ _ (.of_new (by rw [HW2.out]; exact hb3) (Nat.zero_le _)) ?_
    clear hK K
    have HR3 := Aside0.mk (Kd.R_lower hr3 (Nat.le_trans HN0.out (Nat.le_trans HTC.out.low.size HB2.out.size)))
    have HV3 := Aside0.mk (HV.out.fresh (HB2.out.trans (hb3.mono HB2.out.size)))
    have HB3 := Aside0.mk (HB2.out.trans (hb3.mono HB2.out.size))
    clear hr3 hb3
    try simp only [Act.put, List.setIfInBounds_toArray, List.set_cons_succ, List.set_cons_zero]
    refine Fork.step (Fork.at_ HO.out rfl) (fun K hK => ?_)
    go_simp
    (with_reducible refine (turn_calls e2 HSV.out hg HHD.out hs HL1.out HV3.out HR3.out).mono ?_)
    rintro er w4 ⟨ht4, vc4, hq1, hq2⟩
    have HT4 := Aside0.mk (HTC.out.trans ((TC.of_below HB3.out (Nat.le_trans HN0.out HTC.out.low.size)).trans ht4))
    have HL4 := Aside0.mk (show Fork.Lo 0 w3 w4 from Fork.Lo.zero ht4.low.os ht4.low.tape ht4.low.output)
    have HQ4 := Aside0.mk (And.intro hq1 hq2)
    clear hq1 hq2 ht4
    obtain ⟨x4, rfl⟩ : ∃ x4, er = .returned (.int .i64 x4) := ret_code HQ4.out.1 HQ4.out.2
    refine hK _ _ (Fork.Grow.of_old HL4.out rfl) ?_
    clear hK K
    try simp only [Act.put, List.setIfInBounds_toArray, List.set_cons_succ, List.set_cons_zero]
    ((refine Fork.plain (Fork.at_ HO.out rfl) _ rfl (fun W => by go_simp; exact rfl) ?_); simp only [Act.put, List.setIfInBounds_toArray, List.set_cons_succ, List.set_cons_zero])
    refine Fork.done ?_
    go_wp2
    go_ret
    refine ⟨HT4.out, vc4, if e2 = 0 then v3 else .slice As S.length cs, fun h => absurd rfl h, fun h => absurd rfl h, fun _ h2 => ?_, fun _ h2 => ?_⟩
    · rw [if_pos h2]
      exact HQ4.out.1 h2
    · rw [if_neg h2]
      exact HQ4.out.2 h2
  · have he' : (e != 0) = true := by simp; exact he
    by_cases he2 : e = 2 ∨ e = 51
    · have HE := Aside0.mk (fun w => wend_same (w := w) (Wb := Wb) e he2)
      go_enter Try.func53, Try.ntmps53
      go_wp2_with (first
        | (go_at_call 89; (with_reducible refine HK.out.mono ?_); rintro e w' ⟨rfl, rfl⟩)
        | (go_at_call 90; (with_reducible refine HLY.out.mono ?_); rintro er w1 ⟨A1, c1, vc1, rfl, hst, hv, htc⟩; have HV := Aside0.mk hv; have HTC := Aside0.mk htc; clear hst hv htc)
        | (go_at_call 91; (with_reducible refine (HE.out w1).mono ?_); rintro er w' ⟨rfl, rfl⟩))
      go_ret
      exact ⟨HTC.out, vc1, .slice As S.length cs, fun _ _ => ⟨rfl, HV.out⟩, fun _ h => absurd he2 (by omega), fun h => absurd h he, fun h => absurd h he⟩
    · have HE := Aside0.mk (fun w (h : WlC w Wb B gen head tail (.slice As S.length cs) true false) => wend_over e (by omega) h)
      go_enter Try.func53, Try.ntmps53
      go_wp2_with (first
        | (go_at_call 89; (with_reducible refine HK.out.mono ?_); rintro e w' ⟨rfl, rfl⟩)
        | (go_at_call 90; (with_reducible refine HLY.out.mono ?_); rintro er w1 ⟨A1, c1, vc1, rfl, hst, hv, htc⟩; have HV := Aside0.mk hv; have HTC := Aside0.mk htc; clear hst hv htc)
        | (go_at_call 91; (with_reducible refine (HE.out w1 HV.out.blk).mono ?_); rintro er w' ⟨rfl, rfl⟩))
      go_ret
      exact ⟨HTC.out.trans ((HV.out.tcW 6 _).mono fun _ h => .inr h), vc1, .slice As S.length cs, fun _ h => absurd h he2, fun _ _ => ⟨rfl, HV.out.overed⟩, fun h => absurd h he, fun h => absurd h he⟩
end
end Go.Proofs.Ytlepcmljmibdnaa
namespace Go.Proofs.Ytlepcmljmibdnaa
open Go.RowKit Go.Proofs.YtlepcmljmibdnaaW.PrintWords Go.Proofs.YtlepcmljmibdnaaW.PrintLast Go.Proofs.YtlepcmljmibdnaaW.PrintMore PWalOpens
set_option linter.unusedVariables false
set_option linter.unusedSimpArgs false
theorem C_drop {w : World} {ad : Addr} {xs : List Int} (h : (Kd.int .u64).C w (some ad) xs.length xs) (k : Nat) (hk : k ≤ xs.length) : (Kd.int .u64).C w (some (ad.add k)) (xs.drop k).length (xs.drop k) := by
  have hl : (xs.drop k).length = xs.length - k := List.length_drop
  refine ⟨rfl, by have := h.2.1; omega, fun h0 => ⟨_, rfl, fun j p hj => ?_⟩⟩
  obtain ⟨ad', e, hc⟩ := h.2.2 (by omega)
  cases e
  have hj' : xs[k + j]? = some p := by rw [List.getElem?_drop] at hj; exact hj
  obtain ⟨c, h1, h2, h3⟩ := hc (k + j) p hj'
  refine ⟨c, h1, h2, fun i u hu => ?_⟩
  have := h3 i u hu
  rw [add_add]
  rw [show k + (j * (Kd.int .u64).sz + i) = (k + j) * (Kd.int .u64).sz + i from by show k + (j * 1 + i) = (k + j) * 1 + i; omega]
  exact this
section
variable {n0 : Nat} {w w' : World} {Wb B M Bd : Nat} {vc vs v1 : Value} {D D1 D2 : PD} {gen head tail : Int} {S : List Int} {over : Bool} {x e : Int}
theorem cut_nil (n : Int) : Calls Try.prog 60 #[.pointer none, .int .i64 n] w fun r w' => r = .returned (.int .i64 50) ∧ w = w' := by
  go_enter Try.func60, Try.ntmps60
  go_wp2_with (go_at_call 89; (with_reducible refine wok_nil.mono ?_); rintro e w' ⟨rfl, rfl⟩)
  go_ret
  exact ⟨rfl, rfl⟩
def CutQ (n0 : Nat) (w : World) (Wb B M Bd : Nat) (D1 : PD) (gen head tail x : Int) (S : List Int) (n : Nat) (e : Int) (r : Ending) (w' : World) : Prop :=
  TC n0 isWD w w' ∧ ∃ vc' vs', (e = 0 → r = .returned (.int .i64 0) ∧ WV n0 w' Wb B M Bd vc' vs' D1 (gen + 1) x tail (S.drop n) false) ∧ (e ≠ 0 → r = .returned (.int .i64 50) ∧ WV n0 w' Wb B M Bd vc' vs' D1 gen head tail S true)
theorem ret_code' {er : Ending} {e2 : Int} {P Q : Prop} (h1 : e2 = 0 → er = .returned (.int .i64 0) ∧ P) (h2 : e2 ≠ 0 → er = .returned (.int .i64 50) ∧ Q) : ∃ x, er = .returned (.int .i64 x) := by
  by_cases h : e2 = 0
  · exact ⟨_, (h1 h).1⟩
  · exact ⟨_, (h2 h).1⟩
set_option maxHeartbeats 1000000 in
theorem wcut_calls (n : Nat) (hn : 0 < n ∧ n < S.length) (hS : S.length ≤ 1000000) (hx : S.getD n 0 = x) (hsv : saveP D (gen + 1) [x, tail] = (D1, e)) (hg : 0 ≤ gen ∧ gen < 18446744073709551615) (hh : 0 ≤ x ∧ x < 18446744073709551616) (ht : 0 ≤ tail ∧ tail < 18446744073709551616) (hc : D.cache.length ≤ 900)
    (h : WV n0 w Wb B M Bd vc vs D gen head tail S false) :
    Calls Try.prog 60 #[.pointer (some ⟨Wb, 0, none⟩), .int .i64 (n : Int)] w (CutQ n0 w Wb B M Bd D1 gen head tail x S n e) := by
  have HK := Aside0.mk (wok_calls h.blk)
  simp only [Bool.not_false, Bool.and_self] at HK
  have HSV := Aside0.mk hsv
  have HCA := Aside0.mk hc
  have HN0 := Aside0.mk (show n0 ≤ w.heap.size from h.dk.base_le)
  obtain ⟨ad, cs, rfl⟩ := Kd.R_slice1 h.st (by omega)
  obtain ⟨_, hcap, hC⟩ := Kd.R_reads' h.st
  have hcn : w.cell? (ad.add n) = some (.int .u64 x) := by
    obtain ⟨ad', e', hcl⟩ := hC.2.2 (by omega)
    cases e'
    obtain ⟨cc, h1, h2, h3⟩ := hcl n x (by rw [← hx, List.getD_eq_getElem?_getD, List.getElem?_eq_getElem hn.2]; rfl)
    have h4 : cc = [.int .u64 x] := h2
    have h5 := h3 0 (.int .u64 x) (by rw [h4]; rfl)
    rw [show n * (Kd.int .u64).sz + 0 = n from by show n * 1 + 0 = n; omega] at h5
    exact h5
  have HCL := Aside0.mk (clone64u_calls w.drew (ad.add n) (cs - n) (S.drop n) (by rw [List.length_drop]; omega) (Kd.C_drew (C_drop hC n (by omega))))
  rw [List.length_drop] at HCL
  obtain ⟨⟨q0, q1, q2, q3, q4, q5, q6⟩, _⟩ := cells7 h.blk
  have HH := Aside0.mk h
  have n1 : (0 : Int) ≤ (n : Int) := by omega
  have n2 : (n : Int) < (S.length : Int) := by omega
  have b1 : decide ((n : Int) < 0) = false := by simp
  have b2 : decide ((S.length : Int) < (n : Int)) = false := by simp; omega
  have b3 : ((n : Int) == (S.length : Int)) = false := by simp; omega
  clear q0 q1 q2 q5 q6 h hsv hc hC hx
  go_enter Try.func60, Try.ntmps60
  go_wp2_with (go_at_call 89; (with_reducible refine HK.out.mono ?_); rintro e w' ⟨rfl, rfl⟩)
  refine Fork.wp_fork (Fork.Lo.rel 0) [19] [] (.one 0 0 (.one 1 0 (.one 2 0 (.one 3 0 (.one 5 0 (.one 8 0 (.one 9 0 (.one 10 0 (.one 12 0 (.one 13 0 (.one 14 0 (.one 16 0 (.one 4 1 (.one 6 0 (.one 7 1 (.one 11 1 (.one 15 1 (.one 17 0 (.one 18 2 (.one 19 2 (.one 20 0 .nil))))))))))))))))))))) (by kernel_rfl) (by kernel_rfl) ?_
  generalize hops : List.toArray (_ : List Oper) = ops
  have HO := Aside0.mk hops
  clear hops
  iterate 12 ((refine Fork.plain (Fork.at_ HO.out rfl) _ rfl (fun W => by go_simp; exact rfl) ?_); simp only [Act.put, List.setIfInBounds_toArray, List.set_cons_succ, List.set_cons_zero])
  refine Fork.reads (Fork.at_ HO.out rfl) _ rfl (fun W hW => Arr.ex_load1 rfl rfl (by kernel_rfl) (Fork.bel_cell hW (by assumption))) ?_
  simp only [Act.put, List.setIfInBounds_toArray, List.set_cons_succ, List.set_cons_zero]
  refine Fork.plain (Fork.at_ HO.out rfl) _ rfl (fun W => by go_simp; exact rfl) ?_
  simp only [Act.put, List.setIfInBounds_toArray, List.set_cons_succ, List.set_cons_zero]
  refine Fork.reads (Fork.at_ HO.out rfl) _ rfl (fun W hW => Arr.ex_load1 rfl rfl (by kernel_rfl) (Fork.bel_cell hW (by assumption))) ?_
  simp only [Act.put, List.setIfInBounds_toArray, List.set_cons_succ, List.set_cons_zero]
  refine Fork.reads (Fork.at_ HO.out rfl) _ rfl (fun W hW => Arr.ex_load1 rfl rfl (by kernel_rfl) (Fork.bel_cell hW (by assumption))) ?_
  simp only [Act.put, List.setIfInBounds_toArray, List.set_cons_succ, List.set_cons_zero]
  refine Fork.reads (Fork.at_ HO.out rfl) _ rfl (fun W hW => Arr.ex_load1 rfl rfl (by kernel_rfl) (Fork.bel_cell hW (by assumption))) ?_
  simp only [Act.put, List.setIfInBounds_toArray, List.set_cons_succ, List.set_cons_zero]
  refine Fork.plain (Fork.at_ HO.out rfl) _ rfl (fun W => by go_simp; rw [if_pos (by omega), if_neg (by omega)]) ?_
  simp only [Act.put, List.setIfInBounds_toArray, List.set_cons_succ, List.set_cons_zero]
  refine Fork.step (Fork.at_ HO.out rfl) (fun K hK => ?_)
  go_simp
  (with_reducible refine HCL.out.mono ?_)
  rintro er w3 ⟨v3, rfl, hr3, hb3⟩
  refine hK _ _ (.of_new hb3 (Nat.zero_le _)) ?_
  clear hK K
  have HR3 := Aside0.mk (Kd.R_lower hr3 HN0.out)
  have HV3 := Aside0.mk (HH.out.fresh ((Below.refl w.heap.size w).drew.trans hb3))
  have HB3 := Aside0.mk ((Below.refl w.heap.size w).drew.trans hb3)
  clear hr3 hb3
  try simp only [Act.put, List.setIfInBounds_toArray, List.set_cons_succ, List.set_cons_zero]
  refine Fork.step (Fork.at_ HO.out rfl) (fun K hK => ?_)
  go_simp
  (with_reducible refine (turn_calls e HSV.out hg hh ht HCA.out HV3.out HR3.out).mono ?_)
  rintro er w4 ⟨ht4, vc4, hq1, hq2⟩
  have HT4 := Aside0.mk ((TC.of_below HB3.out HN0.out).trans ht4)
  have HL4 := Aside0.mk (show Fork.Lo 0 w3 w4 from Fork.Lo.zero ht4.low.os ht4.low.tape ht4.low.output)
  have HQ4 := Aside0.mk (And.intro hq1 hq2)
  clear hq1 hq2 ht4
  obtain ⟨x4, rfl⟩ : ∃ x4, er = .returned (.int .i64 x4) := ret_code' HQ4.out.1 HQ4.out.2
  refine hK _ _ (Fork.Grow.of_old HL4.out rfl) ?_
  clear hK K
  try simp only [Act.put, List.setIfInBounds_toArray, List.set_cons_succ, List.set_cons_zero]
  ((refine Fork.plain (Fork.at_ HO.out rfl) _ rfl (fun W => by go_simp; exact rfl) ?_); simp only [Act.put, List.setIfInBounds_toArray, List.set_cons_succ, List.set_cons_zero])
  refine Fork.done ?_
  go_wp2
  go_ret
  refine ⟨HT4.out, vc4, if e = 0 then v3 else .slice (some ad) S.length cs, fun h2 => ?_, fun h2 => ?_⟩
  · rw [if_pos h2]
    exact HQ4.out.1 h2
  · rw [if_neg h2]
    exact HQ4.out.2 h2
end
end Go.Proofs.Ytlepcmljmibdnaa
namespace Go.Proofs.Ytlepcmljmibdnaa
open Go.RowKit Go.Proofs.YtlepcmljmibdnaaW.PrintWords Go.Proofs.YtlepcmljmibdnaaW.PrintLast Go.Proofs.YtlepcmljmibdnaaW.PrintMore PWalOpens
set_option linter.unusedVariables false
set_option linter.unusedSimpArgs false
theorem winv_start {n r : Int} (hm : min (max n 0) 4096 = r + 2) (hr : 1 ≤ r) : ∃ D1 S1, wformatP (newP n) = (D1, 0) ∧ WInv D1 S1 r 0 0 0 [] := by
  have r0 := rdy_new n
  rw [hm] at r0
  have hz : ∀ x ∈ [(0 : Int), 0], 0 ≤ x ∧ x < 18446744073709551616 := by intro x hx; simp at hx; omega
  obtain ⟨f1, f2, f3⟩ := r0.format (by omega) [0, 0] (by simp)
  have hring : ringP (newP n) = r := by unfold ringP; rw [r0.n]; omega
  refine ⟨_, _, ?_, f2, hr, f3, (OKD.new n).format [0, 0] hz, ?_, ?_, by omega, rfl, by omega, by omega, fun b hb => by cases hb⟩
  · unfold wformatP
    rw [hring, if_neg (by omega)]
    exact Prod.ext rfl f1
  · show unP (updS _ 0 (pad (slotB 0 [0, 0])) 0) = _
    unfold updS
    rw [if_pos rfl]
    exact unP_pad 0 [0, 0] (by omega) (by simp) hz
  · left
    show (unP (updS (updS (updS (fun _ => zsec) 0 zsec) 1 zsec) 0 (pad (slotB 0 [0, 0])) 1)).2.2 ≠ 0
    unfold updS
    rw [if_neg (by decide), if_pos rfl, unP_zsec]
    decide
theorem recs_ab : RecsOK [[97], [98]] := ⟨by decide, fun b hb => by
  simp only [List.mem_cons, List.not_mem_nil, or_false] at hb
  rcases hb with rfl | rfl
  · exact ⟨fun x hx => by simp at hx; omega, by decide⟩
  · exact ⟨fun x hx => by simp at hx; omega, by decide⟩⟩
/-- two texts, laid as a literal lays them -/
theorem box_cellm {w : World} {b : Nat} {v : Value} {t : Nat} {m : Nat × Nat} (h : w.heap[b]? = some (.cells #[v] t m)) : w.cell? ⟨b, 0, none⟩ = some v := by
  unfold World.cell?
  simp [h]
theorem two_texts {n0 : Nat} {w W : World} {b : Nat} {x y : Int} {m0 m1 : Nat × Nat} (hc : TC n0 isWD w W) (h0 : w.heap[b]? = some (.cells #[.int .u8 x] 5 m0)) (h1 : w.heap[b + 1]? = some (.cells #[.int .u8 y] 5 m1))
    (h2 : w.heap[b + 2]? = some (.cells #[.slice (some ⟨b, 0, none⟩) 1 1, .slice (some ⟨b + 1, 0, none⟩) 1 1] 29 (0, 0))) : bytesK.C W (some ⟨b + 2, 0, none⟩) 2 [[x], [y]] := by
  have hn5 : ∀ cs m, ¬ isWD (.cells cs 5 m) := fun cs m h => by simp [isWD, isDisk, isT] at h
  have hn29 : ∀ cs, ¬ isWD (.cells cs 29 (0, 0)) := fun cs h => by simp [isWD, isDisk, isT] at h
  have g0 := hc.blk _ _ h0 (hn5 _ _)
  have g1 := hc.blk _ _ h1 (hn5 _ _)
  have g2 := hc.blk _ _ h2 (hn29 _)
  have one : ∀ (k : Nat) (z : Int) (m : Nat × Nat), W.heap[k]? = some (.cells #[.int .u8 z] 5 m) → (Kd.int .u8).C W (some ⟨k, 0, none⟩) 1 [z] := fun k z m hk => ⟨rfl, by decide, fun _ => ⟨_, rfl, fun j p hj => by
    have hj0 : j = 0 := by have := (List.getElem?_eq_some_iff.1 hj).1; simp at this; omega
    subst hj0
    simp at hj
    subst hj
    refine ⟨[.int .u8 z], rfl, rfl, fun i u hu => ?_⟩
    have hi0 : i = 0 := by have := (List.getElem?_eq_some_iff.1 hu).1; simp at this; omega
    subst hi0
    simp at hu
    subst hu
    exact box_cellm hk⟩⟩
  obtain ⟨c0, c1, _⟩ := cells2 g2
  refine ⟨rfl, by decide, fun _ => ⟨_, rfl, fun j p hj => ?_⟩⟩
  have hj2 : j < 2 := (List.getElem?_eq_some_iff.1 hj).1
  have hi : ∀ (v : Value) (i : Nat) (u : Value), [v][i]? = some u → i = 0 ∧ u = v := fun v i u hu => by
    have hi0 : i = 0 := by have := (List.getElem?_eq_some_iff.1 hu).1; simp at this; omega
    subst hi0
    simp at hu
    exact ⟨rfl, hu.symm⟩
  rcases (show j = 0 ∨ j = 1 by omega) with rfl | rfl
  · simp at hj
    subst hj
    refine ⟨[.slice (some ⟨b, 0, none⟩) 1 1], rfl, ⟨_, 1, rfl, Nat.le_refl _, one b x _ g0⟩, fun i u hu => ?_⟩
    obtain ⟨rfl, rfl⟩ := hi _ i u hu
    exact c0
  · simp at hj
    subst hj
    refine ⟨[.slice (some ⟨b + 1, 0, none⟩) 1 1], rfl, ⟨_, 1, rfl, Nat.le_refl _, one (b + 1) y _ g1⟩, fun i u hu => ?_⟩
    obtain ⟨rfl, rfl⟩ := hi _ i u hu
    exact c1
section
variable {n0 : Nat} {w w' : World} {B M Bd : Nat} {vc : Value} {D : PD}
/-- Open went well -/
theorem op_ok {res : Int × Int × Int × List Int × List (List Int) × Int} {e : Ending} (h : OpQ w B M Bd vc D res e w') (h0 : opErr res = 0) (hn : n0 ≤ w.heap.size) (hd : DK w n0 B M Bd vc D) :
    ∃ Wb vs vo, e = .returned (.tuple #[.pointer (some ⟨Wb, 0, none⟩), vo, .int .i64 0]) ∧ WV n0 w' Wb B M Bd vc vs D res.1 res.2.1 res.2.2.1 res.2.2.2.1 false ∧ Below w.heap.size w w' ∧ Kd.R bytesK 29 w' w.heap.size (fun _ => True) vo res.2.2.2.2.1 := by
  rcases h with ⟨h1, _⟩ | ⟨_, Wb, vs, vo, rfl, hS⟩
  · exact absurd h0 h1
  · exact ⟨Wb, vs, vo, rfl, ⟨hS.blk, Nat.le_trans hn hS.hW, hd.chg (.of_below hS.low), Kd.R_lower hS.st hn⟩, hS.low, hS.out⟩
theorem at_base {w0 : World} (h : At w0 (fun _ => False) w B M Bd vc D) : DK w w0.heap.size B M Bd vc D :=
  h.dk.raise fun k hk => by
    by_cases hl : k < w0.heap.size
    · exact (h.fp k hl hk).elim
    · omega
end
/-- the literal's world -/
theorem lit_ab (w : World) : ∃ W, ((((w.alloc (.cells #[.int .u8 97] 5 (1, 2))).alloc (.cells #[.int .u8 98] 5 (1, 2))).alloc (.cells #[.slice (some ⟨w.heap.size, 0, none⟩) 1 1, .slice (some ⟨w.heap.size + 1, 0, none⟩) 1 1] 29)) = W) ∧ Below w.heap.size w W ∧
    W.heap[w.heap.size]? = some (.cells #[.int .u8 97] 5 (1, 2)) ∧ W.heap[w.heap.size + 1]? = some (.cells #[.int .u8 98] 5 (1, 2)) ∧ W.heap[w.heap.size + 2]? = some (.cells #[.slice (some ⟨w.heap.size, 0, none⟩) 1 1, .slice (some ⟨w.heap.size + 1, 0, none⟩) 1 1] 29 (0, 0)) := by
  refine ⟨_, rfl, (((Below.refl w.heap.size w).alloc (Nat.le_refl _) _).alloc (by simp) _).alloc (by simp <;> omega) _, ?_, ?_, ?_⟩
  · rw [Below.heap_alloc _ _ _ (by simp <;> omega), Below.heap_alloc _ _ _ (by simp)]
    exact heap_alloc_new w _
  · rw [Below.heap_alloc _ _ _ (by simp)]
    have := heap_alloc_new (w.alloc (.cells #[.int .u8 97] 5 (1, 2))) (.cells #[.int .u8 98] 5 (1, 2))
    rwa [World.size_alloc] at this
  · have := heap_alloc_new ((w.alloc (.cells #[.int .u8 97] 5 (1, 2))).alloc (.cells #[.int .u8 98] 5 (1, 2))) (.cells #[.slice (some ⟨w.heap.size, 0, none⟩) 1 1, .slice (some ⟨w.heap.size + 1, 0, none⟩) 1 1] 29)
    rwa [World.size_alloc, World.size_alloc] at this
theorem one_text {w : World} {base : Nat} {v : Value} {b : List Int} (h : Kd.R bytesK 29 w base (fun _ => True) v [b]) : ∃ ad A0 c c0, v = .slice (some ad) 1 c ∧ w.cell? ad = some (.slice A0 b.length c0) ∧ (convert 29 9 (.slice A0 b.length c0)).run Try.prog w = .ok (.string (strOfNums b)) w := by
  obtain ⟨ad, c, rfl⟩ := Kd.R_slice1 h (by simp)
  obtain ⟨_, _, hC⟩ := Kd.R_reads' h
  obtain ⟨ad', A0, c0, e, h1, h2, h3⟩ := texts_at hC 0 (by simp)
  cases e
  exact ⟨ad, A0, c, c0, rfl, h1, Kd.C_string Try.underlying29 Try.underlying5 Try.underlying9 h3⟩
theorem str98 : strOfNums [98] = { data := #[98] } := by decide
set_option maxRecDepth 100000 in
theorem awake7_calls (w : World) : Calls Try.prog 47 #[] w fun e w' => e = .returned (.bool true) ∧ Below w.heap.size w w' := by
  obtain ⟨D1, S1, hf, i1⟩ := winv_start (n := 8) (r := 6) (by decide) (by decide)
  have hn : needs [[97], [98]] = 2 := by decide
  obtain ⟨Da, D2, S2, ha, hac, hs2, i2⟩ := i1.add recs_ab (by rw [hn]; decide) (by rw [hn]; decide) (by decide)
  rw [hn] at ha hs2 i2
  obtain ⟨D3, S3, hs3, i3⟩ := i2.cut (k := 1) (x := 1) (by decide) (by decide) (by decide) (by decide)
  have HF := Aside0.mk hf
  have HO1 := Aside0.mk i1.open_
  have HO3 := Aside0.mk i3.open_
  have HI1 := Aside0.mk i1
  have HI2 := Aside0.mk i2
  have HI3 := Aside0.mk i3
  have HA := Aside0.mk ha
  have HAC := Aside0.mk hac
  have HS2 := Aside0.mk hs2
  have HS3 := Aside0.mk hs3
  have HC0 := Aside0.mk (show (newP 8).cache.length ≤ 800 by decide)
  have HC1 := Aside0.mk (show D1.cache.length ≤ 850 by rw [i1.cache]; decide)
  have HC2 := Aside0.mk (show D2.cache.length ≤ 900 by rw [i2.cache]; decide)
  have HC3 := Aside0.mk (show D3.cache.length ≤ 1000 by rw [i3.cache]; decide)
  clear hf i1 i2 i3 ha hac hs2 hs3 hn
  have hcv := fun (w : World) (C : Array Value) (n c : Nat) => Lib.run_convert_bytes_const (P := Try.prog) w 29 5 C n c Try.underlying29 Try.underlying5
  have hcv2 := fun (w : World) (o : Obj) (C : Array Value) (n c : Nat) => (by have h := Lib.run_convert_bytes_const (P := Try.prog) (w.alloc o) 29 5 C n c Try.underlying29 Try.underlying5; rw [World.size_alloc] at h; exact h : (convert 29 29 (.slice (some ⟨w.heap.size + 1, 0, none⟩) n c)).run Try.prog ((w.alloc o).alloc (.cells C 5)) = .ok (.slice (some ⟨w.heap.size + 1, 0, none⟩) n c) ((w.alloc o).alloc (.cells C 5 (C.size, C.size + 1)))) --.underlying29 Try.underlying5
  go_enter Try.func47, Try.ntmps47
  go_wp2_with (first
    | (go_at_call 15; (with_reducible refine (new_at w w 8 (Below.refl _ _)).mono ?_); rintro e w1 ⟨B, M, Bd, rfl, hd⟩; have HD1 := Aside0.mk hd; clear hd)
    | (go_at_call 49; (with_reducible refine (at_wformat 0 HF.out HC0.out HD1.out).mono ?_); rintro e w2 ⟨rfl, vc2, hd⟩; have HD2 := Aside0.mk hd; clear hd)
    | (go_at_call 51; (with_reducible refine (open_calls HO1.out HI1.out.ok (Nat.le_trans HC1.out (by decide)) HD2.out.dk).mono ?_); rintro e w3 hq; obtain ⟨Wb, vs, vo, rfl, hv, hb, hr⟩ := op_ok (n0 := w.heap.size) hq rfl HD2.out.below.size (at_base HD2.out); have HV3 := Aside0.mk hv; have HB3 := Aside0.mk (HD2.out.below.trans (hb.mono HD2.out.below.size)); clear hq hv hb hr))
  obtain ⟨W3, hW3, hb3, k0, k1, k2⟩ := lit_ab w3
  rw [hW3]
  have HT3 := Aside0.mk (fun (W : World) (hc : TC w.heap.size isWD W3 W) => two_texts hc k0 k1 k2)
  have HV3' := Aside0.mk (HV3.out.fresh hb3)
  have HB3' := Aside0.mk (HB3.out.trans (hb3.mono HB3.out.size))
  have HADD := Aside0.mk (show Calls Try.prog 53 #[.pointer (some ⟨Wb, 0, none⟩), .slice (some ⟨w3.heap.size + 1 + 1, 0, none⟩) 2 2] W3 (AddQ w.heap.size W3 Wb B M Bd Da D2 0 0 0 (startsP 0 []) (startsP 0 [[97], [98]]) (0 + 2) 0 0) from
    add_calls (R := [[97], [98]]) (A := some ⟨w3.heap.size + 1 + 1, 0, none⟩) (c := 2) HI1.out.ring recs_ab rfl HA.out HS2.out (by decide) (by decide) (by decide) HC1.out (Nat.le_trans HAC.out (by decide)) (by decide) HV3'.out HT3.out)
  clear hb3 k0 k1 k2
  (with_reducible refine HADD.out.mono ?_)
  rintro er w4 ⟨ht4, vc4, vs4, _, _, hq, _⟩
  obtain ⟨rfl, hv4⟩ := hq rfl rfl
  have HT4 := Aside0.mk ht4
  have HV4 := Aside0.mk hv4
  have HCUT := Aside0.mk (show Calls Try.prog 60 #[.pointer (some ⟨Wb, 0, none⟩), .int .i64 1] w4 (CutQ w.heap.size w4 Wb B M Bd D3 (0 + 1) 0 (0 + 2) 1 (startsP 0 [] ++ startsP 0 [[97], [98]]) 1 0) from
    wcut_calls 1 (by decide) (by decide) (by decide) HS3.out (by decide) (by decide) (by decide) HC2.out HV4.out)
  clear ht4 hv4 hq
  go_wp2_with (first
    | (go_at_call 60; (with_reducible refine HCUT.out.mono ?_); rintro er w5 ⟨ht5, vc5, vs5, hq5, _⟩; obtain ⟨rfl, hv5⟩ := hq5 rfl; have HT5 := Aside0.mk ht5; have HV5 := Aside0.mk hv5; clear ht5 hv5 hq5)
    | (go_at_call 51; (with_reducible refine (open_calls HO3.out HI3.out.ok HC3.out HV5.out.dk).mono ?_); rintro er w6 hq6; obtain ⟨Wb6, vs6, vo6, rfl, hv6, hb6, hr6⟩ := op_ok (n0 := w.heap.size) hq6 rfl HV5.out.dk.base_le HV5.out.dk; have HB6 := Aside0.mk hb6; have HR6 := Aside0.mk (show Kd.R bytesK 29 w6 w5.heap.size (fun _ => True) vo6 [[98]] from hr6); clear hq6 hv6 hb6 hr6; obtain ⟨ad6, A0, c6, c0, hvo, hcc, hst6⟩ := one_text HR6.out; subst hvo; rw [str98] at hst6; have hst7 : (convert 29 9 (.slice A0 1 c0)).run Try.prog w6 = .ok (.string { data := #[98] }) w6 := hst6; clear hst6))
  go_ret
  have hb := HB3'.out.trans (HT4.out.low.trans HT5.out.low)
  exact ⟨rfl, hb.trans (HB6.out.mono hb.size)⟩
end Go.Proofs.Ytlepcmljmibdnaa
