/- Parts of one proof, joined: Ss, Kp, So, Sk. Conditions: those of each statement. -/
import Derived.Test.YtlepcmljmibdnaaSc12
namespace Go.Rd
theorem caps {P : Program} {t e : TypeId} (ht : P.underlying t = some (.slice e)) {H : Type} {enc : TypeId × Value → H} {W : World} {a : Option Addr} {len cap : Nat} {D : DataW H} {ps : List MemPlace}
    (h : DataW.Trod enc P W 0 (fun _ => true) true t (.slice a len cap) D ps) : (a = none → len = 0 ∧ cap = 0) ∧ cap ≤ 9223372036854775807 := by
  obtain ⟨fuel, hf⟩ := h
  rcases Deep.open_slice ht hf with ⟨h1, _⟩ | ⟨a', len', cap', m, n, D', Pl, h1, hb, hl, hm, _⟩
  · simp only [Value.cells, List.cons.injEq, and_true] at h1
    injection h1 with h1 h2 h3
    exact ⟨fun _ => ⟨h2, h3⟩, by omega⟩
  · simp only [Value.cells, List.cons.injEq, and_true] at h1
    injection h1 with h1 h2 h3
    refine ⟨fun hn => ?_, by unfold maxLen at hm; omega⟩
    rw [hn] at h1
    cases h1
end Go.Rd
namespace Go.Proofs.Ytlepcmljmibdnaa
open Go.RowKit Go.Proofs.YtlepcmljmibdnaaW.PrintWords Go.Proofs.YtlepcmljmibdnaaW.PrintLast Go.Proofs.YtlepcmljmibdnaaW.PrintMore PWalOpens
set_option linter.unusedVariables false
set_option linter.unusedSimpArgs false
theorem rU64 : Rd.Reads Try.prog 56 (Kd.int .u64) (fun n => (Lit.int .u64 n).wf = true) := Rd.int Try.underlying56 (by kernel_rfl)
theorem u64_in {n : Int} (h : (Lit.int .u64 n).wf = true) : 0 ≤ n ∧ n < 18446744073709551616 := by
  have := bounds_u64 h
  omega
theorem u8_in {n : Int} (h : (Lit.int .u8 n).wf = true) : 0 ≤ n ∧ n < 256 := by
  have := bounds_u8 h
  omega
def slotX (gen : Int) (l : List Int) : List Int := if 4 < l.length then [] else slotB gen l
def slotE (l : List Int) : Int := if 4 < l.length then 2 else 0
theorem slot_any (w : World) (gen : Int) (l : List Int) (A : Option Addr) (c : Nat) (hg : 0 ≤ gen ∧ gen < 18446744073709551616) (hn : ∀ n ∈ l, 0 ≤ n ∧ n < 18446744073709551616) (hC : (Kd.int .u64).C w A l.length l) :
    Calls Try.prog 37 #[.int .u64 gen, .slice A l.length c] w fun e w' => ∃ A' c', e = .returned (.tuple #[.slice A' (slotX gen l).length c', .int .i64 (slotE l)]) ∧ (Kd.int .u8).C w' A' (slotX gen l).length (slotX gen l) ∧ Below w.heap.size w w' := by
  unfold slotX slotE
  split
  · refine (slot_long w gen l A c (by assumption)).mono ?_
    rintro e w' ⟨rfl, rfl⟩
    exact ⟨none, 0, rfl, Kd.C_nil _ _, Below.refl _ _⟩
  · refine (slot_calls w gen l A c hg hn (by omega) hC).mono ?_
    rintro e w' ⟨A', c', rfl, hr, hb⟩
    exact ⟨A', c', rfl, (Kd.R_reads' hr).2.2, hb⟩
theorem rslot_any (w : World) (gen : Int) (l : List Int) (A : Option Addr) (c : Nat) (hg : 0 ≤ gen ∧ gen < 18446744073709551616) (hn : ∀ n ∈ l, 0 ≤ n ∧ n < 18446744073709551616) (hC : (Kd.int .u64).C w A l.length l) :
    Calls Try.prog 38 #[.int .u64 gen, .slice A l.length c] w fun e w' => ∃ A' c', e = .returned (.tuple #[.slice A' (slotX gen l).length c', .int .i64 (slotE l)]) ∧ (Kd.int .u8).C w' A' (slotX gen l).length (slotX gen l) ∧ Below w.heap.size w w' := by
  unfold slotX slotE
  split
  · refine (rslot_long w gen l A c (by assumption)).mono ?_
    rintro e w' ⟨rfl, rfl⟩
    exact ⟨none, 0, rfl, Kd.C_nil _ _, Below.refl _ _⟩
  · refine (rslot_calls w gen l A c hg hn (by omega) hC).mono ?_
    rintro e w' ⟨A', c', rfl, hr, hb⟩
    exact ⟨A', c', rfl, (Kd.R_reads' hr).2.2, hb⟩
set_option maxRecDepth 100000 in
theorem slots_walk (gen : Int) (A1 : Option Addr) (c1 : Nat) (l : List Int) (A2 : Option Addr) (c2 : Nat) (b : List Int) (w : World) (hg : 0 ≤ gen ∧ gen < 18446744073709551616) (hn : ∀ n ∈ l, 0 ≤ n ∧ n < 18446744073709551616) (hby : isBytes b)
    (hC : (Kd.int .u64).C w A1 l.length l) (hS : SB w A2 c2 b) :
    Calls Try.prog 7 #[.int .u64 gen, .slice A1 l.length c1, .slice A2 b.length c2] w fun e w' => e = .returned (.bool true) ∧ Below w.heap.size w w' := by
  have HG := Aside0.mk hg
  have HN := Aside0.mk hn
  have HBY := Aside0.mk hby
  have HC := Aside0.mk hC
  have HS := Aside0.mk hS
  clear hg hn hby hC hS
  by_cases hl : 10 < l.length
  · have hl' : (10 : Int) < (l.length : Int) := by omega
    clear hl
    go_enter Try.func7, Try.ntmps7
    go_wp2_with (go_at_call 36; (with_reducible refine (awake6_calls w).mono ?_); rintro e w1 ⟨rfl, hb⟩; have HB1 := Aside0.mk hb; clear hb)
    go_ret
    exact ⟨rfl, HB1.out⟩
  · have hl' : (l.length : Int) ≤ 10 := by omega
    by_cases hb2 : 200 < b.length
    · have hb' : (200 : Int) < (b.length : Int) := by omega
      clear hl hb2
      go_enter Try.func7, Try.ntmps7
      go_wp2_with (go_at_call 36; (with_reducible refine (awake6_calls w).mono ?_); rintro e w1 ⟨rfl, hb⟩; have HB1 := Aside0.mk hb; clear hb)
      go_ret
      exact ⟨rfl, HB1.out⟩
    · have hb' : (b.length : Int) ≤ 200 := by omega
      have HL := Aside0.mk (show b.length ≤ 1000000 by omega)
      obtain ⟨x, hx⟩ : ∃ x, slotX gen l = x := ⟨_, rfl⟩
      obtain ⟨se, hse⟩ : ∃ se, slotE l = se := ⟨_, rfl⟩
      have HSL := Aside0.mk (fun (w : World) (h : (Kd.int .u64).C w A1 l.length l) => slot_any w gen l A1 c1 HG.out HN.out h)
      have HRL := Aside0.mk (fun (w : World) (h : (Kd.int .u64).C w A1 l.length l) => rslot_any w gen l A1 c1 HG.out HN.out h)
      rw [hx, hse] at HSL HRL
      obtain ⟨u, hu⟩ : ∃ u, unP b = u := ⟨_, rfl⟩
      have HOF := Aside0.mk (fun (w : World) (h : SB w A2 c2 b) => of_calls w A2 c2 b HL.out h HBY.out)
      have HUN := Aside0.mk (fun (w : World) (h : SB w A2 c2 b) => un_calls w A2 c2 b HL.out h HBY.out)
      have hul := (unP_bytes b HBY.out (g := u.1) (l := u.2.1) (e := u.2.2) hu).2.1
      unfold OfQ at HOF
      unfold UnQ at HUN
      rw [hu] at HOF HUN
      obtain ⟨ug, ul, ue⟩ := u
      simp only at HOF HUN hul
      have HUL := Aside0.mk (show ul.length ≤ 1000000 ∧ ul.length ≤ 1000000 by omega)
      clear hl hb2 hu hx hse hul
      go_enter Try.func7, Try.ntmps7
      go_wp2_with (first
        | (go_at_call 36; (with_reducible refine (awake6_calls w).mono ?_); rintro e w1 ⟨rfl, hb⟩; have HB1 := Aside0.mk hb; clear hb)
        | (go_at_call 37; (with_reducible refine (HSL.out w1 (Kd.C_below HC.out HB1.out)).mono ?_); rintro e w2 ⟨A3, c3, rfl, hc, hb⟩; have HX2 := Aside0.mk hc; have HB2 := Aside0.mk (HB1.out.trans (hb.mono HB1.out.size)); clear hc hb)
        | (go_at_call 38; (with_reducible refine (HRL.out w2 (Kd.C_below HC.out HB2.out)).mono ?_); rintro e w3 ⟨A4, c4, rfl, hc, hb⟩; have HX3 := Aside0.mk (Kd.C_below HX2.out hb); have HY3 := Aside0.mk hc; have HB3 := Aside0.mk (HB2.out.trans (hb.mono HB2.out.size)); clear hc hb)
        | (go_at_call 39; (with_reducible refine (HOF.out w3 (HS.out.move HB3.out)).mono ?_); rintro e w4 ⟨A5, c5, rfl, hr, hb⟩; have HX4 := Aside0.mk (Kd.C_below HX3.out hb); have HY4 := Aside0.mk (Kd.C_below HY3.out hb); have HM4 := Aside0.mk hr; have HB4 := Aside0.mk (HB3.out.trans (hb.mono HB3.out.size)); clear hr hb)
        | (go_at_call 40; (with_reducible refine (HUN.out w4 (HS.out.move HB4.out)).mono ?_); rintro e w5 ⟨A6, c6, rfl, hr, hb⟩; have hx5 := Kd.C_string (c := c3) Try.underlying29 Try.underlying5 Try.underlying9 (Kd.C_below HX4.out hb); have hy5 := Kd.C_string (c := c4) Try.underlying29 Try.underlying5 Try.underlying9 (Kd.C_below HY4.out hb); obtain ⟨sx, hsx⟩ : ∃ sx, strOfNums x = sx := ⟨_, rfl⟩; rw [hsx] at hx5 hy5; clear hsx; have HM5 := Aside0.mk (Kd.R_reads' (Kd.R_below HM4.out hb)).2.2; have HN5 := Aside0.mk (Kd.R_reads' hr).2.2; have HB5 := Aside0.mk (HB4.out.trans (hb.mono HB4.out.size)); clear hr hb)
        | (go_at_call 41; go_loud (refine (same_calls w5 A5 A6 c5 c6 ul ul true (decide_eq_true rfl) HUL.out HM5.out HN5.out).mono ?_); rintro e w6 ⟨rfl, hd⟩; obtain ⟨nd, rfl⟩ := hd))
      go_ret
      exact ⟨rfl, bel_drewN HB5.out nd⟩
end Go.Proofs.Ytlepcmljmibdnaa
namespace Go.Proofs.Ytlepcmljmibdnaa
open Go.RowKit Go.Proofs.YtlepcmljmibdnaaW.PrintWords Go.Proofs.YtlepcmljmibdnaaW.PrintLast Go.Proofs.YtlepcmljmibdnaaW.PrintMore PWalOpens
set_option linter.unusedVariables false
set_option linter.unusedSimpArgs false
/-- no bad sector, nothing cached, whatever it is armed for -/
structure Qt (D : PD) (n : Int) (S : Int → List Int) : Prop where
  bad : ∀ a, D.bad a = false
  n : D.n = n
  kept : ∀ a, (D.kept a).getD zsec = S a
theorem Qt.act {D : PD} {n : Int} {S : Int → List Int} (h : Qt D n S) : Qt (actP D).1 n S ∧ (actP D).1.cache = D.cache ∧ ((actP D).2 = 0 → (actP D).1.dead = false) := by
  unfold actP
  simp only
  split
  · exact ⟨⟨h.bad, h.n, h.kept⟩, rfl, fun h => by cases h⟩
  · rename_i hd
    have hd' : D.dead = false := by
      cases hh : D.dead with
      | false => rfl
      | true => rw [hh] at hd; simp at hd
    split
    · exact ⟨⟨h.bad, h.n, h.kept⟩, rfl, fun _ => hd'⟩
    · exact ⟨h, rfl, fun _ => hd'⟩
theorem Qt.keep {D : PD} {n : Int} {S : Int → List Int} (h : Qt D n S) (p : Int × List Int) : Qt (keepP D p) n (updS S p.1 p.2) := by
  refine ⟨h.bad, h.n, fun a => ?_⟩
  rw [keepP_at]
  unfold updS
  split
  · rfl
  · exact h.kept a
theorem Qt.rest {D : PD} {n : Int} {S : Int → List Int} (h : Qt D n S) : Rdy (restP D) n S := ⟨rfl, rfl, h.bad, h.n, fun a => h.kept a⟩
theorem Qt.crash0 {D : PD} {n : Int} {S : Int → List Int} (h : Qt D n S) (hc : D.cache = []) (ks : List Bool) : Rdy (crashP D ks) n S := by
  unfold crashP
  rw [hc]
  exact h.rest
theorem Qt.crash1 {D : PD} {n : Int} {S : Int → List Int} (h : Qt D n S) (p : Int × List Int) (hc : D.cache = [p]) (ks : List Bool) : Rdy (crashP D ks) n S ∨ Rdy (crashP D ks) n (updS S p.1 p.2) := by
  unfold crashP
  rw [hc]
  show Rdy (restP (sel D [p] ks 1)) n S ∨ Rdy (restP (sel D [p] ks 1)) n (updS S p.1 p.2)
  rw [show sel D [p] ks 1 = if ks.getD 0 false then keepP D p else D from rfl]
  split
  · exact .inr (h.keep p).rest
  · exact .inl h.rest
/-- whatever crash strikes within a save -/
theorem crash_save {D : PD} {n : Int} {S : Int → List Int} (h : Qt D n S) (hc : D.cache = []) (hn : 2 ≤ n) (g : Int) (l : List Int) (hg : 0 ≤ g) (hl : l.length ≤ 4) (ks : List Bool) :
    (Rdy (crashP (saveP D g l).1 ks) n S ∧ (saveP D g l).2 ≠ 0) ∨ Rdy (crashP (saveP D g l).1 ks) n (updS S (g % 2) (pad (slotB g l))) := by
  obtain ⟨a1, a2, a3⟩ := h.act
  rw [hc] at a2
  unfold saveP
  rw [if_neg (by omega)]
  by_cases e1 : (actP D).2 = 0
  · have f1 : flushP D = ({ (actP D).1 with cache := [] }, 0) := by
      unfold flushP
      rw [if_neg (fun hh => hh e1), a2]
      rfl
    have q1 : Qt { (actP D).1 with cache := [] } n S := ⟨a1.bad, a1.n, a1.kept⟩
    have d1 : (actP D).1.dead = false := a3 e1
    rw [f1, if_neg (by simp)]
    generalize hD1 : { (actP D).1 with cache := [] } = D1 at *
    have d1' : D1.dead = false := by rw [← hD1]; exact d1
    have c1 : D1.cache = [] := by rw [← hD1]
    obtain ⟨b1, b2, b3⟩ := q1.act
    rw [c1] at b2
    have w0 : writeP D1 (g % 2) (slotB g l) = if (actP D1).2 ≠ 0 then actP D1 else ({ (actP D1).1 with cache := [(g % 2, pad (slotB g l))] }, 0) := by
      have h64 := slotB_64 g l hl
      unfold writeP
      rw [d1']
      simp only [Bool.false_eq_true, if_false]
      rw [if_neg (by rw [q1.n]; unfold inB; simp; omega), if_neg (by omega), b2]
      rfl
    by_cases e2 : (actP D1).2 = 0
    · rw [if_neg (fun hh => hh e2)] at w0
      rw [w0, if_neg (by simp)]
      have q2 : Qt { (actP D1).1 with cache := [(g % 2, pad (slotB g l))] } n S := ⟨b1.bad, b1.n, b1.kept⟩
      generalize hD2 : { (actP D1).1 with cache := [(g % 2, pad (slotB g l))] } = D2 at *
      have c2 : D2.cache = [(g % 2, pad (slotB g l))] := by rw [← hD2]
      obtain ⟨g1, g2, g3⟩ := q2.act
      rw [c2] at g2
      by_cases e3 : (actP D2).2 = 0
      · right
        unfold flushP
        rw [if_neg (fun hh => hh e3), g2]
        have q3 := g1.keep (g % 2, pad (slotB g l))
        have q4 : Qt { keepAll (actP D2).1 [(g % 2, pad (slotB g l))] with cache := [] } n (updS S (g % 2) (pad (slotB g l))) := ⟨q3.bad, q3.n, q3.kept⟩
        exact q4.crash0 rfl ks
      · have f3 : flushP D2 = actP D2 := by unfold flushP; rw [if_pos e3]
        rw [f3]
        rcases g1.crash1 _ g2 ks with hh | hh
        · exact .inl ⟨hh, e3⟩
        · exact .inr hh
    · rw [if_pos e2] at w0
      rw [w0, if_pos e2]
      exact .inl ⟨b1.crash0 b2 ks, e2⟩
  · have f1 : flushP D = actP D := by unfold flushP; rw [if_pos e1]
    rw [f1, if_pos e1]
    exact .inl ⟨a1.crash0 a2 ks, e1⟩
/-- what a slot that doesn't count may be -/
def lesser (u : Int × List Int × Int) (g : Int) : Prop := u.2.2 ≠ 0 ∨ u.1 < g
structure KInv (D : PD) (S : Int → List Int) (g : Int) (l : List Int) : Prop where
  rdy : Rdy D 4 S
  cache : D.cache = []
  ok : OKD D
  mine : unP (S (g % 2)) = (g, l, 0)
  other : lesser (unP (S ((g + 1) % 2))) g
  g0 : 0 ≤ g
  len : l.length ≤ 4
theorem pick_of {S : Int → List Int} {g : Int} {l : List Int} (hg : 0 ≤ g) (mine : unP (S (g % 2)) = (g, l, 0)) (other : lesser (unP (S ((g + 1) % 2))) g) : pickL (unP (S 0)) (unP (S 1)) = (g, l, 0) := by
  have h2 : g % 2 = 0 ∨ g % 2 = 1 := by omega
  rcases h2 with h | h
  · have h' : (g + 1) % 2 = 1 := by omega
    rw [h] at mine
    rw [h'] at other
    rw [mine]
    generalize unP (S 1) = u at other ⊢
    obtain ⟨ug, ul, ue⟩ := u
    have hs : stepL (true, g, l) (ug, ul, ue) = (true, g, l) := by
      unfold stepL
      rw [if_neg]
      rintro ⟨h1, h2⟩
      rcases other with ho | ho
      · exact ho h1
      · rcases h2 with h2 | h2
        · cases h2
        · exact absurd ho (Int.not_lt.2 (Int.le_of_lt h2))
    unfold pickL
    rw [show stepL (false, 0, []) (g, l, 0) = (true, g, l) from rfl, hs]
    rfl
  · have h' : (g + 1) % 2 = 0 := by omega
    rw [h] at mine
    rw [h'] at other
    rw [mine]
    generalize unP (S 0) = u at other ⊢
    obtain ⟨ug, ul, ue⟩ := u
    have hs : ∃ st, stepL (false, 0, []) (ug, ul, ue) = st ∧ (st.1 = false ∨ st.2.1 < g) := by
      refine ⟨_, rfl, ?_⟩
      unfold stepL
      split
      · rename_i hh
        rcases other with ho | ho
        · exact absurd hh.1 ho
        · exact .inr ho
      · exact .inl rfl
    obtain ⟨st, hst, hc⟩ := hs
    unfold pickL
    rw [hst]
    have : stepL st (g, l, 0) = (true, g, l) := by
      unfold stepL
      rw [if_pos ⟨rfl, hc⟩]
    rw [this]
    rfl
theorem KInv.load {D : PD} {S : Int → List Int} {g : Int} {l : List Int} (h : KInv D S g l) : loadP D = (g, l, 0) := by
  rw [h.rdy.load (by omega)]
  exact pick_of h.g0 h.mine h.other
theorem next_mine {S : Int → List Int} {g : Int} {l k : List Int} (hg : 0 ≤ g ∧ g + 1 < 18446744073709551616) (mine : unP (S (g % 2)) = (g, l, 0)) (hk : k.length ≤ 4) (hn : ∀ n ∈ k, 0 ≤ n ∧ n < 18446744073709551616) :
    unP (updS S ((g + 1) % 2) (pad (slotB (g + 1) k)) ((g + 1) % 2)) = (g + 1, k, 0) ∧ lesser (unP (updS S ((g + 1) % 2) (pad (slotB (g + 1) k)) ((g + 1 + 1) % 2))) (g + 1) := by
  constructor
  · unfold updS
    rw [if_pos rfl]
    exact unP_pad (g + 1) k ⟨by omega, hg.2⟩ hk hn
  · unfold updS
    rw [if_neg (by omega), show (g + 1 + 1) % 2 = g % 2 by omega, mine]
    exact .inr (by show g < g + 1; omega)
theorem KInv.save {D : PD} {S : Int → List Int} {g : Int} {l k : List Int} (h : KInv D S g l) (hg : g + 1 < 18446744073709551616) (hk : k.length ≤ 4) (hn : ∀ n ∈ k, 0 ≤ n ∧ n < 18446744073709551616) :
    (saveP D (g + 1) k).2 = 0 ∧ KInv (saveP D (g + 1) k).1 (updS S ((g + 1) % 2) (pad (slotB (g + 1) k))) (g + 1) k := by
  have g0 := h.g0
  obtain ⟨s1, s2, s3⟩ := h.rdy.save (by omega) (g + 1) k (by omega) hk
  obtain ⟨m1, m2⟩ := next_mine (S := S) ⟨g0, hg⟩ h.mine hk hn
  exact ⟨s1, s2, s3, h.ok.save (g + 1) k ⟨by omega, hg⟩ hn, m1, m2, by omega, hk⟩
theorem KInv.start : (formatP (newP 4) []).2 = 0 ∧ KInv (formatP (newP 4) []).1 (updS (updS (updS (fun _ => zsec) 0 zsec) 1 zsec) 0 (pad (slotB 0 []))) 0 [] := by
  have r0 := rdy_new 4
  rw [show min (max (4 : Int) 0) 4096 = 4 by decide] at r0
  obtain ⟨f1, f2, f3⟩ := r0.format (by omega) [] (by simp)
  refine ⟨f1, f2, f3, (OKD.new 4).format [] (by simp), ?_, ?_, by omega, by simp⟩
  · show unP (updS _ 0 (pad (slotB 0 [])) 0) = _
    unfold updS
    rw [if_pos rfl]
    exact unP_pad 0 [] (by omega) (by simp) (by simp)
  · left
    show (unP (updS (updS (updS (fun _ => zsec) 0 zsec) 1 zsec) 0 (pad (slotB 0 [])) 1)).2.2 ≠ 0
    unfold updS
    rw [if_neg (by decide), if_pos rfl, unP_zsec]
    decide
theorem OKD.arm {D : PD} (h : OKD D) (n : Int) : OKD (armP D n) := ⟨h.ok, h.c64⟩
theorem OKD.crash {D : PD} (h : OKD D) (ks : List Bool) : OKD (crashP D ks) := by
  have key : ∀ i, i ≤ D.cache.length → OKD (sel D D.cache ks i) := by
    intro i
    induction i with
    | zero => intro _; exact h
    | succ i ih =>
      intro hi
      unfold sel
      split
      · refine (ih (by omega)).keep ?_
        have hm : D.cache[i]? = some D.cache[i] := List.getElem?_eq_getElem (by omega)
        simp only [List.getD, hm, Option.getD_some]
        exact h.ok.2 _ (List.getElem_mem _)
      · exact ih (by omega)
  have hk := key D.cache.length (Nat.le_refl _)
  exact ⟨⟨hk.ok.1, fun p hp => by cases hp⟩, fun p hp => by cases hp⟩
/-- what is loaded behind a crash within a save -/
theorem KInv.crash {D : PD} {S : Int → List Int} {g : Int} {l k : List Int} (h : KInv D S g l) (hg : g + 1 < 18446744073709551616) (hk : k.length ≤ 4) (hn : ∀ n ∈ k, 0 ≤ n ∧ n < 18446744073709551616) (arm : Int) (ks : List Bool) :
    (loadP (crashP (saveP (armP D arm) (g + 1) k).1 ks) = (g, l, 0) ∧ (saveP (armP D arm) (g + 1) k).2 ≠ 0) ∨ loadP (crashP (saveP (armP D arm) (g + 1) k).1 ks) = (g + 1, k, 0) := by
  have g0 := h.g0
  have q : Qt (armP D arm) 4 S := ⟨h.rdy.bad, h.rdy.n, fun a => by
    have := h.rdy.view a
    unfold view at this
    rw [h.cache] at this
    exact this⟩
  rcases crash_save q h.cache (by omega) (g + 1) k (by omega) hk ks with ⟨h1, h2⟩ | h1
  · exact .inl ⟨(h1.load (by omega)).trans (pick_of g0 h.mine h.other), h2⟩
  · obtain ⟨m1, m2⟩ := next_mine (S := S) ⟨g0, hg⟩ h.mine hk hn
    exact .inr ((h1.load (by omega)).trans (pick_of (by omega) m1 m2))
end Go.Proofs.Ytlepcmljmibdnaa
namespace Go.Proofs.Ytlepcmljmibdnaa
open Go.RowKit Go.Proofs.YtlepcmljmibdnaaW.PrintWords Go.Proofs.YtlepcmljmibdnaaW.PrintLast Go.Proofs.YtlepcmljmibdnaaW.PrintMore PWalOpens
set_option linter.unusedVariables false
set_option linter.unusedSimpArgs false
theorem own_raise {w : World} {b b' e size n : Nat} {v : Value} {xs : List Value} (h : w.ownsRow b e size v n xs) (hb : ∀ k, v.ownBlock = some k → b' ≤ k) : w.ownsRow b' e size v n xs := by
  obtain ⟨h1, h2⟩ := h
  refine ⟨h1, ?_⟩
  rcases h2 with h2 | ⟨g, cap, cur, he, hg, hr⟩
  · exact .inl h2
  · exact .inr ⟨g, cap, cur, he, hb g (by subst he; rfl), hr⟩
theorem DK.raise {w : World} {b b' B M Bd : Nat} {vc : Value} {D : PD} (h : DK w b B M Bd vc D) (hb : ∀ k, FP B M Bd vc k → b' ≤ k) : DK w b' B M Bd vc D := by
  refine ⟨h.blk, h.kept, h.bad, ?_, hb B (.inl rfl), hb M (.inr (.inl rfl)), hb Bd (.inr (.inr (.inl rfl))), h.hne, h.sec, h.hn, h.hl⟩
  obtain ⟨h0, inner, ho, hr⟩ := h.cache
  exact ⟨h0, inner, own_raise ho (fun k hk => hb k (.inr (.inr (.inr hk.symm)))), hr⟩
theorem At.based {w w' : World} {base B M Bd : Nat} {vc vc' : Value} {D D' : PD} (h0 : DK w base B M Bd vc D) (h : At w (FP B M Bd vc) w' B M Bd vc' D') : DK w' base B M Bd vc' D' :=
  h.dk.raise fun k hk => by
    by_cases hl : k < w.heap.size
    · exact (h0.fp k (h.fp k hl hk)).1
    · have := h0.base_le
      omega
section
variable {w0 w w' : World} {B M Bd R : Nat} {vc vS vC vB : Value} {D D' : PD} {X X' : RX}
theorem bo_save {g e : Int} {l : List Int} {A : Option Addr} {c : Nat} (hsv : saveP D g l = (D', e)) (hg : 0 ≤ g ∧ g < 18446744073709551616) (hn : ∀ n ∈ l, 0 ≤ n ∧ n < 18446744073709551616) (hC : (Kd.int .u64).C w0 A l.length l) (hc : D.cache.length ≤ 900) (h : Both w0 w B M Bd vc D R vS vC vB X) :
    Calls Try.prog 42 #[.pointer (some ⟨B, 0, none⟩), .int .u64 g, .slice A l.length c] w fun r w' => r = .returned (.int .i64 e) ∧ ∃ vc', Both w0 w' B M Bd vc' D' R vS vC vB X := by
  refine (save_calls hsv hg hn (Kd.C_below hC h.low) hc h.dk).mono ?_
  rintro r w' ⟨rfl, vc', ha⟩
  exact ⟨rfl, vc', (h.disk (ha.based h.dk) ha.chg).1⟩
theorem bo_rsave {g e : Int} {l : List Int} {A : Option Addr} {c : Nat} (hsv : rsaveX X g l = (X', e)) (hg : 0 ≤ g ∧ g < 18446744073709551616) (hn : ∀ n ∈ l, 0 ≤ n ∧ n < 18446744073709551616) (hC : (Kd.int .u64).C w0 A l.length l) (hc : X.cache.length ≤ 900) (h : Both w0 w B M Bd vc D R vS vC vB X) :
    Calls Try.prog 43 #[.pointer (some ⟨R, 0, none⟩), .int .u64 g, .slice A l.length c] w fun r w' => r = .returned (.int .i64 e) ∧ ∃ vC', Both w0 w' B M Bd vc D R vS vC' vB X' := by
  refine (rsave_calls hsv hg hn (Kd.C_below hC h.low) hc h.rk).mono ?_
  rintro r w' ⟨rfl, ht, vC', hr⟩
  exact ⟨rfl, vC', (h.ref hr ht).1⟩
theorem bo_load {r : Int × List Int × Int} (hr : loadP D = r) (ho : OKD D) (hl : D.cache.length ≤ 1000) (h : Both w0 w B M Bd vc D R vS vC vB X) :
    Calls Try.prog 44 #[.pointer (some ⟨B, 0, none⟩)] w fun e w' => ∃ A c, e = .returned (.tuple #[.int .u64 r.1, .slice A r.2.1.length c, .int .i64 r.2.2]) ∧ (Kd.int .u64).C w' A r.2.1.length r.2.1 ∧ Below w.heap.size w w' ∧ Both w0 w' B M Bd vc D R vS vC vB X := by
  refine (load_calls hr ho.ok ho.c64 hl h.dk).mono ?_
  rintro e w' ⟨A, c, rfl, hr, hb⟩
  exact ⟨A, c, rfl, (Kd.R_reads' hr).2.2, hb, h.fresh hb⟩
theorem bo_rload {r : Int × List Int × Int} (hr : rloadX X = r) (hb0 : isBytes (rreadX X 0).1) (hb1 : isBytes (rreadX X 1).1) (h64 : (rreadX X 0).1.length ≤ 64 ∧ (rreadX X 1).1.length ≤ 64) (hl : X.cache.length ≤ 1000) (h : Both w0 w B M Bd vc D R vS vC vB X) :
    Calls Try.prog 45 #[.pointer (some ⟨R, 0, none⟩)] w fun e w' => ∃ A c, e = .returned (.tuple #[.int .u64 r.1, .slice A r.2.1.length c, .int .i64 r.2.2]) ∧ (Kd.int .u64).C w' A r.2.1.length r.2.1 ∧ Below w.heap.size w w' ∧ Both w0 w' B M Bd vc D R vS vC vB X := by
  refine (rload_calls hr hb0 hb1 h64 hl h.rk).mono ?_
  rintro e w' ⟨A, c, rfl, hr, hb⟩
  exact ⟨A, c, rfl, (Kd.R_reads' hr).2.2, hb, h.fresh hb⟩
end
theorem xok_act {X : RX} (h : XOk X) : XOk (ractX X).1 := by
  obtain ⟨h1, h2, h3⟩ := ract_same X
  refine ⟨by rw [h1]; exact h.s64, by rw [h1, h2]; exact h.c64, by rw [h1, h3]; exact h.hb, ?_, by rw [h1]; exact h.hn⟩
  have := h.hl
  unfold ractX
  split
  · exact this
  · split
    · show -1 ≤ X.left - 1 ∧ X.left - 1 ≤ _
      omega
    · exact this
theorem xok_write {X : RX} (h : XOk X) (at_ : Int) (b : List Int) : XOk (rwriteX X at_ b).1 := by
  unfold rwriteX
  split
  · exact h
  · split
    · exact h
    · rename_i hi
      split
      · exact h
      · split
        · exact xok_act h
        · have h' := xok_act h
          refine ⟨h'.s64, fun p hp => ?_, h'.hb, h'.hl, h'.hn⟩
          rcases List.mem_append.1 hp with hp | hp
          · exact h'.c64 p hp
          · rw [List.mem_singleton] at hp
            subst hp
            refine ⟨pad_length b (by omega), ?_⟩
            have hi' : inB at_ X.S.length = true := by simpa using hi
            unfold inB at hi'
            have := of_decide_eq_true hi'
            rw [(ract_same X).1]
            exact this
theorem rputs_ok (l : List (Int × List Int)) : ∀ S : List (List Int), (∀ s ∈ S, s.length = 64) → (∀ p ∈ l, p.2.length = 64) → (rputs S l).length = S.length ∧ ∀ s ∈ rputs S l, s.length = 64 := by
  induction l with
  | nil => intro S h _; exact ⟨rfl, h⟩
  | cons p l ih =>
    intro S h hl
    have := ih (S.set p.1.toNat p.2) (fun s hs => (List.mem_or_eq_of_mem_set hs).elim (h s) (fun e => by rw [e]; exact hl p (by simp))) (fun q hq => hl q (by simp [hq]))
    refine ⟨this.1.trans (by simp), this.2⟩
theorem xok_flush {X : RX} (h : XOk X) : XOk (rflushX X).1 := by
  unfold rflushX
  split
  · exact xok_act h
  · obtain ⟨h1, h2⟩ := rputs_ok X.cache X.S h.s64 (fun p hp => (h.c64 p hp).1)
    have h' := xok_act h
    refine ⟨h2, fun p hp => (by cases hp), ?_, h'.hl, by show (rputs X.S X.cache).length ≤ _; rw [h1]; exact h.hn⟩
    show (ractX X).1.bad.length = (rputs X.S X.cache).length
    rw [h1, (ract_same X).2.2]
    exact h.hb
theorem corr_save {D : PD} {X : RX} (h : Corr D X) (hx : XOk X) (g : Int) (l : List Int) : (saveP D g l).2 = (rsaveX X g l).2 ∧ Corr (saveP D g l).1 (rsaveX X g l).1 := by
  obtain ⟨f1, f2⟩ := corr_flush h hx
  have x1 := xok_flush hx
  obtain ⟨w1, w2⟩ := corr_write f2 (g % 2) (slotB g l)
  obtain ⟨q1, q2⟩ := corr_flush w2 (xok_write x1 (g % 2) (slotB g l))
  unfold saveP rsaveX
  rw [f1, w1]
  split
  · exact ⟨rfl, h⟩
  · split
    · exact ⟨f1, f2⟩
    · split
      · exact ⟨w1, w2⟩
      · exact ⟨q1, q2⟩
theorem corr_load {D : PD} {X : RX} (h : Corr D X) (hx : XOk X) : loadP D = rloadX X := by
  unfold loadP rloadX
  rw [corr_read h hx 0, corr_read h hx 1]
theorem saveP_cache (D : PD) (g : Int) (l : List Int) : (saveP D g l).1.cache.length ≤ D.cache.length + 1 := by
  have q1 := flushP_cache D
  have q2 := writeP_cache (flushP D).1 (g % 2) (slotB g l)
  have q3 := flushP_cache (writeP (flushP D).1 (g % 2) (slotB g l)).1
  unfold saveP
  repeat' split
  all_goals (first | (dsimp only; omega) | omega)
/-- after so many saves -/
noncomputable def savesP (D : PD) (l : List Int) : List Int → PD
  | [] => D
  | g :: gs => savesP (saveP D g l).1 l gs
structure Pair (D : PD) (X : RX) (m : Nat) : Prop where
  corr : Corr D X
  ok : OKD D
  cache : D.cache.length ≤ m
theorem Pair.xc {D : PD} {X : RX} {m : Nat} (h : Pair D X m) : X.cache.length ≤ m := by rw [← h.corr.cache]; exact h.cache
theorem Pair.write {D : PD} {X : RX} {m : Nat} (h : Pair D X m) (at_ : Int) {b : List Int} (hb : isBytes b) : (writeP D at_ b).2 = (rwriteX X at_ b).2 ∧ Pair (writeP D at_ b).1 (rwriteX X at_ b).1 (m + 1) := by
  obtain ⟨h1, h2⟩ := corr_write h.corr at_ b
  have h3 := writeP_cache D at_ b
  have h4 := h.cache
  exact ⟨h1, h2, h.ok.write at_ hb, by omega⟩
theorem Pair.save {D : PD} {X : RX} {m : Nat} (h : Pair D X m) (hx : XOk X) (g : Int) (l : List Int) (hg : 0 ≤ g ∧ g < 18446744073709551616) (hn : ∀ n ∈ l, 0 ≤ n ∧ n < 18446744073709551616) : (saveP D g l).2 = (rsaveX X g l).2 ∧ Pair (saveP D g l).1 (rsaveX X g l).1 (m + 1) := by
  obtain ⟨h1, h2⟩ := corr_save h.corr hx g l
  have h3 := saveP_cache D g l
  have h4 := h.cache
  exact ⟨h1, h2, h.ok.save g l hg hn, by omega⟩
theorem read_len {D : PD} {X : RX} (h : Corr D X) (hx : XOk X) (i : Int) : (rreadX X i).1.length ≤ 64 := by
  unfold rreadX
  repeat' split
  · simp
  · simp
  · simp
  · have key : ∀ (l : List (Int × List Int)), (∀ p ∈ l, p.2.length = 64) → ∀ s : List Int, s.length ≤ 64 → (readL s l i).length ≤ 64 := by
      intro l
      induction l with
      | nil => intro _ s hs; exact hs
      | cons p l ih =>
        intro hl s hs
        unfold readL
        rw [List.foldl_cons]
        refine ih (fun q hq => hl q (by simp [hq])) _ ?_
        split
        · exact Nat.le_of_eq (hl p (by simp))
        · exact hs
    refine key _ (fun p hp => (hx.c64 p hp).1) _ ?_
    cases hs : X.S[i.toNat]? with
    | none => simp [List.getD, hs]
    | some s => simp only [List.getD, hs, Option.getD_some]; exact Nat.le_of_eq (hx.s64 s (List.mem_of_getElem? hs))
theorem pair_bytes {D : PD} {X : RX} {m : Nat} (h : Pair D X m) (hx : XOk X) (i : Int) : isBytes (rreadX X i).1 := by
  rw [← corr_read h.corr hx i]
  exact readP_bytes h.ok.ok i
theorem pickL_len (u v : Int × List Int × Int) (hu : u.2.1.length ≤ 4) (hv : v.2.1.length ≤ 4) : (pickL u v).2.1.length ≤ 4 := by
  have key : ∀ (st : Bool × Int × List Int) (u : Int × List Int × Int), st.2.2.length ≤ 4 → u.2.1.length ≤ 4 → (stepL st u).2.2.length ≤ 4 := by
    intro st u h1 h2
    unfold stepL
    split
    · exact h2
    · exact h1
  unfold pickL
  split
  · exact key _ _ (key _ _ (by simp) hu) hv
  · simp
theorem loadP_len {D : PD} (h : OKD D) : (loadP D).2.1.length ≤ 1000000 ∧ (loadP D).2.1.length ≤ 1000000 := by
  have : (loadP D).2.1.length ≤ 4 := by
    unfold loadP
    split
    · simp
    · split
      · simp
      · have h0 := (unP_bytes (readP D 0).1 (readP_bytes h.ok 0) (g := (unP (readP D 0).1).1) (l := (unP (readP D 0).1).2.1) (e := (unP (readP D 0).1).2.2) rfl).2.1
        have h1 := (unP_bytes (readP D 1).1 (readP_bytes h.ok 1) (g := (unP (readP D 1).1).1) (l := (unP (readP D 1).1).2.1) (e := (unP (readP D 1).1).2.2) rfl).2.1
        exact pickL_len _ _ h0 h1
  omega
theorem numn_min (n : Int) : (rnewN n : Int) = min (max n 0) 4096 := by unfold rnewN; omega
set_option maxRecDepth 100000 in
set_option maxHeartbeats 2000000 in
theorem loads_walk (n : Int) (A1 : Option Addr) (c1 : Nat) (a : List Int) (A2 : Option Addr) (c2 : Nat) (b : List Int) (A3 : Option Addr) (c3 : Nat) (gens : List Int) (A4 : Option Addr) (c4 : Nat) (l : List Int) (w : World)
    (ha : isBytes a) (hb : isBytes b) (hg : ∀ n ∈ gens, 0 ≤ n ∧ n < 18446744073709551616) (hn : ∀ n ∈ l, 0 ≤ n ∧ n < 18446744073709551616)
    (hC1 : (Kd.int .u8).C w A1 a.length a) (hC2 : (Kd.int .u8).C w A2 b.length b) (hC3 : (Kd.int .u64).C w A3 gens.length gens) (hC4 : (Kd.int .u64).C w A4 l.length l) :
    Calls Try.prog 8 #[.int .i64 n, .slice A1 a.length c1, .slice A2 b.length c2, .slice A3 gens.length c3, .slice A4 l.length c4] w fun e w' => e = .returned (.bool true) ∧ Below w.heap.size w w' := by
  have H1 := Aside0.mk hC1
  have H2 := Aside0.mk hC2
  have H3 := Aside0.mk hC3
  have H4 := Aside0.mk hC4
  have HA := Aside0.mk ha
  have HB := Aside0.mk hb
  have HG := Aside0.mk hg
  have HN := Aside0.mk hn
  clear hC1 hC2 hC3 hC4 ha hb hg hn
  have short : (10 < n ∨ 64 < a.length ∨ 64 < b.length ∨ 8 < gens.length ∨ 6 < l.length) → Calls Try.prog 8 #[.int .i64 n, .slice A1 a.length c1, .slice A2 b.length c2, .slice A3 gens.length c3, .slice A4 l.length c4] w fun e w' => e = .returned (.bool true) ∧ Below w.heap.size w w' := by
    intro hs
    have e1 : decide (10 < n) = true ∨ decide (10 < n) = false := by cases decide (10 < n) <;> simp
    by_cases k1 : 10 < n
    · clear hs e1
      go_enter Try.func8, Try.ntmps8
      go_wp2_with (go_at_call 36; (with_reducible refine (awake6_calls w).mono ?_); rintro e w1 ⟨rfl, hb⟩; have HB1 := Aside0.mk hb; clear hb)
      go_ret
      exact ⟨rfl, HB1.out⟩
    · by_cases k2 : (64 : Int) < (a.length : Int)
      · clear hs e1
        go_enter Try.func8, Try.ntmps8
        go_wp2_with (go_at_call 36; (with_reducible refine (awake6_calls w).mono ?_); rintro e w1 ⟨rfl, hb⟩; have HB1 := Aside0.mk hb; clear hb)
        go_ret
        exact ⟨rfl, HB1.out⟩
      · by_cases k3 : (64 : Int) < (b.length : Int)
        · clear hs e1
          go_enter Try.func8, Try.ntmps8
          go_wp2_with (go_at_call 36; (with_reducible refine (awake6_calls w).mono ?_); rintro e w1 ⟨rfl, hb⟩; have HB1 := Aside0.mk hb; clear hb)
          go_ret
          exact ⟨rfl, HB1.out⟩
        · by_cases k4 : (8 : Int) < (gens.length : Int)
          · clear hs e1
            go_enter Try.func8, Try.ntmps8
            go_wp2_with (go_at_call 36; (with_reducible refine (awake6_calls w).mono ?_); rintro e w1 ⟨rfl, hb⟩; have HB1 := Aside0.mk hb; clear hb)
            go_ret
            exact ⟨rfl, HB1.out⟩
          · have k5 : (6 : Int) < (l.length : Int) := by omega
            clear hs e1
            go_enter Try.func8, Try.ntmps8
            go_wp2_with (go_at_call 36; (with_reducible refine (awake6_calls w).mono ?_); rintro e w1 ⟨rfl, hb⟩; have HB1 := Aside0.mk hb; clear hb)
            go_ret
            exact ⟨rfl, HB1.out⟩
  by_cases hs : (10 < n ∨ 64 < a.length ∨ 64 < b.length ∨ 8 < gens.length ∨ 6 < l.length)
  · exact short hs
  · clear short
    have k1 : n ≤ 10 := by omega
    have k2 : (a.length : Int) ≤ 64 := by omega
    have k3 : (b.length : Int) ≤ 64 := by omega
    have k4 : (gens.length : Int) ≤ 8 := by omega
    have k5 : (l.length : Int) ≤ 6 := by omega
    clear hs
    have P0 := Aside0.mk (⟨corr_new n, OKD.new n, Nat.le_refl _⟩ : Pair (newP n) (rnewX (rnewN n)) 0)
    obtain ⟨e1, p1⟩ := P0.out.write 0 HA.out
    obtain ⟨D1, ea, hwa⟩ : ∃ D1 ea, writeP (newP n) 0 a = (D1, ea) := ⟨_, _, rfl⟩
    obtain ⟨X1, fa, hxa⟩ : ∃ X1 fa, rwriteX (rnewX (rnewN n)) 0 a = (X1, fa) := ⟨_, _, rfl⟩
    rw [hwa, hxa] at e1 p1
    simp only at e1 p1
    subst e1
    obtain ⟨e2, p2⟩ := p1.write 1 HB.out
    obtain ⟨D2, eb, hwb⟩ : ∃ D2 eb, writeP D1 1 b = (D2, eb) := ⟨_, _, rfl⟩
    obtain ⟨X2, fb, hxb⟩ : ∃ X2 fb, rwriteX X1 1 b = (X2, fb) := ⟨_, _, rfl⟩
    rw [hwb, hxb] at e2 p2
    simp only at e2 p2
    subst e2
    have P1 := Aside0.mk p1
    have P2 := Aside0.mk p2
    have HWA := Aside0.mk hwa
    have HXA := Aside0.mk hxa
    have HWB := Aside0.mk hwb
    have HXB := Aside0.mk hxb
    have C0 := Aside0.mk (show (newP n).cache.length ≤ 1000 from Nat.zero_le _)
    have C0x := Aside0.mk (show (rnewX (rnewN n)).cache.length ≤ 1000 from Nat.zero_le _)
    have C1 := Aside0.mk (Nat.le_trans p1.cache (show 0 + 1 ≤ 1000 by omega))
    have C1x := Aside0.mk (Nat.le_trans p1.xc (show 0 + 1 ≤ 1000 by omega))
    clear p1 p2 hwa hxa hwb hxb
    go_enter Try.func8, Try.ntmps8
    go_wp2_with (first
      | (go_at_call 36; (with_reducible refine (awake6_calls w).mono ?_); rintro e w1 ⟨rfl, hb⟩; have HB1 := Aside0.mk hb; clear hb)
      | (go_at_call 15; (with_reducible refine (bo_new (w0 := w) (w := w1) n HB1.out).mono ?_); rintro e w2 ⟨B, M, Bd, rfl, hd, hb⟩; have HD2 := Aside0.mk hd; have HB2 := Aside0.mk hb; clear hd hb)
      | (go_at_call 25; (with_reducible refine (bo_rnew (w0 := w) (w := w2) n HB2.out HD2.out).mono ?_); rintro e w3 ⟨R, vS, vB, rfl, hb⟩; have HO3 := Aside0.mk hb; clear hb)
      | (go_at_call 17; (with_reducible refine (bo_write 0 ea A1 c1 a HWA.out C0.out H1.out HO3.out).mono ?_); rintro e w4 ⟨rfl, _, vc4, hb⟩; have HO4 := Aside0.mk hb; clear hb)
      | (go_at_call 26; (with_reducible refine (bo_rwrite 0 ea A1 c1 a HXA.out C0x.out H1.out HO4.out).mono ?_); rintro e w5 ⟨rfl, _, vC5, hb⟩; have HO5 := Aside0.mk hb; clear hb)
      | (go_at_call 17; (with_reducible refine (bo_write 1 eb A2 c2 b HWB.out C1.out H2.out HO5.out).mono ?_); rintro e w6 ⟨rfl, _, vc6, hb⟩; have HO6 := Aside0.mk hb; clear hb)
      | (go_at_call 26; (with_reducible refine (bo_rwrite 1 eb A2 c2 b HXB.out C1x.out H2.out HO6.out).mono ?_); rintro e w7 ⟨rfl, _, vC7, hb⟩; have HO7 := Aside0.mk hb; clear hb))
    go_loopg [63] gens.length (fun kq v63 w' => ∃ (i : Nat) (D : PD) (X : RX) (vc vC : Value), v63 = .int .i64 (i : Int) ∧ Aside0 (i + kq = gens.length) ∧ Aside0 (Both w w' B M Bd vc D R vS vC vB X) ∧ Aside0 (Pair D X (2 + i)))
    case atStart => exact ⟨0, D2, X2, vc6, vC7, rfl, ⟨by omega⟩, HO7, P2⟩
    case round =>
      obtain ⟨i, D, X, vc, vC, rfl, HI, HO, HP⟩ := hrel
      clear P0 P1 P2 HWA HXA HWB HXB C0 C0x C1 C1x HO3 HO4 HO5 HO6 HO7 HD2 HB2
      have k4 : (gens.length : Int) ≤ 8 := by have := HI.out; omega
      by_cases hi : i < gens.length
      · obtain ⟨g, hnn⟩ : ∃ g, gens[i]? = some g := ⟨_, List.getElem?_eq_getElem hi⟩
        have hgg := HG.out g (List.mem_of_getElem? hnn)
        obtain ⟨ad, e, x0⟩ := Kd.at_int (Kd.C_below H3.out HO.out.low) (i : Int) (by omega) (by omega)
        subst e
        rw [show rd gens (i : Int) = g by simp [rd, List.getD, hnn], Int.toNat_natCast] at x0
        have HGG := Aside0.mk hgg
        obtain ⟨e1, p1⟩ := HP.out.save HO.out.rk.ok g l hgg HN.out
        obtain ⟨D', ea, hsa⟩ : ∃ D' ea, saveP D g l = (D', ea) := ⟨_, _, rfl⟩
        obtain ⟨X', fa, hxa⟩ : ∃ X' fa, rsaveX X g l = (X', fa) := ⟨_, _, rfl⟩
        rw [hsa, hxa] at e1 p1
        simp only at e1 p1
        subst e1
        have P1 := Aside0.mk p1
        have HSA := Aside0.mk hsa
        have HXA := Aside0.mk hxa
        have C0 := Aside0.mk (Nat.le_trans HP.out.cache (show 2 + i ≤ 900 by omega))
        have C0x := Aside0.mk (Nat.le_trans HP.out.xc (show 2 + i ≤ 900 by omega))
        clear hnn hgg p1 hsa hxa
        go_wp2_with (first
          | (go_at_call 42; (with_reducible refine (bo_save HSA.out HGG.out HN.out H4.out C0.out HO.out).mono ?_); rintro e w6 ⟨rfl, vc6, hb⟩; have HO6 := Aside0.mk hb; clear hb)
          | (go_at_call 43; (with_reducible refine (bo_rsave HXA.out HGG.out HN.out H4.out C0x.out HO6.out).mono ?_); rintro e w7 ⟨rfl, vC7, hb⟩; have HO7 := Aside0.mk hb; clear hb))
        have hk1 := HI.out
        obtain ⟨gq, rfl⟩ : ∃ gq, gk = gq + 1 := ⟨gk - 1, by omega⟩
        go_roundg gq
        case rel => exact ⟨i + 1, D', X', vc6, vC7, by go_num, ⟨by omega⟩, HO7, P1⟩
        case measure => omega
      · have hi0 := HI.out
        obtain rfl : gk = 0 := by omega
        obtain rfl : i = gens.length := by omega
        clear hi0
        have hm : ¬ ((gens.length : Int) < (gens.length : Int)) := by omega
        obtain ⟨r, hr⟩ : ∃ r, loadP D = r := ⟨_, rfl⟩
        have hxr : rloadX X = r := (corr_load HP.out.corr HO.out.rk.ok).symm.trans hr
        have HR := Aside0.mk hr
        have HXR := Aside0.mk hxr
        have HOK := Aside0.mk HP.out.ok
        have HB0 := Aside0.mk (pair_bytes HP.out HO.out.rk.ok 0)
        have HB1' := Aside0.mk (pair_bytes HP.out HO.out.rk.ok 1)
        have H64 := Aside0.mk (And.intro (read_len HP.out.corr HO.out.rk.ok 0) (read_len HP.out.corr HO.out.rk.ok 1))
        have C0 := Aside0.mk (Nat.le_trans HP.out.cache (show 2 + gens.length ≤ 1000 by omega))
        have C0x := Aside0.mk (Nat.le_trans HP.out.xc (show 2 + gens.length ≤ 1000 by omega))
        have HRL := Aside0.mk (loadP_len (D := D) HP.out.ok)
        rw [hr] at HRL
        obtain ⟨rg, rl, re⟩ := r
        simp only at HRL
        clear hr hxr
        go_wp2_with (first
          | (go_at_call 44; (with_reducible refine (bo_load HR.out HOK.out C0.out HO.out).mono ?_); rintro e w6 ⟨A6, c6, rfl, hc, hbl, hb⟩; have HC6 := Aside0.mk hc; have HO6 := Aside0.mk hb; clear hb hc hbl)
          | (go_at_call 45; (with_reducible refine (bo_rload HXR.out HB0.out HB1'.out H64.out C0x.out HO6.out).mono ?_); rintro e w7 ⟨A7, c7, rfl, hc, hbl, hb⟩; have HC7 := Aside0.mk hc; have HC6' := Aside0.mk (Kd.C_below HC6.out hbl); have HO7 := Aside0.mk hb; clear hb hc hbl)
          | (go_at_call 41; (with_reducible refine (same_calls w7 A6 A7 c6 c7 rl rl true (decide_eq_true rfl) HRL.out HC6'.out HC7.out).mono ?_); rintro e w8 ⟨rfl, hd⟩; obtain ⟨nd, rfl⟩ := hd))
        go_ret
        exact ⟨rfl, bel_drewN HO7.out.low nd⟩
end Go.Proofs.Ytlepcmljmibdnaa
namespace Go.Proofs.Ytlepcmljmibdnaa
open Go.RowKit Go.Proofs.YtlepcmljmibdnaaW.PrintWords Go.Proofs.YtlepcmljmibdnaaW.PrintLast Go.Proofs.YtlepcmljmibdnaaW.PrintMore PWalOpens
set_option linter.unusedVariables false
set_option linter.unusedSimpArgs false
theorem rU64s : Rd.Reads Try.prog 57 (Kd.slice 56 (Kd.int .u64)) (fun xs => ∀ a ∈ xs, (Lit.int .u64 a).wf = true) := Rd.slice rU64 Try.underlying57 (by kernel_rfl)
theorem at_rows {k : IntKind} {e : Nat} {w : World} {A : Option Addr} {n : Nat} {ls : List (List Int)} (h : (Kd.slice e (Kd.int k)).C w A n ls) (i : Nat) (m : List Int) (hm : ls[i]? = some m) :
    ∃ ad Am cm, A = some ad ∧ w.cell? (ad.add i) = some (.slice Am m.length cm) ∧ m.length ≤ cm ∧ (Kd.int k).C w Am m.length m := by
  have hi : i < ls.length := (List.getElem?_eq_some_iff.1 hm).1
  obtain ⟨h1, _, h2⟩ := h
  obtain ⟨ad, e, hc⟩ := h2 (by omega)
  obtain ⟨cs, hl, ⟨Am, cm, hcs, hcap, hC⟩, hcell⟩ := hc i m hm
  subst hcs
  refine ⟨ad, Am, cm, e, ?_, hcap, hC⟩
  have := hcell 0 _ rfl
  simpa [Kd.slice] using this
section
variable {w0 w : World} {F : Nat → Prop} {B M Bd : Nat} {vc : Value} {D D1 : PD}
theorem format_nil {e : Int} (hf : formatP D [] = (D1, e)) (hc : D.cache.length ≤ 800) (h : At w0 F w B M Bd vc D) :
    Calls Try.prog 46 #[.pointer (some ⟨B, 0, none⟩), .slice none 0 0] w fun r w' => r = .returned (.int .i64 e) ∧ ∃ vc', At w0 F w' B M Bd vc' D1 :=
  at_format (l := []) (A := none) (c := 0) hf hc (by simp) (fun w' hc' => Kd.C_nil _ _) h
theorem at_arm (n : Int) (hn : -9223372036854775808 ≤ n ∧ n ≤ 9223372036854775807) (h : At w0 F w B M Bd vc D) :
    Calls Try.prog 16 #[.pointer (some ⟨B, 0, none⟩), .int .i64 n] w fun e w' => e = .returned (.tuple #[]) ∧ At w0 F w' B M Bd vc (armP D n) := by
  refine (arm_calls w 0 B M Bd vc D n hn h.dk).mono ?_
  rintro e w' ⟨rfl, hd, ho⟩
  exact ⟨rfl, h.next hd (ho.chg fun k hk => .inl hk) (fun k _ hk => hk)⟩
end
set_option maxRecDepth 100000 in
set_option maxHeartbeats 4000000 in
theorem skeeps_walk (A1 : Option Addr) (c1 : Nat) (ls : List (List Int)) (A2 : Option Addr) (c2 : Nat) (k : List Int) (arm : Int) (A4 : Option Addr) (c4 : Nat) (keep : List Bool) (w : World)
    (hn1 : ∀ m ∈ ls, ∀ n ∈ m, 0 ≤ n ∧ n < 18446744073709551616) (hn : ∀ n ∈ k, 0 ≤ n ∧ n < 18446744073709551616) (harm : -9223372036854775808 ≤ arm ∧ arm ≤ 9223372036854775807)
    (hC1 : (Kd.slice 56 (Kd.int .u64)).C w A1 ls.length ls) (hC2 : (Kd.int .u64).C w A2 k.length k) (hC4 : Kd.bool.C w A4 keep.length keep) :
    Calls Try.prog 9 #[.slice A1 ls.length c1, .slice A2 k.length c2, .int .i64 arm, .slice A4 keep.length c4] w fun e w' => e = .returned (.bool true) ∧ Below w.heap.size w w' := by
  have H1 := Aside0.mk hC1
  have H2 := Aside0.mk hC2
  have H4 := Aside0.mk hC4
  have HN1 := Aside0.mk hn1
  have HN := Aside0.mk hn
  have HARM := Aside0.mk harm
  clear hC1 hC2 hC4 hn1 hn harm
  by_cases k1 : (8 : Int) < (ls.length : Int)
  · go_enter Try.func9, Try.ntmps9
    go_wp2_with (go_at_call 36; (with_reducible refine (awake6_calls w).mono ?_); rintro e w1 ⟨rfl, hb⟩; have HB1 := Aside0.mk hb; clear hb)
    go_ret
    exact ⟨rfl, HB1.out⟩
  by_cases k2 : (4 : Int) < (k.length : Int)
  · go_enter Try.func9, Try.ntmps9
    go_wp2_with (go_at_call 36; (with_reducible refine (awake6_calls w).mono ?_); rintro e w1 ⟨rfl, hb⟩; have HB1 := Aside0.mk hb; clear hb)
    go_ret
    exact ⟨rfl, HB1.out⟩
  by_cases k3 : (20 : Int) < (keep.length : Int)
  · go_enter Try.func9, Try.ntmps9
    go_wp2_with (go_at_call 36; (with_reducible refine (awake6_calls w).mono ?_); rintro e w1 ⟨rfl, hb⟩; have HB1 := Aside0.mk hb; clear hb)
    go_ret
    exact ⟨rfl, HB1.out⟩
  have j1 : (ls.length : Int) ≤ 8 := by omega
  have j2 : (k.length : Int) ≤ 4 := by omega
  have j3 : (keep.length : Int) ≤ 20 := by omega
  clear k1 k2 k3
  obtain ⟨s1, s2⟩ := KInv.start
  obtain ⟨D1, e1, hf⟩ : ∃ D1 e1, formatP (newP 4) [] = (D1, e1) := ⟨_, _, rfl⟩
  rw [hf] at s1 s2
  simp only at s1 s2
  subst s1
  have HF := Aside0.mk hf
  have HI0 := Aside0.mk s2
  have HC0 := Aside0.mk (show (newP 4).cache.length ≤ 800 from Nat.zero_le _)
  clear hf s2
  go_enter Try.func9, Try.ntmps9
  go_wp2_with (first
    | (go_at_call 36; (with_reducible refine (awake6_calls w).mono ?_); rintro e w1 ⟨rfl, hb⟩; have HB1 := Aside0.mk hb; clear hb)
    | (go_at_call 15; (with_reducible refine (new_at w w1 4 HB1.out).mono ?_); rintro e w2 ⟨B, M, Bd, rfl, hd⟩; have HD2 := Aside0.mk hd; clear hd)
    | (go_at_call 46; (with_reducible refine (format_nil HF.out HC0.out HD2.out).mono ?_); rintro e w3 ⟨rfl, vc3, hd⟩; have HD3 := Aside0.mk hd; clear hd))
  go_loopg [43] ls.length (fun kq v43 w' => ∃ (i : Nat) (D : PD) (vc : Value) (g : Int) (S : Int → List Int) (lg : List Int), v43 = .int .i64 (i : Int) ∧ Aside0 (i + kq = ls.length) ∧ Aside0 (At w (fun _ => False) w' B M Bd vc D) ∧ Aside0 (KInv D S g lg) ∧ Aside0 (g ≤ i))
  case atStart => exact ⟨0, D1, vc3, 0, _, [], rfl, ⟨by omega⟩, HD3, HI0, ⟨by omega⟩⟩
  case round =>
    obtain ⟨i, D, vc, g, S, lg, rfl, HI, HA, HK, HGI⟩ := hrel
    clear HF HI0 HC0 HD2 HD3 HB1
    have HL := Aside0.mk HK.out.load
    have HOK := Aside0.mk HK.out.ok
    have HC := Aside0.mk (show D.cache.length ≤ 1000 by rw [HK.out.cache]; exact Nat.zero_le _)
    have HC9 := Aside0.mk (show D.cache.length ≤ 900 by rw [HK.out.cache]; exact Nat.zero_le _)
    have hg0 := HK.out.g0
    by_cases hi : i < ls.length
    · obtain ⟨m, hnn⟩ : ∃ m, ls[i]? = some m := ⟨_, List.getElem?_eq_getElem hi⟩
      have hi' : (i : Int) < (ls.length : Int) := by omega
      have hg8 : g ≤ 8 := by have := HGI.out; omega
      have HNM := Aside0.mk (HN1.out m (List.mem_of_getElem? hnn))
      obtain ⟨ad, Am, cm, e, x0, hcap, hCm⟩ := at_rows (Kd.C_below H1.out HA.out.below) i m hnn
      subst e
      have HCM := Aside0.mk hCm
      clear hnn hcap hCm
      by_cases hm4 : (4 : Int) < (m.length : Int)
      · go_wp2_with (first
          | (go_at_call 44; (with_reducible refine (at_load HL.out HOK.out HC.out HA.out).mono ?_); rintro e w6 ⟨A6, c6, rfl, hr, hbl, hd⟩; have HD6 := Aside0.mk hd; clear hr hbl hd))
        go_ret
        exact ⟨rfl, HD6.out.below⟩
      · have hm4' : (m.length : Int) ≤ 4 := by omega
        obtain ⟨s1, s2⟩ := HK.out.save (k := m) (by omega) (by omega) HNM.out
        obtain ⟨D', e', hsv⟩ : ∃ D' e', saveP D (g + 1) m = (D', e') := ⟨_, _, rfl⟩
        rw [hsv] at s1 s2
        simp only at s1 s2
        subst s1
        have HSV := Aside0.mk hsv
        have HK2 := Aside0.mk s2
        have HGR := Aside0.mk (show 0 ≤ g + 1 ∧ g + 1 < 18446744073709551616 by omega)
        clear hsv s2 hm4
        go_wp2_with (first
          | (go_at_call 44; (with_reducible refine (at_load HL.out HOK.out HC.out HA.out).mono ?_); rintro e w6 ⟨A6, c6, rfl, hr, hbl, hd⟩; have HD6 := Aside0.mk hd; have HCM6 := Aside0.mk (Kd.C_below HCM.out hbl); clear hr hbl hd)
          | (go_at_call 42; (with_reducible refine (at_save HSV.out HGR.out HNM.out HCM6.out HC9.out HD6.out).mono ?_); rintro e w7 ⟨rfl, vc7, hd⟩; have HD7 := Aside0.mk hd; clear hd))
        have hk1 := HI.out
        obtain ⟨gq, rfl⟩ : ∃ gq, gk = gq + 1 := ⟨gk - 1, by omega⟩
        go_roundg gq
        case rel => exact ⟨i + 1, D', vc7, g + 1, _, m, by go_num, ⟨by omega⟩, HD7, HK2, ⟨by have := HGI.out; omega⟩⟩
        case measure => omega
    · have hi0 := HI.out
      obtain rfl : gk = 0 := by omega
      obtain rfl : i = ls.length := by omega
      clear hi0 hi
      have hm : ¬ ((ls.length : Int) < (ls.length : Int)) := by omega
      have hg8 : g ≤ 8 := by have := HGI.out; omega
      obtain ⟨D2, e2, hsv⟩ : ∃ D2 e2, saveP (armP D arm) (g + 1) k = (D2, e2) := ⟨_, _, rfl⟩
      have hcr := HK.out.crash (k := k) (by omega) (by omega) HN.out arm keep
      have hc2 := saveP_cache (armP D arm) (g + 1) k
      rw [hsv] at hcr hc2
      simp only at hcr hc2
      have HOK2 := Aside0.mk (show OKD (crashP D2 keep) from by
        have := ((HK.out.ok.arm arm).save (g + 1) k (by omega) HN.out).crash keep
        rwa [hsv] at this)
      have HC9a := Aside0.mk (show (armP D arm).cache.length ≤ 900 from HC9.out)
      have HC2 := Aside0.mk (show D2.cache.length ≤ 1000 from by have := HC9.out; have e : (armP D arm).cache = D.cache := rfl; rw [e] at hc2; omega)
      obtain ⟨D3, hD3⟩ : ∃ D3, crashP D2 keep = D3 := ⟨_, rfl⟩
      rw [hD3] at hcr HOK2
      have HC3 := Aside0.mk (show D3.cache.length ≤ 1000 from by rw [← hD3]; exact Nat.zero_le _)
      have HSV := Aside0.mk hsv
      have HCR := Aside0.mk hD3
      have HGR := Aside0.mk (show 0 ≤ g + 1 ∧ g + 1 < 18446744073709551616 by omega)
      have HFP := Aside0.mk (fun kk (hk : FP B M Bd vc kk) => (HA.out.dk.fp kk hk).2)
      have HLL := Aside0.mk (show lg.length ≤ 1000000 ∧ lg.length ≤ 1000000 by have := HK.out.len; omega)
      have HKL := Aside0.mk (show k.length ≤ 1000000 ∧ k.length ≤ 1000000 by omega)
      clear hsv hD3 hc2
      rcases hcr with ⟨hl3, hne⟩ | hl3
      · have HL3 := Aside0.mk hl3
        have hb : (e2 != 0) = true := by simpa using hne
        have hb2 : (e2 == 0) = false := by simpa using hne
        clear hl3 hne
        go_wp2_with (first
          | (go_at_call 44; (with_reducible refine (at_load HL.out HOK.out HC.out HA.out).mono ?_); rintro e w6 ⟨A6, c6, rfl, hr, hbl, hd⟩; have HD6 := Aside0.mk hd; have HE6 := Aside0.mk (At.refl hd.dk); have HR6a := Aside0.mk hr; clear hr hbl hd) | (go_at_call 16; (with_reducible refine (at_arm arm HARM.out HE6.out).mono ?_); rintro e w7 ⟨rfl, hd⟩; have HE7 := Aside0.mk hd; clear hd) | (go_at_call 42; (with_reducible refine (at_save HSV.out HGR.out HN.out (Kd.C_below H2.out (HD6.out.then_ HE7.out).below) HC9a.out HE7.out).mono ?_); rintro e w8 ⟨rfl, vc8, hd⟩; have HE8 := Aside0.mk hd; clear hd) | (go_at_call 20; (with_reducible refine (at_crash A4 c4 keep HCR.out HC2.out (fun w' hc => Kd.C_below H4.out ((HD6.out.reach hc).below (Nat.le_refl _) (fun _ h => h.elim))) HE8.out).mono ?_); rintro e wx ⟨rfl, hd⟩; have HEx := Aside0.mk hd; clear hd) | (go_at_call 44; (with_reducible refine (at_load HL3.out HOK2.out HC3.out HEx.out).mono ?_); rintro e w9 ⟨A9, c9, rfl, hr, hbl, hd⟩; have HD9 := Aside0.mk (HD6.out.then_ hd); have HR6 := Aside0.mk (Kd.R_reads' (R_past HR6a.out hd.chg HFP.out)).2.2; have HR9 := Aside0.mk (Kd.R_reads' hr).2.2; clear hr hbl hd)
          | (go_at_call 41; (with_reducible refine (same_calls w9 A9 A6 c9 c6 lg lg true (decide_eq_true rfl) HLL.out HR9.out HR6.out).mono ?_); rintro e w10 ⟨rfl, hd⟩; obtain ⟨nd, rfl⟩ := hd))
        go_ret
        exact ⟨rfl, bel_drewN HD9.out.below nd⟩
      · have HL3 := Aside0.mk hl3
        have hgg : (g + 1 == g) = false := by simp; omega
        have hgg2 : (g + 1 != g) = true := by simp; omega
        clear hl3
        go_wp2_with (first
          | (go_at_call 44; (with_reducible refine (at_load HL.out HOK.out HC.out HA.out).mono ?_); rintro e w6 ⟨A6, c6, rfl, hr, hbl, hd⟩; have HD6 := Aside0.mk hd; have HE6 := Aside0.mk (At.refl hd.dk); have HR6a := Aside0.mk hr; clear hr hbl hd) | (go_at_call 16; (with_reducible refine (at_arm arm HARM.out HE6.out).mono ?_); rintro e w7 ⟨rfl, hd⟩; have HE7 := Aside0.mk hd; clear hd) | (go_at_call 42; (with_reducible refine (at_save HSV.out HGR.out HN.out (Kd.C_below H2.out (HD6.out.then_ HE7.out).below) HC9a.out HE7.out).mono ?_); rintro e w8 ⟨rfl, vc8, hd⟩; have HE8 := Aside0.mk hd; clear hd) | (go_at_call 20; (with_reducible refine (at_crash A4 c4 keep HCR.out HC2.out (fun w' hc => Kd.C_below H4.out ((HD6.out.reach hc).below (Nat.le_refl _) (fun _ h => h.elim))) HE8.out).mono ?_); rintro e wx ⟨rfl, hd⟩; have HEx := Aside0.mk hd; clear hd) | (go_at_call 44; (with_reducible refine (at_load HL3.out HOK2.out HC3.out HEx.out).mono ?_); rintro e w9 ⟨A9, c9, rfl, hr, hbl, hd⟩; have HD9 := Aside0.mk (HD6.out.then_ hd); have HR6 := Aside0.mk (Kd.R_reads' (R_past HR6a.out hd.chg HFP.out)).2.2; have HR9 := Aside0.mk (Kd.R_reads' hr).2.2; clear hr hbl hd)
          | (go_at_call 41; (with_reducible refine (same_calls w9 A9 A2 c9 c2 k k true (decide_eq_true rfl) HKL.out HR9.out (Kd.C_below H2.out HD9.out.below)).mono ?_); rintro e w10 ⟨rfl, hd⟩; obtain ⟨nd, rfl⟩ := hd))
        go_ret
        exact ⟨rfl, bel_drewN HD9.out.below nd⟩
end Go.Proofs.Ytlepcmljmibdnaa
