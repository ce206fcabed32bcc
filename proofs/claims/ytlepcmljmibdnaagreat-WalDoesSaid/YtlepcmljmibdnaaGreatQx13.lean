/- Parts of one proof, joined: Qn, Qo, Rdg, Qr. Conditions: those of each statement. -/
import Derived.Test.YtlepcmljmibdnaaGreatQx12
import Derived.Deep.DeepCutAuto
import Derived.Deep.CutBlock
import Derived.Test.YtlepcmljmibdnaaGreatQxFWWords
import Derived.Deep.Slices
import Derived.ChangeArms
import Derived.WalkKit
import Derived.ProofKit
import Derived.OpenShut
import Derived.ShutString
import Derived.ChangeOld
import Derived.Below
namespace Go.Fork
open Go.RowKit Go.Calm
theorem acts {P : Program} {ops : Array Oper} {Q : Exit → Act → World → Prop} {G : World → World → Prop} {xs ys : List Nat} {a : Act} {w : World} {i : Nat} {rest : Tr} {o : Oper} (ho : ops[i]? = some o) (hw : Region.wanted o (yielded ops a.tmps) = true)
    (h : ∀ K : Act → World → Prop, (∀ a' w', Grow G xs ys i w w' → wpT P ops Q G xs ys rest a' w' → K a' w') → o.wp P a w K Q) :
    wpT P ops Q G xs ys (.one i 2 rest) a w := step ho fun K hK => by rw [if_pos hw]; exact h K hK
end Go.Fork
namespace Go.Proofs.YtlepcmljmibdnaaGreat
open Go.RowKit Go.Proofs.YtlepcmljmibdnaaGreatW.PrintWords Go.Proofs.YtlepcmljmibdnaaGreatW.PrintLast Go.Proofs.YtlepcmljmibdnaaGreatW.PrintMore PWalOpens
set_option linter.unusedVariables false
set_option linter.unusedSimpArgs false
/-! ### a deed -/
structure WDeed where
  kind : Int
  l : List (List Int)
  n : Int
  keep : List Bool
def zD : WDeed := ⟨0, [], 0, []⟩
def kD : Kd WDeed := Kd.iso (Kd.pair (Kd.int .i64) (Kd.pair (Kd.slice 58 bytesK) (Kd.pair (Kd.int .i64) (Kd.slice 4 Kd.bool)))) (fun x : WDeed => (x.kind, x.l, x.n, x.keep))
theorem kD_open {w : World} {x : WDeed} {cs : List Value} (h : kD.K w x cs) : ∃ A1 c1 A3 c3, cs = [.int .i64 x.kind, .slice A1 x.l.length c1, .int .i64 x.n, .slice A3 x.keep.length c3] ∧ x.l.length ≤ c1 ∧ bytesK.C w A1 x.l.length x.l ∧ x.keep.length ≤ c3 ∧ Kd.bool.C w A3 x.keep.length x.keep := by
  obtain ⟨_, _, rfl, rfl, ⟨_, _, rfl, ⟨A1, c1, rfl, l1, g1⟩, ⟨_, _, rfl, rfl, ⟨A3, c3, rfl, l3, g3⟩⟩⟩⟩ := h
  exact ⟨A1, c1, A3, c3, rfl, l1, g1, l3, g3⟩
def rd_D (xs : List WDeed) (i : Int) : WDeed := xs.getD i.toNat zD
theorem at_D {w : World} {A : Option Addr} {n : Nat} {xs : List WDeed} (h : Kd.C kD w A n xs) (i : Int) (h0 : 0 ≤ i) (h1 : i < n) : ∃ ad A1 c1 A3 c3, A = some ad ∧ w.cell? (ad.add (i.toNat * 4)) = some (.int .i64 (rd_D xs i).kind) ∧ w.cell? ⟨(ad.add (i.toNat * 4)).block, (ad.add (i.toNat * 4)).off + 1, none⟩ = some (.slice A1 (rd_D xs i).l.length c1) ∧ w.cell? ⟨(ad.add (i.toNat * 4)).block, (ad.add (i.toNat * 4)).off + 2, none⟩ = some (.int .i64 (rd_D xs i).n) ∧ w.cell? ⟨(ad.add (i.toNat * 4)).block, (ad.add (i.toNat * 4)).off + 3, none⟩ = some (.slice A3 (rd_D xs i).keep.length c3) ∧ (rd_D xs i).l.length ≤ c1 ∧ bytesK.C w A1 (rd_D xs i).l.length (rd_D xs i).l ∧ (rd_D xs i).keep.length ≤ c3 ∧ Kd.bool.C w A3 (rd_D xs i).keep.length (rd_D xs i).keep := by
  obtain ⟨ad, c, e, _, hK, hc0⟩ := Kd.C_get h zD i h0 h1
  have hc : ∀ j u, c[j]? = some u → w.cell? (ad.add (i.toNat * 4 + j)) = some u := hc0
  obtain ⟨A1, c1, A3, c3, rfl, l1, g1, l3, g3⟩ := kD_open hK
  exact ⟨ad, A1, c1, A3, c3, e, hc 0 _ rfl, by rw [← add_field _ _ 1 (by omega)]; exact hc 1 _ rfl, by rw [← add_field _ _ 2 (by omega)]; exact hc 2 _ rfl, by rw [← add_field _ _ 3 (by omega)]; exact hc 3 _ rfl, l1, g1, l3, g3⟩
theorem rd_getD (l : List WDeed) (i : Nat) (hi : i < l.length) : l[i]? = some (rd_D l (i : Int)) := by
  simp [rd_D, hi]
/-! ### what a deed may change -/
def isWR (o : Obj) : Prop := isWD o ∨ isRW o
theorem tcRelW (b : Nat) : Fork.Rel (TC b isWR) := ⟨TC.refl b isWR, fun h k => h.trans k⟩
theorem tc_cellT {b : Nat} {T : Obj → Prop} {w W : World} {g off : Nat} {o : Obj} {v : Value} (hW : TC b T w W) (hb : w.heap[g]? = some o) (hT : ¬ T o) (hc : w.cell? ⟨g, off, none⟩ = some v) : W.cell? ⟨g, off, none⟩ = some v := by
  have h := hW.blk g o hb hT
  unfold World.cell? at hc ⊢
  rw [hb] at hc
  rw [h]
  exact hc
theorem notD (c : Array Value) : ¬ isWR (.cells c 40 (0, 0)) := by
  intro h
  rcases h with (h | h) | (h | h) <;> simp [isDisk, isRef, isT] at h
theorem notDR (c : Array Value) : ¬ isDR (.cells c 40 (0, 0)) := by
  intro h
  rcases h with h | h <;> simp [isDisk, isRef] at h
/-- a deed's own box -/
theorem box_blk {w w2 : World} {a0 a1 a2 a3 : Value} (h : Below (w.alloc (.cells #[a0, a1, a2, a3] 40)).heap.size (w.alloc (.cells #[a0, a1, a2, a3] 40)) w2) : w2.heap[w.heap.size]? = some (.cells #[a0, a1, a2, a3] 40 (0, 0)) := by
  have e : (w.alloc (.cells #[a0, a1, a2, a3] 40)).heap[w.heap.size]? = some (.cells #[a0, a1, a2, a3] 40 (0, 0)) := heap_alloc_new w _
  exact (h.block _ (Array.getElem?_eq_some_iff.1 e).1).trans e
theorem box_cells {w : World} {g : Nat} {a0 a1 a2 a3 : Value} (h : w.heap[g]? = some (.cells #[a0, a1, a2, a3] 40 (0, 0))) : w.cell? ⟨g, 0, none⟩ = some a0 ∧ w.cell? ⟨g, 1, none⟩ = some a1 ∧ w.cell? ⟨g, 2, none⟩ = some a2 ∧ w.cell? ⟨g, 3, none⟩ = some a3 := by
  refine ⟨?_, ?_, ?_, ?_⟩ <;> (unfold World.cell?; rw [h]; rfl)
/-! ### both wals -/
structure Pr (w0 w : World) (Wb B M Bd : Nat) (vc vs : Value) (D : PD) (gen head tail : Int) (S : List Int) (over : Bool) (Rb R : Nat) (vS vC vB vL : Value) (X : RX) (rgen rtail : Int) (L : List Rec) (rover : Bool) : Prop where
  wv : WV w0.heap.size w Wb B M Bd vc vs D gen head tail S over
  rv : RV w0.heap.size w Rb R vS vC vB (.slice none 0 0) vL X rgen rtail L rover
  low : Below w0.heap.size w0 w
section
variable {w0 w w' : World} {Wb B M Bd Rb R : Nat} {vc vs vS vC vB vL : Value} {D D' : PD} {X X' : RX} {gen head tail rgen rtail gen' head' tail' code : Int} {S S' : List Int} {L L' : List Rec} {over rover over' : Bool} {args : List Value} {f : Nat}
theorem Pr.fresh (h : Pr w0 w Wb B M Bd vc vs D gen head tail S over Rb R vS vC vB vL X rgen rtail L rover) (hb : Below w.heap.size w w') : Pr w0 w' Wb B M Bd vc vs D gen head tail S over Rb R vS vC vB vL X rgen rtail L rover :=
  ⟨h.wv.fresh hb, h.rv.fresh hb, h.low.trans (hb.mono h.low.size)⟩
theorem Both.fresh (h : Both w0 w B M Bd vc D R vS vC vB X) (hb : Below w.heap.size w w') : Both w0 w' B M Bd vc D R vS vC vB X :=
  ⟨h.dk.chg (.of_below hb), h.rk.fresh hb, h.low.trans (hb.mono h.low.size)⟩
theorem Pr.both (h : Pr w0 w Wb B M Bd vc vs D gen head tail S over Rb R vS vC vB vL X rgen rtail L rover) : Both w0 w B M Bd vc D R vS vC vB X := ⟨h.wv.dk, h.rv.rk, h.low⟩
/-- the disks alone went on -/
theorem Pr.disk {vc' vC' : Value} (h : Pr w0 w Wb B M Bd vc vs D gen head tail S over Rb R vS vC vB vL X rgen rtail L rover) (ht : TC w0.heap.size isDR w w') (hb : Both w0 w' B M Bd vc' D' R vS vC' vB X') : Pr w0 w' Wb B M Bd vc' vs D' gen head tail S over Rb R vS vC' vB vL X' rgen rtail L rover :=
  ⟨⟨ht.blk _ _ h.wv.blk (by simp [isDR, isDisk, isRef]), h.wv.hW, hb.dk, R_tc h.wv.st ht (fun q hq cells => by
      obtain rfl := q56 q hq
      simp [isDR, isDisk, isRef])⟩,
    ⟨ht.blk _ _ h.rv.blk (by simp [isDR, isDisk, isRef]), h.rv.hW, hb.rk, Q_tc h.rv.L ht (fun q hq cells => by rcases q138 q hq with rfl | rfl <;> simp [isDR, isDisk, isRef])⟩, hb.low⟩
theorem pr_real (ha : ∀ (w : World) (Wb B M Bd : Nat) (vc vs : Value), Below w0.heap.size w0 w → WV w0.heap.size w Wb B M Bd vc vs D gen head tail S over → Calls Tryz.prog f (.pointer (some ⟨Wb, 0, none⟩) :: args).toArray w (WdQ w0.heap.size w Wb B M Bd D' code gen' head' tail' S' over'))
    (h : Pr w0 w Wb B M Bd vc vs D gen head tail S over Rb R vS vC vB vL X rgen rtail L rover) :
    Calls Tryz.prog f (.pointer (some ⟨Wb, 0, none⟩) :: args).toArray w fun e w' => e = .returned (.int .i64 code) ∧ TC w0.heap.size isWR w w' ∧ ∃ vc' vs', Pr w0 w' Wb B M Bd vc' vs' D' gen' head' tail' S' over' Rb R vS vC vB vL X rgen rtail L rover := by
  refine (ha w Wb B M Bd vc vs h.low h.wv).mono ?_
  rintro e w' ⟨rfl, ht, vc', vs', hv⟩
  exact ⟨rfl, ht.mono (fun _ h => .inl h), vc', vs', hv, h.rv.wd ht, h.low.trans ht.low⟩
theorem pr_ref (ha : ∀ (w : World) (Rb R : Nat) (vS vC vB vL : Value), Below w0.heap.size w0 w → RV w0.heap.size w Rb R vS vC vB (.slice none 0 0) vL X rgen rtail L rover → Calls Tryz.prog f (.pointer (some ⟨Rb, 0, none⟩) :: args).toArray w (RdQ w0.heap.size w Rb R vS vB X' code gen' tail' L' over'))
    (h : Pr w0 w Wb B M Bd vc vs D gen head tail S over Rb R vS vC vB vL X rgen rtail L rover) :
    Calls Tryz.prog f (.pointer (some ⟨Rb, 0, none⟩) :: args).toArray w fun e w' => e = .returned (.int .i64 code) ∧ TC w0.heap.size isWR w w' ∧ ∃ vC' vL', Pr w0 w' Wb B M Bd vc vs D gen head tail S over Rb R vS vC' vB vL' X' gen' tail' L' over' := by
  refine (ha w Rb R vS vC vB vL h.low h.rv).mono ?_
  rintro e w' ⟨rfl, ht, vC', vL', hv⟩
  exact ⟨rfl, ht.mono (fun _ h => .inr h), vC', vL', h.wv.rw ht, hv, h.low.trans ht.low⟩
end
theorem few_at3 {w0 : World} (A : Option Addr) (c : Nat) (l : List (List Int)) (r : Bool) (hc : l.length ≤ c) (hC : bytesK.C w0 A l.length l) (hr : factotumlaw07_few.f (l.length + 1) l = some r) (w1 : World) (hb : Below w0.heap.size w0 w1) :
    Calls Tryz.prog 14 #[.slice A l.length c] w1 fun e w' => e = .returned (.bool r) ∧ Below w1.heap.size w1 w' := by
  refine (factotumlaw07_few.calls (l.length + 1) A c l r w1 (Kd.C_below hC hb) hc hr).mono ?_
  rintro e w' ⟨rfl, hd⟩
  exact ⟨rfl, hd.below⟩
section
variable {w0 : World} {D : PD} {X : RX} {r gen head tail : Int} {S : List Int} {L : List Rec} {over : Bool} {R : List (List Int)}
theorem deed_add (h : Live D X r gen head tail S L over R) {P : List (List Int)} (hP : RecsOK P) (hg : gen < 18446744073709551614) (htl : tail < 18446744073709551000) {A : Option Addr} {c : Nat} (hC : bytesK.C w0 A P.length P) :
    Deed2 w0 D X r gen head tail S L over 15 16 [.slice A P.length c] := by
  have h1 := deed_put (c := c) h hP hg htl false hC
  simp only [Bool.false_eq_true, if_false] at h1
  exact h1
theorem deed_swap (h : Live D X r gen head tail S L over R) {P : List (List Int)} (hP : RecsOK P) (hg : gen < 18446744073709551614) (htl : tail < 18446744073709551000) {A : Option Addr} {c : Nat} (hC : bytesK.C w0 A P.length P) :
    Deed2 w0 D X r gen head tail S L over 17 18 [.slice A P.length c] := by
  have h1 := deed_put (c := c) h hP hg htl true hC
  simp only [if_true] at h1
  exact h1
end
/-- what holds at the head of each round: v7 .. the slots -/
def DoesI (w : World) (B M Bd R : Nat) (vS vB : Value) (r : Int) (i : Nat) (v7 v8 v9 v12 : Value) (w' : World) : Prop :=
  ∃ (e : Int) (Wb Rb : Nat) (vc vs vC vL : Value) (D : PD) (X : RX) (gen head tail : Int) (S : List Int) (L : List Rec) (over : Bool) (Rl : List (List Int)),
    v7 = .int .i64 e ∧ v8 = .int .i64 e ∧ v9 = .pointer (some ⟨Wb, 0, none⟩) ∧ v12 = .pointer (some ⟨Rb, 0, none⟩) ∧ Aside0 (Live D X r gen head tail S L over Rl) ∧
      Aside0 (Pr w w' Wb B M Bd vc vs D gen head tail S over Rb R vS vC vB vL X gen tail L over) ∧ Aside0 (gen ≤ i ∧ tail ≤ 42 * i)
theorem kinds4 (k : Int) {P : Prop} (h0 : k = 0 → P) (h1 : k = 1 → P) (h2 : k = 2 → P) (h3 : k = 3 → P) (h4 : (k == 0) = false → (k == 1) = false → (k == 2) = false → (k == 3) = false → P) : P := by
  by_cases e0 : k = 0; · exact h0 e0
  by_cases e1 : k = 1; · exact h1 e1
  by_cases e2 : k = 2; · exact h2 e2
  by_cases e3 : k = 3; · exact h3 e3
  exact h4 (by simpa using e0) (by simpa using e1) (by simpa using e2) (by simpa using e3)
end Go.Proofs.YtlepcmljmibdnaaGreat
namespace Go.Proofs.YtlepcmljmibdnaaGreat
open Go.RowKit Go.Proofs.YtlepcmljmibdnaaGreatW.PrintWords Go.Proofs.YtlepcmljmibdnaaGreatW.PrintLast Go.Proofs.YtlepcmljmibdnaaGreatW.PrintMore PWalOpens
set_option linter.unusedVariables false
set_option linter.unusedSimpArgs false
set_option maxRecDepth 100000 in
theorem does_out (n : Int) (A1 : Option Addr) (c1 : Nat) (l1 : List WDeed) (w : World) (h : 40 < n ∨ 25 < (l1.length : Int)) :
    Calls Tryz.prog 3 #[.int .i64 n, .slice A1 l1.length c1] w fun e w' => e = .returned (.bool true) ∧ Below w.heap.size w w' := by
  by_cases hn : 40 < n
  · have b1 : decide (40 < n) = true := decide_eq_true hn
    clear h
    go_enter Tryz.func3, Tryz.ntmps3
    go_wp2_with (first
      | (go_at_call 7; (with_reducible refine (awake7_calls _).mono ?_); rintro e w1 ⟨rfl, hb⟩; have HB1 := Aside0.mk hb; clear hb))
    go_ret
    exact ⟨rfl, HB1.out⟩
  · have b1 : decide (40 < n) = false := decide_eq_false hn
    have b2 : decide (25 < (l1.length : Int)) = true := decide_eq_true (h.resolve_left hn)
    have hn1 : n ≤ 40 := by omega
    have hn2 : 25 < (l1.length : Int) := h.resolve_left hn
    clear h hn
    go_enter Tryz.func3, Tryz.ntmps3
    go_wp2_with (first
      | (go_at_call 7; (with_reducible refine (awake7_calls _).mono ?_); rintro e w1 ⟨rfl, hb⟩; have HB1 := Aside0.mk hb; clear hb))
    go_ret
    exact ⟨rfl, HB1.out⟩
set_option maxRecDepth 100000 in
theorem does_small (n : Int) (A1 : Option Addr) (c1 : Nat) (l1 : List WDeed) (w : World) (hn : n ≤ 40) (hl : (l1.length : Int) ≤ 25) (hs : n < 3) :
    Calls Tryz.prog 3 #[.int .i64 n, .slice A1 l1.length c1] w fun e w' => e = .returned (.bool true) ∧ Below w.heap.size w w' := by
  have b1 : decide (40 < n) = false := decide_eq_false (by omega)
  have b2 : decide (25 < (l1.length : Int)) = false := decide_eq_false (by omega)
  have HW := Aside0.mk (show wformatP (newP n) = (newP n, 51) from by
    unfold wformatP ringP
    rw [if_pos (by show max (min (max n 0) 4096 - 2) 0 < 1; omega)])
  have HX := Aside0.mk (show rwformatX (rnewX (rnewN n)) = (rnewX (rnewN n), 51) from by
    have h := (Twin.new n).ring
    unfold rwformatX
    rw [h]
    unfold ringP
    rw [if_pos (by show max (min (max n 0) 4096 - 2) 0 < 1; omega)])
  have HC0 := Aside0.mk (show (newP n).cache.length ≤ 800 by show 0 ≤ 800; decide)
  have HC1 := Aside0.mk (show (rnewX (rnewN n)).cache.length ≤ 800 by show 0 ≤ 800; decide)
  clear hs
  go_enter Tryz.func3, Tryz.ntmps3
  go_wp2_with (first
    | (go_at_call 7; (with_reducible refine (awake7_calls _).mono ?_); rintro e w1 ⟨rfl, hb⟩; have HB1 := Aside0.mk hb; clear hb)
    | (go_at_call 8; (with_reducible refine (bo_new n HB1.out).mono ?_); rintro e w3 ⟨B, M, Bd, rfl, hd, hb⟩; have HD3 := Aside0.mk hd; have HB3 := Aside0.mk hb; clear hd hb)
    | (go_at_call 9; (with_reducible refine (bo_rnew n HB3.out HD3.out).mono ?_); rintro e w4 ⟨R, vS, vB, rfl, hd⟩; have HB4 := Aside0.mk hd; clear hd)
    | (go_at_call 10; (with_reducible refine (bo_wformat _ HW.out HC0.out HB4.out).mono ?_); rintro e w5 ⟨rfl, vc5, hd⟩; have HBW5 := Aside0.mk hd; clear hd)
    | (go_at_call 11; (with_reducible refine (bo_rwformat _ HX.out HC1.out HBW5.out).mono ?_); rintro e w6 ⟨rfl, vC6, hd⟩; have HB5 := Aside0.mk hd; clear hd))
  go_ret
  exact ⟨rfl, HB5.out.low⟩
set_option maxRecDepth 100000 in
set_option maxHeartbeats 8000000 in
theorem does_main (n : Int) (A1 : Option Addr) (c1 : Nat) (l1 : List WDeed) (w : World) (h1 : Kd.C kD w A1 l1.length l1) (hn : n ≤ 40) (hl : (l1.length : Int) ≤ 25) (hs : 3 ≤ n) (hok : ∀ x ∈ l1, -9223372036854775808 ≤ x.n ∧ x.n ≤ 9223372036854775807) (hby : ∀ x ∈ l1, ∀ b ∈ x.l, isBytes b) :
    Calls Tryz.prog 3 #[.int .i64 n, .slice A1 l1.length c1] w fun e w' => e = .returned (.bool true) ∧ Below w.heap.size w w' := by
  have b1 : decide (40 < n) = false := decide_eq_false (by omega)
  have b2 : decide (25 < (l1.length : Int)) = false := decide_eq_false (by omega)
  obtain ⟨D1, S1, hf, i1⟩ := winv_start (n := n) (r := n - 2) (by omega) (by omega)
  obtain ⟨t1, t2⟩ := (Twin.new n).wformat
  obtain ⟨X1, ex, hx1⟩ : ∃ X1 ex, rwformatX (rnewX (rnewN n)) = (X1, ex) := ⟨_, _, rfl⟩
  rw [hf, hx1] at t1 t2
  simp only at t1 t2
  subst t1
  have hsm : Same D1 X1 (n - 2) 0 0 [] [] false := ⟨t2, i1.rdy.n, by omega, rfl, rfl, by omega, by omega, by omega, fun _ => i1.cache, by rw [i1.cache]; decide⟩
  have HLV := Aside0.mk (show Live D1 X1 (n - 2) 0 0 0 [] [] false [] from ⟨hsm, by omega, fun _ => ⟨S1, i1.q, rfl, rfl⟩, fun ks => ⟨_, _, _, _, _, i1.q.crash ks, by omega, by omega⟩, by omega, by simp⟩)
  have HW := Aside0.mk hf
  have HX := Aside0.mk hx1
  have HC0 := Aside0.mk (show (newP n).cache.length ≤ 800 by show 0 ≤ 800; decide)
  have HC1 := Aside0.mk (show (rnewX (rnewN n)).cache.length ≤ 800 by show 0 ≤ 800; decide)
  have HO1 := Aside0.mk i1.open_
  have HI1 := Aside0.mk i1
  have HRO1 := Aside0.mk (ropen_start t2 i1)
  have HRX1 := Aside0.mk (t2.rdx (by rw [i1.cache]; decide))
  have HD1C := Aside0.mk (show D1.cache.length ≤ 1000 by rw [i1.cache]; decide)
  have H1 := Aside0.mk h1
  have HOKA := Aside0.mk hok
  have HBYA := Aside0.mk hby
  have HL25 := Aside0.mk (show l1.length ≤ 25 by omega)
  clear hn hs hf i1 t2 hx1 hsm h1 hok hby
  go_enter Tryz.func3, Tryz.ntmps3
  go_wp2_with (first
    | (go_at_call 7; (with_reducible refine (awake7_calls _).mono ?_); rintro e w1 ⟨rfl, hb⟩; have HB1 := Aside0.mk hb; clear hb)
    | (go_at_call 8; (with_reducible refine (bo_new n HB1.out).mono ?_); rintro e w3 ⟨B, M, Bd, rfl, hd, hb⟩; have HD3 := Aside0.mk hd; have HB3 := Aside0.mk hb; clear hd hb)
    | (go_at_call 9; (with_reducible refine (bo_rnew n HB3.out HD3.out).mono ?_); rintro e w4 ⟨R, vS, vB, rfl, hd⟩; have HB4 := Aside0.mk hd; clear hd)
    | (go_at_call 10; (with_reducible refine (bo_wformat _ HW.out HC0.out HB4.out).mono ?_); rintro e w5 ⟨rfl, vc5, hd⟩; have HBW5 := Aside0.mk hd; clear hd)
    | (go_at_call 11; (with_reducible refine (bo_rwformat _ HX.out HC1.out HBW5.out).mono ?_); rintro e w6 ⟨rfl, vC6, hd⟩; have HB5 := Aside0.mk hd; clear hd)
    | (go_at_call 12; (with_reducible refine (open_calls HO1.out HI1.out.ok HD1C.out HB5.out.dk).mono ?_); rintro e w7 hq; obtain ⟨Wb, vs7, vo7, rfl, hv, hb, hr⟩ := op_ok (n0 := w.heap.size) hq rfl HB5.out.low.size HB5.out.dk; have HV7 := Aside0.mk (show WV w.heap.size w7 Wb B M Bd vc5 vs7 D1 0 0 0 [] false from hv); have HB7 := Aside0.mk (HB5.out.fresh hb); clear hq hv hb hr)
    | (go_at_call 13; (with_reducible refine (rowal_calls HRO1.out HRX1.out HB7.out.rk).mono ?_); rintro e w8 hq; obtain ⟨Rb, vL8, rfl, hv, hb⟩ := row_ok hq rfl HB7.out.low.size HB7.out.rk; have HP8 := Aside0.mk (Pr.mk (HV7.out.fresh hb) (show RV w.heap.size w8 Rb R vS vC6 vB (.slice none 0 0) vL8 X1 0 0 [] false from hv) (HB7.out.fresh hb).low); clear hq hv hb))
  go_loopg [7, 8, 9, 12, 64] l1.length (fun kq v7 v8 v9 v12 v64 w' => ∃ (i : Nat), v64 = .int .i64 (i : Int) ∧ Aside0 (i + kq = l1.length) ∧ DoesI w B M Bd R vS vB (n - 2) i v7 v8 v9 v12 w')
  case atStart => exact ⟨0, rfl, ⟨by omega⟩, _, _, _, _, _, _, _, _, _, _, _, _, _, _, _, _, rfl, rfl, rfl, rfl, HLV, HP8, ⟨by omega, by omega⟩⟩
  case round =>
    clear HP8 HLV HB5 HB7 HV7 HBW5 HB4 HW HX HC0 HC1 HO1 HI1 HRO1 HRX1 HD1C
    obtain ⟨i, rfl, HI, hdo⟩ := hrel
    obtain ⟨e0, Wb, Rb, vc, vs, vC, vL, D, X, gen, head, tail, S, L, over, Rl, rfl, rfl, rfl, rfl, HLV, HP, HG⟩ := hdo
    by_cases hi : i < l1.length
    · obtain ⟨ad, Ab, cb, Ac, cc, e, x0, x1, x2, x3, hl1', hi1, hl3, hi3⟩ := at_D H1.out (i : Int) (by omega) (by omega)
      subst e
      have hx := rd_getD l1 i hi
      generalize rd_D l1 (i : Int) = x at x0 x1 x2 x3 hl1' hi1 hl3 hi3 hx
      rw [Int.toNat_natCast] at x0 x1 x2 x3
      replace x0 := (HP.out.low.cell (World.block_lt_of_cell? w _ x0)).trans x0
      replace x1 := (HP.out.low.cell (World.block_lt_of_cell? w _ x1)).trans x1
      replace x2 := (HP.out.low.cell (World.block_lt_of_cell? w _ x2)).trans x2
      replace x3 := (HP.out.low.cell (World.block_lt_of_cell? w _ x3)).trans x3
      have HX := Aside0.mk hx
      have HCL := Aside0.mk hi1
      have HCK := Aside0.mk hi3
      have HF3 := Aside0.mk (HOKA.out x (List.mem_of_getElem? hx))
      have HGB := Aside0.mk (show gen < 18446744073709551614 ∧ tail < 18446744073709551000 by have := HG.out; have := HL25.out; omega)
      obtain ⟨r1, hr1, hq1⟩ := few7_f x.l hi1.2.1
      have HFEW := Aside0.mk (few_at3 Ab cb x.l r1 hl1' hi1 hr1)
      have HPA := Aside0.mk (HP.out.fresh (Below.alloc (Below.refl wr.heap.size wr) (Nat.le_refl _) (.cells #[.int .i64 x.kind, .slice Ab x.l.length cb, .int .i64 x.n, .slice Ac x.keep.length cc] 40)))
      have HBX := Aside0.mk HPA.out.low
      have HBY := Aside0.mk (HBYA.out x (List.mem_of_getElem? hx))
      clear hl1' hi1 hl3 hi3 hx hr1
      by_cases hrk : r1 = false ∨ 40 < (x.keep.length : Int)
      · clear hq1
        cases r1 with
        | false =>
          clear hrk
          go_wp2_with (first
            | (go_at_call 14; (with_reducible refine (HFEW.out _ HBX.out).mono ?_); rintro e w2 ⟨rfl, hb⟩; have HBK := Aside0.mk (box_blk hb); obtain ⟨y0, y1, y2, y3⟩ := box_cells HBK.out; have HP2 := Aside0.mk (HPA.out.fresh hb); clear hb))
          go_ret
          exact ⟨rfl, HP2.out.low⟩
        | true =>
          have b3 : decide (40 < (x.keep.length : Int)) = true := decide_eq_true (hrk.resolve_left (fun h => by cases h))
          clear hrk
          go_wp2_with (first
            | (go_at_call 14; (with_reducible refine (HFEW.out _ HBX.out).mono ?_); rintro e w2 ⟨rfl, hb⟩; have HBK := Aside0.mk (box_blk hb); obtain ⟨y0, y1, y2, y3⟩ := box_cells HBK.out; have HP2 := Aside0.mk (HPA.out.fresh hb); clear hb))
          go_ret
          exact ⟨rfl, HP2.out.low⟩
      obtain rfl : r1 = true := by cases r1 with
        | false => exact absurd (.inl rfl) hrk
        | true => rfl
      have b3 : decide (40 < (x.keep.length : Int)) = false := decide_eq_false (fun h => hrk (.inr h))
      have HREC := Aside0.mk (show RecsOK x.l from ⟨(hq1 rfl).1, fun b hb => ⟨HBY.out b hb, (hq1 rfl).2 b hb⟩⟩)
      clear hq1 hrk
      go_upto_block 2 with (first
        | (go_at_call 14; (with_reducible refine (HFEW.out _ HBX.out).mono ?_); rintro e w2 ⟨rfl, hb⟩; have HBK := Aside0.mk (box_blk hb); obtain ⟨y0, y1, y2, y3⟩ := box_cells HBK.out; have HP2 := Aside0.mk (HPA.out.fresh hb); clear hb))
      go_cut [7, 8, 9, 12] (fun v7 v8 v9 v12 wz => DoesI w B M Bd R vS vB (n - 2) (i + 1) v7 v8 v9 v12 wz)
      case first =>
        refine kinds4 x.kind (fun hk => ?_) (fun hk => ?_) (fun hk => ?_) (fun hk => ?_) (fun n0 n1 n2 n3 => ?_)
        · have b00 : (x.kind == 0) = true := by rw [hk]; rfl
          obtain ⟨D5, X5, code, gen5, head5, tail5, S5, L5, over5, R5, hlv, hg5, ht5, ha, hra⟩ := deed_add (c := cb) HLV.out HREC.out HGB.out.1 HGB.out.2 HCL.out
          have HLz := Aside0.mk hlv
          have HADD := Aside0.mk ha
          have HRADD := Aside0.mk hra
          have HGz := Aside0.mk (show gen5 ≤ (i + 1 : Nat) ∧ tail5 ≤ 42 * (i + 1 : Nat) by have := HG.out; omega)
          have HBD := Aside0.mk (show w2.drew.heap[wr.heap.size]? = _ from HBK.out)
          have HY := Aside0.mk (show w2.drew.cell? ⟨wr.heap.size, 1, none⟩ = _ from y1)
          have HPd := Aside0.mk (HP2.out.fresh (Below.refl _ _).drew)
          clear hlv ha hra hg5 ht5 hk
          go_wp2
          refine Fork.wp_fork (tcRelW w.heap.size) [3, 7] [] (.one 0 0 (.one 1 0 (.one 4 0 (.one 5 0 (.one 2 3 (.one 6 3 (.one 3 2 (.one 7 2 (.one 8 0 (.one 9 0 .nil)))))))))) (by kernel_rfl) (by kernel_rfl) ?_
          generalize hops : List.toArray (_ : List Oper) = ops
          have HO := Aside0.mk hops
          clear hops
          iterate 4 ((refine Fork.plain (Fork.at_ HO.out rfl) _ rfl (fun W => by go_simp; exact rfl) ?_); simp only [Act.put, List.setIfInBounds_toArray, List.set_cons_succ, List.set_cons_zero])
          refine Fork.olds (Fork.at_ HO.out rfl) _ rfl (fun W hW => Arr.ex_load1 rfl rfl (by kernel_rfl) (tc_cellT hW HBD.out (notD _) HY.out)) ?_
          simp only [Act.put, List.setIfInBounds_toArray, List.set_cons_succ, List.set_cons_zero]
          refine Fork.olds (Fork.at_ HO.out rfl) _ rfl (fun W hW => Arr.ex_load1 rfl rfl (by kernel_rfl) (tc_cellT hW HBD.out (notD _) HY.out)) ?_
          simp only [Act.put, List.setIfInBounds_toArray, List.set_cons_succ, List.set_cons_zero]
          refine Fork.step (Fork.at_ HO.out rfl) (fun K hK => ?_)
          go_simp
          refine (pr_real HADD.out HPd.out).mono ?_
          rintro r w5 ⟨rfl, ht, vc5, vs5, hp⟩
          refine hK _ _ (.of_old ht rfl) ?_
          clear hK K
          have HP5 := Aside0.mk hp
          clear ht hp
          try simp only [Act.put, List.setIfInBounds_toArray, List.set_cons_succ, List.set_cons_zero]
          refine Fork.step (Fork.at_ HO.out rfl) (fun K hK => ?_)
          go_simp
          refine (pr_ref HRADD.out HP5.out).mono ?_
          rintro r wz ⟨rfl, ht, vC5, vL5, hp⟩
          refine hK _ _ (.of_old ht rfl) ?_
          clear hK K
          have HPz := Aside0.mk hp
          clear ht hp
          try simp only [Act.put, List.setIfInBounds_toArray, List.set_cons_succ, List.set_cons_zero]
          iterate 2 ((refine Fork.plain (Fork.at_ HO.out rfl) _ rfl (fun W => by go_simp; exact rfl) ?_); simp only [Act.put, List.setIfInBounds_toArray, List.set_cons_succ, List.set_cons_zero])
          refine Fork.done ?_
          go_wp2
          go_meet
          case rel => exact ⟨_, _, _, _, _, _, _, _, _, _, _, _, _, _, _, _, rfl, rfl, rfl, rfl, HLz, HPz, HGz⟩
        · have b00 : (x.kind == 0) = false := by rw [hk]; rfl
          have b10 : (x.kind == 1) = true := by rw [hk]; rfl
          obtain ⟨D5, X5, code, gen5, head5, tail5, S5, L5, over5, R5, hlv, hg5, ht5, ha, hra⟩ := deed_swap (c := cb) HLV.out HREC.out HGB.out.1 HGB.out.2 HCL.out
          have HLz := Aside0.mk hlv
          have HADD := Aside0.mk ha
          have HRADD := Aside0.mk hra
          have HGz := Aside0.mk (show gen5 ≤ (i + 1 : Nat) ∧ tail5 ≤ 42 * (i + 1 : Nat) by have := HG.out; omega)
          have HBD := Aside0.mk (show w2.drew.heap[wr.heap.size]? = _ from HBK.out)
          have HY := Aside0.mk (show w2.drew.cell? ⟨wr.heap.size, 1, none⟩ = _ from y1)
          have HPd := Aside0.mk (HP2.out.fresh (Below.refl _ _).drew)
          clear hlv ha hra hg5 ht5 hk
          go_wp2
          refine Fork.wp_fork (tcRelW w.heap.size) [3, 7] [] (.one 0 0 (.one 1 0 (.one 4 0 (.one 5 0 (.one 2 3 (.one 6 3 (.one 3 2 (.one 7 2 (.one 8 0 (.one 9 0 .nil)))))))))) (by kernel_rfl) (by kernel_rfl) ?_
          generalize hops : List.toArray (_ : List Oper) = ops
          have HO := Aside0.mk hops
          clear hops
          iterate 4 ((refine Fork.plain (Fork.at_ HO.out rfl) _ rfl (fun W => by go_simp; exact rfl) ?_); simp only [Act.put, List.setIfInBounds_toArray, List.set_cons_succ, List.set_cons_zero])
          refine Fork.olds (Fork.at_ HO.out rfl) _ rfl (fun W hW => Arr.ex_load1 rfl rfl (by kernel_rfl) (tc_cellT hW HBD.out (notD _) HY.out)) ?_
          simp only [Act.put, List.setIfInBounds_toArray, List.set_cons_succ, List.set_cons_zero]
          refine Fork.olds (Fork.at_ HO.out rfl) _ rfl (fun W hW => Arr.ex_load1 rfl rfl (by kernel_rfl) (tc_cellT hW HBD.out (notD _) HY.out)) ?_
          simp only [Act.put, List.setIfInBounds_toArray, List.set_cons_succ, List.set_cons_zero]
          refine Fork.step (Fork.at_ HO.out rfl) (fun K hK => ?_)
          go_simp
          refine (pr_real HADD.out HPd.out).mono ?_
          rintro r w5 ⟨rfl, ht, vc5, vs5, hp⟩
          refine hK _ _ (.of_old ht rfl) ?_
          clear hK K
          have HP5 := Aside0.mk hp
          clear ht hp
          try simp only [Act.put, List.setIfInBounds_toArray, List.set_cons_succ, List.set_cons_zero]
          refine Fork.step (Fork.at_ HO.out rfl) (fun K hK => ?_)
          go_simp
          refine (pr_ref HRADD.out HP5.out).mono ?_
          rintro r wz ⟨rfl, ht, vC5, vL5, hp⟩
          refine hK _ _ (.of_old ht rfl) ?_
          clear hK K
          have HPz := Aside0.mk hp
          clear ht hp
          try simp only [Act.put, List.setIfInBounds_toArray, List.set_cons_succ, List.set_cons_zero]
          iterate 2 ((refine Fork.plain (Fork.at_ HO.out rfl) _ rfl (fun W => by go_simp; exact rfl) ?_); simp only [Act.put, List.setIfInBounds_toArray, List.set_cons_succ, List.set_cons_zero])
          refine Fork.done ?_
          go_wp2
          go_meet
          case rel => exact ⟨_, _, _, _, _, _, _, _, _, _, _, _, _, _, _, _, rfl, rfl, rfl, rfl, HLz, HPz, HGz⟩
        · have b00 : (x.kind == 0) = false := by rw [hk]; rfl
          have b10 : (x.kind == 1) = false := by rw [hk]; rfl
          have b20 : (x.kind == 2) = true := by rw [hk]; rfl
          obtain ⟨D5, X5, code, gen5, head5, tail5, S5, L5, over5, R5, hlv, hg5, ht5, ha, hra⟩ := deed_cut (w0 := w) HLV.out HGB.out.1 HGB.out.2 x.n
          have HLz := Aside0.mk hlv
          have HADD := Aside0.mk ha
          have HRADD := Aside0.mk hra
          have HGz := Aside0.mk (show gen5 ≤ (i + 1 : Nat) ∧ tail5 ≤ 42 * (i + 1 : Nat) by have := HG.out; omega)
          have HBD := Aside0.mk (show w2.drew.heap[wr.heap.size]? = _ from HBK.out)
          have HY := Aside0.mk (show w2.drew.cell? ⟨wr.heap.size, 2, none⟩ = _ from y2)
          have HPd := Aside0.mk (HP2.out.fresh (Below.refl _ _).drew)
          clear hlv ha hra hg5 ht5 hk
          go_wp2
          refine Fork.wp_fork (tcRelW w.heap.size) [3, 7] [] (.one 0 0 (.one 1 0 (.one 4 0 (.one 5 0 (.one 2 3 (.one 6 3 (.one 3 2 (.one 7 2 (.one 8 0 (.one 9 0 .nil)))))))))) (by kernel_rfl) (by kernel_rfl) ?_
          generalize hops : List.toArray (_ : List Oper) = ops
          have HO := Aside0.mk hops
          clear hops
          iterate 4 ((refine Fork.plain (Fork.at_ HO.out rfl) _ rfl (fun W => by go_simp; exact rfl) ?_); simp only [Act.put, List.setIfInBounds_toArray, List.set_cons_succ, List.set_cons_zero])
          refine Fork.olds (Fork.at_ HO.out rfl) _ rfl (fun W hW => Arr.ex_load1 rfl rfl (by kernel_rfl) (tc_cellT hW HBD.out (notD _) HY.out)) ?_
          simp only [Act.put, List.setIfInBounds_toArray, List.set_cons_succ, List.set_cons_zero]
          refine Fork.olds (Fork.at_ HO.out rfl) _ rfl (fun W hW => Arr.ex_load1 rfl rfl (by kernel_rfl) (tc_cellT hW HBD.out (notD _) HY.out)) ?_
          simp only [Act.put, List.setIfInBounds_toArray, List.set_cons_succ, List.set_cons_zero]
          refine Fork.step (Fork.at_ HO.out rfl) (fun K hK => ?_)
          go_simp
          refine (pr_real HADD.out HPd.out).mono ?_
          rintro r w5 ⟨rfl, ht, vc5, vs5, hp⟩
          refine hK _ _ (.of_old ht rfl) ?_
          clear hK K
          have HP5 := Aside0.mk hp
          clear ht hp
          try simp only [Act.put, List.setIfInBounds_toArray, List.set_cons_succ, List.set_cons_zero]
          refine Fork.step (Fork.at_ HO.out rfl) (fun K hK => ?_)
          go_simp
          refine (pr_ref HRADD.out HP5.out).mono ?_
          rintro r wz ⟨rfl, ht, vC5, vL5, hp⟩
          refine hK _ _ (.of_old ht rfl) ?_
          clear hK K
          have HPz := Aside0.mk hp
          clear ht hp
          try simp only [Act.put, List.setIfInBounds_toArray, List.set_cons_succ, List.set_cons_zero]
          iterate 2 ((refine Fork.plain (Fork.at_ HO.out rfl) _ rfl (fun W => by go_simp; exact rfl) ?_); simp only [Act.put, List.setIfInBounds_toArray, List.set_cons_succ, List.set_cons_zero])
          refine Fork.done ?_
          go_wp2
          go_meet
          case rel => exact ⟨_, _, _, _, _, _, _, _, _, _, _, _, _, _, _, _, rfl, rfl, rfl, rfl, HLz, HPz, HGz⟩
        · have b00 : (x.kind == 0) = false := by rw [hk]; rfl
          have b10 : (x.kind == 1) = false := by rw [hk]; rfl
          have b20 : (x.kind == 2) = false := by rw [hk]; rfl
          have b30 : (x.kind == 3) = true := by rw [hk]; rfl
          have HLz := Aside0.mk (HLV.out.arm x.n HF3.out)
          have HGz := Aside0.mk (show gen ≤ (i + 1 : Nat) ∧ tail ≤ 42 * (i + 1 : Nat) by have := HG.out; omega)
          clear hk
          go_wp2_with (first
            | (go_at_call 21; with_reducible refine (bo_arm x.n HF3.out rfl HP2.out.both).mono ?_; rintro r w5 ⟨rfl, ht, hb⟩; have HP5 := Aside0.mk (HP2.out.disk ht hb); have z2 := tc_cellT ht HBK.out (notDR _) y2; clear ht hb)
            | (go_at_call 22; with_reducible refine (bo_rarm x.n HF3.out rfl HP5.out.both).mono ?_; rintro r wz ⟨rfl, ht, hb⟩; have HPz := Aside0.mk (HP5.out.disk ht hb); clear ht hb))
          go_meet
          case rel => exact ⟨_, _, _, _, _, _, _, _, _, _, _, _, _, _, _, _, rfl, rfl, rfl, rfl, HLz, HPz, HGz⟩
        · obtain ⟨g5, h5, t5, R5, L5, ho, hro, hL5, htw, hg5, ht5, hlv⟩ := HLV.out.crash x.keep
          have HLz := Aside0.mk hlv
          have HGz := Aside0.mk (show g5 ≤ (i + 1 : Nat) ∧ t5 ≤ 42 * (i + 1 : Nat) by have := HG.out; omega)
          have HOP := Aside0.mk ho
          have HRO := Aside0.mk hro
          have HOK := Aside0.mk htw.ok
          have HRX := Aside0.mk (htw.rdx (show (crashP D x.keep).cache.length ≤ 1000 from Nat.zero_le _))
          have HCD := Aside0.mk (show (crashP D x.keep).cache.length ≤ 1000 from Nat.zero_le _)
          have HLD := Aside0.mk (show D.cache.length ≤ 1000 by have := HLV.out.same.few; omega)
          have HLX := Aside0.mk (show X.cache.length ≤ 1000 by rw [← HLV.out.same.twin.corr.cache]; exact HLD.out)
          have hl5 : L5.length ≤ 4094 := by rw [hlv.same.len]; exact hlv.sl
          have HQL := Aside0.mk (show L5.length ≤ 100000 by omega)
          have HRL := Aside0.mk (show R5.length ≤ 1000000 ∧ L5.length ≤ 1000000 from ⟨by rw [← hL5, List.length_map]; omega, by omega⟩)
          have HST := Aside0.mk (show sameT R5 (L5.map (·.1)) = true from by rw [hL5]; exact sameT_refl R5)
          have HML := Aside0.mk (show (L5.map (·.1)).length = L5.length from List.length_map _)
          clear hlv hg5 ht5 ho hro htw hl5 hL5
          go_wp2_with (first
            | (go_at_call 23; with_reducible refine (bo_crash Ac cc x.keep rfl HLD.out HCK.out HP2.out.both).mono ?_; rintro r w5 ⟨rfl, ht, hb⟩; have HB5 := Aside0.mk hb; have z3 := tc_cellT ht HBK.out (notDR _) y3; clear ht hb)
            | (go_at_call 24; with_reducible refine (bo_rcrash Ac cc x.keep rfl HLX.out HCK.out HB5.out).mono ?_; rintro r w6 ⟨rfl, ht, hb⟩; have HB6 := Aside0.mk hb; clear ht hb)
            | (go_at_call 12; (with_reducible refine (open_calls HOP.out HOK.out HCD.out HB6.out.dk).mono ?_); rintro e w15 hq; obtain ⟨Wb5, vs15, vo15, rfl, hv, hb, hr⟩ := op_ok (n0 := w.heap.size) hq rfl HB6.out.low.size HB6.out.dk; have HB15 := Aside0.mk (HB6.out.fresh hb); have HV15 := Aside0.mk hv; obtain ⟨A15, c15, hvo, hcap, hC⟩ := Kd.R_reads (show Kd.R bytesK 58 w15 w6.heap.size (fun _ => True) vo15 R5 from hr); subst hvo; have HC15 := Aside0.mk hC; clear hq hv hb hr hcap hC)
            | (go_at_call 13; (with_reducible refine (rowal_calls HRO.out HRX.out HB15.out.rk).mono ?_); rintro e w16 hq; obtain ⟨Rb6, vL16, rfl, hv, hb⟩ := row_ok hq rfl HB15.out.low.size HB15.out.rk; have HP16 := Aside0.mk (Pr.mk (HV15.out.fresh hb) (show RV w.heap.size w16 Rb6 R vS (.slice none 0 0) vB (.slice none 0 0) vL16 (rcrashX X x.keep) g5 t5 L5 false from hv) (HB15.out.fresh hb).low); have HC16 := Aside0.mk (Kd.C_below HC15.out hb); clear hq hv hb)
            | (go_at_call 26; (with_reducible refine (records_calls HQL.out HP16.out.rv).mono ?_); rintro e w17 ⟨A17, c17, rfl, hC, hb⟩; have HP17 := Aside0.mk (HP16.out.fresh hb); have HC17 := Aside0.mk (Kd.C_below HC16.out hb); have HM17 := Aside0.mk hC; clear hC hb)
            | (go_at_call 25; (with_reducible refine (sametexts2 HST.out HML.out HRL.out HC17.out HM17.out).mono ?_); rintro e w18 ⟨rfl, hd⟩; have HPz := Aside0.mk (HP17.out.fresh hd.below); clear hd))
          go_meet
          case rel => exact ⟨_, _, _, _, _, _, _, _, _, _, _, _, _, _, _, _, rfl, rfl, rfl, rfl, HLz, HPz, HGz⟩
      case rest =>
        obtain ⟨e5, Wb5, Rb5, vc5, vs5, vC5, vL5, D5, X5, gen5, head5, tail5, S5, L5, over5, Rl5, rfl, rfl, rfl, rfl, HLz, HPz, HGz⟩ := hcut
        have HPw := Aside0.mk (HPz.out.fresh (Below.refl wc.heap.size wc).drew)
        obtain ⟨AL, cL, hvL, _⟩ := Kd.Q_slice HPw.out.rv.L
        have hlen : L5.length = S5.length := HLz.out.same.len
        have HRING := Aside0.mk HLz.out.same.ringP
        have HRINGX := Aside0.mk HLz.out.same.ringX
        have HHD := Aside0.mk HLz.out.same.hd
        have HBW := Aside0.mk (show 0 ≤ head5 ∧ head5 ≤ tail5 ∧ tail5 < 18446744073709551616 ∧ tail5 - head5 ≤ 4094 by
          have h1 := HLz.out.same.h0; have h2 := HLz.out.same.le; have h3 := HLz.out.same.fit; have h4 := HLz.out.r4; have h5 := HGz.out; have h6 := HL25.out; omega)
        have HBR := Aside0.mk (show 0 ≤ head5 ∧ head5 ≤ tail5 ∧ tail5 < 18446744073709551616 ∧ tail5 - head5 ≤ n - 2 by
          have h1 := HBW.out; have h3 := HLz.out.same.fit; omega)
        obtain ⟨p0, p1, p2, p3, p4⟩ := (cells5 HPw.out.rv.blk).1
        rw [hvL, hlen] at p3
        clear hvL hlen p0 p1 p2 p4
        go_wp2
        refine Fork.wp_fork (Fork.Lo.rel 0) [] [] (.one 0 0 (.one 1 0 (.one 2 0 (.one 3 0 (.one 4 0 (.one 6 0 (.one 7 0 (.one 8 0 (.one 9 1 (.one 10 0 (.one 5 2 (.one 11 0 (.one 12 0 (.one 13 0 (.one 14 0 (.one 16 0 (.one 15 2 (.one 17 2 (.one 18 0 (.one 19 0 .nil)))))))))))))))))))) (by kernel_rfl) (by kernel_rfl) ?_
        generalize hops : List.toArray (_ : List Oper) = ops
        have HO := Aside0.mk hops
        clear hops
        iterate 4 ((refine Fork.plain (Fork.at_ HO.out rfl) _ rfl (fun W => by go_simp; exact rfl) ?_); simp only [Act.put, List.setIfInBounds_toArray, List.set_cons_succ, List.set_cons_zero])
        refine Fork.plain (Fork.at_ HO.out rfl) _ (by have q := Fork.at_ (i := 3) HO.out rfl; simp [Region.wanted, yielded, q, undef]) (fun W => by go_simp; exact rfl) ?_
        simp only [Act.put, List.setIfInBounds_toArray, List.set_cons_succ, List.set_cons_zero]
        refine Fork.plain (Fork.at_ HO.out rfl) _ (by have q := Fork.at_ (i := 3) HO.out rfl; simp [Region.wanted, yielded, q, undef]) (fun W => by go_simp; exact rfl) ?_
        simp only [Act.put, List.setIfInBounds_toArray, List.set_cons_succ, List.set_cons_zero]
        refine Fork.plain (Fork.at_ HO.out rfl) _ (by have q := Fork.at_ (i := 3) HO.out rfl; simp [Region.wanted, yielded, q, undef]) (fun W => by go_simp; exact rfl) ?_
        simp only [Act.put, List.setIfInBounds_toArray, List.set_cons_succ, List.set_cons_zero]
        refine Fork.plain (Fork.at_ HO.out rfl) _ (by have q := Fork.at_ (i := 3) HO.out rfl; simp [Region.wanted, yielded, q, undef]) (fun W => by go_simp; exact rfl) ?_
        simp only [Act.put, List.setIfInBounds_toArray, List.set_cons_succ, List.set_cons_zero]
        refine Fork.reads (Fork.at_ HO.out rfl) _ (by have q := Fork.at_ (i := 3) HO.out rfl; simp [Region.wanted, yielded, q, undef]) (fun W hW => Arr.ex_load1 rfl rfl (by kernel_rfl) (Fork.bel_cell hW (by assumption))) ?_
        simp only [Act.put, List.setIfInBounds_toArray, List.set_cons_succ, List.set_cons_zero]
        refine Fork.plain (Fork.at_ HO.out rfl) _ (by have q := Fork.at_ (i := 3) HO.out rfl; simp [Region.wanted, yielded, q, undef]) (fun W => by go_simp; exact rfl) ?_
        simp only [Act.put, List.setIfInBounds_toArray, List.set_cons_succ, List.set_cons_zero]
        refine Fork.acts (Fork.at_ HO.out rfl) (by have q := Fork.at_ (i := 3) HO.out rfl; simp [Region.wanted, yielded, q, undef]) (fun K hK => ?_)
        go_simp
        refine (wlen_calls HPw.out.wv).mono ?_
        rintro r w' ⟨rfl, rfl⟩
        refine hK _ _ (.of_new (Below.refl _ _) (Nat.zero_le _)) ?_
        clear hK K
        try simp only [Act.put, List.setIfInBounds_toArray, List.set_cons_succ, List.set_cons_zero]
        refine Fork.plain (Fork.at_ HO.out rfl) _ (by have q := Fork.at_ (i := 3) HO.out rfl; simp [Region.wanted, yielded, q, undef]) (fun W => by go_simp; exact rfl) ?_
        simp only [Act.put, List.setIfInBounds_toArray, List.set_cons_succ, List.set_cons_zero]
        iterate 2 ((refine Fork.plain (Fork.at_ HO.out rfl) _ rfl (fun W => by go_simp; exact rfl) ?_); simp only [Act.put, List.setIfInBounds_toArray, List.set_cons_succ, List.set_cons_zero])
        refine Fork.plain (Fork.at_ HO.out rfl) _ (by have q := Fork.at_ (i := 13) HO.out rfl; simp [Region.wanted, yielded, q, undef]) (fun W => by go_simp; exact rfl) ?_
        simp only [Act.put, List.setIfInBounds_toArray, List.set_cons_succ, List.set_cons_zero]
        refine Fork.plain (Fork.at_ HO.out rfl) _ (by have q := Fork.at_ (i := 13) HO.out rfl; simp [Region.wanted, yielded, q, undef]) (fun W => by go_simp; exact rfl) ?_
        simp only [Act.put, List.setIfInBounds_toArray, List.set_cons_succ, List.set_cons_zero]
        refine Fork.acts (Fork.at_ HO.out rfl) (by have q := Fork.at_ (i := 13) HO.out rfl; simp [Region.wanted, yielded, q, undef]) (fun K hK => ?_)
        go_simp
        refine (wfree_calls (n - 2) (n - 2 - (tail5 - head5)) HRING.out rfl HBW.out HPw.out.wv.blk (HPw.out.wv.dk.low 0 (Nat.zero_le _))).mono ?_
        rintro r w' ⟨rfl, rfl⟩
        refine hK _ _ (.of_new (Below.refl _ _).drew (Nat.zero_le _)) ?_
        clear hK K
        have HPx := Aside0.mk (HPw.out.fresh (Below.refl _ _).drew)
        try simp only [Act.put, List.setIfInBounds_toArray, List.set_cons_succ, List.set_cons_zero]
        refine Fork.acts (Fork.at_ HO.out rfl) (by have q := Fork.at_ (i := 13) HO.out rfl; simp [Region.wanted, yielded, q, undef]) (fun K hK => ?_)
        go_simp
        refine (rfree_calls HRINGX.out HHD.out HBR.out HPx.out.rv).mono ?_
        rintro r wy ⟨rfl, hd⟩
        refine hK _ _ (.of_new hd.below (Nat.zero_le _)) ?_
        clear hK K
        have HPy := Aside0.mk (HPx.out.fresh hd.below)
        clear hd
        try simp only [Act.put, List.setIfInBounds_toArray, List.set_cons_succ, List.set_cons_zero]
        refine Fork.plain (Fork.at_ HO.out rfl) _ (by have q := Fork.at_ (i := 13) HO.out rfl; simp [Region.wanted, yielded, q, undef]) (fun W => by go_simp; exact rfl) ?_
        simp only [Act.put, List.setIfInBounds_toArray, List.set_cons_succ, List.set_cons_zero]
        ((refine Fork.plain (Fork.at_ HO.out rfl) _ rfl (fun W => by go_simp; exact rfl) ?_); simp only [Act.put, List.setIfInBounds_toArray, List.set_cons_succ, List.set_cons_zero])
        refine Fork.done ?_
        go_wp2
        have hk1 := HI.out
        obtain ⟨gq, rfl⟩ : ∃ gq, gk = gq + 1 := ⟨gk - 1, by omega⟩
        go_roundg gq
        case rel => exact ⟨i + 1, by go_num, ⟨by omega⟩, _, _, _, _, _, _, _, _, _, _, _, _, _, _, _, _, rfl, rfl, rfl, rfl, HLz, HPy, HGz⟩
        case measure => omega
    · have hi0 := HI.out
      obtain rfl : gk = 0 := by omega
      obtain rfl : i = l1.length := by omega
      clear hi0
      have hm : ¬ ((l1.length : Int) < (l1.length : Int)) := by omega
      go_wp2
      go_ret
      exact ⟨rfl, HP.out.low⟩
theorem does_walk (n : Int) (A1 : Option Addr) (c1 : Nat) (l1 : List WDeed) (w : World) (h1 : Kd.C kD w A1 l1.length l1) (hok : ∀ x ∈ l1, -9223372036854775808 ≤ x.n ∧ x.n ≤ 9223372036854775807) (hby : ∀ x ∈ l1, ∀ b ∈ x.l, isBytes b) :
    Calls Tryz.prog 3 #[.int .i64 n, .slice A1 l1.length c1] w fun e w' => e = .returned (.bool true) ∧ Below w.heap.size w w' := by
  by_cases h : 40 < n ∨ 25 < (l1.length : Int)
  · exact does_out n A1 c1 l1 w h
  · by_cases h3 : n < 3
    · exact does_small n A1 c1 l1 w (by omega) (by omega) h3
    · exact does_main n A1 c1 l1 w h1 (by omega) (by omega) (by omega) hok hby
end Go.Proofs.YtlepcmljmibdnaaGreat
namespace Go.Rd
open Go.RowKit Go.Proofs.YtlepcmljmibdnaaGreatW.PrintWords

structure Reads (P : Program) (t : TypeId) {α : Type} (d : Kd α) (ok : α → Prop) : Prop where
  cells : P.cellsOf t = d.sz
  rd : ∀ {H : Type} (enc : TypeId × Value → H) (w : World) (sp : Nat → Bool) (held : Bool) (fuel : Nat) (cs : List Value) (x : DataW H × List MemPlace),
    DataW.trod enc P w 0 sp held fuel t cs = some x → ∃ a, d.K w a cs ∧ ok a

section
variable {P : Program} {t e : TypeId}
theorem int {k : IntKind} (ht : P.underlying t = some (.int k)) (hc : P.cellsOf t = 1) : Reads P t (Kd.int k) (fun n => (Lit.int k n).wf = true) :=
  ⟨hc, fun enc w sp held fuel cs x h => by
    obtain ⟨n, rfl, _, hw⟩ := DataW.trod_int ht h
    exact ⟨n, rfl, hw⟩⟩
theorem bool (ht : P.underlying t = some .bool) (hc : P.cellsOf t = 1) : Reads P t Kd.bool (fun _ => True) :=
  ⟨hc, fun enc w sp held fuel cs x h => by
    obtain ⟨n, rfl, _⟩ := DataW.trod_bool ht h
    exact ⟨n, rfl, trivial⟩⟩
theorem slice {α : Type} {d : Kd α} {ok : α → Prop} (hd : Reads P e d ok) (ht : P.underlying t = some (.slice e)) (hc : P.cellsOf t = 1) : Reads P t (Kd.slice e d) (fun xs => ∀ a ∈ xs, ok a) :=
  ⟨hc, fun enc w sp held fuel cs x h => by
    rcases Deep.open_slice ht h with ⟨rfl, _⟩ | ⟨a, len, cap, m, n, D, Pl, rfl, hb, hl, hm, hmm, _, hx⟩
    · exact ⟨[], ⟨none, 0, rfl, Nat.le_refl _, Kd.C_nil _ _⟩, by simp⟩
    · have hlm : len ≤ m := by rw [hmm]; split <;> omega
      have hall : ∀ i, i < len → ∃ y : α, ok y ∧ ∃ c, c.length = d.sz ∧ d.K w y c ∧ ∀ j u, c[j]? = some u → w.cell? (a.add (i * d.sz + j)) = some u := by
        intro i hi
        obtain ⟨cs', h1, h2⟩ := hx i (by omega)
        obtain ⟨y, hy, hok⟩ := hd.rd enc w sp held n cs' _ h2
        obtain ⟨_, h4, h5⟩ := World.cells?_some h1
        rw [hd.cells] at h4 h5
        refine ⟨y, hok, cs', h4, hy, fun j u hj => ?_⟩
        have hjl : j < d.sz := by rw [← h4]; exact (List.getElem?_eq_some_iff.1 hj).1
        have := h5 j hjl
        rw [Deep.add_add] at this
        rw [this, hj]
      by_cases h0 : len = 0
      · subst h0
        exact ⟨[], ⟨some a, cap, rfl, by simp, ⟨rfl, by simp, fun h => absurd h (Nat.lt_irrefl 0)⟩⟩, by simp⟩
      · obtain ⟨y0, _⟩ := hall 0 (by omega)
        haveI : Inhabited α := ⟨y0⟩
        obtain ⟨f, hf⟩ := Deep.choose_lt (p := fun i y => ok y ∧ ∃ c, c.length = d.sz ∧ d.K w y c ∧ ∀ j u, c[j]? = some u → w.cell? (a.add (i * d.sz + j)) = some u) hall
        have hlen : ((List.range len).map f).length = len := by simp
        refine ⟨(List.range len).map f, ⟨some a, cap, by rw [hlen], by rw [hlen]; exact hl, ?_⟩, fun y hy => ?_⟩
        · refine ⟨rfl, by rw [hlen]; simp only [maxLen] at hm; omega, fun _ => ⟨a, rfl, fun j p hj => ?_⟩⟩
          have hjl : j < len := by rw [← hlen]; exact (List.getElem?_eq_some_iff.1 hj).1
          rw [List.getElem?_map, List.getElem?_range hjl] at hj
          obtain rfl := Option.some.inj hj
          exact (hf j hjl).2
        · obtain ⟨i, hi, rfl⟩ := List.mem_map.1 hy
          exact (hf i (List.mem_range.1 hi)).1⟩

structure FieldsR (P : Program) (fs : List Field) (o : Nat) {α : Type} (d : Kd α) (ok : α → Prop) : Prop where
  rd : ∀ {H : Type} (enc : TypeId × Value → H) (w : World) (sp : Nat → Bool) (held : Bool) (n : Nat) (cs : List Value), o + d.sz ≤ cs.length →
    (∀ f ∈ fs, ∃ y, DataW.trod enc P w 0 sp held n f.type ((cs.drop f.offset).take (P.cellsOf f.type)) = some y) → ∃ a, d.K w a ((cs.drop o).take d.sz) ∧ ok a
theorem one {α : Type} {d : Kd α} {ok : α → Prop} {f : Field} (hd : Reads P f.type d ok) : FieldsR P [f] f.offset d ok := by
  refine ⟨fun {H} enc w sp held n cs hl h => ?_⟩
  obtain ⟨y, hy⟩ := h f (by simp)
  rw [hd.cells] at hy
  exact hd.rd enc w sp held n _ y hy
theorem cons {α β : Type} {d : Kd α} {d' : Kd β} {ok : α → Prop} {ok' : β → Prop} {f : Field} {fs : List Field} (hd : Reads P f.type d ok) (hf : FieldsR P fs (f.offset + d.sz) d' ok') :
    FieldsR P (f :: fs) f.offset (Kd.pair d d') (fun p => ok p.1 ∧ ok' p.2) := by
  refine ⟨fun {H} enc w sp held n cs hl h => ?_⟩
  have hsz : (Kd.pair d d').sz = d.sz + d'.sz := rfl
  rw [hsz] at hl ⊢
  obtain ⟨y, hy⟩ := h f (by simp)
  rw [hd.cells] at hy
  obtain ⟨a, ha, hoa⟩ := hd.rd enc w sp held n _ y hy
  obtain ⟨b, hb, hob⟩ := hf.rd enc w sp held n cs (by omega) (fun g hg => h g (by simp [hg]))
  refine ⟨(a, b), ⟨_, _, ?_, ha, hb⟩, hoa, hob⟩
  rw [← List.drop_drop, List.take_add]
theorem struct {α : Type} {d : Kd α} {ok : α → Prop} {fs : Array Field} (ht : P.underlying t = some (.struct fs)) (hf : FieldsR P fs.toList 0 d ok) (hc : P.cellsOf t = d.sz) : Reads P t d ok :=
  ⟨hc, fun enc w sp held fuel cs x h => by
    obtain ⟨xs, n, _, _, hl, hx, hall⟩ := DataW.trod_struct ht h
    obtain ⟨a, ha, hoa⟩ := hf.rd enc w sp held n cs (by rw [hl, hc]; omega) (fun f hm => by
      obtain ⟨i, hi⟩ := List.mem_iff_getElem?.1 hm
      have hil : i < fs.size := by simpa using (List.getElem?_eq_some_iff.1 hi).1
      have := hall i f (by simpa using hi)
      rw [List.getElem?_eq_getElem (by omega)] at this
      exact ⟨_, this⟩)
    refine ⟨a, ?_, hoa⟩
    rw [List.drop_zero, List.take_of_length_le (by rw [hl, hc]; exact Nat.le_refl _)] at ha
    exact ha⟩
theorem iso {α β : Type} {d : Kd α} {ok : α → Prop} (hd : Reads P t d ok) (f : β → α) (g : α → β) (h : ∀ a, f (g a) = a) : Reads P t (Kd.iso d f) (fun x => ok (f x)) :=
  ⟨hd.cells, fun enc w sp held fuel cs x hx => by
    obtain ⟨a, ha, hok⟩ := hd.rd enc w sp held fuel cs x hx
    refine ⟨g a, ?_, by rw [h]; exact hok⟩
    show d.K w (f (g a)) cs
    rw [h]
    exact ha⟩
/-- A slice that came in. -/
theorem arg {α : Type} {d : Kd α} {ok : α → Prop} (hd : Reads P e d ok) (ht : P.underlying t = some (.slice e)) (hc : P.cellsOf t = 1) {H : Type} {enc : TypeId × Value → H} {W : World} {a : Option Addr} {len cap : Nat} {D : DataW H} {ps : List MemPlace}
    (h : DataW.Trod enc P W 0 (fun _ => true) true t (.slice a len cap) D ps) : ∃ l : List α, len = l.length ∧ l.length ≤ cap ∧ d.C W a l.length l ∧ ∀ x ∈ l, ok x := by
  obtain ⟨fuel, hf⟩ := h
  obtain ⟨l, ⟨A, c, he, hl, hC⟩, hok⟩ := (slice hd ht hc).rd enc W _ _ fuel _ _ hf
  simp only [Value.cells, List.cons.injEq, and_true] at he
  injection he with h1 h2 h3
  subst h1; subst h2; subst h3
  exact ⟨l, rfl, hl, hC, hok⟩
end
end Go.Rd
namespace Go.Proofs.YtlepcmljmibdnaaGreat
open Go.ChangeShapes Go.WideShapes Go.ChangeAt Go.RowKit Go.Proofs.YtlepcmljmibdnaaGreatW.PrintWords Go.Proofs.YtlepcmljmibdnaaGreatW.PrintLast Go.Proofs.YtlepcmljmibdnaaGreatW.PrintMore
theorem rInt : Rd.Reads Tryz.prog 3 (Kd.int .i64) (fun n => (Lit.int .i64 n).wf = true) := Rd.int Tryz.underlying3 (by kernel_rfl)
theorem rU8 : Rd.Reads Tryz.prog 5 (Kd.int .u8) (fun n => (Lit.int .u8 n).wf = true) := Rd.int Tryz.underlying5 (by kernel_rfl)
theorem rBool : Rd.Reads Tryz.prog 4 Kd.bool (fun _ => True) := Rd.bool Tryz.underlying4 (by kernel_rfl)
theorem rBytes : Rd.Reads Tryz.prog 58 (Kd.slice 5 (Kd.int .u8)) (fun xs => ∀ a ∈ xs, (Lit.int .u8 a).wf = true) := Rd.slice rU8 Tryz.underlying58 (by kernel_rfl)
theorem rTexts : Rd.Reads Tryz.prog 32 (Kd.slice 58 bytesK) (fun xs => ∀ a ∈ xs, ∀ b ∈ a, (Lit.int .u8 b).wf = true) := Rd.slice rBytes Tryz.underlying32 (by kernel_rfl)
theorem rBools : Rd.Reads Tryz.prog 38 (Kd.slice 4 Kd.bool) (fun xs => ∀ a ∈ xs, True) := Rd.slice rBool Tryz.underlying38 (by kernel_rfl)
theorem rTupD : Rd.Reads Tryz.prog 40 (Kd.pair (Kd.int .i64) (Kd.pair (Kd.slice 58 bytesK) (Kd.pair (Kd.int .i64) (Kd.slice 4 Kd.bool))))
    (fun x => (Lit.int .i64 x.1).wf = true ∧ (∀ a ∈ x.2.1, ∀ b ∈ a, (Lit.int .u8 b).wf = true) ∧ (Lit.int .i64 x.2.2.1).wf = true ∧ ∀ a ∈ x.2.2.2, True) := by
  refine Rd.struct Tryz.underlying40 ?_ (by kernel_rfl)
  refine Rd.cons (ok' := fun y : List (List Int) × Int × List Bool => (∀ a ∈ y.1, ∀ b ∈ a, (Lit.int .u8 b).wf = true) ∧ (Lit.int .i64 y.2.1).wf = true ∧ ∀ a ∈ y.2.2, True) (f := { name := "Kind", type := 3, offset := 0, embedded := false, tag := "", pkgPath := "", byteOffset := 0 }) rInt ?_
  refine Rd.cons (ok' := fun y : Int × List Bool => (Lit.int .i64 y.1).wf = true ∧ ∀ a ∈ y.2, True) (f := { name := "L", type := 32, offset := 1, embedded := false, tag := "", pkgPath := "", byteOffset := 8 }) rTexts ?_
  refine Rd.cons (ok' := fun y : List Bool => ∀ a ∈ y, True) (f := { name := "N", type := 3, offset := 2, embedded := false, tag := "", pkgPath := "", byteOffset := 32 }) rInt ?_
  exact Rd.one (f := { name := "Keep", type := 38, offset := 3, embedded := false, tag := "", pkgPath := "", byteOffset := 40 }) rBools
theorem rWDeed : Rd.Reads Tryz.prog 40 kD (fun x => (Lit.int .i64 x.kind).wf = true ∧ (∀ a ∈ x.l, ∀ b ∈ a, (Lit.int .u8 b).wf = true) ∧ (Lit.int .i64 x.n).wf = true ∧ ∀ a ∈ x.keep, True) :=
  Rd.iso rTupD (fun x : WDeed => (x.kind, x.l, x.n, x.keep)) (fun a => (⟨a.1, a.2.1, a.2.2.1, a.2.2.2⟩ : WDeed)) (fun _ => rfl)
theorem int_in {n : Int} (h : (Lit.int .i64 n).wf = true) : -9223372036854775808 ≤ n ∧ n ≤ 9223372036854775807 := by
  have := bounds_i64 h
  omega
theorem u8_in' {n : Int} (h : (Lit.int .u8 n).wf = true) : 0 ≤ n ∧ n < 256 := by
  have := bounds_u8 h
  omega
end Go.Proofs.YtlepcmljmibdnaaGreat
