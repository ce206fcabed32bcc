/- Parts of one proof, joined: Qk, Ql, Cu, Qm, Xk, Qn, Zd, Zm, Zo, Zp. Conditions: those of each statement. -/
import Derived.Test.YtlepcmljmibdnaaGreatZh9
import Derived.Test.YtlepcmljmibdnaaGreatZh8
import Derived.Test.YtlepcmljmibdnaaGreatZh7
import Derived.Deep.DeepCutAuto
namespace Go.Proofs.YtlepcmljmibdnaaGreat
open Go.RowKit Go.Proofs.YtlepcmljmibdnaaGreatW.PrintWords Go.Proofs.YtlepcmljmibdnaaGreatW.PrintLast Go.Proofs.YtlepcmljmibdnaaGreatW.PrintMore PWalOpens
set_option linter.unusedVariables false
set_option linter.unusedSimpArgs false
/-- a wal that holds R, on a disk that may die -/
structure QInv (D : PD) (S : Int → List Int) (r g head tail : Int) (R : List (List Int)) : Prop where
  qt : Qt D (r + 2) S
  hr : 1 ≤ r
  cache : D.cache = []
  ok : OKD D
  mine : unP (S (g % 2)) = (g, [head, tail], 0)
  other : lesser (unP (S ((g + 1) % 2))) g
  g0 : 0 ≤ g
  run : Run S r head R tail
  fit : tail - head ≤ r
  h0 : 0 ≤ head
  recs : ∀ b ∈ R, isBytes b ∧ b.length ≤ 40000
section
variable {D : PD} {S : Int → List Int} {r g head tail : Int} {R : List (List Int)}
end
end Go.Proofs.YtlepcmljmibdnaaGreat
namespace Go.Proofs.YtlepcmljmibdnaaGreat
open Go.RowKit Go.Proofs.YtlepcmljmibdnaaGreatW.PrintWords Go.Proofs.YtlepcmljmibdnaaGreatW.PrintLast Go.Proofs.YtlepcmljmibdnaaGreatW.PrintMore PWalOpens
set_option linter.unusedVariables false
set_option linter.unusedSimpArgs false
/-- both sides, and what a crash leaves -/
structure Live (D : PD) (X : RX) (r gen head tail : Int) (S : List Int) (L : List Rec) (over : Bool) (R : List (List Int)) : Prop where
  same : Same D X r head tail S L over
  r4 : r ≤ 4094
  live : over = false → ∃ V, QInv D V r gen head tail R ∧ S = startsP head R ∧ L.map (·.1) = R
  back : ∀ ks, ∃ V g h t R', WInv (crashP D ks) V r g h t R' ∧ g ≤ gen + 1 ∧ t ≤ tail + 4200
  g0 : 0 ≤ gen
  sl : S.length ≤ 4094
theorem run_tail {S : Int → List Int} {r t : Int} : ∀ {R : List (List Int)} {p : Int}, Run S r p R t → t = p + needs R
  | [], p, h => by
    have e : p = t := h
    simp [needs, e]
  | b :: bs, p, h => by
    have := run_tail h.2
    have hn : needs (b :: bs) = needN b + needs bs := rfl
    omega
theorem startsP_app : ∀ (R P : List (List Int)) (p : Int), startsP p (R ++ P) = startsP p R ++ startsP (p + needs R) P
  | [], P, p => by simp [startsP, needs]
  | b :: bs, P, p => by
    have hn : needs (b :: bs) = needN b + needs bs := rfl
    have e1 : startsP p (b :: bs ++ P) = p :: startsP (p + needN b) (bs ++ P) := rfl
    have e2 : startsP p (b :: bs) = p :: startsP (p + needN b) bs := rfl
    rw [e1, e2, startsP_app bs P (p + needN b), hn, Int.add_assoc, List.cons_append]
section
variable {D : PD} {X : RX} {r gen head tail : Int} {S : List Int} {L : List Rec} {over : Bool} {R : List (List Int)}
end
end Go.Proofs.YtlepcmljmibdnaaGreat
namespace Go.Proofs.YtlepcmljmibdnaaGreat
open Go.RowKit Go.Proofs.YtlepcmljmibdnaaGreatW.PrintWords Go.Proofs.YtlepcmljmibdnaaGreatW.PrintLast Go.Proofs.YtlepcmljmibdnaaGreatW.PrintMore PWalOpens
set_option linter.unusedVariables false
set_option linter.unusedSimpArgs false
section
variable {n0 : Nat} {w w' : World} {Wb B M Bd Rb R : Nat} {vc vs vS vC vB vo vL : Value} {D D1 : PD} {X X1 : RX} {gen head tail x e : Int} {S : List Int} {L : List Rec} {over : Bool}
/-! ### the reference's -/
def RcQ2 (n0 : Nat) (w : World) (Rb R : Nat) (vS vB : Value) (X1 : RX) (gen tail : Int) (L : List Rec) (n : Nat) (e : Int) (r : Ending) (w' : World) : Prop :=
  TC n0 isRW w w' ∧ ∃ vC' vL', (e = 0 → r = .returned (.int .i64 0) ∧ RV n0 w' Rb R vS vC' vB (.slice none 0 0) vL' X1 (gen + 1) tail (L.drop n) false) ∧ (e ≠ 0 → r = .returned (.int .i64 50) ∧ RV n0 w' Rb R vS vC' vB (.slice none 0 0) vL' X1 gen tail L true)
end
end Go.Proofs.YtlepcmljmibdnaaGreat
namespace Go.Proofs.YtlepcmljmibdnaaGreat
open Go.RowKit Go.Proofs.YtlepcmljmibdnaaGreatW.PrintWords Go.Proofs.YtlepcmljmibdnaaGreatW.PrintLast Go.Proofs.YtlepcmljmibdnaaGreatW.PrintMore PWalOpens
set_option linter.unusedVariables false
set_option linter.unusedSimpArgs false
/-- a deed, on both sides -/
def Deed2 (w0 : World) (D : PD) (X : RX) (r gen head tail : Int) (S : List Int) (L : List Rec) (over : Bool) (f g : Nat) (args : List Value) : Prop :=
  ∃ D' X' code gen' head' tail' S' L' over' R', Live D' X' r gen' head' tail' S' L' over' R' ∧ gen' ≤ gen + 1 ∧ tail' ≤ tail + 4200 ∧
    (∀ (w : World) (Wb B M Bd : Nat) (vc vs : Value), Below w0.heap.size w0 w → WV w0.heap.size w Wb B M Bd vc vs D gen head tail S over → Calls Tryz.prog f (.pointer (some ⟨Wb, 0, none⟩) :: args).toArray w (WdQ w0.heap.size w Wb B M Bd D' code gen' head' tail' S' over')) ∧
    (∀ (w : World) (Rb R : Nat) (vS vC vB vL : Value), Below w0.heap.size w0 w → RV w0.heap.size w Rb R vS vC vB (.slice none 0 0) vL X gen tail L over → Calls Tryz.prog g (.pointer (some ⟨Rb, 0, none⟩) :: args).toArray w (RdQ w0.heap.size w Rb R vS vB X' code gen' tail' L' over'))
section
variable {w0 : World} {D : PD} {X : RX} {r gen head tail : Int} {S : List Int} {L : List Rec} {over : Bool} {R : List (List Int)}
end
end Go.Proofs.YtlepcmljmibdnaaGreat
namespace Go.Proofs.YtlepcmljmibdnaaGreat
open Go.RowKit Go.Proofs.YtlepcmljmibdnaaGreatW.PrintWords Go.Proofs.YtlepcmljmibdnaaGreatW.PrintLast Go.Proofs.YtlepcmljmibdnaaGreatW.PrintMore PWalOpens
set_option linter.unusedVariables false
set_option linter.unusedSimpArgs false
section
variable {w0 w : World} {B M Bd R : Nat} {vc vS vC vB : Value} {D D' : PD} {X X' : RX}
end
end Go.Proofs.YtlepcmljmibdnaaGreat
namespace Go.Fork
open Go.RowKit Go.Calm
end Go.Fork
namespace Go.Proofs.YtlepcmljmibdnaaGreat
open Go.RowKit Go.Proofs.YtlepcmljmibdnaaGreatW.PrintWords Go.Proofs.YtlepcmljmibdnaaGreatW.PrintLast Go.Proofs.YtlepcmljmibdnaaGreatW.PrintMore PWalOpens
set_option linter.unusedVariables false
set_option linter.unusedSimpArgs false
/-! ### a deed -/
structure WDeed where
  kind : Int
  l : List (List Int)
  n : Int
  keep : List Bool
def zD : WDeed := ⟨0, [], 0, []⟩
def kD : Kd WDeed := Kd.iso (Kd.pair (Kd.int .i64) (Kd.pair (Kd.slice 58 bytesK) (Kd.pair (Kd.int .i64) (Kd.slice 4 Kd.bool)))) (fun x : WDeed => (x.kind, x.l, x.n, x.keep))
def rd_D (xs : List WDeed) (i : Int) : WDeed := xs.getD i.toNat zD
/-! ### what a deed may change -/
def isWR (M Bd : Nat) (k : Nat) (o : Obj) : Prop := isWD M Bd k o ∨ isRW k o
/-! ### both wals -/
structure Pr (w0 w : World) (Wb B M Bd : Nat) (vc vs : Value) (D : PD) (gen head tail : Int) (S : List Int) (over : Bool) (Rb R : Nat) (vS vC vB vL : Value) (X : RX) (rgen rtail : Int) (L : List Rec) (rover : Bool) : Prop where
  wv : WV w0.heap.size w Wb B M Bd vc vs D gen head tail S over
  rv : RV w0.heap.size w Rb R vS vC vB (.slice none 0 0) vL X rgen rtail L rover
  low : Below w0.heap.size w0 w
section
variable {w0 w w' : World} {Wb B M Bd Rb R : Nat} {vc vs vS vC vB vL : Value} {D D' : PD} {X X' : RX} {gen head tail rgen rtail gen' head' tail' code : Int} {S S' : List Int} {L L' : List Rec} {over rover over' : Bool} {args : List Value} {f : Nat}
end
section
variable {w0 : World} {D : PD} {X : RX} {r gen head tail : Int} {S : List Int} {L : List Rec} {over : Bool} {R : List (List Int)}
end
/-- what holds at the head of each round: v7 .. the slots -/
def DoesI (w : World) (B M Bd R : Nat) (vS vB : Value) (r : Int) (i : Nat) (v7 v8 v9 v12 : Value) (w' : World) : Prop :=
  ∃ (e : Int) (Wb Rb : Nat) (vc vs vC vL : Value) (D : PD) (X : RX) (gen head tail : Int) (S : List Int) (L : List Rec) (over : Bool) (Rl : List (List Int)),
    v7 = .int .i64 e ∧ v8 = .int .i64 e ∧ v9 = .pointer (some ⟨Wb, 0, none⟩) ∧ v12 = .pointer (some ⟨Rb, 0, none⟩) ∧ Aside0 (Live D X r gen head tail S L over Rl) ∧
      Aside0 (Pr w w' Wb B M Bd vc vs D gen head tail S over Rb R vS vC vB vL X gen tail L over) ∧ Aside0 (gen ≤ i ∧ tail ≤ 4200 * i)
end Go.Proofs.YtlepcmljmibdnaaGreat
namespace Go.Proofs.YtlepcmljmibdnaaGreat
open Go.RowKit Go.Proofs.YtlepcmljmibdnaaGreatW.PrintWords Go.Proofs.YtlepcmljmibdnaaGreatW.PrintLast Go.Proofs.YtlepcmljmibdnaaGreatW.PrintMore PWalOpens
open PStoreRecords (S66 k66 rd_T66 at_T66 z66)
set_option linter.unusedVariables false
set_option linter.unusedSimpArgs false
end Go.Proofs.YtlepcmljmibdnaaGreat
namespace Go.Proofs.YtlepcmljmibdnaaGreat
open Go.RowKit Go.Proofs.YtlepcmljmibdnaaGreatW.PrintWords Go.Proofs.YtlepcmljmibdnaaGreatW.PrintLast Go.Proofs.YtlepcmljmibdnaaGreatW.PrintMore PWalOpens
open PStoreRecords (S66 k66 rd_T66 at_T66 z66 k66_mk)
set_option linter.unusedVariables false
set_option linter.unusedSimpArgs false
def AwakeQ : Prop := ∀ w : World, Calls Tryz.prog 30 #[] w fun e w' => e = .returned (.bool true) ∧ Below w.heap.size w w'
end Go.Proofs.YtlepcmljmibdnaaGreat
namespace Go.Proofs.YtlepcmljmibdnaaGreat
open Go.RowKit Go.Proofs.YtlepcmljmibdnaaGreatW.PrintWords Go.Proofs.YtlepcmljmibdnaaGreatW.PrintLast Go.Proofs.YtlepcmljmibdnaaGreatW.PrintMore PWalOpens
set_option linter.unusedVariables false
set_option linter.unusedSimpArgs false
theorem rec0 : recB true [] = [1, 0] := by decide
/-- Add, on a disk that does not die -/
theorem real_add {w0 : World} {D : PD} {S : Int → List Int} {r g head tail : Int} {R : List (List Int)} (h : WInv D S r g head tail R) {X : List (List Int)} (hX : RecsOK X) (hf : needs X ≤ r - (tail - head)) (ht : tail < 18446744073709530000) (hg : g < 18446744073709551614) (hr : r ≤ 4094) (hR : R.length ≤ 100000) :
    ∃ D2 S2, WInv D2 S2 r (g + 1) head (tail + needs X) (R ++ X) ∧ ∀ (w : World) (Wb B M Bd : Nat) (vc vs : Value) (A : Option Addr) (c : Nat), WV w0.heap.size w Wb B M Bd vc vs D g head tail (startsP head R) false → (∀ W, TC w0.heap.size (isWD M Bd) w W → bytesK.C W A X.length X) →
      Calls Tryz.prog 15 #[.pointer (some ⟨Wb, 0, none⟩), .slice A X.length c] w (WdQ w0.heap.size w Wb B M Bd D2 0 (g + 1) head (tail + needs X) (startsP head (R ++ X)) false) := by
  have hns := needs_le (R := X) (fun b hb => (hX.each b hb).2)
  have hlen := hX.len
  have hle := h.le
  have h0 := h.h0
  have g0 := h.g0
  have hfit := h.fit
  obtain ⟨D1, D2, S2, k1, k2, k3, k4⟩ := h.add hX hf (by omega) (by omega)
  refine ⟨D2, S2, k4, fun w Wb B M Bd vc vs A c hv hT => ?_⟩
  refine (add_calls (c := c) h.ring hX rfl k1 k3 (by omega) (by omega) (by omega) (by rw [h.cache]; decide) (by omega) (by rw [starts_len, starts_len]; omega) hv hT).mono ?_
  rintro x w2 ⟨htc, vc', vs', _, _, q3, _⟩
  obtain ⟨rfl, hv2⟩ := q3 rfl rfl
  refine ⟨rfl, htc, vc', vs', ?_⟩
  rw [startsP_app, ← run_tail h.run]
  exact hv2
/-- one text in a literal, under what a wal's deeds may change -/
theorem lit_one_tc {n0 M Bd : Nat} {w W : World} {v : Value} {A : Option Addr} {c : Nat} {b : List Int} {base : Nat} {ok : Nat → Prop} (hR : Kd.R (Kd.int .u8) 5 w base ok (.slice A b.length c) b) (hcap : b.length ≤ c) (hc : TC n0 (isWD M Bd) (w.alloc (.cells #[.slice A b.length c] 58)) W) : bytesK.C W (some ⟨w.heap.size, 0, none⟩) 1 [b] := by
  have hb := Below.alloc (Below.refl w.heap.size w) (Nat.le_refl _) (.cells #[.slice A b.length c] 58)
  have h := hc.blk _ _ (heap_alloc_new w (.cells #[.slice A b.length c] 58)) (by simp [isWD, isDisk, isT])
  have hR2 := R_tc (Kd.R_below hR hb) hc (fun q hq _ cells => by
    simp at hq
    rcases hq with h | h
    · rw [h]; simp [isWD, isDisk, isT]
    · cases h)
  refine ⟨rfl, by omega, fun _ => ⟨_, rfl, fun j p hj => ?_⟩⟩
  have hj0 : j = 0 := by have := (List.getElem?_eq_some_iff.1 hj).1; simp at this; omega
  subst hj0
  simp at hj
  subst hj
  refine ⟨[.slice A b.length c], rfl, ⟨_, c, rfl, hcap, (Kd.R_reads' hR2).2.2⟩, fun i u hu => ?_⟩
  have hi0 : i = 0 := by have := (List.getElem?_eq_some_iff.1 hu).1; simp at this; omega
  subst hi0
  simp at hu
  subst hu
  have e : (⟨w.heap.size, 0, none⟩ : Addr).add (0 * 1 + 0) = ⟨w.heap.size, 0, none⟩ := by unfold Addr.add; simp
  show W.cell? ((⟨w.heap.size, 0, none⟩ : Addr).add (0 * 1 + 0)) = _
  rw [e]
  unfold World.cell?
  rw [h]
  rfl
theorem lit_10 {n0 M Bd : Nat} {w W : World} {A : Option Addr} {c : Nat} {base : Nat} {ok : Nat → Prop} (hR : Kd.R (Kd.int .u8) 5 w base ok (.slice A 2 c) [1, 0]) (hcap : 2 ≤ c) (hc : TC n0 (isWD M Bd) (w.alloc (.cells #[.slice A 2 c] 58)) W) : bytesK.C W (some ⟨w.heap.size, 0, none⟩) 1 [[1, 0]] :=
  lit_one_tc (v := .nilIface) (b := [1, 0]) hR hcap hc
theorem srec0 (w : World) : Calls Tryz.prog 34 #[.bool true, .slice none 0 0] w fun e w' => ∃ A c, e = .returned (.slice A 2 c) ∧ Kd.R (Kd.int .u8) 5 w' w.heap.size (fun _ => True) (.slice A 2 c) [1, 0] ∧ 2 ≤ c ∧ Below w.heap.size w w' := by
  refine (srecord_calls w true none 0 [] (by simp) (fun p hp => by cases hp) (by rw [rec0]; decide) (Kd.C_nil _ _)).mono ?_
  rw [rec0]
  rintro e w' ⟨A, c, rfl, hr, hb⟩
  exact ⟨A, c, rfl, Kd.R_mono hr (fun _ _ => trivial), (Kd.Q_reads' (Kd.Q_of_R hr)).2.1, hb⟩
theorem recs0 : RecsOK [[1, 0]] := ⟨by decide, fun b hb => by simp at hb; subst hb; exact ⟨fun x hx => by simp at hx; omega, by decide⟩⟩
set_option maxRecDepth 100000 in
theorem sformat_calls {w0 w : World} {B M Bd : Nat} {vc : Value} (n : Int) (hn : 10 ≤ n ∧ n ≤ 1002) (hd : DK w w0.heap.size B M Bd vc (newP n)) (hb : Below w0.heap.size w0 w) :
    Calls Tryz.prog 37 #[.pointer (some ⟨B, 0, none⟩)] w fun e w' => e = .returned (.int .i64 0) ∧ ∃ D2 S2 vc', WInv D2 S2 (n - 2) 1 0 (needs [[1, 0]]) [[1, 0]] ∧ DK w' w0.heap.size B M Bd vc' D2 ∧ Below w0.heap.size w0 w' := by
  obtain ⟨D1, S1, hf, i1⟩ := winv_start (n := n) (r := n - 2) (by omega) (by omega)
  have hnd : needs [[1, 0]] = 1 := by decide
  obtain ⟨D2, S2, i2, hadd⟩ := real_add (w0 := w0) i1 recs0 (by omega) (by omega) (by omega) (by omega) (by simp)
  have HW := Aside0.mk (at_wformat 0 hf (by show 0 ≤ 10000; decide) (At.refl hd))
  have HD := Aside0.mk hd
  have HB := Aside0.mk hb
  have HI1 := Aside0.mk i1
  have HI2 := Aside0.mk i2
  have HADD := Aside0.mk (show ∀ (w : World) (Wb B M Bd : Nat) (vc vs : Value) (A : Option Addr) (c : Nat), WV w0.heap.size w Wb B M Bd vc vs D1 0 0 0 [] false → (∀ W, TC w0.heap.size (isWD M Bd) w W → bytesK.C W A 1 [[1, 0]]) → Calls Tryz.prog 15 #[.pointer (some ⟨Wb, 0, none⟩), .slice A 1 c] w (WdQ w0.heap.size w Wb B M Bd D2 0 (0 + 1) 0 (0 + needs [[1, 0]]) (startsP 0 ([] ++ [[1, 0]])) false) from hadd)
  have HO1 := Aside0.mk i1.open_
  have HC1 := Aside0.mk (show D1.cache.length ≤ 40000 by rw [i1.cache]; decide)
  clear hf hn hd hb i1 i2 hadd hnd
  go_enter Tryz.func37, Tryz.ntmps37
  go_wp2_with (first
    | (go_at_call 10; (with_reducible refine HW.out.mono ?_); rintro e w1 ⟨rfl, vc1, ha⟩; have HD1 := Aside0.mk (At.based HD.out ha); have HB1 := Aside0.mk (HB.out.trans (HD.out.tc ha.chg).low); clear ha)
    | (go_at_call 12; (with_reducible refine (open_calls HO1.out HI1.out.ok HC1.out HD1.out).mono ?_); rintro e w2 hq; obtain ⟨Wb, vs, vo, rfl, hv, hb, hr⟩ := op_ok (n0 := w0.heap.size) hq rfl HB1.out.size HD1.out; have HV2 := Aside0.mk (show WV w0.heap.size w2 Wb B M Bd vc1 vs D1 0 0 0 [] false from hv); have HB2 := Aside0.mk (HB1.out.trans (hb.mono HB1.out.size)); obtain ⟨Ao, co, hvo⟩ := Kd.R_slice hr; subst hvo; clear hq hv hb hr)
    | (go_at_call 34; (with_reducible refine (srec0 w2).mono ?_); rintro e w3 ⟨A3, c3, rfl, hr, hc, hb⟩; have HR3 := Aside0.mk hr; have HCC := Aside0.mk hc; have HV3 := Aside0.mk ((HV2.out.fresh hb).fresh (Below.alloc (Below.refl w3.heap.size w3) (Nat.le_refl _) (.cells #[.slice A3 2 c3] 58))); have HB3 := Aside0.mk ((HB2.out.trans (hb.mono HB2.out.size)).trans ((Below.alloc (Below.refl w3.heap.size w3) (Nat.le_refl _) (.cells #[.slice A3 2 c3] 58)).mono (Nat.le_trans HB2.out.size hb.size))); clear hr hc hb)
    | (go_at_call 15; (with_reducible refine (HADD.out _ Wb B M Bd vc1 vs _ 1 HV3.out (fun W hc => lit_10 HR3.out HCC.out hc)).mono ?_); rintro e w4 ⟨rfl, ht, vc4, vs4, hv⟩; have HV4 := Aside0.mk hv; have HB4 := Aside0.mk (HB3.out.trans ht.low); clear ht hv))
  go_ret
  exact ⟨rfl, D2, S2, vc4, by have := HI2.out; simpa using this, HV4.out.dk, HB4.out⟩
end Go.Proofs.YtlepcmljmibdnaaGreat
namespace Go.Proofs.YtlepcmljmibdnaaGreat
open Go.RowKit Go.Proofs.YtlepcmljmibdnaaGreatW.PrintWords Go.Proofs.YtlepcmljmibdnaaGreatW.PrintLast Go.Proofs.YtlepcmljmibdnaaGreatW.PrintMore PWalOpens
set_option linter.unusedVariables false
set_option linter.unusedSimpArgs false
end Go.Proofs.YtlepcmljmibdnaaGreat
