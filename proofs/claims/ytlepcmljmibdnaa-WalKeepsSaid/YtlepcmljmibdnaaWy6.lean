/- Parts of one proof, joined: Tc, Rn, Rf, Rg, Rh. Conditions: those of each statement. -/
import Derived.Test.YtlepcmljmibdnaaWy5
namespace Go.Proofs.Ytlepcmljmibdnaa
open Go.RowKit Go.Proofs.YtlepcmljmibdnaaW.PrintWords Go.Proofs.YtlepcmljmibdnaaW.PrintLast Go.Proofs.YtlepcmljmibdnaaW.PrintMore PDiskArms
set_option linter.unusedVariables false
set_option linter.unusedSimpArgs false
/-- nothing below base, and no block but those of kind T, has changed -/
structure TC (base : Nat) (T : Obj → Prop) (w w' : World) : Prop where
  low : Below base w w'
  blk : ∀ (k : Nat) (o : Obj), w.heap[k]? = some o → ¬ T o → w'.heap[k]? = some o
section
variable {base : Nat} {T T' : Obj → Prop} {a b c : World}
theorem TC.refl (base : Nat) (T : Obj → Prop) (w : World) : TC base T w w := ⟨Below.refl _ _, fun _ _ h _ => h⟩
theorem TC.trans (h : TC base T a b) (k : TC base T b c) : TC base T a c := ⟨h.low.trans k.low, fun i o ho hn => k.blk i o (h.blk i o ho hn) hn⟩
theorem TC.mono (h : TC base T a b) (ht : ∀ o, T o → T' o) : TC base T' a b := ⟨h.low, fun i o ho hn => h.blk i o ho (fun e => hn (ht o e))⟩
theorem TC.lower {base' : Nat} (h : TC base T a b) (hb : base' ≤ base) : TC base' T a b := ⟨h.low.mono hb, h.blk⟩
theorem TC.of_chg {S : Nat → Prop} (h : Chg a b S) (hb : base ≤ a.heap.size) (hs : ∀ k, S k → k < a.heap.size → base ≤ k ∧ ∃ o, a.heap[k]? = some o ∧ T o) : TC base T a b :=
  ⟨⟨h.os, h.tape, h.output, h.size, fun k hk => h.block k (by omega) (fun e => by have := (hs k e (by omega)).1; omega)⟩, fun k o ho hn => by
    have hk : k < a.heap.size := (Array.getElem?_eq_some_iff.1 ho).1
    rw [h.block k hk (fun e => by
      obtain ⟨_, o', ho', ht⟩ := hs k e hk
      rw [ho] at ho'
      obtain rfl := Option.some.inj ho'
      exact hn ht)]
    exact ho⟩
theorem TC.of_below (h : Below a.heap.size a b) (hb : base ≤ a.heap.size) : TC base T a b :=
  ⟨h.mono hb, fun k o ho _ => (h.block k (Array.getElem?_eq_some_iff.1 ho).1).trans ho⟩
theorem TC.drew (h : TC base T a b) : TC base T a b.drew := ⟨h.low.drew, h.blk⟩
theorem TC.grown {row : Option Nat} (h : a.grownBy b row) (hs : ∀ k, some k = row → base ≤ k ∧ ∃ o, a.heap[k]? = some o ∧ T o) (hb : base ≤ a.heap.size) : TC base T a b :=
  .of_chg (chg_grown h (S := fun k => some k = row) (fun k hk => hk)) hb (fun k hk _ => hs k hk)
theorem TC.set {g j : Nat} {o : Obj} (hg : a.heap[g]? = some o) (ht : T o) (hb : base ≤ g) (u : Value) : TC base T a (a.setCell ⟨g, j, none⟩ u) :=
  .of_chg (((Only.refl a g).set (i := j) u).chg (S := fun k => k = g) fun _ h => h) (by have := (Array.getElem?_eq_some_iff.1 hg).1; omega) (fun k hk _ => by subst hk; exact ⟨hb, o, hg, ht⟩)
theorem R_tc {α : Type} {d : Kd α} {e : Nat} {ok : Nat → Prop} {v : Value} {xs : List α} (h : d.R e a base ok v xs) {base' : Nat} (hc : TC base' T a b) (ht : ∀ q, q ∈ e :: d.E → ∀ cells, ¬ T (.cells cells q (0, 0))) : d.R e b base ok v xs :=
  Kd.R_mono (Kd.R_move (Kd.R_bound h) (fun k hk => by
    obtain ⟨_, _, _, q, hq, cells, hce⟩ := hk
    rw [hce]
    exact hc.blk k _ hce (ht q hq cells))) (fun _ hk => hk.1)
end
/-- the blocks of a disk -/
def isDisk (o : Obj) : Prop := match o with
  | .cells _ t _ => t = 96 ∨ t = 101
  | .map _ _ => True
  | _ => False
theorem DK.tc {w w' : World} {base B M Bd : Nat} {vc : Value} {D : PD} (h : DK w base B M Bd vc D) (hc : Chg w w' (FP B M Bd vc)) : TC base isDisk w w' := by
  refine .of_chg hc h.base_le fun k hk hl => ⟨(h.fp k hk).1, ?_⟩
  rcases hk with rfl | rfl | rfl | hk
  · exact ⟨_, h.blk, .inl rfl⟩
  · obtain ⟨es, cl, he, _⟩ := h.kept
    exact ⟨_, he, trivial⟩
  · obtain ⟨es, cl, he, _⟩ := h.bad
    exact ⟨_, he, trivial⟩
  · obtain ⟨inner, ho⟩ := Kd.R_own h.cache
    obtain ⟨cells, hc⟩ := own_typed ho k hk.symm
    exact ⟨_, hc, .inr rfl⟩
theorem DK.tkeep {w w' : World} {base base' B M Bd : Nat} {vc : Value} {D : PD} {T : Obj → Prop} (h : DK w base B M Bd vc D) (hc : TC base' T w w') (ht : ∀ o, isDisk o → ¬ T o) : DK w' base B M Bd vc D := by
  obtain ⟨e1, c1, hk1, hr1⟩ := h.kept
  obtain ⟨e2, c2, hk2, hr2⟩ := h.bad
  refine ⟨hc.blk B _ h.blk (ht _ (.inl rfl)), ⟨e1, c1, hc.blk M _ hk1 (ht _ trivial), hr1⟩, ⟨e2, c2, hc.blk Bd _ hk2 (ht _ trivial), hr2⟩, R_tc h.cache hc ?_, h.hB, h.hM, h.hBd, h.hne, h.sec, h.hn, h.hl⟩
  intro q hq cells
  have : q = 101 := by
    have : (101 :: wrK.E) = [101] := by rfl
    rw [this] at hq
    simpa using hq
  subst this
  exact ht _ (.inr rfl)

/-! ### the reference's disk -/
structure RX where
  S : List (List Int)
  cache : List (Int × List Int)
  bad : List Bool
  left : Int
  dead : Bool
def bytesK : Kd (List Int) := Kd.slice 5 (Kd.int .u8)
def rwrK : Kd (Int × List Int) := Kd.pair (Kd.int .i64) bytesK
def isRef (o : Obj) : Prop := match o with
  | .cells _ t _ => t = 53 ∨ t = 29 ∨ t = 4
  | _ => False
structure RM (w : World) (base B : Nat) (vS vC vB : Value) (X : RX) : Prop where
  blk : w.heap[B]? = some (.cells #[vS, vC, vB, .int .i64 X.left, .bool X.dead] 53 (0, 0))
  S : Kd.R bytesK 29 w base (fun _ => True) vS X.S
  C : Kd.R rwrK 106 w base (fun _ => True) vC X.cache
  bad : Kd.R Kd.bool 4 w base (fun _ => True) vB X.bad
  hB : base ≤ B
structure XOk (X : RX) : Prop where
  s64 : ∀ s ∈ X.S, s.length = 64
  c64 : ∀ p ∈ X.cache, p.2.length = 64 ∧ 0 ≤ p.1 ∧ p.1 < X.S.length
  hb : X.bad.length = X.S.length
  hl : -1 ≤ X.left ∧ X.left ≤ 9223372036854775807
  hn : X.S.length ≤ 4096
structure RK (w : World) (base B : Nat) (vS vC vB : Value) (X : RX) : Prop extends RM w base B vS vC vB X where
  ok : XOk X
theorem q29 : ∀ q, q ∈ 29 :: bytesK.E → q = 29 ∨ q = 5 := by
  intro q hq
  rw [show 29 :: bytesK.E = [29, 5] from rfl] at hq
  simpa using hq
theorem own_cells {α : Type} {d : Kd α} {e : Nat} {w : World} {base : Nat} {v : Value} {xs : List α} {ok : Nat → Prop} (hr : Kd.R d e w base ok v xs) (k : Nat) (hk : some k = v.ownBlock) : base ≤ k ∧ ∃ cells, w.heap[k]? = some (.cells cells e (0, 0)) := by
  obtain ⟨inner, ho⟩ := Kd.R_own hr
  exact ⟨own_base ho k hk.symm, own_typed ho k hk.symm⟩
def ractX (X : RX) : RX × Int := if X.dead || X.left == 0 then ({ X with dead := true }, 50) else if 0 < X.left then ({ X with left := X.left - 1 }, 0) else (X, 0)
def rarmX (X : RX) (n : Int) : RX := { X with left := if 0 ≤ n then n else -1 }
end Go.Proofs.Ytlepcmljmibdnaa
namespace Go.Proofs.Ytlepcmljmibdnaa
open Go.RowKit Go.Proofs.YtlepcmljmibdnaaW.PrintWords Go.Proofs.YtlepcmljmibdnaaW.PrintLast Go.Proofs.YtlepcmljmibdnaaW.PrintMore PDiskArms
set_option linter.unusedVariables false
set_option linter.unusedSimpArgs false
theorem info29e : (Try.prog.info? 29).map (fun i => (i.zero, i.size, i.bytes)) = some (some (.slice none 0 0), bytesK.sz, 24) := by kernel_rfl
def rnewN (n : Int) : Nat := (min (max n 0) 4096).toNat
def rnewX (m : Nat) : RX := { S := List.replicate m zsec, cache := [], bad := List.replicate m false, left := -1, dead := false }
def RNewP (w : World) (N : Nat) (e : Ending) (w' : World) : Prop := ∃ B vS vB, e = .returned (.pointer (some ⟨B, 0, none⟩)) ∧ RM w' w.heap.size B vS (.slice none 0 0) vB (rnewX N) ∧ Below w.heap.size w w'
end Go.Proofs.Ytlepcmljmibdnaa
namespace Go.Proofs.Ytlepcmljmibdnaa
open Go.RowKit Go.Proofs.YtlepcmljmibdnaaW.PrintWords Go.Proofs.YtlepcmljmibdnaaW.PrintLast Go.Proofs.YtlepcmljmibdnaaW.PrintMore PDiskArms
set_option linter.unusedVariables false
set_option linter.unusedSimpArgs false
section
variable {w : World} {base B : Nat} {vS vC vB : Value} {X : RX}
end
def rputs (S : List (List Int)) (l : List (Int × List Int)) : List (List Int) := l.foldl (fun S p => S.set p.1.toNat p.2) S
def rflushX (X : RX) : RX × Int := if (ractX X).2 ≠ 0 then ractX X else ({ (ractX X).1 with S := rputs X.S X.cache, cache := [] }, 0)
end Go.Proofs.Ytlepcmljmibdnaa
namespace Go.Proofs.Ytlepcmljmibdnaa
open Go.RowKit Go.Proofs.YtlepcmljmibdnaaW.PrintWords Go.Proofs.YtlepcmljmibdnaaW.PrintLast Go.Proofs.YtlepcmljmibdnaaW.PrintMore PDiskArms
set_option linter.unusedVariables false
set_option linter.unusedSimpArgs false
def rsel (S : List (List Int)) (l : List (Int × List Int)) (ks : List Bool) : Nat → List (List Int)
  | 0 => S
  | i + 1 => if ks.getD i false then (rsel S l ks i).set (l.getD i (0, [])).1.toNat (l.getD i (0, [])).2 else rsel S l ks i
def rcrashX (X : RX) (ks : List Bool) : RX := { S := rsel X.S X.cache ks X.cache.length, cache := [], bad := X.bad, left := -1, dead := false }
end Go.Proofs.Ytlepcmljmibdnaa
namespace Go.Proofs.Ytlepcmljmibdnaa
open Go.RowKit Go.Proofs.YtlepcmljmibdnaaW.PrintWords Go.Proofs.YtlepcmljmibdnaaW.PrintLast Go.Proofs.YtlepcmljmibdnaaW.PrintMore PDiskArms
set_option linter.unusedVariables false
set_option linter.unusedSimpArgs false
section
variable {w : World} {base B : Nat} {vS vC vB : Value} {X : RX}
end
def rfaultX (X : RX) (at_ : Int) (on : Bool) : RX := if inB at_ X.S.length = false then X else { X with bad := X.bad.set at_.toNat on }
def rreadX (X : RX) (at_ : Int) : List Int × Int :=
  if X.dead then ([], 50) else if inB at_ X.S.length = false then ([], 1) else if X.bad.getD at_.toNat false then ([], 52) else (readL (X.S.getD at_.toNat []) X.cache at_, 0)
end Go.Proofs.Ytlepcmljmibdnaa
