/- Parts of one proof, joined: Xf, Pk, Sw, Sk, Wk, Xg, Xh, Xi. Conditions: those of each statement. -/
import Derived.Test.YtlepcmljmibdnaaGreatZg8
import Derived.Test.YtlepcmljmibdnaaGreatZg7
import Derived.Test.YtlepcmljmibdnaaGreatZg5
namespace Go.Proofs.YtlepcmljmibdnaaGreat
open Go.RowKit Go.Proofs.YtlepcmljmibdnaaGreatW.PrintWords Go.Proofs.YtlepcmljmibdnaaGreatW.PrintLast Go.Proofs.YtlepcmljmibdnaaGreatW.PrintMore PWalOpens
set_option linter.unusedVariables false
set_option linter.unusedSimpArgs false
section
variable {n0 : Nat} {w w' w2 : World} {Rb R : Nat} {vS vC vB vo vo' vL v1 : Value} {X X1 X2 : RX} {gen tail : Int} {L L1 oL : List Rec} {over : Bool}
end
end Go.Proofs.YtlepcmljmibdnaaGreat
namespace Go.Proofs.YtlepcmljmibdnaaGreat
open Go.RowKit Go.Proofs.YtlepcmljmibdnaaGreatW.PrintWords Go.Proofs.YtlepcmljmibdnaaGreatW.PrintLast Go.Proofs.YtlepcmljmibdnaaGreatW.PrintMore PWalOpens
set_option linter.unusedVariables false
set_option linter.unusedSimpArgs false
/-- what is kept (S), what is seen (V), and the sectors that are cached (T) -/
structure Pn (D : PD) (n : Int) (S V : Int → List Int) (T : Int → Prop) : Prop where
  qt : Qt D n S
  view : ∀ a, view D a = V a
  cache : ∀ p ∈ D.cache, T p.1
section
variable {D : PD} {n : Int} {S V : Int → List Int} {T : Int → Prop}
end
section
variable {n r : Int} {S : Int → List Int} {T : Int → Prop}
end
section
variable {D : PD} {S : Int → List Int} {r g head tail : Int} {R : List (List Int)}
end
theorem starts_len : ∀ (X : List (List Int)) (p : Int), (startsP p X).length = X.length
  | [], p => rfl
  | b :: bs, p => by simp [startsP, starts_len bs]
/-- what the wal's change answers, and the disk behind it -/
noncomputable def chgD (D1 : PD) (e : Int) (h1 s g : Int) : PD := if e = 0 then (saveP D1 g [h1, s]).1 else D1
noncomputable def chgE (D1 : PD) (e : Int) (h1 s g : Int) : Int := if e = 0 ∧ (saveP D1 g [h1, s]).2 = 0 then 0 else 50
structure Keeps (r : Int) (D1 : PD) (e : Int) (h1 s g : Int) (ks : List Bool) (R W : List (List Int)) : Prop where
  code : e = 0 ∨ e = 50
  s0 : 0 ≤ s ∧ s < 18446744073709551616
  len : D1.cache.length ≤ 4200
  ok : OKD (crashP (chgD D1 e h1 s g) ks)
  got : ∃ S g' h' t' X, WInv (crashP (chgD D1 e h1 s g) ks) S r g' h' t' X ∧ (X = W ∨ (chgE D1 e h1 s g ≠ 0 ∧ X = R))
section
variable {D : PD} {S : Int → List Int} {r g head tail : Int} {R : List (List Int)}
end
end Go.Proofs.YtlepcmljmibdnaaGreat
namespace Go.Proofs.YtlepcmljmibdnaaGreat
open Go.RowKit Go.Proofs.YtlepcmljmibdnaaGreatW.PrintWords Go.Proofs.YtlepcmljmibdnaaGreatW.PrintLast Go.Proofs.YtlepcmljmibdnaaGreatW.PrintMore PWalOpens
set_option linter.unusedVariables false
set_option linter.unusedSimpArgs false
section
variable {n0 : Nat} {w w' : World} {Wb B M Bd : Nat} {vc vs v1 : Value} {D D1 D2 : PD} {gen head tail h1 t1 : Int} {S S1 st : List Int} {over : Bool} {s e e2 : Int}
def SwapQ (n0 : Nat) (w : World) (Wb B M Bd : Nat) (D1 D2 : PD) (gen head tail : Int) (S st : List Int) (s e e2 : Int) (r : Ending) (w' : World) : Prop :=
  TC n0 (isWD M Bd) w w' ∧ ∃ vc' vs',
    (e ≠ 0 → (e = 2 ∨ e = 51) → r = .returned (.int .i64 e) ∧ WV n0 w' Wb B M Bd vc' vs' D1 gen head tail S false) ∧
    (e ≠ 0 → (e ≠ 2 ∧ e ≠ 51) → r = .returned (.int .i64 50) ∧ WV n0 w' Wb B M Bd vc' vs' D1 gen head tail S true) ∧
    (e = 0 → e2 = 0 → r = .returned (.int .i64 0) ∧ WV n0 w' Wb B M Bd vc' vs' D2 (gen + 1) tail s st false) ∧
    (e = 0 → e2 ≠ 0 → r = .returned (.int .i64 50) ∧ WV n0 w' Wb B M Bd vc' vs' D2 gen head tail S true)
end
end Go.Proofs.YtlepcmljmibdnaaGreat
namespace Go.Proofs.YtlepcmljmibdnaaGreat
open Go.RowKit Go.Proofs.YtlepcmljmibdnaaGreatW.PrintWords Go.Proofs.YtlepcmljmibdnaaGreatW.PrintLast Go.Proofs.YtlepcmljmibdnaaGreatW.PrintMore PWalOpens
set_option linter.unusedVariables false
set_option linter.unusedSimpArgs false
section
variable {w0 w : World} {F : Nat → Prop} {B M Bd : Nat} {vc : Value} {D D1 : PD}
end
end Go.Proofs.YtlepcmljmibdnaaGreat
namespace Go.Proofs.YtlepcmljmibdnaaGreat
open Go.RowKit Go.Proofs.YtlepcmljmibdnaaGreatW.PrintWords Go.Proofs.YtlepcmljmibdnaaGreatW.PrintLast Go.Proofs.YtlepcmljmibdnaaGreatW.PrintMore PWalOpens
set_option linter.unusedVariables false
set_option linter.unusedSimpArgs false
/-- texts that lie in an elder world -/
def farK (w0 : World) : Kd (List Int) where
  sz := 1
  E := []
  K := fun _ xs cs => bytesK.K w0 xs cs
  M := fun _ _ _ xs cs => bytesK.K w0 xs cs
  K_len := fun h => bytesK.K_len h
  K_one := fun h => bytesK.K_one h
  K_below := fun _ h => h
  K_of_M := fun h => h
  M_mono := fun _ h => h
  M_bound := fun h => h
  M_move := fun _ h => h
  M_lower := fun _ h => h
section
variable {n0 : Nat} {w w' : World} {Wb B M Bd : Nat} {vc vs v1 : Value} {D D1 D2 : PD} {gen head tail h1 t1 : Int} {S S1 st : List Int} {over : Bool} {s e e2 : Int}
end
end Go.Proofs.YtlepcmljmibdnaaGreat
namespace Go.Proofs.YtlepcmljmibdnaaGreat
open Go.RowKit Go.Proofs.YtlepcmljmibdnaaGreatW.PrintWords Go.Proofs.YtlepcmljmibdnaaGreatW.PrintLast Go.Proofs.YtlepcmljmibdnaaGreatW.PrintMore PWalOpens
set_option linter.unusedVariables false
set_option linter.unusedSimpArgs false
section
variable {n0 : Nat} {w w' w2 : World} {Rb R : Nat} {vS vC vB vo vo' vL v1 : Value} {X X1 X2 : RX} {gen tail : Int} {L L1 oL : List Rec} {over : Bool}
def RcsQ (w : World) (L : List Rec) (e : Ending) (w' : World) : Prop := ∃ A c, e = .returned (.slice A L.length c) ∧ bytesK.C w' A L.length (L.map (·.1)) ∧ Below w.heap.size w w'
end
end Go.Proofs.YtlepcmljmibdnaaGreat
namespace Go.Proofs.YtlepcmljmibdnaaGreat
open Go.RowKit Go.Proofs.YtlepcmljmibdnaaGreatW.PrintWords Go.Proofs.YtlepcmljmibdnaaGreatW.PrintLast Go.Proofs.YtlepcmljmibdnaaGreatW.PrintMore PWalOpens
set_option linter.unusedVariables false
set_option linter.unusedSimpArgs false
/-- a disk and the reference's disk, alike -/
structure Twin (D : PD) (X : RX) : Prop where
  corr : Corr D X
  xok : XOk X
  ok : OKD D
section
variable {D : PD} {X : RX}
end
section
variable {D : PD} {X : RX} {r t : Int}
end
end Go.Proofs.YtlepcmljmibdnaaGreat
namespace Go.Proofs.YtlepcmljmibdnaaGreat
open Go.RowKit Go.Proofs.YtlepcmljmibdnaaGreatW.PrintWords Go.Proofs.YtlepcmljmibdnaaGreatW.PrintLast Go.Proofs.YtlepcmljmibdnaaGreatW.PrintMore PWalOpens
set_option linter.unusedVariables false
set_option linter.unusedSimpArgs false
section
variable {r : Int}
end
/-- a wal that runs, and the reference's -/
structure Same (D : PD) (X : RX) (r head tail : Int) (S : List Int) (L : List Rec) (over : Bool) : Prop where
  twin : Twin D X
  ring : D.n = r + 2
  hr : 1 ≤ r
  st : L.map (·.2.1) = S
  hd : headX L tail = head
  h0 : 0 ≤ head
  le : head ≤ tail
  fit : tail - head ≤ r
  clean : over = false → D.cache = []
  few : D.cache.length ≤ 5000
section
variable {D : PD} {X : RX} {r head tail : Int} {S : List Int} {L : List Rec} {over : Bool}
end
end Go.Proofs.YtlepcmljmibdnaaGreat
