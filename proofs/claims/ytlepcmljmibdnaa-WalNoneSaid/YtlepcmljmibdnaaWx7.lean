/- Parts of one proof, joined: Rg, Rh, Ri, Rj, Cr. Conditions: those of each statement. -/
import Derived.Test.YtlepcmljmibdnaaWx6
import Derived.ArgAppend
namespace Go.Proofs.Ytlepcmljmibdnaa
open Go.RowKit Go.Proofs.YtlepcmljmibdnaaW.PrintWords Go.Proofs.YtlepcmljmibdnaaW.PrintLast Go.Proofs.YtlepcmljmibdnaaW.PrintMore PDiskArms
set_option linter.unusedVariables false
set_option linter.unusedSimpArgs false
def rsel (S : List (List Int)) (l : List (Int × List Int)) (ks : List Bool) : Nat → List (List Int)
  | 0 => S
  | i + 1 => if ks.getD i false then (rsel S l ks i).set (l.getD i (0, [])).1.toNat (l.getD i (0, [])).2 else rsel S l ks i
def rcrashX (X : RX) (ks : List Bool) : RX := { S := rsel X.S X.cache ks X.cache.length, cache := [], bad := X.bad, left := -1, dead := false }
end Go.Proofs.Ytlepcmljmibdnaa
namespace Go.Proofs.Ytlepcmljmibdnaa
open Go.RowKit Go.Proofs.YtlepcmljmibdnaaW.PrintWords Go.Proofs.YtlepcmljmibdnaaW.PrintLast Go.Proofs.YtlepcmljmibdnaaW.PrintMore PDiskArms
set_option linter.unusedVariables false
set_option linter.unusedSimpArgs false
section
variable {w : World} {base B : Nat} {vS vC vB : Value} {X : RX}
end
def rfaultX (X : RX) (at_ : Int) (on : Bool) : RX := if inB at_ X.S.length = false then X else { X with bad := X.bad.set at_.toNat on }
def rreadX (X : RX) (at_ : Int) : List Int × Int :=
  if X.dead then ([], 50) else if inB at_ X.S.length = false then ([], 1) else if X.bad.getD at_.toNat false then ([], 52) else (readL (X.S.getD at_.toNat []) X.cache at_, 0)
end Go.Proofs.Ytlepcmljmibdnaa
namespace Go.Kd2
open Go.RowKit Go.Proofs.YtlepcmljmibdnaaW.PrintWords
end Go.Kd2
namespace Go.Proofs.Ytlepcmljmibdnaa
open Go.RowKit Go.Proofs.YtlepcmljmibdnaaW.PrintWords Go.Proofs.YtlepcmljmibdnaaW.PrintLast Go.Proofs.YtlepcmljmibdnaaW.PrintMore PDiskArms
set_option linter.unusedVariables false
set_option linter.unusedSimpArgs false
def rwriteX (X : RX) (at_ : Int) (b : List Int) : RX × Int :=
  if X.dead then (X, 50) else if inB at_ X.S.length = false then (X, 1) else if 64 < b.length then (X, 2) else
    if (ractX X).2 ≠ 0 then ractX X else ({ (ractX X).1 with cache := (ractX X).1.cache ++ [(at_, pad b)] }, 0)
end Go.Proofs.Ytlepcmljmibdnaa
namespace Go.Proofs.Ytlepcmljmibdnaa
open Go.RowKit Go.Proofs.YtlepcmljmibdnaaW.PrintWords Go.Proofs.YtlepcmljmibdnaaW.PrintLast Go.Proofs.YtlepcmljmibdnaaW.PrintMore PDiskArms
set_option linter.unusedVariables false
set_option linter.unusedSimpArgs false
def rwipeX (X : RX) : RX := rnewX X.S.length
def rcloneX (X : RX) : RX := { rnewX X.S.length with S := X.S }
def RCloneP (w : World) (X : RX) (e : Ending) (w' : World) : Prop := ∃ B' vS' vB', e = .returned (.pointer (some ⟨B', 0, none⟩)) ∧ RK w' w.heap.size B' vS' (.slice none 0 0) vB' (rcloneX X) ∧ Below w.heap.size w w'
def half (S : List (List Int)) (i : Nat) : List (List Int) := S.take i ++ List.replicate (S.length - i) zsec
end Go.Proofs.Ytlepcmljmibdnaa
namespace Go.Proofs.Ytlepcmljmibdnaa
open Go.RowKit Go.Proofs.YtlepcmljmibdnaaW.PrintWords Go.Proofs.YtlepcmljmibdnaaW.PrintLast Go.Proofs.YtlepcmljmibdnaaW.PrintMore PDiskArms
set_option linter.unusedVariables false
set_option linter.unusedSimpArgs false
structure Corr (D : PD) (X : RX) : Prop where
  n : D.n = X.S.length
  cache : D.cache = X.cache
  dead : D.dead = X.dead
  armed : D.armed = decide (0 ≤ X.left)
  left : 0 ≤ X.left → D.left = X.left
  S : ∀ (i : Nat) s, X.S[i]? = some s → (D.kept i).getD zsec = s
  bad : ∀ (i : Nat) b, X.bad[i]? = some b → D.bad i = b
end Go.Proofs.Ytlepcmljmibdnaa
