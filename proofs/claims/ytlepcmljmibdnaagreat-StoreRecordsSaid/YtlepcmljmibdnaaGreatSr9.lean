/- Parts of one proof, joined: Xc, Xd, Xe, Xf. Conditions: those of each statement. -/
import Derived.Test.YtlepcmljmibdnaaGreatSr8
namespace Go.Proofs.YtlepcmljmibdnaaGreat
open Go.RowKit Go.Proofs.YtlepcmljmibdnaaGreatW.PrintWords Go.Proofs.YtlepcmljmibdnaaGreatW.PrintLast Go.Proofs.YtlepcmljmibdnaaGreatW.PrintMore PWalOpens
set_option linter.unusedVariables false
set_option linter.unusedSimpArgs false
section
variable {w w' w2 : World} {Rb R : Nat} {va va' vL v1 : Value} {gen tail : Int} {L L' : List Rec} {all : List Int}
end
/-- what the loop keeps -/
structure OwI (w w' : World) (Rb R g4 c1 : Nat) (va vL : Value) (gen tail hh : Int) (all : List Int) (L : List Rec) : Prop where
  s : RwS w w' Rb R va vL gen tail L
  all : Kd.R (Kd.int .u8) 5 w' w.heap.size (fun _ => True) va all
  two : Kd.R (Kd.int .u64) 52 w' w.heap.size (fun _ => True) (.slice (some ⟨g4, 0, none⟩) 2 c1) [hh, tail]
section
variable {w w' w2 : World} {Rb R g4 c1 : Nat} {va va' vL v1 : Value} {gen tail hh : Int} {L L' : List Rec} {all all' : List Int}
end
section
variable {w : World} {base R : Nat} {vS vC vB : Value} {X : RX}
end
end Go.Proofs.YtlepcmljmibdnaaGreat
namespace Go.Proofs.YtlepcmljmibdnaaGreat
open Go.RowKit Go.Proofs.YtlepcmljmibdnaaGreatW.PrintWords Go.Proofs.YtlepcmljmibdnaaGreatW.PrintLast Go.Proofs.YtlepcmljmibdnaaGreatW.PrintMore PWalOpens
set_option linter.unusedVariables false
set_option linter.unusedSimpArgs false
def isRW (k : Nat) (o : Obj) : Prop := isRef k o ∨ isT 55 k o
/-- a wal of the reference's; vo: a row that is not among its records' -/
structure RV (n0 : Nat) (w : World) (Rb R : Nat) (vS vC vB vo vL : Value) (X : RX) (gen tail : Int) (L : List Rec) (over : Bool) : Prop where
  blk : w.heap[Rb]? = some (.cells #[.pointer (some ⟨R, 0, none⟩), .int .u64 gen, .int .u64 tail, vL, .bool over] 55 (0, 0))
  hW : n0 ≤ Rb
  rk : RK w n0 R vS vC vB X
  L : Kd.Q recK 112 w n0 (fun k => some k ≠ vo.ownBlock) vL L
def headX (L : List Rec) (tail : Int) : Int := match L with
  | [] => tail
  | x :: _ => x.2.1
section
variable {n0 : Nat} {w w' : World} {Rb R : Nat} {vS vC vB vo vL v1 : Value} {X X1 : RX} {gen tail : Int} {L L1 : List Rec} {over : Bool}
/-- what turn does: 0, or over -/
def RtQ (n0 : Nat) (w : World) (Rb R : Nat) (vS vB vL v1 : Value) (X1 : RX) (gen tail t1 : Int) (L L1 : List Rec) (over : Bool) (e : Int) (r : Ending) (w' : World) : Prop :=
  TC n0 isRW w w' ∧ ∃ vC', (e = 0 → r = .returned (.int .i64 0) ∧ RV n0 w' Rb R vS vC' vB (.slice none 0 0) v1 X1 (gen + 1) t1 L1 over) ∧ (e ≠ 0 → r = .returned (.int .i64 50) ∧ RV n0 w' Rb R vS vC' vB (.slice none 0 0) vL X1 gen tail L true)
end
end Go.Proofs.YtlepcmljmibdnaaGreat
namespace Go.Proofs.YtlepcmljmibdnaaGreat
open Go.RowKit Go.Proofs.YtlepcmljmibdnaaGreatW.PrintWords Go.Proofs.YtlepcmljmibdnaaGreatW.PrintLast Go.Proofs.YtlepcmljmibdnaaGreatW.PrintMore PWalOpens
set_option linter.unusedVariables false
set_option linter.unusedSimpArgs false
def rlayC (r : Int) : List (List Int) → RX → Int → RX × Int × Int
  | [], X, s => (X, s, 0)
  | c :: cs, X, s => if (rwriteX X (sectP r s) c).2 ≠ 0 then ((rwriteX X (sectP r s) c).1, s, 50) else rlayC r cs (rwriteX X (sectP r s) c).1 (s + 1)
def rlayR (r : Int) : List (List Int) → RX → Int → List Rec → RX × List Rec × Int × Int
  | [], X, s, out => (X, out, s, 0)
  | b :: bs, X, s, out => if (rlayC r (chs (frameX b)) X s).2.2 ≠ 0 then ((rlayC r (chs (frameX b)) X s).1, [], 0, 50) else rlayR r bs (rlayC r (chs (frameX b)) X s).1 (rlayC r (chs (frameX b)) X s).2.1 (out ++ [(b, s, (rlayC r (chs (frameX b)) X s).2.1)])
/-- texts that lie still while what is T goes on -/
def Txts (n0 : Nat) (T : Nat → Obj → Prop) (w : World) (A : Option Addr) (R : List (List Int)) : Prop :=
  ∀ i, i < R.length → ∃ ad A0 c0, A = some ad ∧ ∀ W, TC n0 T w W → W.cell? (ad.add i) = some (.slice A0 (R.getD i []).length c0) ∧ (R.getD i []).length ≤ c0 ∧ (Kd.int .u8).C W A0 (R.getD i []).length (R.getD i [])
section
variable {n0 : Nat} {w w' w2 : World} {Rb R : Nat} {vS vC vB vo vo' vL v1 : Value} {X X1 : RX} {gen tail : Int} {L L1 oL : List Rec} {over : Bool}
def PutQ (n0 : Nat) (w : World) (Rb R : Nat) (vS vB : Value) (X X1 X2 : RX) (gen tail p : Int) (L out : List Rec) (e e2 : Int) (r : Ending) (w' : World) : Prop :=
  TC n0 isRW w w' ∧ ∃ vC' vL',
    (e = 51 → r = .returned (.int .i64 51) ∧ RV n0 w' Rb R vS vC' vB (.slice none 0 0) vL' X gen tail L false) ∧
    (e = 50 → r = .returned (.int .i64 50) ∧ RV n0 w' Rb R vS vC' vB (.slice none 0 0) vL' X1 gen tail L true) ∧
    (e = 0 → e2 = 0 → r = .returned (.int .i64 0) ∧ RV n0 w' Rb R vS vC' vB (.slice none 0 0) vL' X2 (gen + 1) p out false) ∧
    (e = 0 → e2 ≠ 0 → r = .returned (.int .i64 50) ∧ RV n0 w' Rb R vS vC' vB (.slice none 0 0) vL' X2 gen tail L true)
end
end Go.Proofs.YtlepcmljmibdnaaGreat
namespace Go.Proofs.YtlepcmljmibdnaaGreat
open Go.RowKit Go.Proofs.YtlepcmljmibdnaaGreatW.PrintWords Go.Proofs.YtlepcmljmibdnaaGreatW.PrintLast Go.Proofs.YtlepcmljmibdnaaGreatW.PrintMore PWalOpens
set_option linter.unusedVariables false
set_option linter.unusedSimpArgs false
section
variable {n0 : Nat} {w w' w2 : World} {Rb R : Nat} {vS vC vB vo vo' vL v1 : Value} {X X1 X2 : RX} {gen tail : Int} {L L1 oL : List Rec} {over : Bool}
end
end Go.Proofs.YtlepcmljmibdnaaGreat
