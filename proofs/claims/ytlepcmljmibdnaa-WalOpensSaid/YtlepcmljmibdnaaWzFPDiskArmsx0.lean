/- Words for the walks: those that are used. Conditions: those of each statement. -/
import Derived.Test.YtlepcmljmibdnaaProg
import Derived.Below
import Derived.Deep.Draws
import Derived.Deep.AppendLies
import Derived.Maps.AppendAt
import Derived.OwnWalk
import Derived.Laws.BytesArg
import Derived.Laws.MakeOwn
import Derived.Laws.OwnMore
import Derived.Deep.OwnRows
import Derived.Tactics
import Derived.Lib.ConvBytes
import Derived.Laws.Slices
import Derived.WalkKit
import Derived.KernelRfl
import Derived.RowKit3
import Derived.Deep.LoopGhost
import Derived.Deep.QuietTactic
import Derived.BigQuiet
import Derived.WideLaws
import Derived.Deep.DeepCutAuto
import Derived.Deep.CutBlock
import Derived.Deep.RegionHeld3
import Derived.Laws.Rows
import Derived.Lib.AppendStr
import Derived.ArgAppend
import Derived.Laws.IdiomCopy
import Derived.OrdersHeld
import Derived.Laws.BitsLemmas
import Derived.RowKit
import Derived.Test.YtlepcmljmibdnaaWzFWWords
import Derived.Test.YtlepcmljmibdnaaWzFWLast
import Derived.Test.YtlepcmljmibdnaaWzFWTab
import Derived.Test.YtlepcmljmibdnaaWzFWFour
import Derived.Test.YtlepcmljmibdnaaWzFWQPut
import Derived.Test.YtlepcmljmibdnaaWzFWApart
import Derived.Test.YtlepcmljmibdnaaWzFWArr
import Derived.Test.YtlepcmljmibdnaaWzFWZeros
import Derived.Test.YtlepcmljmibdnaaWzFWFoot
import Derived.Test.YtlepcmljmibdnaaWzFWKept
import Derived.Test.YtlepcmljmibdnaaWzFWShare
import Derived.Test.YtlepcmljmibdnaaWzFWN
import Derived.Test.YtlepcmljmibdnaaWzFWFootNe
import Derived.Test.YtlepcmljmibdnaaWzFWAt
import Derived.Test.YtlepcmljmibdnaaWzFWEqStruct
import Derived.Test.YtlepcmljmibdnaaWzFWRepsOne
import Derived.Test.YtlepcmljmibdnaaWzFWInv
import Derived.Test.YtlepcmljmibdnaaWzFWInvWords
import Derived.Test.YtlepcmljmibdnaaWzFWGuard
import Derived.Test.YtlepcmljmibdnaaWzFWNEv
import Derived.Test.YtlepcmljmibdnaaWzFWMore
-- PRINTED BY print.sh 35421559b90ae4d0a3588c463048766b98c2df88dd9212a6774a882060cdf62d: not written by this session
namespace Go.Proofs.Ytlepcmljmibdnaa.PDiskArms
open Go.RowKit Go.Proofs.YtlepcmljmibdnaaW.PrintWords Go.Proofs.YtlepcmljmibdnaaW.PrintLast Go.Proofs.YtlepcmljmibdnaaW.PrintMore
attribute [local go_sem] max2_int min2_int max_two min_two max_three min_three max_four min_four   -- for this text's walks alone
set_option linter.unusedVariables false
set_option linter.unusedSimpArgs false



def errW : Option Int → Value
  | none => .nilIface
  | some c => .iface 0 (.int .i64 c)
-- the values' own types
def rd_L2 (xs : List (List Int)) (i : Int) : (List Int) := xs.getD i.toNat ([] : List Int)
def rd_L4 (xs : List (List Bool)) (i : Int) : (List Bool) := xs.getD i.toNat ([] : List Bool)
/-! #### struct type 31 -/
structure S31 where
  f0 : Int
  f1 : Int
  f2 : (List Int)
  f3 : Int
  f4 : (List Bool)
def z31 : S31 := ⟨(0 : Int), (0 : Int), ([] : List Int), (0 : Int), ([] : List Bool)⟩
def k31 : Kd S31 := Kd.iso (Kd.pair (Kd.int .i64) (Kd.pair (Kd.int .i64) (Kd.pair (Kd.slice 5 (Kd.int .u8)) (Kd.pair (Kd.int .i64) (Kd.slice 4 Kd.bool))))) (fun x : S31 => (x.f0, x.f1, x.f2, x.f3, x.f4))
def rd_T31 (xs : List S31) (i : Int) : S31 := xs.getD i.toNat z31
end Go.Proofs.Ytlepcmljmibdnaa.PDiskArms
