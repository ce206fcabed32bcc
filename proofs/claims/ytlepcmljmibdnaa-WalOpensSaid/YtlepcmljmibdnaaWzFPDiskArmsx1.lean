/- Words for the walks: those that are used. Conditions: those of each statement. -/
import Derived.Test.YtlepcmljmibdnaaWzFPDiskArmsx0
-- PRINTED BY print.sh 35421559b90ae4d0a3588c463048766b98c2df88dd9212a6774a882060cdf62d: not written by this session
namespace Go.Proofs.Ytlepcmljmibdnaa.PDiskArms
open Go.RowKit Go.Proofs.YtlepcmljmibdnaaW.PrintWords Go.Proofs.YtlepcmljmibdnaaW.PrintLast Go.Proofs.YtlepcmljmibdnaaW.PrintMore
attribute [local go_sem] max2_int min2_int max_two min_two max_three min_three max_four min_four   -- for this text's walks alone
set_option linter.unusedVariables false
set_option linter.unusedSimpArgs false

-- NOT PRINTED: function 15 (disk_New)

-- NOT PRINTED: function 63 (disk_Disk_ok)

-- NOT PRINTED: function 19 (disk_Disk_Dead)

-- NOT PRINTED: function 22 (disk_Disk_Size)

-- NOT PRINTED: function 64 (disk_Disk_has)

-- NOT PRINTED: function 65 (disk_Disk_act)

-- NOT PRINTED: function 17 (disk_Disk_Write)

-- NOT PRINTED: function 66 (disk_Disk_keep)

-- NOT PRINTED: function 67 (disk_Disk_rest)

-- NOT PRINTED: function 20 (disk_Disk_Crash)

-- NOT PRINTED: function 69 (slices_Clone_byte_byte)

-- NOT PRINTED: function 23 (disk_Disk_Read)

-- NOT PRINTED: function 13 (factotumlaw05_awake)

/-! ### factotumlaw05_few: function 14 -/
def factotumlaw05_few.l0 : Nat → List (S31) → List (S31) → Int → Int → Option (Bool)
  | 0, _, _, _, _ => none
  | k + 1, x0, x5, x6, x7 => if x7 < x6 then (if 0 ≤ x7 then (if x7 < (x5.length : Int) then (if (((rd_T31 x5 x7).f2).length : Int) > 100 then (some false) else (if (((rd_T31 x5 x7).f4).length : Int) > 50 then (some false) else (factotumlaw05_few.l0 k x0 x5 x6 (wrap64 (x7 + 1))))) else (none)) else (none)) else (some (decide ((x0.length : Int) ≤ 40)))
def factotumlaw05_few.f (k : Nat) (l0 : List (S31)) : Option (Bool) := factotumlaw05_few.l0 k l0 l0 (l0.length : Int) 0
-- NOT PRINTED: function 16 (disk_Disk_Arm)

-- NOT PRINTED: function 18 (disk_Disk_Flush)

-- NOT PRINTED: function 3 (factotumlaw05_DiskArms)

end Go.Proofs.Ytlepcmljmibdnaa.PDiskArms
