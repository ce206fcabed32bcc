/-
  No cell of these rows narrows 'for every input' (looked for: loops, veiled, ifaces, maps, wideKeys, modest, calm, conditions, laid).
  DERIVED. THE GIVEN ROWS OF THIS SEAT. 10 by the template 'for every input the law returns true; each argument reads behind the call as it read before'; 0 by the template 'total and deterministic' (their statements: YtlepcmljmibdnaaTotals.lean).
  GIVEN WITH THE SEED: the statements are not yours to turn. If you find one false, say at which input.
  Laid BY PROGRAM, IN A SANDBOX (cutbox-rows.mjs): the forced cells as the released guide's own fill.sh prints them over the translation a12474c7e5a20caf… (all of the seat's roots in one cut). By AI agents, Wed Nov 11 2026. No macro, syntax, notation, axiom, sorry.
-/
import Derived.Test.YtlepcmljmibdnaaChecked
import GoSem.Claim
import GoSem.ClaimJoined
import GoSem.ClaimMapViews
import Derived.JoinedTies
import Derived.KernelRfl
namespace Go.Proofs.Ytlepcmljmibdnaa
/- THE CELL 'sum', in the pinned program and in every row, IS THE sha256 OF THE DUMP (.gsa) THAT YtlepcmljmibdnaaProg.lean LOADS. Nothing in Lean hashes anything: it is a label: what it is worth is what the hold of that sum in a sandbox is worth. -/
noncomputable def Try.pinned : Pinned := { name := "ytlepcmljmibdnaa", sum := "a12474c7e5a20caf6d61d6e1f9d2b1caa67bb9e4d3800dc96f1e532f4ab65ef1", checked := Try.checked }
namespace Rows
def none {H : Type} : Left H := { results := [], args := [] }

/-- 'factotumlaw05.DiskArms': WHATEVER THE INPUT: true; the input reads as it did. -/
def diskArmsSpec : ChangeSpec := { name := "diskArms", fn := fun _ => fun
  | [d1, d2, d3, d4] => { results := [.lit (.bool true)], args := [d1, d2, d3, d4] }
  | _ => none }
def diskArmsRow : OpenClaim := { program := "ytlepcmljmibdnaa", sum := "a12474c7e5a20caf6d61d6e1f9d2b1caa67bb9e4d3800dc96f1e532f4ab65ef1", func := "factotum/factotumlaw05.DiskArms", spec := "diskArms", apart := false }
def DiskArmsSaid : Prop := diskArmsRow.holds Try.pinned (OpenSpec.ofChange diskArmsSpec)

/-- ITS FALSE NEIGHBOUR: 'it returns false'. Refute it at one input. -/
def diskArmsWrong : ChangeSpec := { name := "diskArms", fn := fun _ => fun
  | [d1, d2, d3, d4] => { results := [.lit (.bool false)], args := [d1, d2, d3, d4] }
  | _ => none }
def DiskArmsWrongFalsely : Prop := diskArmsRow.holds Try.pinned (OpenSpec.ofChange diskArmsWrong)

/-- 'factotumlaw05.DiskKeeps': WHATEVER THE INPUT: true; the input reads as it did. -/
def diskKeepsSpec : ChangeSpec := { name := "diskKeeps", fn := fun _ => fun
  | [d1, d2, d3, d4] => { results := [.lit (.bool true)], args := [d1, d2, d3, d4] }
  | _ => none }
def diskKeepsRow : OpenClaim := { program := "ytlepcmljmibdnaa", sum := "a12474c7e5a20caf6d61d6e1f9d2b1caa67bb9e4d3800dc96f1e532f4ab65ef1", func := "factotum/factotumlaw05.DiskKeeps", spec := "diskKeeps", inPlace := ["maps.clone"], apart := false }
def DiskKeepsSaid : Prop := diskKeepsRow.holds Try.pinned (OpenSpec.ofChange diskKeepsSpec)

/-- ITS FALSE NEIGHBOUR: 'it returns false'. Refute it at one input. -/
def diskKeepsWrong : ChangeSpec := { name := "diskKeeps", fn := fun _ => fun
  | [d1, d2, d3, d4] => { results := [.lit (.bool false)], args := [d1, d2, d3, d4] }
  | _ => none }
def DiskKeepsWrongFalsely : Prop := diskKeepsRow.holds Try.pinned (OpenSpec.ofChange diskKeepsWrong)

/-- 'factotumlaw05.DiskDoes': WHATEVER THE INPUT: true; the input reads as it did. -/
def diskDoesSpec : ChangeSpec := { name := "diskDoes", fn := fun _ => fun
  | [d1, d2] => { results := [.lit (.bool true)], args := [d1, d2] }
  | _ => none }
def diskDoesRow : OpenClaim := { program := "ytlepcmljmibdnaa", sum := "a12474c7e5a20caf6d61d6e1f9d2b1caa67bb9e4d3800dc96f1e532f4ab65ef1", func := "factotum/factotumlaw05.DiskDoes", spec := "diskDoes", inPlace := ["maps.clone"], apart := false }
def DiskDoesSaid : Prop := diskDoesRow.holds Try.pinned (OpenSpec.ofChange diskDoesSpec)

/-- ITS FALSE NEIGHBOUR: 'it returns false'. Refute it at one input. -/
def diskDoesWrong : ChangeSpec := { name := "diskDoes", fn := fun _ => fun
  | [d1, d2] => { results := [.lit (.bool false)], args := [d1, d2] }
  | _ => none }
def DiskDoesWrongFalsely : Prop := diskDoesRow.holds Try.pinned (OpenSpec.ofChange diskDoesWrong)

/-- 'factotumlaw05.DiskOwn': WHATEVER THE INPUT: true; the input reads as it did. -/
def diskOwnSpec : ChangeSpec := { name := "diskOwn", fn := fun _ => fun
  | [d1, d2, d3] => { results := [.lit (.bool true)], args := [d1, d2, d3] }
  | _ => none }
def diskOwnRow : OpenClaim := { program := "ytlepcmljmibdnaa", sum := "a12474c7e5a20caf6d61d6e1f9d2b1caa67bb9e4d3800dc96f1e532f4ab65ef1", func := "factotum/factotumlaw05.DiskOwn", spec := "diskOwn", inPlace := ["maps.clone"], apart := false }
def DiskOwnSaid : Prop := diskOwnRow.holds Try.pinned (OpenSpec.ofChange diskOwnSpec)

/-- ITS FALSE NEIGHBOUR: 'it returns false'. Refute it at one input. -/
def diskOwnWrong : ChangeSpec := { name := "diskOwn", fn := fun _ => fun
  | [d1, d2, d3] => { results := [.lit (.bool false)], args := [d1, d2, d3] }
  | _ => none }
def DiskOwnWrongFalsely : Prop := diskOwnRow.holds Try.pinned (OpenSpec.ofChange diskOwnWrong)

/-- 'factotumlaw06.SuperSlots': WHATEVER THE INPUT: true; the input reads as it did. -/
def superSlotsSpec : ChangeSpec := { name := "superSlots", fn := fun _ => fun
  | [d1, d2, d3] => { results := [.lit (.bool true)], args := [d1, d2, d3] }
  | _ => none }
def superSlotsRow : OpenClaim := { program := "ytlepcmljmibdnaa", sum := "a12474c7e5a20caf6d61d6e1f9d2b1caa67bb9e4d3800dc96f1e532f4ab65ef1", func := "factotum/factotumlaw06.SuperSlots", spec := "superSlots", unfollowed := true, recurses := true, apart := false }
def SuperSlotsSaid : Prop := superSlotsRow.holds Try.pinned (OpenSpec.ofChange superSlotsSpec)

/-- ITS FALSE NEIGHBOUR: 'it returns false'. Refute it at one input. -/
def superSlotsWrong : ChangeSpec := { name := "superSlots", fn := fun _ => fun
  | [d1, d2, d3] => { results := [.lit (.bool false)], args := [d1, d2, d3] }
  | _ => none }
def SuperSlotsWrongFalsely : Prop := superSlotsRow.holds Try.pinned (OpenSpec.ofChange superSlotsWrong)

/-- 'factotumlaw06.SuperLoads': WHATEVER THE INPUT: true; the input reads as it did. -/
def superLoadsSpec : ChangeSpec := { name := "superLoads", fn := fun _ => fun
  | [d1, d2, d3, d4, d5] => { results := [.lit (.bool true)], args := [d1, d2, d3, d4, d5] }
  | _ => none }
def superLoadsRow : OpenClaim := { program := "ytlepcmljmibdnaa", sum := "a12474c7e5a20caf6d61d6e1f9d2b1caa67bb9e4d3800dc96f1e532f4ab65ef1", func := "factotum/factotumlaw06.SuperLoads", spec := "superLoads", unfollowed := true, recurses := true, apart := false }
def SuperLoadsSaid : Prop := superLoadsRow.holds Try.pinned (OpenSpec.ofChange superLoadsSpec)

/-- ITS FALSE NEIGHBOUR: 'it returns false'. Refute it at one input. -/
def superLoadsWrong : ChangeSpec := { name := "superLoads", fn := fun _ => fun
  | [d1, d2, d3, d4, d5] => { results := [.lit (.bool false)], args := [d1, d2, d3, d4, d5] }
  | _ => none }
def SuperLoadsWrongFalsely : Prop := superLoadsRow.holds Try.pinned (OpenSpec.ofChange superLoadsWrong)

/-- 'factotumlaw06.SuperKeeps': WHATEVER THE INPUT: true; the input reads as it did. -/
def superKeepsSpec : ChangeSpec := { name := "superKeeps", fn := fun _ => fun
  | [d1, d2, d3, d4] => { results := [.lit (.bool true)], args := [d1, d2, d3, d4] }
  | _ => none }
def superKeepsRow : OpenClaim := { program := "ytlepcmljmibdnaa", sum := "a12474c7e5a20caf6d61d6e1f9d2b1caa67bb9e4d3800dc96f1e532f4ab65ef1", func := "factotum/factotumlaw06.SuperKeeps", spec := "superKeeps", unfollowed := true, recurses := true, apart := false }
def SuperKeepsSaid : Prop := superKeepsRow.holds Try.pinned (OpenSpec.ofChange superKeepsSpec)

/-- ITS FALSE NEIGHBOUR: 'it returns false'. Refute it at one input. -/
def superKeepsWrong : ChangeSpec := { name := "superKeeps", fn := fun _ => fun
  | [d1, d2, d3, d4] => { results := [.lit (.bool false)], args := [d1, d2, d3, d4] }
  | _ => none }
def SuperKeepsWrongFalsely : Prop := superKeepsRow.holds Try.pinned (OpenSpec.ofChange superKeepsWrong)

/-- 'factotumlaw07.WalOpens': WHATEVER THE INPUT: true; the input reads as it did. -/
def walOpensSpec : ChangeSpec := { name := "walOpens", fn := fun _ => fun
  | [d1, d2, d3, d4, d5] => { results := [.lit (.bool true)], args := [d1, d2, d3, d4, d5] }
  | _ => none }
def walOpensRow : OpenClaim := { program := "ytlepcmljmibdnaa", sum := "a12474c7e5a20caf6d61d6e1f9d2b1caa67bb9e4d3800dc96f1e532f4ab65ef1", func := "factotum/factotumlaw07.WalOpens", spec := "walOpens", unfollowed := true, recurses := true, apart := false }
def WalOpensSaid : Prop := walOpensRow.holds Try.pinned (OpenSpec.ofChange walOpensSpec)

/-- ITS FALSE NEIGHBOUR: 'it returns false'. Refute it at one input. -/
def walOpensWrong : ChangeSpec := { name := "walOpens", fn := fun _ => fun
  | [d1, d2, d3, d4, d5] => { results := [.lit (.bool false)], args := [d1, d2, d3, d4, d5] }
  | _ => none }
def WalOpensWrongFalsely : Prop := walOpensRow.holds Try.pinned (OpenSpec.ofChange walOpensWrong)

/-- 'factotumlaw07.WalNone': WHATEVER THE INPUT: true; the input reads as it did. -/
def walNoneSpec : ChangeSpec := { name := "walNone", fn := fun _ => fun
  | [d1, d2] => { results := [.lit (.bool true)], args := [d1, d2] }
  | _ => none }
def walNoneRow : OpenClaim := { program := "ytlepcmljmibdnaa", sum := "a12474c7e5a20caf6d61d6e1f9d2b1caa67bb9e4d3800dc96f1e532f4ab65ef1", func := "factotum/factotumlaw07.WalNone", spec := "walNone", unfollowed := true, recurses := true, apart := false }
def WalNoneSaid : Prop := walNoneRow.holds Try.pinned (OpenSpec.ofChange walNoneSpec)

/-- ITS FALSE NEIGHBOUR: 'it returns false'. Refute it at one input. -/
def walNoneWrong : ChangeSpec := { name := "walNone", fn := fun _ => fun
  | [d1, d2] => { results := [.lit (.bool false)], args := [d1, d2] }
  | _ => none }
def WalNoneWrongFalsely : Prop := walNoneRow.holds Try.pinned (OpenSpec.ofChange walNoneWrong)

/-- 'factotumlaw07.WalKeeps': WHATEVER THE INPUT: true; the input reads as it did. -/
def walKeepsSpec : ChangeSpec := { name := "walKeeps", fn := fun _ => fun
  | [d1, d2, d3, d4, d5] => { results := [.lit (.bool true)], args := [d1, d2, d3, d4, d5] }
  | _ => none }
def walKeepsRow : OpenClaim := { program := "ytlepcmljmibdnaa", sum := "a12474c7e5a20caf6d61d6e1f9d2b1caa67bb9e4d3800dc96f1e532f4ab65ef1", func := "factotum/factotumlaw07.WalKeeps", spec := "walKeeps", unfollowed := true, recurses := true, apart := false }
def WalKeepsSaid : Prop := walKeepsRow.holds Try.pinned (OpenSpec.ofChange walKeepsSpec)

/-- ITS FALSE NEIGHBOUR: 'it returns false'. Refute it at one input. -/
def walKeepsWrong : ChangeSpec := { name := "walKeeps", fn := fun _ => fun
  | [d1, d2, d3, d4, d5] => { results := [.lit (.bool false)], args := [d1, d2, d3, d4, d5] }
  | _ => none }
def WalKeepsWrongFalsely : Prop := walKeepsRow.holds Try.pinned (OpenSpec.ofChange walKeepsWrong)

/- THE SECOND FORM. 'bulk': how many values and letters a reading holds, each counted each time it is reached (what is shared counts as often as it is met; a slice's spare places count too). A statement '..UptoSaid' is the law's where the arguments, and the package variables that the reading takes, are together of bulk at most 1048576: NARROWER than '..Said'. Prove '..Said' where nothing that the law and all that it calls make is longer than what came in: it says more and counts as full. Else prove '..UptoSaid'. A law counts once. -/
mutual
def uptoBulk {H : Type} : DataW H → Nat
  | .lit (.string bytes) => bytes.length + 1
  | .lit _ => 1
  | .nil => 1
  | .ptr d => uptoBulk d + 1
  | .slice elems spare => uptoBulkAll elems + uptoBulkAll spare + 1
  | .agg parts => uptoBulkAll parts + 1
  | .iface _ d => uptoBulk d + 1
  | .map entries => uptoBulkEntries entries + 1
  | .held _ => 1
def uptoBulkAll {H : Type} : List (DataW H) → Nat
  | [] => 0
  | d :: r => uptoBulk d + uptoBulkAll r
def uptoBulkEntries {H : Type} : List (Lit × DataW H) → Nat
  | [] => 0
  | x :: r => uptoBulkEntry x + uptoBulkEntries r
def uptoBulkEntry {H : Type} : Lit × DataW H → Nat
  | (.string bytes, d) => bytes.length + uptoBulk d + 1
  | (_, d) => uptoBulk d + 1
 end
def uptoSmall : (H : Type) → List (DataW H) → Bool := fun _ ds => decide (uptoBulkAll ds ≤ 1048576)
def OpenSpec.upto (s : _root_.Go.ChangeSpec) : _root_.Go.OpenSpec := { _root_.Go.OpenSpec.ofChange s with cond := some uptoSmall }

/-- 'factotumlaw05.DiskArms', WHERE WHAT IT READS IS OF BULK AT MOST 1048576: true; the input reads as it did. -/
def diskArmsUptoRow : OpenClaim := { program := "ytlepcmljmibdnaa", sum := "a12474c7e5a20caf6d61d6e1f9d2b1caa67bb9e4d3800dc96f1e532f4ab65ef1", func := "factotum/factotumlaw05.DiskArms", spec := "diskArms", apart := false, narrowed := true }
def DiskArmsUptoSaid : Prop := diskArmsUptoRow.holds Try.pinned (OpenSpec.upto diskArmsSpec)

/-- 'factotumlaw05.DiskKeeps', WHERE WHAT IT READS IS OF BULK AT MOST 1048576: true; the input reads as it did. -/
def diskKeepsUptoRow : OpenClaim := { program := "ytlepcmljmibdnaa", sum := "a12474c7e5a20caf6d61d6e1f9d2b1caa67bb9e4d3800dc96f1e532f4ab65ef1", func := "factotum/factotumlaw05.DiskKeeps", spec := "diskKeeps", inPlace := ["maps.clone"], apart := false, narrowed := true }
def DiskKeepsUptoSaid : Prop := diskKeepsUptoRow.holds Try.pinned (OpenSpec.upto diskKeepsSpec)

/-- 'factotumlaw05.DiskDoes', WHERE WHAT IT READS IS OF BULK AT MOST 1048576: true; the input reads as it did. -/
def diskDoesUptoRow : OpenClaim := { program := "ytlepcmljmibdnaa", sum := "a12474c7e5a20caf6d61d6e1f9d2b1caa67bb9e4d3800dc96f1e532f4ab65ef1", func := "factotum/factotumlaw05.DiskDoes", spec := "diskDoes", inPlace := ["maps.clone"], apart := false, narrowed := true }
def DiskDoesUptoSaid : Prop := diskDoesUptoRow.holds Try.pinned (OpenSpec.upto diskDoesSpec)

/-- 'factotumlaw05.DiskOwn', WHERE WHAT IT READS IS OF BULK AT MOST 1048576: true; the input reads as it did. -/
def diskOwnUptoRow : OpenClaim := { program := "ytlepcmljmibdnaa", sum := "a12474c7e5a20caf6d61d6e1f9d2b1caa67bb9e4d3800dc96f1e532f4ab65ef1", func := "factotum/factotumlaw05.DiskOwn", spec := "diskOwn", inPlace := ["maps.clone"], apart := false, narrowed := true }
def DiskOwnUptoSaid : Prop := diskOwnUptoRow.holds Try.pinned (OpenSpec.upto diskOwnSpec)

/-- 'factotumlaw06.SuperSlots', WHERE WHAT IT READS IS OF BULK AT MOST 1048576: true; the input reads as it did. -/
def superSlotsUptoRow : OpenClaim := { program := "ytlepcmljmibdnaa", sum := "a12474c7e5a20caf6d61d6e1f9d2b1caa67bb9e4d3800dc96f1e532f4ab65ef1", func := "factotum/factotumlaw06.SuperSlots", spec := "superSlots", unfollowed := true, recurses := true, apart := false, narrowed := true }
def SuperSlotsUptoSaid : Prop := superSlotsUptoRow.holds Try.pinned (OpenSpec.upto superSlotsSpec)

/-- 'factotumlaw06.SuperLoads', WHERE WHAT IT READS IS OF BULK AT MOST 1048576: true; the input reads as it did. -/
def superLoadsUptoRow : OpenClaim := { program := "ytlepcmljmibdnaa", sum := "a12474c7e5a20caf6d61d6e1f9d2b1caa67bb9e4d3800dc96f1e532f4ab65ef1", func := "factotum/factotumlaw06.SuperLoads", spec := "superLoads", unfollowed := true, recurses := true, apart := false, narrowed := true }
def SuperLoadsUptoSaid : Prop := superLoadsUptoRow.holds Try.pinned (OpenSpec.upto superLoadsSpec)

/-- 'factotumlaw06.SuperKeeps', WHERE WHAT IT READS IS OF BULK AT MOST 1048576: true; the input reads as it did. -/
def superKeepsUptoRow : OpenClaim := { program := "ytlepcmljmibdnaa", sum := "a12474c7e5a20caf6d61d6e1f9d2b1caa67bb9e4d3800dc96f1e532f4ab65ef1", func := "factotum/factotumlaw06.SuperKeeps", spec := "superKeeps", unfollowed := true, recurses := true, apart := false, narrowed := true }
def SuperKeepsUptoSaid : Prop := superKeepsUptoRow.holds Try.pinned (OpenSpec.upto superKeepsSpec)

/-- 'factotumlaw07.WalOpens', WHERE WHAT IT READS IS OF BULK AT MOST 1048576: true; the input reads as it did. -/
def walOpensUptoRow : OpenClaim := { program := "ytlepcmljmibdnaa", sum := "a12474c7e5a20caf6d61d6e1f9d2b1caa67bb9e4d3800dc96f1e532f4ab65ef1", func := "factotum/factotumlaw07.WalOpens", spec := "walOpens", unfollowed := true, recurses := true, apart := false, narrowed := true }
def WalOpensUptoSaid : Prop := walOpensUptoRow.holds Try.pinned (OpenSpec.upto walOpensSpec)

/-- 'factotumlaw07.WalNone', WHERE WHAT IT READS IS OF BULK AT MOST 1048576: true; the input reads as it did. -/
def walNoneUptoRow : OpenClaim := { program := "ytlepcmljmibdnaa", sum := "a12474c7e5a20caf6d61d6e1f9d2b1caa67bb9e4d3800dc96f1e532f4ab65ef1", func := "factotum/factotumlaw07.WalNone", spec := "walNone", unfollowed := true, recurses := true, apart := false, narrowed := true }
def WalNoneUptoSaid : Prop := walNoneUptoRow.holds Try.pinned (OpenSpec.upto walNoneSpec)

/-- 'factotumlaw07.WalKeeps', WHERE WHAT IT READS IS OF BULK AT MOST 1048576: true; the input reads as it did. -/
def walKeepsUptoRow : OpenClaim := { program := "ytlepcmljmibdnaa", sum := "a12474c7e5a20caf6d61d6e1f9d2b1caa67bb9e4d3800dc96f1e532f4ab65ef1", func := "factotum/factotumlaw07.WalKeeps", spec := "walKeeps", unfollowed := true, recurses := true, apart := false, narrowed := true }
def WalKeepsUptoSaid : Prop := walKeepsUptoRow.holds Try.pinned (OpenSpec.upto walKeepsSpec)

end Rows
end Go.Proofs.Ytlepcmljmibdnaa
