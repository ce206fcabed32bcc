/- What the statements' arguments read as. No conditions. -/
import Derived.Test.YtlepcmljmibdnaaPDiskArmsx1
import Derived.Test.YtlepcmljmibdnaaRd
import Derived.WalkKit
import Derived.ProofKit
import Derived.OpenShut
import Derived.ShutString
import Derived.ChangeOld
import Derived.Below
namespace Go.Proofs.Ytlepcmljmibdnaa
open Go.ChangeShapes Go.WideShapes Go.ChangeAt Go.RowKit Go.Proofs.YtlepcmljmibdnaaW.PrintWords Go.Proofs.YtlepcmljmibdnaaW.PrintLast Go.Proofs.YtlepcmljmibdnaaW.PrintMore PDiskArms
theorem rInt : Rd.Reads Try.prog 3 (Kd.int .i64) (fun n => (Lit.int .i64 n).wf = true) := Rd.int Try.underlying3 (by kernel_rfl)
theorem rU8 : Rd.Reads Try.prog 5 (Kd.int .u8) (fun n => (Lit.int .u8 n).wf = true) := Rd.int Try.underlying5 (by kernel_rfl)
theorem rBool : Rd.Reads Try.prog 4 Kd.bool (fun _ => True) := Rd.bool Try.underlying4 (by kernel_rfl)
theorem rBytes : Rd.Reads Try.prog 29 (Kd.slice 5 (Kd.int .u8)) (fun xs => ∀ a ∈ xs, (Lit.int .u8 a).wf = true) := Rd.slice rU8 Try.underlying29 (by kernel_rfl)
theorem rBools : Rd.Reads Try.prog 23 (Kd.slice 4 Kd.bool) (fun xs => ∀ a ∈ xs, True) := Rd.slice rBool Try.underlying23 (by kernel_rfl)
theorem rTup : Rd.Reads Try.prog 31 (Kd.pair (Kd.int .i64) (Kd.pair (Kd.int .i64) (Kd.pair (Kd.slice 5 (Kd.int .u8)) (Kd.pair (Kd.int .i64) (Kd.slice 4 Kd.bool)))))
    (fun x => (Lit.int .i64 x.1).wf = true ∧ (Lit.int .i64 x.2.1).wf = true ∧ (∀ a ∈ x.2.2.1, (Lit.int .u8 a).wf = true) ∧ (Lit.int .i64 x.2.2.2.1).wf = true ∧ ∀ a ∈ x.2.2.2.2, True) := by
  refine Rd.struct Try.underlying31 ?_ (by kernel_rfl)
  refine Rd.cons (ok' := fun y : Int × List Int × Int × List Bool => (Lit.int .i64 y.1).wf = true ∧ (∀ a ∈ y.2.1, (Lit.int .u8 a).wf = true) ∧ (Lit.int .i64 y.2.2.1).wf = true ∧ ∀ a ∈ y.2.2.2, True) (f := { name := "Kind", type := 3, offset := 0, embedded := false, tag := "", pkgPath := "", byteOffset := 0 }) rInt ?_
  refine Rd.cons (ok' := fun y : List Int × Int × List Bool => (∀ a ∈ y.1, (Lit.int .u8 a).wf = true) ∧ (Lit.int .i64 y.2.1).wf = true ∧ ∀ a ∈ y.2.2, True) (f := { name := "At", type := 3, offset := 1, embedded := false, tag := "", pkgPath := "", byteOffset := 8 }) rInt ?_
  refine Rd.cons (ok' := fun y : Int × List Bool => (Lit.int .i64 y.1).wf = true ∧ ∀ a ∈ y.2, True) (f := { name := "B", type := 29, offset := 2, embedded := false, tag := "", pkgPath := "", byteOffset := 16 }) rBytes ?_
  refine Rd.cons (ok' := fun y : List Bool => ∀ a ∈ y, True) (f := { name := "N", type := 3, offset := 3, embedded := false, tag := "", pkgPath := "", byteOffset := 40 }) rInt ?_
  exact Rd.one (f := { name := "Keep", type := 23, offset := 4, embedded := false, tag := "", pkgPath := "", byteOffset := 48 }) rBools
theorem rDeed : Rd.Reads Try.prog 31 k31 (fun x => (Lit.int .i64 x.f0).wf = true ∧ (Lit.int .i64 x.f1).wf = true ∧ (∀ a ∈ x.f2, (Lit.int .u8 a).wf = true) ∧ (Lit.int .i64 x.f3).wf = true ∧ ∀ a ∈ x.f4, True) :=
  Rd.iso rTup (fun x : S31 => (x.f0, x.f1, x.f2, x.f3, x.f4)) (fun a => (⟨a.1, a.2.1, a.2.2.1, a.2.2.2.1, a.2.2.2.2⟩ : S31)) (fun _ => rfl)
theorem int_in {n : Int} (h : (Lit.int .i64 n).wf = true) : -9223372036854775808 ≤ n ∧ n ≤ 9223372036854775807 := by
  have := bounds_i64 h
  omega
end Go.Proofs.Ytlepcmljmibdnaa
