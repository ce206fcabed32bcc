/- Parts of one proof, joined: Rtk. Conditions: those of each statement. -/
import Derived.Test.YtdjjlmphifgnnaaCb14
import Derived.WalkKit
import Derived.ProofKit
import Derived.OpenShut
import Derived.ShutString
import Derived.ChangeOld
import Derived.Below
namespace Go.Rd
open Go.RowKit Go.Proofs.YtdjjlmphifgnnaaW.PrintWords
section
variable {P : Program} {t e : TypeId}
theorem trod_float {H : Type} {enc : TypeId × Value → H} {w : World} {base : Nat} {spare : Nat → Bool} {held : Bool} {fuel : Nat} {k : FloatKind} {cs : List Value} {x : DataW H × List MemPlace} (ht : P.underlying t = some (.float k)) (h : DataW.trod enc P w base spare held fuel t cs = some x) : ∃ b, cs = [.float k b] ∧ (Lit.float k b).wf = true := by
  cases fuel with
  | zero => simp [DataW.trod] at h
  | succ n =>
    unfold DataW.trod at h
    rw [ht] at h
    split at h <;> simp_all
theorem float {α : Type} {enc' : α → Value} {h1 : ∀ x, (enc' x).oneCell' = true} (hs : ∀ b, b < 18446744073709551616 → ∃ x, enc' x = .float .f64 b) (ht : P.underlying t = some (.float .f64)) (hc : P.cellsOf t = 1) : Reads P t (Kd.scalar enc' h1) (fun _ => True) :=
  ⟨hc, fun enc w sp held fuel cs x h => by
    obtain ⟨b, rfl, hw⟩ := trod_float ht h
    obtain ⟨y, hy⟩ := hs b (by simpa [Lit.wf] using hw)
    exact ⟨y, by rw [← hy]; rfl, trivial⟩⟩
theorem isoOk {α β : Type} {d : Kd α} {ok : α → Prop} (hd : Reads P t d ok) (f : β → α) (g : α → β) (h : ∀ a, ok a → f (g a) = a) : Reads P t (Kd.iso d f) (fun x => ok (f x)) :=
  ⟨hd.cells, fun enc w sp held fuel cs x hx => by
    obtain ⟨a, ha, hok⟩ := hd.rd enc w sp held fuel cs x hx
    refine ⟨g a, ?_, by rw [h a hok]; exact hok⟩
    show d.K w (f (g a)) cs
    rw [h a hok]
    exact ha⟩
end
end Go.Rd
namespace Go.Proofs.Ytdjjlmphifgnnaa
open Go.ChangeShapes Go.WideShapes Go.ChangeAt Go.RowKit Go.Proofs.YtdjjlmphifgnnaaW.PrintWords Go.Proofs.YtdjjlmphifgnnaaW.PrintLast Go.Proofs.YtdjjlmphifgnnaaW.PrintMore
theorem rU64 : Rd.Reads Try.prog 26 (Kd.int .u64) (fun n => (Lit.int .u64 n).wf = true) := Rd.int Try.underlying26 (by kernel_rfl)
theorem rBool : Rd.Reads Try.prog 4 Kd.bool (fun _ => True) := Rd.bool Try.underlying4 (by kernel_rfl)
theorem rString : Rd.Reads Try.prog 9 Kd.string (fun s => s.size ≤ maxLen) := Rd.string Try.underlying9 (by kernel_rfl)
theorem rStrs : Rd.Reads Try.prog 32 (Kd.slice 9 Kd.string) (fun xs => ∀ a ∈ xs, a.size ≤ maxLen) := Rd.slice rString Try.underlying32 (by kernel_rfl)
theorem rF64 : Rd.Reads Try.prog 31 kF (fun _ => True) := Rd.float (fun b hb => ⟨⟨b, hb⟩, rfl⟩) Try.underlying31 (by kernel_rfl)
theorem u64_in {n : Int} (h : (Lit.int .u64 n).wf = true) : 0 ≤ n ∧ n < 18446744073709551616 := by
  have := bounds_u64 h
  omega
theorem rTupL : Rd.Reads Try.prog 43 (Kd.pair (Kd.int .u64) Kd.string) (fun x => (Lit.int .u64 x.1).wf = true ∧ x.2.size ≤ maxLen) := by
  refine Rd.struct Try.underlying43 ?_ (by kernel_rfl)
  refine Rd.cons (ok' := fun y : ByteArray => y.size ≤ maxLen) (f := { name := "Id", type := 26, offset := 0, embedded := false, tag := "", pkgPath := "", byteOffset := 0 }) rU64 ?_
  exact Rd.one (f := { name := "Name", type := 9, offset := 1, embedded := false, tag := "", pkgPath := "", byteOffset := 8 }) rString
theorem rLst : Rd.Reads Try.prog 43 kL (fun x => (Lit.int .u64 (x.id : Int)).wf = true ∧ x.name.size ≤ maxLen) :=
  Rd.isoOk rTupL (fun x : Lst => ((x.id : Int), x.name)) (fun a => (⟨a.1.toNat, a.2⟩ : Lst)) (fun a h => by
    have := u64_in h.1
    exact Prod.ext (by show ((a.1.toNat : Nat) : Int) = a.1; omega) rfl)
theorem rTupT : Rd.Reads Try.prog 34 (Kd.pair (Kd.int .u64) (Kd.pair (Kd.int .u64) (Kd.pair Kd.string (Kd.pair Kd.bool (Kd.pair kF (Kd.pair kF (Kd.slice 9 Kd.string)))))))
    (fun x => (Lit.int .u64 x.1).wf = true ∧ (Lit.int .u64 x.2.1).wf = true ∧ x.2.2.1.size ≤ maxLen ∧ True ∧ True ∧ True ∧ ∀ a ∈ x.2.2.2.2.2.2, a.size ≤ maxLen) := by
  refine Rd.struct Try.underlying34 ?_ (by kernel_rfl)
  refine Rd.cons (ok' := fun y : Int × ByteArray × Bool × W64 × W64 × List ByteArray => (Lit.int .u64 y.1).wf = true ∧ y.2.1.size ≤ maxLen ∧ True ∧ True ∧ True ∧ ∀ a ∈ y.2.2.2.2.2, a.size ≤ maxLen) (f := { name := "Id", type := 26, offset := 0, embedded := false, tag := "", pkgPath := "", byteOffset := 0 }) rU64 ?_
  refine Rd.cons (ok' := fun y : ByteArray × Bool × W64 × W64 × List ByteArray => y.1.size ≤ maxLen ∧ True ∧ True ∧ True ∧ ∀ a ∈ y.2.2.2.2, a.size ≤ maxLen) (f := { name := "List", type := 26, offset := 1, embedded := false, tag := "", pkgPath := "", byteOffset := 8 }) rU64 ?_
  refine Rd.cons (ok' := fun y : Bool × W64 × W64 × List ByteArray => True ∧ True ∧ True ∧ ∀ a ∈ y.2.2.2, a.size ≤ maxLen) (f := { name := "Title", type := 9, offset := 2, embedded := false, tag := "", pkgPath := "", byteOffset := 16 }) rString ?_
  refine Rd.cons (ok' := fun y : W64 × W64 × List ByteArray => True ∧ True ∧ ∀ a ∈ y.2.2, a.size ≤ maxLen) (f := { name := "Done", type := 4, offset := 3, embedded := false, tag := "", pkgPath := "", byteOffset := 32 }) rBool ?_
  refine Rd.cons (ok' := fun y : W64 × List ByteArray => True ∧ ∀ a ∈ y.2, a.size ≤ maxLen) (f := { name := "Rank", type := 31, offset := 4, embedded := false, tag := "", pkgPath := "", byteOffset := 40 }) rF64 ?_
  refine Rd.cons (ok' := fun y : List ByteArray => ∀ a ∈ y, a.size ≤ maxLen) (f := { name := "Est", type := 31, offset := 5, embedded := false, tag := "", pkgPath := "", byteOffset := 48 }) rF64 ?_
  exact Rd.one (f := { name := "Tags", type := 32, offset := 6, embedded := false, tag := "", pkgPath := "", byteOffset := 56 }) rStrs
theorem rTask : Rd.Reads Try.prog 34 kT (fun x => (Lit.int .u64 (x.id : Int)).wf = true ∧ (Lit.int .u64 (x.list : Int)).wf = true ∧ x.title.size ≤ maxLen ∧ True ∧ True ∧ True ∧ ∀ a ∈ x.tags, a.size ≤ maxLen) :=
  Rd.isoOk rTupT (fun x : Tsk => ((x.id : Int), (x.list : Int), x.title, x.done, x.rank, x.est, x.tags)) (fun a => (⟨a.1.toNat, a.2.1.toNat, a.2.2.1, a.2.2.2.1, a.2.2.2.2.1, a.2.2.2.2.2.1, a.2.2.2.2.2.2⟩ : Tsk)) (fun a h => by
    have h1 := u64_in h.1
    have h2 := u64_in h.2.1
    exact Prod.ext (by show ((a.1.toNat : Nat) : Int) = a.1; omega) (Prod.ext (by show ((a.2.1.toNat : Nat) : Int) = a.2.1; omega) rfl))
theorem rState : Rd.Reads Try.prog 25 (Kd.pair (Kd.slice 43 kL) (Kd.slice 34 kT)) (fun x => (∀ a ∈ x.1, (Lit.int .u64 (a.id : Int)).wf = true ∧ a.name.size ≤ maxLen) ∧ ∀ a ∈ x.2, (Lit.int .u64 (a.id : Int)).wf = true ∧ (Lit.int .u64 (a.list : Int)).wf = true ∧ a.title.size ≤ maxLen ∧ True ∧ True ∧ True ∧ ∀ t ∈ a.tags, t.size ≤ maxLen) := by
  refine Rd.struct Try.underlying25 ?_ (by kernel_rfl)
  refine Rd.cons (ok' := fun y : List Tsk => ∀ a ∈ y, (Lit.int .u64 (a.id : Int)).wf = true ∧ (Lit.int .u64 (a.list : Int)).wf = true ∧ a.title.size ≤ maxLen ∧ True ∧ True ∧ True ∧ ∀ t ∈ a.tags, t.size ≤ maxLen) (f := { name := "Lists", type := 22, offset := 0, embedded := false, tag := "", pkgPath := "", byteOffset := 0 }) (Rd.slice rLst Try.underlying22 (by kernel_rfl)) ?_
  exact Rd.one (f := { name := "Tasks", type := 23, offset := 1, embedded := false, tag := "", pkgPath := "", byteOffset := 24 }) (Rd.slice rTask Try.underlying23 (by kernel_rfl))
/-- a state that came in -/
theorem stArg {H : Type} {enc : TypeId × Value → H} {W : World} {v : Value} {D : DataW H} {ps : List MemPlace} (hv : ∃ cs, v = .agg cs)
    (h : DataW.Trod enc Try.prog W 0 (fun _ => true) true 25 v D ps) : ∃ (LA TA : Option Addr) (lc tc : Nat) (ls : List Lst) (l : List Tsk), v = .agg #[.slice LA ls.length lc, .slice TA l.length tc] ∧ kL.C W LA ls.length ls ∧ kT.C W TA l.length l := by
  obtain ⟨cs, rfl⟩ := hv
  obtain ⟨fuel, hf⟩ := h
  obtain ⟨⟨ls, l⟩, ⟨c0, c1, e, ⟨LA, lc, rfl, h1, h2⟩, ⟨TA, tc, rfl, h3, h4⟩⟩, _⟩ := rState.rd enc W _ _ fuel _ _ hf
  refine ⟨LA, TA, lc, tc, ls, l, ?_, h2, h4⟩
  congr 1
  exact Array.toList_inj.1 e
end Go.Proofs.Ytdjjlmphifgnnaa
