/- Parts of one proof, joined: Wd, Rdg, Rti, Ita, Wdh. Conditions: those of each statement. -/
import Derived.Test.YtmjnndcadndiaaaGreatWMore
import Derived.Test.YtmjnndcadndiaaaGreatWWords
import Derived.Deep.Slices
import Derived.ChangeArms
import Derived.Test.YtmjnndcadndiaaaGreatProg
import Derived.WalkKit
import Derived.ProofKit
import Derived.OpenShut
import Derived.ShutString
import Derived.ChangeOld
import Derived.Below
import Derived.Laws.Entries
import Derived.Sort.Row
namespace Go.Proofs.YtmjnndcadndiaaaGreat
open Go.RowKit Go.Proofs.YtmjnndcadndiaaaGreatW.PrintWords Go.Proofs.YtmjnndcadndiaaaGreatW.PrintLast Go.Proofs.YtmjnndcadndiaaaGreatW.PrintMore
/-- a word of 64 bits -/
structure W64 where
  b : Nat
  lt : b < 18446744073709551616
instance : Inhabited W64 := ⟨⟨0, by decide⟩⟩
theorem W64.ext {x y : W64} (h : x.b = y.b) : x = y := by cases x; cases y; cases h; rfl
instance : DecidableEq W64 := fun x y => if h : x.b = y.b then .isTrue (W64.ext h) else .isFalse (fun e => h (by rw [e]))
/-- floats in memory -/
def kF : Kd W64 := Kd.scalar (fun x : W64 => .float .f64 x.b) (fun _ => rfl)
end Go.Proofs.YtmjnndcadndiaaaGreat
namespace Go.Rd
open Go.RowKit Go.Proofs.YtmjnndcadndiaaaGreatW.PrintWords

structure Reads (P : Program) (t : TypeId) {α : Type} (d : Kd α) (ok : α → Prop) : Prop where
  cells : P.cellsOf t = d.sz
  rd : ∀ {H : Type} (enc : TypeId × Value → H) (w : World) (sp : Nat → Bool) (held : Bool) (fuel : Nat) (cs : List Value) (x : DataW H × List MemPlace),
    DataW.trod enc P w 0 sp held fuel t cs = some x → ∃ a, d.K w a cs ∧ ok a

section
variable {P : Program} {t e : TypeId}
theorem int {k : IntKind} (ht : P.underlying t = some (.int k)) (hc : P.cellsOf t = 1) : Reads P t (Kd.int k) (fun n => (Lit.int k n).wf = true) :=
  ⟨hc, fun enc w sp held fuel cs x h => by
    obtain ⟨n, rfl, _, hw⟩ := DataW.trod_int ht h
    exact ⟨n, rfl, hw⟩⟩
theorem bool (ht : P.underlying t = some .bool) (hc : P.cellsOf t = 1) : Reads P t Kd.bool (fun _ => True) :=
  ⟨hc, fun enc w sp held fuel cs x h => by
    obtain ⟨n, rfl, _⟩ := DataW.trod_bool ht h
    exact ⟨n, rfl, trivial⟩⟩
theorem string (ht : P.underlying t = some .string) (hc : P.cellsOf t = 1) : Reads P t Kd.string (fun s => s.size ≤ maxLen) :=
  ⟨hc, fun enc w sp held fuel cs x h => by
    obtain ⟨n, rfl, _, hs⟩ := DataW.trod_string ht h
    exact ⟨n, rfl, hs⟩⟩
theorem slice {α : Type} {d : Kd α} {ok : α → Prop} (hd : Reads P e d ok) (ht : P.underlying t = some (.slice e)) (hc : P.cellsOf t = 1) : Reads P t (Kd.slice e d) (fun xs => ∀ a ∈ xs, ok a) :=
  ⟨hc, fun enc w sp held fuel cs x h => by
    rcases Deep.open_slice ht h with ⟨rfl, _⟩ | ⟨a, len, cap, m, n, D, Pl, rfl, hb, hl, hm, hmm, _, hx⟩
    · exact ⟨[], ⟨none, 0, rfl, Nat.le_refl _, Kd.C_nil _ _⟩, by simp⟩
    · have hlm : len ≤ m := by rw [hmm]; split <;> omega
      have hall : ∀ i, i < len → ∃ y : α, ok y ∧ ∃ c, c.length = d.sz ∧ d.K w y c ∧ ∀ j u, c[j]? = some u → w.cell? (a.add (i * d.sz + j)) = some u := by
        intro i hi
        obtain ⟨cs', h1, h2⟩ := hx i (by omega)
        obtain ⟨y, hy, hok⟩ := hd.rd enc w sp held n cs' _ h2
        obtain ⟨_, h4, h5⟩ := World.cells?_some h1
        rw [hd.cells] at h4 h5
        refine ⟨y, hok, cs', h4, hy, fun j u hj => ?_⟩
        have hjl : j < d.sz := by rw [← h4]; exact (List.getElem?_eq_some_iff.1 hj).1
        have := h5 j hjl
        rw [Deep.add_add] at this
        rw [this, hj]
      by_cases h0 : len = 0
      · subst h0
        exact ⟨[], ⟨some a, cap, rfl, by simp, ⟨rfl, by simp, fun h => absurd h (Nat.lt_irrefl 0)⟩⟩, by simp⟩
      · obtain ⟨y0, _⟩ := hall 0 (by omega)
        haveI : Inhabited α := ⟨y0⟩
        obtain ⟨f, hf⟩ := Deep.choose_lt (p := fun i y => ok y ∧ ∃ c, c.length = d.sz ∧ d.K w y c ∧ ∀ j u, c[j]? = some u → w.cell? (a.add (i * d.sz + j)) = some u) hall
        have hlen : ((List.range len).map f).length = len := by simp
        refine ⟨(List.range len).map f, ⟨some a, cap, by rw [hlen], by rw [hlen]; exact hl, ?_⟩, fun y hy => ?_⟩
        · refine ⟨rfl, by rw [hlen]; simp only [maxLen] at hm; omega, fun _ => ⟨a, rfl, fun j p hj => ?_⟩⟩
          have hjl : j < len := by rw [← hlen]; exact (List.getElem?_eq_some_iff.1 hj).1
          rw [List.getElem?_map, List.getElem?_range hjl] at hj
          obtain rfl := Option.some.inj hj
          exact (hf j hjl).2
        · obtain ⟨i, hi, rfl⟩ := List.mem_map.1 hy
          exact (hf i (List.mem_range.1 hi)).1⟩

structure FieldsR (P : Program) (fs : List Field) (o : Nat) {α : Type} (d : Kd α) (ok : α → Prop) : Prop where
  rd : ∀ {H : Type} (enc : TypeId × Value → H) (w : World) (sp : Nat → Bool) (held : Bool) (n : Nat) (cs : List Value), o + d.sz ≤ cs.length →
    (∀ f ∈ fs, ∃ y, DataW.trod enc P w 0 sp held n f.type ((cs.drop f.offset).take (P.cellsOf f.type)) = some y) → ∃ a, d.K w a ((cs.drop o).take d.sz) ∧ ok a
theorem one {α : Type} {d : Kd α} {ok : α → Prop} {f : Field} (hd : Reads P f.type d ok) : FieldsR P [f] f.offset d ok := by
  refine ⟨fun {H} enc w sp held n cs hl h => ?_⟩
  obtain ⟨y, hy⟩ := h f (by simp)
  rw [hd.cells] at hy
  exact hd.rd enc w sp held n _ y hy
theorem cons {α β : Type} {d : Kd α} {d' : Kd β} {ok : α → Prop} {ok' : β → Prop} {f : Field} {fs : List Field} (hd : Reads P f.type d ok) (hf : FieldsR P fs (f.offset + d.sz) d' ok') :
    FieldsR P (f :: fs) f.offset (Kd.pair d d') (fun p => ok p.1 ∧ ok' p.2) := by
  refine ⟨fun {H} enc w sp held n cs hl h => ?_⟩
  have hsz : (Kd.pair d d').sz = d.sz + d'.sz := rfl
  rw [hsz] at hl ⊢
  obtain ⟨y, hy⟩ := h f (by simp)
  rw [hd.cells] at hy
  obtain ⟨a, ha, hoa⟩ := hd.rd enc w sp held n _ y hy
  obtain ⟨b, hb, hob⟩ := hf.rd enc w sp held n cs (by omega) (fun g hg => h g (by simp [hg]))
  refine ⟨(a, b), ⟨_, _, ?_, ha, hb⟩, hoa, hob⟩
  rw [← List.drop_drop, List.take_add]
theorem struct {α : Type} {d : Kd α} {ok : α → Prop} {fs : Array Field} (ht : P.underlying t = some (.struct fs)) (hf : FieldsR P fs.toList 0 d ok) (hc : P.cellsOf t = d.sz) : Reads P t d ok :=
  ⟨hc, fun enc w sp held fuel cs x h => by
    obtain ⟨xs, n, _, _, hl, hx, hall⟩ := DataW.trod_struct ht h
    obtain ⟨a, ha, hoa⟩ := hf.rd enc w sp held n cs (by rw [hl, hc]; omega) (fun f hm => by
      obtain ⟨i, hi⟩ := List.mem_iff_getElem?.1 hm
      have hil : i < fs.size := by simpa using (List.getElem?_eq_some_iff.1 hi).1
      have := hall i f (by simpa using hi)
      rw [List.getElem?_eq_getElem (by omega)] at this
      exact ⟨_, this⟩)
    refine ⟨a, ?_, hoa⟩
    rw [List.drop_zero, List.take_of_length_le (by rw [hl, hc]; exact Nat.le_refl _)] at ha
    exact ha⟩
theorem iso {α β : Type} {d : Kd α} {ok : α → Prop} (hd : Reads P t d ok) (f : β → α) (g : α → β) (h : ∀ a, f (g a) = a) : Reads P t (Kd.iso d f) (fun x => ok (f x)) :=
  ⟨hd.cells, fun enc w sp held fuel cs x hx => by
    obtain ⟨a, ha, hok⟩ := hd.rd enc w sp held fuel cs x hx
    refine ⟨g a, ?_, by rw [h]; exact hok⟩
    show d.K w (f (g a)) cs
    rw [h]
    exact ha⟩
/-- A slice that came in. -/
theorem arg {α : Type} {d : Kd α} {ok : α → Prop} (hd : Reads P e d ok) (ht : P.underlying t = some (.slice e)) (hc : P.cellsOf t = 1) {H : Type} {enc : TypeId × Value → H} {W : World} {a : Option Addr} {len cap : Nat} {D : DataW H} {ps : List MemPlace}
    (h : DataW.Trod enc P W 0 (fun _ => true) true t (.slice a len cap) D ps) : ∃ l : List α, len = l.length ∧ l.length ≤ cap ∧ d.C W a l.length l ∧ ∀ x ∈ l, ok x := by
  obtain ⟨fuel, hf⟩ := h
  obtain ⟨l, ⟨A, c, he, hl, hC⟩, hok⟩ := (slice hd ht hc).rd enc W _ _ fuel _ _ hf
  simp only [Value.cells, List.cons.injEq, and_true] at he
  injection he with h1 h2 h3
  subst h1; subst h2; subst h3
  exact ⟨l, rfl, hl, hC, hok⟩
end
end Go.Rd
namespace Go.Rd
open Go.RowKit Go.Proofs.YtmjnndcadndiaaaGreatW.PrintWords
section
variable {P : Program} {t e : TypeId}
theorem trod_float {H : Type} {enc : TypeId × Value → H} {w : World} {base : Nat} {spare : Nat → Bool} {held : Bool} {fuel : Nat} {k : FloatKind} {cs : List Value} {x : DataW H × List MemPlace} (ht : P.underlying t = some (.float k)) (h : DataW.trod enc P w base spare held fuel t cs = some x) : ∃ b, cs = [.float k b] ∧ (Lit.float k b).wf = true := by
  cases fuel with
  | zero => simp [DataW.trod] at h
  | succ n =>
    unfold DataW.trod at h
    rw [ht] at h
    split at h <;> simp_all
theorem float {α : Type} {enc' : α → Value} {h1 : ∀ x, (enc' x).oneCell' = true} (hs : ∀ b, b < 18446744073709551616 → ∃ x, enc' x = .float .f64 b) (ht : P.underlying t = some (.float .f64)) (hc : P.cellsOf t = 1) : Reads P t (Kd.scalar enc' h1) (fun _ => True) :=
  ⟨hc, fun enc w sp held fuel cs x h => by
    obtain ⟨b, rfl, hw⟩ := trod_float ht h
    obtain ⟨y, hy⟩ := hs b (by simpa [Lit.wf] using hw)
    exact ⟨y, by rw [← hy]; rfl, trivial⟩⟩
theorem isoOk {α β : Type} {d : Kd α} {ok : α → Prop} (hd : Reads P t d ok) (f : β → α) (g : α → β) (h : ∀ a, ok a → f (g a) = a) : Reads P t (Kd.iso d f) (fun x => ok (f x)) :=
  ⟨hd.cells, fun enc w sp held fuel cs x hx => by
    obtain ⟨a, ha, hok⟩ := hd.rd enc w sp held fuel cs x hx
    refine ⟨g a, ?_, by rw [h a hok]; exact hok⟩
    show d.K w (f (g a)) cs
    rw [h a hok]
    exact ha⟩
end
end Go.Rd
namespace Go.Proofs.YtmjnndcadndiaaaGreat
open Go.ChangeShapes Go.WideShapes Go.ChangeAt Go.RowKit Go.Proofs.YtmjnndcadndiaaaGreatW.PrintWords Go.Proofs.YtmjnndcadndiaaaGreatW.PrintLast Go.Proofs.YtmjnndcadndiaaaGreatW.PrintMore
theorem rU64 : Rd.Reads Tryz.prog 27 (Kd.int .u64) (fun n => (Lit.int .u64 n).wf = true) := Rd.int Tryz.underlying27 (by kernel_rfl)
theorem rBool : Rd.Reads Tryz.prog 4 Kd.bool (fun _ => True) := Rd.bool Tryz.underlying4 (by kernel_rfl)
theorem rString : Rd.Reads Tryz.prog 9 Kd.string (fun s => s.size ≤ maxLen) := Rd.string Tryz.underlying9 (by kernel_rfl)
theorem rF64 : Rd.Reads Tryz.prog 28 kF (fun _ => True) := Rd.float (fun b hb => ⟨⟨b, hb⟩, rfl⟩) Tryz.underlying28 (by kernel_rfl)
theorem u64_in {n : Int} (h : (Lit.int .u64 n).wf = true) : 0 ≤ n ∧ n < 18446744073709551616 := by
  have := bounds_u64 h
  omega
end Go.Proofs.YtmjnndcadndiaaaGreat
namespace Go.Proofs.YtmjnndcadndiaaaGreat
open Go.ChangeShapes Go.WideShapes Go.ChangeAt Go.RowKit Go.Proofs.YtmjnndcadndiaaaGreatW.PrintWords Go.Proofs.YtmjnndcadndiaaaGreatW.PrintLast Go.Proofs.YtmjnndcadndiaaaGreatW.PrintMore
set_option linter.unusedVariables false
set_option linter.unusedSimpArgs false
/-- an item -/
structure Itm where
  ident : Nat
  num : Nat
  kind : Int
  mid : Nat
  mlist : Nat
  text : ByteArray
  f : W64
  flag : Bool
instance : Inhabited Itm := ⟨⟨0, 0, 0, 0, 0, .empty, default, false⟩⟩
def mtC (x : Itm) : List Value := [.int .i64 x.kind, .int .u64 (x.mid : Int), .int .u64 (x.mlist : Int), .string x.text, .float .f64 x.f.b, .bool x.flag]
def itC (x : Itm) : List Value := [.int .u64 (x.ident : Int), .int .u64 (x.num : Int), .int .i64 x.kind, .int .u64 (x.mid : Int), .int .u64 (x.mlist : Int), .string x.text, .float .f64 x.f.b, .bool x.flag]
theorem itC_one (x : Itm) (u : Value) (hu : u ∈ itC x) : u.oneCell' = true := by
  simp [itC] at hu
  rcases hu with rfl | rfl | rfl | rfl | rfl | rfl | rfl | rfl <;> rfl
def kI : Kd Itm where
  sz := 8
  E := []
  K := fun _ x cs => cs = itC x
  M := fun _ _ _ x cs => cs = itC x
  K_len := by rintro _ _ _ rfl; rfl
  K_one := by
    rintro _ x _ rfl u hu
    exact itC_one x u hu
  K_below := fun _ h => h
  K_of_M := fun h => h
  M_mono := fun _ h => h
  M_bound := fun h => h
  M_move := fun _ h => h
  M_lower := fun _ h => h
theorem kI_get {w : World} {A : Option Addr} {xs : List Itm} (h : kI.C w A xs.length xs) {i : Nat} {x : Itm} (hx : xs[i]? = some x) : ∃ ad, A = some ad ∧ w.cell? (ad.add (i * 8)) = some (.int .u64 (x.ident : Int)) ∧ w.cell? ⟨(ad.add (i * 8)).block, (ad.add (i * 8)).off + 1, none⟩ = some (.int .u64 (x.num : Int)) ∧ w.cell? ⟨(ad.add (i * 8)).block, (ad.add (i * 8)).off + 2, none⟩ = some (.int .i64 x.kind) ∧ w.cell? ⟨(ad.add (i * 8)).block, (ad.add (i * 8)).off + 3, none⟩ = some (.int .u64 (x.mid : Int)) ∧ w.cell? ⟨(ad.add (i * 8)).block, (ad.add (i * 8)).off + 4, none⟩ = some (.int .u64 (x.mlist : Int)) ∧ w.cell? ⟨(ad.add (i * 8)).block, (ad.add (i * 8)).off + 5, none⟩ = some (.string x.text) ∧ w.cell? ⟨(ad.add (i * 8)).block, (ad.add (i * 8)).off + 6, none⟩ = some (.float .f64 x.f.b) ∧ w.cell? ⟨(ad.add (i * 8)).block, (ad.add (i * 8)).off + 7, none⟩ = some (.bool x.flag) := by
  have hlt := (List.getElem?_eq_some_iff.1 hx).1
  obtain ⟨ad, c, e, _, hK, hc0⟩ := Kd.C_get h x (i : Int) (by omega) (by omega)
  rw [Int.toNat_natCast, List.getD_eq_getElem?_getD, hx] at hK
  subst hK
  have hc : ∀ j u, (itC x)[j]? = some u → w.cell? (ad.add (i * 8 + j)) = some u := by
    intro j u hj
    have := hc0 j u hj
    rwa [Int.toNat_natCast] at this
  exact ⟨ad, e, hc 0 _ rfl, by rw [← add_field _ _ 1 (by omega)]; exact hc 1 _ rfl, by rw [← add_field _ _ 2 (by omega)]; exact hc 2 _ rfl, by rw [← add_field _ _ 3 (by omega)]; exact hc 3 _ rfl, by rw [← add_field _ _ 4 (by omega)]; exact hc 4 _ rfl, by rw [← add_field _ _ 5 (by omega)]; exact hc 5 _ rfl, by rw [← add_field _ _ 6 (by omega)]; exact hc 6 _ rfl, by rw [← add_field _ _ 7 (by omega)]; exact hc 7 _ rfl⟩
theorem rInt : Rd.Reads Tryz.prog 3 (Kd.int .i64) (fun n => (Lit.int .i64 n).wf = true) := Rd.int Tryz.underlying3 (by kernel_rfl)
theorem rTupM : Rd.Reads Tryz.prog 30 (Kd.pair (Kd.int .i64) (Kd.pair (Kd.int .u64) (Kd.pair (Kd.int .u64) (Kd.pair Kd.string (Kd.pair kF Kd.bool)))))
    (fun x => (Lit.int .i64 x.1).wf = true ∧ (Lit.int .u64 x.2.1).wf = true ∧ (Lit.int .u64 x.2.2.1).wf = true ∧ x.2.2.2.1.size ≤ maxLen ∧ True ∧ True) := by
  refine Rd.struct Tryz.underlying30 ?_ (by kernel_rfl)
  refine Rd.cons (ok' := fun y : Int × Int × ByteArray × W64 × Bool => (Lit.int .u64 y.1).wf = true ∧ (Lit.int .u64 y.2.1).wf = true ∧ y.2.2.1.size ≤ maxLen ∧ True ∧ True) (f := { name := "Kind", type := 3, offset := 0, embedded := false, tag := "", pkgPath := "", byteOffset := 0 }) rInt ?_
  refine Rd.cons (ok' := fun y : Int × ByteArray × W64 × Bool => (Lit.int .u64 y.1).wf = true ∧ y.2.1.size ≤ maxLen ∧ True ∧ True) (f := { name := "Id", type := 27, offset := 1, embedded := false, tag := "", pkgPath := "", byteOffset := 8 }) rU64 ?_
  refine Rd.cons (ok' := fun y : ByteArray × W64 × Bool => y.1.size ≤ maxLen ∧ True ∧ True) (f := { name := "List", type := 27, offset := 2, embedded := false, tag := "", pkgPath := "", byteOffset := 16 }) rU64 ?_
  refine Rd.cons (ok' := fun y : W64 × Bool => True ∧ True) (f := { name := "Text", type := 9, offset := 3, embedded := false, tag := "", pkgPath := "", byteOffset := 24 }) rString ?_
  refine Rd.cons (ok' := fun y : Bool => True) (f := { name := "F", type := 28, offset := 4, embedded := false, tag := "", pkgPath := "", byteOffset := 40 }) rF64 ?_
  exact Rd.one (f := { name := "Flag", type := 4, offset := 5, embedded := false, tag := "", pkgPath := "", byteOffset := 48 }) rBool
theorem rTupI : Rd.Reads Tryz.prog 32 (Kd.pair (Kd.int .u64) (Kd.pair (Kd.int .u64) (Kd.pair (Kd.int .i64) (Kd.pair (Kd.int .u64) (Kd.pair (Kd.int .u64) (Kd.pair Kd.string (Kd.pair kF Kd.bool)))))))
    (fun x => (Lit.int .u64 x.1).wf = true ∧ (Lit.int .u64 x.2.1).wf = true ∧ (Lit.int .i64 x.2.2.1).wf = true ∧ (Lit.int .u64 x.2.2.2.1).wf = true ∧ (Lit.int .u64 x.2.2.2.2.1).wf = true ∧ x.2.2.2.2.2.1.size ≤ maxLen ∧ True ∧ True) := by
  refine Rd.struct Tryz.underlying32 ?_ (by kernel_rfl)
  refine Rd.cons (ok' := fun y : Int × Int × Int × Int × ByteArray × W64 × Bool => (Lit.int .u64 y.1).wf = true ∧ (Lit.int .i64 y.2.1).wf = true ∧ (Lit.int .u64 y.2.2.1).wf = true ∧ (Lit.int .u64 y.2.2.2.1).wf = true ∧ y.2.2.2.2.1.size ≤ maxLen ∧ True ∧ True) (f := { name := "Ident", type := 27, offset := 0, embedded := false, tag := "", pkgPath := "", byteOffset := 0 }) rU64 ?_
  refine Rd.cons (ok' := fun y : Int × Int × Int × ByteArray × W64 × Bool => (Lit.int .i64 y.1).wf = true ∧ (Lit.int .u64 y.2.1).wf = true ∧ (Lit.int .u64 y.2.2.1).wf = true ∧ y.2.2.2.1.size ≤ maxLen ∧ True ∧ True) (f := { name := "Id", type := 27, offset := 1, embedded := false, tag := "", pkgPath := "", byteOffset := 8 }) rU64 ?_
  exact Rd.one (f := { name := "Mut", type := 30, offset := 2, embedded := false, tag := "", pkgPath := "", byteOffset := 16 }) rTupM
def itmOk (x : Itm) : Prop := x.ident < 18446744073709551616 ∧ x.num < 18446744073709551616 ∧ x.text.size ≤ maxLen
theorem rItem : Rd.Reads Tryz.prog 32 kI itmOk :=
  ⟨rTupI.cells, fun enc w sp held fuel cs x h => by
    obtain ⟨⟨a, b, c, d, e, t, f, g⟩, hK, h1, h2, h3, h4, h5, h6, _, _⟩ := rTupI.rd enc w sp held fuel cs x h
    obtain ⟨_, _, rfl, rfl, ⟨_, _, rfl, rfl, ⟨_, _, rfl, rfl, ⟨_, _, rfl, rfl, ⟨_, _, rfl, rfl, ⟨_, _, rfl, rfl, ⟨_, _, rfl, rfl, rfl⟩⟩⟩⟩⟩⟩⟩ := hK
    have q1 := u64_in h1
    have q2 := u64_in h2
    have q4 := u64_in h4
    have q5 := u64_in h5
    obtain ⟨a, rfl⟩ := Int.eq_ofNat_of_zero_le q1.1
    obtain ⟨b, rfl⟩ := Int.eq_ofNat_of_zero_le q2.1
    obtain ⟨d, rfl⟩ := Int.eq_ofNat_of_zero_le q4.1
    obtain ⟨e, rfl⟩ := Int.eq_ofNat_of_zero_le q5.1
    exact ⟨⟨a, b, c, d, e, t, f, g⟩, rfl, by simp only at q1 ⊢; omega, by simp only at q2 ⊢; omega, h6⟩⟩
theorem rItems : Rd.Reads Tryz.prog 22 (Kd.slice 32 kI) (fun xs => ∀ a ∈ xs, itmOk a) := Rd.slice rItem Tryz.underlying22 (by kernel_rfl)
end Go.Proofs.YtmjnndcadndiaaaGreat
namespace Go.Proofs.YtmjnndcadndiaaaGreat
open Go.RowKit Go.Sort Go.Proofs.YtmjnndcadndiaaaGreatW.PrintWords Go.Proofs.YtmjnndcadndiaaaGreatW.PrintLast Go.Proofs.YtmjnndcadndiaaaGreatW.PrintMore
set_option linter.unusedVariables false
set_option linter.unusedSimpArgs false
theorem heap_setCell_ne (w : World) (B o : Nat) (v : Value) {k : Nat} (h : k ≠ B) : (w.setCell ⟨B, o, none⟩ v).heap[k]? = w.heap[k]? := by
  rw [setCell_eq]
  show (w.heap.modify B _)[k]? = _
  rw [Array.getElem?_modify, if_neg (Ne.symm h)]
theorem heap_setCell_at (w : World) (B o : Nat) (v : Value) {c : Array Value} {e : TypeId} {fr : Nat × Nat} (h : w.heap[B]? = some (.cells c e fr)) : (w.setCell ⟨B, o, none⟩ v).heap[B]? = some (.cells (c.setIfInBounds o v) e fr) := by
  rw [setCell_eq]
  show (w.heap.modify B _)[B]? = _
  rw [Array.getElem?_modify, if_pos rfl, h]
  rfl
theorem R_slice3 {α : Type} {d : Kd α} {e : Nat} {w : World} {base : Nat} {ok : Nat → Prop} {v : Value} {xs : List α} (h : Kd.R d e w base ok v xs) : ∃ A n c, v = .slice A n c := by
  obtain ⟨A, c, rfl⟩ := Kd.R_slice h
  exact ⟨A, _, c, rfl⟩
theorem run_store_float (P : Program) (w : World) (a : Addr) (m : Mode) (k : FloatKind) (b : Nat) : (store a (.float k b) m).run P w = stored P w a (.float k b) m := run_store P w a _ m rfl
theorem below_setCell {b : Nat} (w : World) {B : Nat} (o : Nat) (v : Value) (h : b ≤ B) : Below b w (w.setCell ⟨B, o, none⟩ v) := by
  have e : w.setCell ⟨B, o, none⟩ v = mapBlock w B (·.setIfInBounds o v) := setCell_eq w B o v
  refine ⟨by rw [e]; rfl, by rw [e]; rfl, by rw [e]; rfl, by rw [e]; simp [mapBlock], fun i hi => heap_setCell_ne w B o v (by omega)⟩
/-- what is owned lives on where another, newer block is written -/
theorem R_past {α : Type} {d : Kd α} {e : Nat} {w w1 : World} {base : Nat} {ok : Nat → Prop} {v : Value} {xs : List α} (h : Kd.R d e w base ok v xs) (hm : ∀ k, k < w.heap.size → w1.heap[k]? = w.heap[k]?) : Kd.R d e w1 base ok v xs :=
  Kd.R_mono (Kd.R_move (Kd.R_bound h) fun k hk => hm k hk.2.2.1) (fun k hk => hk.1)
end Go.Proofs.YtmjnndcadndiaaaGreat
