/- Parts of one proof, joined: Sn, Rd, Rdx, Ss. Conditions: those of each statement. -/
import Derived.Test.YtlepcmljmibdnaaSa13
import Derived.Test.YtlepcmljmibdnaaWWords
import Derived.Deep.Slices
import Derived.ChangeArms
import Derived.Test.YtlepcmljmibdnaaPDiskArmsx1
import Derived.WalkKit
import Derived.ProofKit
import Derived.OpenShut
import Derived.ShutString
import Derived.ChangeOld
import Derived.Below
namespace Go.Proofs.Ytlepcmljmibdnaa
open Go.RowKit Go.Proofs.YtlepcmljmibdnaaW.PrintWords Go.Proofs.YtlepcmljmibdnaaW.PrintLast Go.Proofs.YtlepcmljmibdnaaW.PrintMore PWalOpens
set_option linter.unusedVariables false
set_option linter.unusedSimpArgs false
theorem nums_step {a b : List Int} {i : Nat} {x y : Int} (he : a.length = b.length) (hx : a[i]? = some x) (hy : b[i]? = some y) (h : x ≠ y) : a ≠ b := fun e => by
  subst e
  rw [hx] at hy
  exact h (Option.some.inj hy)
theorem same_calls (w : World) (A B : Option Addr) (c d : Nat) (a b : List Int) (q : Bool) (hq : decide (a = b) = q) (hl : a.length ≤ 1000000 ∧ b.length ≤ 1000000) (ha : (Kd.int .u64).C w A a.length a) (hb : (Kd.int .u64).C w B b.length b) :
    Calls Try.prog 41 #[.slice A a.length c, .slice B b.length d] w fun e w' => e = .returned (.bool q) ∧ Drawn0 w w' := by
  have HA := Aside0.mk ha
  have HB := Aside0.mk hb
  have hl1 := hl.1
  clear ha hb
  by_cases he : a.length = b.length
  · have c0 : ((a.length : Int) == (b.length : Int)) = true := by simp; omega
    have c1 : ((a.length : Int) != (b.length : Int)) = false := by simp; omega
    have c2 : (a.length == b.length) = true := by simpa using he
    have HE := Aside0.mk he
    have HQ := Aside0.mk hq
    clear he hq hl
    go_enter Try.func41, Try.ntmps41
    go_wp2
    go_loopg [13] a.length (fun kq v13 w' => ∃ i : Nat, v13 = .int .i64 (i : Int) ∧ Aside0 (i + kq = a.length) ∧ Aside0 (∀ j x y, j < i → a[j]? = some x → b[j]? = some y → x = y) ∧ Drawn0 w w')
    case atStart => exact ⟨0, rfl, ⟨by omega⟩, ⟨fun j x y h => by omega⟩, Drawn0.refl _⟩
    case round =>
      obtain ⟨i, rfl, HI, HZ, ⟨m1, rfl⟩⟩ := hrel
      clear c0 c1 c2
      by_cases hi : i < a.length
      · have hib : i < b.length := by have := HE.out; omega
        obtain ⟨x, hx⟩ : ∃ x, a[i]? = some x := ⟨_, List.getElem?_eq_getElem hi⟩
        obtain ⟨y, hy⟩ : ∃ y, b[i]? = some y := ⟨_, List.getElem?_eq_getElem hib⟩
        obtain ⟨a2, e, x0⟩ := Kd.at_int HA.out (i : Int) (by omega) (by omega)
        subst e
        obtain ⟨b2, e, y0⟩ := Kd.at_int HB.out (i : Int) (by omega) (by omega)
        subst e
        rw [show rd a (i : Int) = x by simp [rd, List.getD, hx], Int.toNat_natCast] at x0
        rw [show rd b (i : Int) = y by simp [rd, List.getD, hy], Int.toNat_natCast] at y0
        have HX := Aside0.mk hx
        have HY := Aside0.mk hy
        have hi1 : (i : Int) < (a.length : Int) := by omega
        have hi2 : (i : Int) < (b.length : Int) := by omega
        have hi0 : (0 : Int) ≤ (i : Int) := by omega
        clear hx hy
        by_cases h : x = y
        · subst h
          go_wp2
          go_quiet (fail)
          go_wp2
          have hk1 := HI.out
          obtain ⟨gq, rfl⟩ : ∃ gq, gk = gq + 1 := ⟨gk - 1, by omega⟩
          go_roundg gq
          case rel => exact ⟨i + 1, by go_num, ⟨by omega⟩, ⟨fun j u v hj hu hv => by
            by_cases hji : j = i
            · subst hji; rw [HX.out] at hu; rw [HY.out] at hv; exact (Option.some.inj hu).symm.trans (Option.some.inj hv)
            · exact HZ.out j u v (by omega) hu hv⟩, by repeat (first | exact Drawn0.refl _ | apply Drawn0.step)⟩
          case measure => omega
        · have hb0 : (x == y) = false := by simpa using h
          have hb1 : (x != y) = true := by simpa using h
          have HR := Aside0.mk (show q = false from by rw [← HQ.out]; exact decide_eq_false (nums_step HE.out HX.out HY.out h))
          clear h
          go_wp2
          go_quiet (fail)
          go_wp2
          go_ret
          rw [HR.out]
          exact ⟨rfl, by repeat (first | exact Drawn0.refl _ | apply Drawn0.step)⟩
      · have hi0 := HI.out
        obtain rfl : gk = 0 := by omega
        obtain rfl : i = a.length := by omega
        clear hi0
        have hm : ¬ ((a.length : Int) < (a.length : Int)) := by omega
        have HR := Aside0.mk (show q = true from by
          rw [← HQ.out]
          refine decide_eq_true (List.ext_getElem? fun j => ?_)
          by_cases hj : j < a.length
          · have h1 : a[j]? = some a[j] := List.getElem?_eq_getElem hj
            have h2 : b[j]? = some (b[j]'(by have := HE.out; omega)) := List.getElem?_eq_getElem (by have := HE.out; omega)
            rw [h1, h2, HZ.out j _ _ hj h1 h2]
          · rw [List.getElem?_eq_none (by omega), List.getElem?_eq_none (by have := HE.out; omega)])
        go_wp2
        go_ret
        rw [HR.out]
        exact ⟨rfl, by repeat (first | exact Drawn0.refl _ | apply Drawn0.step)⟩
  · have c0 : ((a.length : Int) == (b.length : Int)) = false := by simp; omega
    have c1 : ((a.length : Int) != (b.length : Int)) = true := by simp; omega
    have c2 : (a.length == b.length) = false := by simpa using he
    have HR := Aside0.mk (show q = false from by rw [← hq]; exact decide_eq_false (fun e => he (congrArg List.length e)))
    clear he hq hl
    go_enter Try.func41, Try.ntmps41
    go_wp2
    go_ret
    rw [HR.out]
    exact ⟨rfl, Drawn0.refl _⟩
end Go.Proofs.Ytlepcmljmibdnaa
namespace Go.Rd
open Go.RowKit Go.Proofs.YtlepcmljmibdnaaW.PrintWords

structure Reads (P : Program) (t : TypeId) {α : Type} (d : Kd α) (ok : α → Prop) : Prop where
  cells : P.cellsOf t = d.sz
  rd : ∀ {H : Type} (enc : TypeId × Value → H) (w : World) (sp : Nat → Bool) (held : Bool) (fuel : Nat) (cs : List Value) (x : DataW H × List MemPlace),
    DataW.trod enc P w 0 sp held fuel t cs = some x → ∃ a, d.K w a cs ∧ ok a

section
variable {P : Program} {t e : TypeId}
theorem int {k : IntKind} (ht : P.underlying t = some (.int k)) (hc : P.cellsOf t = 1) : Reads P t (Kd.int k) (fun n => (Lit.int k n).wf = true) :=
  ⟨hc, fun enc w sp held fuel cs x h => by
    obtain ⟨n, rfl, _, hw⟩ := DataW.trod_int ht h
    exact ⟨n, rfl, hw⟩⟩
theorem bool (ht : P.underlying t = some .bool) (hc : P.cellsOf t = 1) : Reads P t Kd.bool (fun _ => True) :=
  ⟨hc, fun enc w sp held fuel cs x h => by
    obtain ⟨n, rfl, _⟩ := DataW.trod_bool ht h
    exact ⟨n, rfl, trivial⟩⟩
theorem string (ht : P.underlying t = some .string) (hc : P.cellsOf t = 1) : Reads P t Kd.string (fun s => s.size ≤ maxLen) :=
  ⟨hc, fun enc w sp held fuel cs x h => by
    obtain ⟨n, rfl, _, hs⟩ := DataW.trod_string ht h
    exact ⟨n, rfl, hs⟩⟩
theorem slice {α : Type} {d : Kd α} {ok : α → Prop} (hd : Reads P e d ok) (ht : P.underlying t = some (.slice e)) (hc : P.cellsOf t = 1) : Reads P t (Kd.slice e d) (fun xs => ∀ a ∈ xs, ok a) :=
  ⟨hc, fun enc w sp held fuel cs x h => by
    rcases Deep.open_slice ht h with ⟨rfl, _⟩ | ⟨a, len, cap, m, n, D, Pl, rfl, hb, hl, hm, hmm, _, hx⟩
    · exact ⟨[], ⟨none, 0, rfl, Nat.le_refl _, Kd.C_nil _ _⟩, by simp⟩
    · have hlm : len ≤ m := by rw [hmm]; split <;> omega
      have hall : ∀ i, i < len → ∃ y : α, ok y ∧ ∃ c, c.length = d.sz ∧ d.K w y c ∧ ∀ j u, c[j]? = some u → w.cell? (a.add (i * d.sz + j)) = some u := by
        intro i hi
        obtain ⟨cs', h1, h2⟩ := hx i (by omega)
        obtain ⟨y, hy, hok⟩ := hd.rd enc w sp held n cs' _ h2
        obtain ⟨_, h4, h5⟩ := World.cells?_some h1
        rw [hd.cells] at h4 h5
        refine ⟨y, hok, cs', h4, hy, fun j u hj => ?_⟩
        have hjl : j < d.sz := by rw [← h4]; exact (List.getElem?_eq_some_iff.1 hj).1
        have := h5 j hjl
        rw [Deep.add_add] at this
        rw [this, hj]
      by_cases h0 : len = 0
      · subst h0
        exact ⟨[], ⟨some a, cap, rfl, by simp, ⟨rfl, by simp, fun h => absurd h (Nat.lt_irrefl 0)⟩⟩, by simp⟩
      · obtain ⟨y0, _⟩ := hall 0 (by omega)
        haveI : Inhabited α := ⟨y0⟩
        obtain ⟨f, hf⟩ := Deep.choose_lt (p := fun i y => ok y ∧ ∃ c, c.length = d.sz ∧ d.K w y c ∧ ∀ j u, c[j]? = some u → w.cell? (a.add (i * d.sz + j)) = some u) hall
        have hlen : ((List.range len).map f).length = len := by simp
        refine ⟨(List.range len).map f, ⟨some a, cap, by rw [hlen], by rw [hlen]; exact hl, ?_⟩, fun y hy => ?_⟩
        · refine ⟨rfl, by rw [hlen]; simp only [maxLen] at hm; omega, fun _ => ⟨a, rfl, fun j p hj => ?_⟩⟩
          have hjl : j < len := by rw [← hlen]; exact (List.getElem?_eq_some_iff.1 hj).1
          rw [List.getElem?_map, List.getElem?_range hjl] at hj
          obtain rfl := Option.some.inj hj
          exact (hf j hjl).2
        · obtain ⟨i, hi, rfl⟩ := List.mem_map.1 hy
          exact (hf i (List.mem_range.1 hi)).1⟩

structure FieldsR (P : Program) (fs : List Field) (o : Nat) {α : Type} (d : Kd α) (ok : α → Prop) : Prop where
  rd : ∀ {H : Type} (enc : TypeId × Value → H) (w : World) (sp : Nat → Bool) (held : Bool) (n : Nat) (cs : List Value), o + d.sz ≤ cs.length →
    (∀ f ∈ fs, ∃ y, DataW.trod enc P w 0 sp held n f.type ((cs.drop f.offset).take (P.cellsOf f.type)) = some y) → ∃ a, d.K w a ((cs.drop o).take d.sz) ∧ ok a
theorem one {α : Type} {d : Kd α} {ok : α → Prop} {f : Field} (hd : Reads P f.type d ok) : FieldsR P [f] f.offset d ok := by
  refine ⟨fun {H} enc w sp held n cs hl h => ?_⟩
  obtain ⟨y, hy⟩ := h f (by simp)
  rw [hd.cells] at hy
  exact hd.rd enc w sp held n _ y hy
theorem cons {α β : Type} {d : Kd α} {d' : Kd β} {ok : α → Prop} {ok' : β → Prop} {f : Field} {fs : List Field} (hd : Reads P f.type d ok) (hf : FieldsR P fs (f.offset + d.sz) d' ok') :
    FieldsR P (f :: fs) f.offset (Kd.pair d d') (fun p => ok p.1 ∧ ok' p.2) := by
  refine ⟨fun {H} enc w sp held n cs hl h => ?_⟩
  have hsz : (Kd.pair d d').sz = d.sz + d'.sz := rfl
  rw [hsz] at hl ⊢
  obtain ⟨y, hy⟩ := h f (by simp)
  rw [hd.cells] at hy
  obtain ⟨a, ha, hoa⟩ := hd.rd enc w sp held n _ y hy
  obtain ⟨b, hb, hob⟩ := hf.rd enc w sp held n cs (by omega) (fun g hg => h g (by simp [hg]))
  refine ⟨(a, b), ⟨_, _, ?_, ha, hb⟩, hoa, hob⟩
  rw [← List.drop_drop, List.take_add]
theorem struct {α : Type} {d : Kd α} {ok : α → Prop} {fs : Array Field} (ht : P.underlying t = some (.struct fs)) (hf : FieldsR P fs.toList 0 d ok) (hc : P.cellsOf t = d.sz) : Reads P t d ok :=
  ⟨hc, fun enc w sp held fuel cs x h => by
    obtain ⟨xs, n, _, _, hl, hx, hall⟩ := DataW.trod_struct ht h
    obtain ⟨a, ha, hoa⟩ := hf.rd enc w sp held n cs (by rw [hl, hc]; omega) (fun f hm => by
      obtain ⟨i, hi⟩ := List.mem_iff_getElem?.1 hm
      have hil : i < fs.size := by simpa using (List.getElem?_eq_some_iff.1 hi).1
      have := hall i f (by simpa using hi)
      rw [List.getElem?_eq_getElem (by omega)] at this
      exact ⟨_, this⟩)
    refine ⟨a, ?_, hoa⟩
    rw [List.drop_zero, List.take_of_length_le (by rw [hl, hc]; exact Nat.le_refl _)] at ha
    exact ha⟩
theorem iso {α β : Type} {d : Kd α} {ok : α → Prop} (hd : Reads P t d ok) (f : β → α) (g : α → β) (h : ∀ a, f (g a) = a) : Reads P t (Kd.iso d f) (fun x => ok (f x)) :=
  ⟨hd.cells, fun enc w sp held fuel cs x hx => by
    obtain ⟨a, ha, hok⟩ := hd.rd enc w sp held fuel cs x hx
    refine ⟨g a, ?_, by rw [h]; exact hok⟩
    show d.K w (f (g a)) cs
    rw [h]
    exact ha⟩
/-- A slice that came in. -/
theorem arg {α : Type} {d : Kd α} {ok : α → Prop} (hd : Reads P e d ok) (ht : P.underlying t = some (.slice e)) (hc : P.cellsOf t = 1) {H : Type} {enc : TypeId × Value → H} {W : World} {a : Option Addr} {len cap : Nat} {D : DataW H} {ps : List MemPlace}
    (h : DataW.Trod enc P W 0 (fun _ => true) true t (.slice a len cap) D ps) : ∃ l : List α, len = l.length ∧ l.length ≤ cap ∧ d.C W a l.length l ∧ ∀ x ∈ l, ok x := by
  obtain ⟨fuel, hf⟩ := h
  obtain ⟨l, ⟨A, c, he, hl, hC⟩, hok⟩ := (slice hd ht hc).rd enc W _ _ fuel _ _ hf
  simp only [Value.cells, List.cons.injEq, and_true] at he
  injection he with h1 h2 h3
  subst h1; subst h2; subst h3
  exact ⟨l, rfl, hl, hC, hok⟩
end
end Go.Rd
namespace Go.Proofs.Ytlepcmljmibdnaa
open Go.ChangeShapes Go.WideShapes Go.ChangeAt Go.RowKit Go.Proofs.YtlepcmljmibdnaaW.PrintWords Go.Proofs.YtlepcmljmibdnaaW.PrintLast Go.Proofs.YtlepcmljmibdnaaW.PrintMore PDiskArms
theorem rInt : Rd.Reads Try.prog 3 (Kd.int .i64) (fun n => (Lit.int .i64 n).wf = true) := Rd.int Try.underlying3 (by kernel_rfl)
theorem rU8 : Rd.Reads Try.prog 5 (Kd.int .u8) (fun n => (Lit.int .u8 n).wf = true) := Rd.int Try.underlying5 (by kernel_rfl)
theorem rBool : Rd.Reads Try.prog 4 Kd.bool (fun _ => True) := Rd.bool Try.underlying4 (by kernel_rfl)
theorem rBytes : Rd.Reads Try.prog 29 (Kd.slice 5 (Kd.int .u8)) (fun xs => ∀ a ∈ xs, (Lit.int .u8 a).wf = true) := Rd.slice rU8 Try.underlying29 (by kernel_rfl)
theorem rBools : Rd.Reads Try.prog 23 (Kd.slice 4 Kd.bool) (fun xs => ∀ a ∈ xs, True) := Rd.slice rBool Try.underlying23 (by kernel_rfl)
theorem rTup : Rd.Reads Try.prog 31 (Kd.pair (Kd.int .i64) (Kd.pair (Kd.int .i64) (Kd.pair (Kd.slice 5 (Kd.int .u8)) (Kd.pair (Kd.int .i64) (Kd.slice 4 Kd.bool)))))
    (fun x => (Lit.int .i64 x.1).wf = true ∧ (Lit.int .i64 x.2.1).wf = true ∧ (∀ a ∈ x.2.2.1, (Lit.int .u8 a).wf = true) ∧ (Lit.int .i64 x.2.2.2.1).wf = true ∧ ∀ a ∈ x.2.2.2.2, True) := by
  refine Rd.struct Try.underlying31 ?_ (by kernel_rfl)
  refine Rd.cons (ok' := fun y : Int × List Int × Int × List Bool => (Lit.int .i64 y.1).wf = true ∧ (∀ a ∈ y.2.1, (Lit.int .u8 a).wf = true) ∧ (Lit.int .i64 y.2.2.1).wf = true ∧ ∀ a ∈ y.2.2.2, True) (f := { name := "Kind", type := 3, offset := 0, embedded := false, tag := "", pkgPath := "", byteOffset := 0 }) rInt ?_
  refine Rd.cons (ok' := fun y : List Int × Int × List Bool => (∀ a ∈ y.1, (Lit.int .u8 a).wf = true) ∧ (Lit.int .i64 y.2.1).wf = true ∧ ∀ a ∈ y.2.2, True) (f := { name := "At", type := 3, offset := 1, embedded := false, tag := "", pkgPath := "", byteOffset := 8 }) rInt ?_
  refine Rd.cons (ok' := fun y : Int × List Bool => (Lit.int .i64 y.1).wf = true ∧ ∀ a ∈ y.2, True) (f := { name := "B", type := 29, offset := 2, embedded := false, tag := "", pkgPath := "", byteOffset := 16 }) rBytes ?_
  refine Rd.cons (ok' := fun y : List Bool => ∀ a ∈ y, True) (f := { name := "N", type := 3, offset := 3, embedded := false, tag := "", pkgPath := "", byteOffset := 40 }) rInt ?_
  exact Rd.one (f := { name := "Keep", type := 23, offset := 4, embedded := false, tag := "", pkgPath := "", byteOffset := 48 }) rBools
theorem rDeed : Rd.Reads Try.prog 31 k31 (fun x => (Lit.int .i64 x.f0).wf = true ∧ (Lit.int .i64 x.f1).wf = true ∧ (∀ a ∈ x.f2, (Lit.int .u8 a).wf = true) ∧ (Lit.int .i64 x.f3).wf = true ∧ ∀ a ∈ x.f4, True) :=
  Rd.iso rTup (fun x : S31 => (x.f0, x.f1, x.f2, x.f3, x.f4)) (fun a => (⟨a.1, a.2.1, a.2.2.1, a.2.2.2.1, a.2.2.2.2⟩ : S31)) (fun _ => rfl)
theorem int_in {n : Int} (h : (Lit.int .i64 n).wf = true) : -9223372036854775808 ≤ n ∧ n ≤ 9223372036854775807 := by
  have := bounds_i64 h
  omega
end Go.Proofs.Ytlepcmljmibdnaa
namespace Go.Rd
theorem caps {P : Program} {t e : TypeId} (ht : P.underlying t = some (.slice e)) {H : Type} {enc : TypeId × Value → H} {W : World} {a : Option Addr} {len cap : Nat} {D : DataW H} {ps : List MemPlace}
    (h : DataW.Trod enc P W 0 (fun _ => true) true t (.slice a len cap) D ps) : (a = none → len = 0 ∧ cap = 0) ∧ cap ≤ 9223372036854775807 := by
  obtain ⟨fuel, hf⟩ := h
  rcases Deep.open_slice ht hf with ⟨h1, _⟩ | ⟨a', len', cap', m, n, D', Pl, h1, hb, hl, hm, _⟩
  · simp only [Value.cells, List.cons.injEq, and_true] at h1
    injection h1 with h1 h2 h3
    exact ⟨fun _ => ⟨h2, h3⟩, by omega⟩
  · simp only [Value.cells, List.cons.injEq, and_true] at h1
    injection h1 with h1 h2 h3
    refine ⟨fun hn => ?_, by unfold maxLen at hm; omega⟩
    rw [hn] at h1
    cases h1
end Go.Rd
namespace Go.Proofs.Ytlepcmljmibdnaa
open Go.RowKit Go.Proofs.YtlepcmljmibdnaaW.PrintWords Go.Proofs.YtlepcmljmibdnaaW.PrintLast Go.Proofs.YtlepcmljmibdnaaW.PrintMore PWalOpens
set_option linter.unusedVariables false
set_option linter.unusedSimpArgs false
theorem rU64 : Rd.Reads Try.prog 56 (Kd.int .u64) (fun n => (Lit.int .u64 n).wf = true) := Rd.int Try.underlying56 (by kernel_rfl)
theorem u64_in {n : Int} (h : (Lit.int .u64 n).wf = true) : 0 ≤ n ∧ n < 18446744073709551616 := by
  have := bounds_u64 h
  omega
theorem u8_in {n : Int} (h : (Lit.int .u8 n).wf = true) : 0 ≤ n ∧ n < 256 := by
  have := bounds_u8 h
  omega
def slotX (gen : Int) (l : List Int) : List Int := if 4 < l.length then [] else slotB gen l
def slotE (l : List Int) : Int := if 4 < l.length then 2 else 0
theorem slot_any (w : World) (gen : Int) (l : List Int) (A : Option Addr) (c : Nat) (hg : 0 ≤ gen ∧ gen < 18446744073709551616) (hn : ∀ n ∈ l, 0 ≤ n ∧ n < 18446744073709551616) (hC : (Kd.int .u64).C w A l.length l) :
    Calls Try.prog 37 #[.int .u64 gen, .slice A l.length c] w fun e w' => ∃ A' c', e = .returned (.tuple #[.slice A' (slotX gen l).length c', .int .i64 (slotE l)]) ∧ (Kd.int .u8).C w' A' (slotX gen l).length (slotX gen l) ∧ Below w.heap.size w w' := by
  unfold slotX slotE
  split
  · refine (slot_long w gen l A c (by assumption)).mono ?_
    rintro e w' ⟨rfl, rfl⟩
    exact ⟨none, 0, rfl, Kd.C_nil _ _, Below.refl _ _⟩
  · refine (slot_calls w gen l A c hg hn (by omega) hC).mono ?_
    rintro e w' ⟨A', c', rfl, hr, hb⟩
    exact ⟨A', c', rfl, (Kd.R_reads' hr).2.2, hb⟩
theorem rslot_any (w : World) (gen : Int) (l : List Int) (A : Option Addr) (c : Nat) (hg : 0 ≤ gen ∧ gen < 18446744073709551616) (hn : ∀ n ∈ l, 0 ≤ n ∧ n < 18446744073709551616) (hC : (Kd.int .u64).C w A l.length l) :
    Calls Try.prog 38 #[.int .u64 gen, .slice A l.length c] w fun e w' => ∃ A' c', e = .returned (.tuple #[.slice A' (slotX gen l).length c', .int .i64 (slotE l)]) ∧ (Kd.int .u8).C w' A' (slotX gen l).length (slotX gen l) ∧ Below w.heap.size w w' := by
  unfold slotX slotE
  split
  · refine (rslot_long w gen l A c (by assumption)).mono ?_
    rintro e w' ⟨rfl, rfl⟩
    exact ⟨none, 0, rfl, Kd.C_nil _ _, Below.refl _ _⟩
  · refine (rslot_calls w gen l A c hg hn (by omega) hC).mono ?_
    rintro e w' ⟨A', c', rfl, hr, hb⟩
    exact ⟨A', c', rfl, (Kd.R_reads' hr).2.2, hb⟩
set_option maxRecDepth 100000 in
theorem slots_walk (gen : Int) (A1 : Option Addr) (c1 : Nat) (l : List Int) (A2 : Option Addr) (c2 : Nat) (b : List Int) (w : World) (hg : 0 ≤ gen ∧ gen < 18446744073709551616) (hn : ∀ n ∈ l, 0 ≤ n ∧ n < 18446744073709551616) (hby : isBytes b)
    (hC : (Kd.int .u64).C w A1 l.length l) (hS : SB w A2 c2 b) :
    Calls Try.prog 7 #[.int .u64 gen, .slice A1 l.length c1, .slice A2 b.length c2] w fun e w' => e = .returned (.bool true) ∧ Below w.heap.size w w' := by
  have HG := Aside0.mk hg
  have HN := Aside0.mk hn
  have HBY := Aside0.mk hby
  have HC := Aside0.mk hC
  have HS := Aside0.mk hS
  clear hg hn hby hC hS
  by_cases hl : 10 < l.length
  · have hl' : (10 : Int) < (l.length : Int) := by omega
    clear hl
    go_enter Try.func7, Try.ntmps7
    go_wp2_with (go_at_call 36; (with_reducible refine (awake6_calls w).mono ?_); rintro e w1 ⟨rfl, hb⟩; have HB1 := Aside0.mk hb; clear hb)
    go_ret
    exact ⟨rfl, HB1.out⟩
  · have hl' : (l.length : Int) ≤ 10 := by omega
    by_cases hb2 : 200 < b.length
    · have hb' : (200 : Int) < (b.length : Int) := by omega
      clear hl hb2
      go_enter Try.func7, Try.ntmps7
      go_wp2_with (go_at_call 36; (with_reducible refine (awake6_calls w).mono ?_); rintro e w1 ⟨rfl, hb⟩; have HB1 := Aside0.mk hb; clear hb)
      go_ret
      exact ⟨rfl, HB1.out⟩
    · have hb' : (b.length : Int) ≤ 200 := by omega
      have HL := Aside0.mk (show b.length ≤ 1000000 by omega)
      obtain ⟨x, hx⟩ : ∃ x, slotX gen l = x := ⟨_, rfl⟩
      obtain ⟨se, hse⟩ : ∃ se, slotE l = se := ⟨_, rfl⟩
      have HSL := Aside0.mk (fun (w : World) (h : (Kd.int .u64).C w A1 l.length l) => slot_any w gen l A1 c1 HG.out HN.out h)
      have HRL := Aside0.mk (fun (w : World) (h : (Kd.int .u64).C w A1 l.length l) => rslot_any w gen l A1 c1 HG.out HN.out h)
      rw [hx, hse] at HSL HRL
      obtain ⟨u, hu⟩ : ∃ u, unP b = u := ⟨_, rfl⟩
      have HOF := Aside0.mk (fun (w : World) (h : SB w A2 c2 b) => of_calls w A2 c2 b HL.out h HBY.out)
      have HUN := Aside0.mk (fun (w : World) (h : SB w A2 c2 b) => un_calls w A2 c2 b HL.out h HBY.out)
      have hul := (unP_bytes b HBY.out (g := u.1) (l := u.2.1) (e := u.2.2) hu).2.1
      unfold OfQ at HOF
      unfold UnQ at HUN
      rw [hu] at HOF HUN
      obtain ⟨ug, ul, ue⟩ := u
      simp only at HOF HUN hul
      have HUL := Aside0.mk (show ul.length ≤ 1000000 ∧ ul.length ≤ 1000000 by omega)
      clear hl hb2 hu hx hse hul
      go_enter Try.func7, Try.ntmps7
      go_wp2_with (first
        | (go_at_call 36; (with_reducible refine (awake6_calls w).mono ?_); rintro e w1 ⟨rfl, hb⟩; have HB1 := Aside0.mk hb; clear hb)
        | (go_at_call 37; (with_reducible refine (HSL.out w1 (Kd.C_below HC.out HB1.out)).mono ?_); rintro e w2 ⟨A3, c3, rfl, hc, hb⟩; have HX2 := Aside0.mk hc; have HB2 := Aside0.mk (HB1.out.trans (hb.mono HB1.out.size)); clear hc hb)
        | (go_at_call 38; (with_reducible refine (HRL.out w2 (Kd.C_below HC.out HB2.out)).mono ?_); rintro e w3 ⟨A4, c4, rfl, hc, hb⟩; have HX3 := Aside0.mk (Kd.C_below HX2.out hb); have HY3 := Aside0.mk hc; have HB3 := Aside0.mk (HB2.out.trans (hb.mono HB2.out.size)); clear hc hb)
        | (go_at_call 39; (with_reducible refine (HOF.out w3 (HS.out.move HB3.out)).mono ?_); rintro e w4 ⟨A5, c5, rfl, hr, hb⟩; have HX4 := Aside0.mk (Kd.C_below HX3.out hb); have HY4 := Aside0.mk (Kd.C_below HY3.out hb); have HM4 := Aside0.mk hr; have HB4 := Aside0.mk (HB3.out.trans (hb.mono HB3.out.size)); clear hr hb)
        | (go_at_call 40; (with_reducible refine (HUN.out w4 (HS.out.move HB4.out)).mono ?_); rintro e w5 ⟨A6, c6, rfl, hr, hb⟩; have hx5 := Kd.C_string (c := c3) Try.underlying29 Try.underlying5 Try.underlying9 (Kd.C_below HX4.out hb); have hy5 := Kd.C_string (c := c4) Try.underlying29 Try.underlying5 Try.underlying9 (Kd.C_below HY4.out hb); obtain ⟨sx, hsx⟩ : ∃ sx, strOfNums x = sx := ⟨_, rfl⟩; rw [hsx] at hx5 hy5; clear hsx; have HM5 := Aside0.mk (Kd.R_reads' (Kd.R_below HM4.out hb)).2.2; have HN5 := Aside0.mk (Kd.R_reads' hr).2.2; have HB5 := Aside0.mk (HB4.out.trans (hb.mono HB4.out.size)); clear hr hb)
        | (go_at_call 41; go_loud (refine (same_calls w5 A5 A6 c5 c6 ul ul true (decide_eq_true rfl) HUL.out HM5.out HN5.out).mono ?_); rintro e w6 ⟨rfl, hd⟩; obtain ⟨nd, rfl⟩ := hd))
      go_ret
      exact ⟨rfl, bel_drewN HB5.out nd⟩
end Go.Proofs.Ytlepcmljmibdnaa
