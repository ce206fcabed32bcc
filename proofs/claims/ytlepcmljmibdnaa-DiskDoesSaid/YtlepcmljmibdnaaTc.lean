/- What a call may change, said by the kinds of blocks; the reference's disk in memory. Conditions: those of each statement. -/
import Derived.Test.YtlepcmljmibdnaaDkp
namespace Go.Proofs.Ytlepcmljmibdnaa
open Go.RowKit Go.Proofs.YtlepcmljmibdnaaW.PrintWords Go.Proofs.YtlepcmljmibdnaaW.PrintLast Go.Proofs.YtlepcmljmibdnaaW.PrintMore PDiskArms
set_option linter.unusedVariables false
set_option linter.unusedSimpArgs false
/-- nothing below base, and no block but those of kind T, has changed -/
structure TC (base : Nat) (T : Obj → Prop) (w w' : World) : Prop where
  low : Below base w w'
  blk : ∀ (k : Nat) (o : Obj), w.heap[k]? = some o → ¬ T o → w'.heap[k]? = some o
section
variable {base : Nat} {T T' : Obj → Prop} {a b c : World}
theorem TC.refl (base : Nat) (T : Obj → Prop) (w : World) : TC base T w w := ⟨Below.refl _ _, fun _ _ h _ => h⟩
theorem TC.trans (h : TC base T a b) (k : TC base T b c) : TC base T a c := ⟨h.low.trans k.low, fun i o ho hn => k.blk i o (h.blk i o ho hn) hn⟩
theorem TC.mono (h : TC base T a b) (ht : ∀ o, T o → T' o) : TC base T' a b := ⟨h.low, fun i o ho hn => h.blk i o ho (fun e => hn (ht o e))⟩
theorem TC.lower {base' : Nat} (h : TC base T a b) (hb : base' ≤ base) : TC base' T a b := ⟨h.low.mono hb, h.blk⟩
theorem TC.of_chg {S : Nat → Prop} (h : Chg a b S) (hb : base ≤ a.heap.size) (hs : ∀ k, S k → k < a.heap.size → base ≤ k ∧ ∃ o, a.heap[k]? = some o ∧ T o) : TC base T a b :=
  ⟨⟨h.os, h.tape, h.output, h.size, fun k hk => h.block k (by omega) (fun e => by have := (hs k e (by omega)).1; omega)⟩, fun k o ho hn => by
    have hk : k < a.heap.size := (Array.getElem?_eq_some_iff.1 ho).1
    rw [h.block k hk (fun e => by
      obtain ⟨_, o', ho', ht⟩ := hs k e hk
      rw [ho] at ho'
      obtain rfl := Option.some.inj ho'
      exact hn ht)]
    exact ho⟩
theorem TC.of_below (h : Below a.heap.size a b) (hb : base ≤ a.heap.size) : TC base T a b :=
  ⟨h.mono hb, fun k o ho _ => (h.block k (Array.getElem?_eq_some_iff.1 ho).1).trans ho⟩
theorem TC.drew (h : TC base T a b) : TC base T a b.drew := ⟨h.low.drew, h.blk⟩
theorem TC.alloc (h : TC base T a b) (o : Obj) (hb : base ≤ a.heap.size) : TC base T a (b.alloc o) :=
  h.trans (.of_below (Below.alloc (Below.refl _ _) (Nat.le_refl _) o) (Nat.le_trans hb h.low.size))
theorem TC.grown {row : Option Nat} (h : a.grownBy b row) (hs : ∀ k, some k = row → base ≤ k ∧ ∃ o, a.heap[k]? = some o ∧ T o) (hb : base ≤ a.heap.size) : TC base T a b :=
  .of_chg (chg_grown h (S := fun k => some k = row) (fun k hk => hk)) hb (fun k hk _ => hs k hk)
theorem TC.set {g j : Nat} {o : Obj} (hg : a.heap[g]? = some o) (ht : T o) (hb : base ≤ g) (u : Value) : TC base T a (a.setCell ⟨g, j, none⟩ u) :=
  .of_chg (((Only.refl a g).set (i := j) u).chg (S := fun k => k = g) fun _ h => h) (by have := (Array.getElem?_eq_some_iff.1 hg).1; omega) (fun k hk _ => by subst hk; exact ⟨hb, o, hg, ht⟩)
theorem R_tc {α : Type} {d : Kd α} {e : Nat} {ok : Nat → Prop} {v : Value} {xs : List α} (h : d.R e a base ok v xs) {base' : Nat} (hc : TC base' T a b) (ht : ∀ q, q ∈ e :: d.E → ∀ cells, ¬ T (.cells cells q (0, 0))) : d.R e b base ok v xs :=
  Kd.R_mono (Kd.R_move (Kd.R_bound h) (fun k hk => by
    obtain ⟨_, _, _, q, hq, cells, hce⟩ := hk
    rw [hce]
    exact hc.blk k _ hce (ht q hq cells))) (fun _ hk => hk.1)
end
theorem below_after {b : Nat} {w0 w w' : World} (h : Below b w0 w) (k : Below b w0 w') (hs : w.heap.size ≤ w'.heap.size) : Below b w w' :=
  ⟨k.os.trans h.os.symm, k.tape.trans h.tape.symm, k.output.trans h.output.symm, hs, fun i hi => (k.block i hi).trans (h.block i hi).symm⟩
/-- the blocks of a disk -/
def isDisk (o : Obj) : Prop := match o with
  | .cells _ t _ => t = 96 ∨ t = 101
  | .map _ _ => True
  | _ => False
theorem DK.tc {w w' : World} {base B M Bd : Nat} {vc : Value} {D : PD} (h : DK w base B M Bd vc D) (hc : Chg w w' (FP B M Bd vc)) : TC base isDisk w w' := by
  refine .of_chg hc h.base_le fun k hk hl => ⟨(h.fp k hk).1, ?_⟩
  rcases hk with rfl | rfl | rfl | hk
  · exact ⟨_, h.blk, .inl rfl⟩
  · obtain ⟨es, cl, he, _⟩ := h.kept
    exact ⟨_, he, trivial⟩
  · obtain ⟨es, cl, he, _⟩ := h.bad
    exact ⟨_, he, trivial⟩
  · obtain ⟨inner, ho⟩ := Kd.R_own h.cache
    obtain ⟨cells, hc⟩ := own_typed ho k hk.symm
    exact ⟨_, hc, .inr rfl⟩
theorem DK.tkeep {w w' : World} {base base' B M Bd : Nat} {vc : Value} {D : PD} {T : Obj → Prop} (h : DK w base B M Bd vc D) (hc : TC base' T w w') (ht : ∀ o, isDisk o → ¬ T o) : DK w' base B M Bd vc D := by
  obtain ⟨e1, c1, hk1, hr1⟩ := h.kept
  obtain ⟨e2, c2, hk2, hr2⟩ := h.bad
  refine ⟨hc.blk B _ h.blk (ht _ (.inl rfl)), ⟨e1, c1, hc.blk M _ hk1 (ht _ trivial), hr1⟩, ⟨e2, c2, hc.blk Bd _ hk2 (ht _ trivial), hr2⟩, R_tc h.cache hc ?_, h.hB, h.hM, h.hBd, h.hne, h.sec, h.hn, h.hl⟩
  intro q hq cells
  have : q = 101 := by
    have : (101 :: wrK.E) = [101] := by rfl
    rw [this] at hq
    simpa using hq
  subst this
  exact ht _ (.inr rfl)

/-! ### the reference's disk -/
structure RX where
  S : List (List Int)
  cache : List (Int × List Int)
  bad : List Bool
  left : Int
  dead : Bool
def bytesK : Kd (List Int) := Kd.slice 5 (Kd.int .u8)
def rwrK : Kd (Int × List Int) := Kd.pair (Kd.int .i64) bytesK
def isRef (o : Obj) : Prop := match o with
  | .cells _ t _ => t = 53 ∨ t = 29 ∨ t = 4
  | _ => False
theorem isRef53 (c : Array Value) : isRef (.cells c 53 (0, 0)) := .inl rfl
structure RM (w : World) (base B : Nat) (vS vC vB : Value) (X : RX) : Prop where
  blk : w.heap[B]? = some (.cells #[vS, vC, vB, .int .i64 X.left, .bool X.dead] 53 (0, 0))
  S : Kd.R bytesK 29 w base (fun _ => True) vS X.S
  C : Kd.R rwrK 106 w base (fun _ => True) vC X.cache
  bad : Kd.R Kd.bool 4 w base (fun _ => True) vB X.bad
  hB : base ≤ B
structure XOk (X : RX) : Prop where
  s64 : ∀ s ∈ X.S, s.length = 64
  c64 : ∀ p ∈ X.cache, p.2.length = 64 ∧ 0 ≤ p.1 ∧ p.1 < X.S.length
  hb : X.bad.length = X.S.length
  hl : -1 ≤ X.left ∧ X.left ≤ 9223372036854775807
  hn : X.S.length ≤ 4096
structure RK (w : World) (base B : Nat) (vS vC vB : Value) (X : RX) : Prop extends RM w base B vS vC vB X where
  ok : XOk X
theorem RM.lt {w : World} {base B : Nat} {vS vC vB : Value} {X : RX} (h : RM w base B vS vC vB X) : B < w.heap.size := (Array.getElem?_eq_some_iff.1 h.blk).1
theorem RM.base_le {w : World} {base B : Nat} {vS vC vB : Value} {X : RX} (h : RM w base B vS vC vB X) : base ≤ w.heap.size := by have := h.lt; have := h.hB; omega
theorem RM.tkeep {w w' : World} {base base' B : Nat} {vS vC vB : Value} {X : RX} {T : Obj → Prop} (h : RM w base B vS vC vB X) (hc : TC base' T w w') (ht : ∀ q, q = 53 ∨ q = 29 ∨ q = 5 ∨ q = 106 ∨ q = 4 → ∀ cells, ¬ T (.cells cells q (0, 0))) : RM w' base B vS vC vB X := by
  refine ⟨hc.blk B _ h.blk (ht 53 (.inl rfl) _), R_tc h.S hc ?_, R_tc h.C hc ?_, R_tc h.bad hc ?_, h.hB⟩
  · intro q hq
    rw [show 29 :: bytesK.E = [29, 5] from rfl] at hq
    simp only [List.mem_cons, List.not_mem_nil, or_false] at hq
    exact ht q (by rcases hq with h | h <;> simp [h])
  · intro q hq
    rw [show 106 :: rwrK.E = [106, 5] from rfl] at hq
    simp only [List.mem_cons, List.not_mem_nil, or_false] at hq
    exact ht q (by rcases hq with h | h <;> simp [h])
  · intro q hq
    rw [show 4 :: Kd.bool.E = [4] from rfl] at hq
    simp only [List.mem_cons, List.not_mem_nil, or_false] at hq
    exact ht q (by simp [hq])
theorem RM.disk {w w' : World} {base base' B : Nat} {vS vC vB : Value} {X : RX} (h : RM w base B vS vC vB X) (hc : TC base' isDisk w w') : RM w' base B vS vC vB X :=
  h.tkeep hc fun q hq cells ht => by
    simp only [isDisk] at ht
    rcases hq with h | h | h | h | h <;> simp [h] at ht
theorem RM.fresh {w w' : World} {base B : Nat} {vS vC vB : Value} {X : RX} (h : RM w base B vS vC vB X) (hc : Below w.heap.size w w') : RM w' base B vS vC vB X :=
  h.tkeep (T := fun _ => False) (.of_below hc h.base_le) fun q hq cells ht => ht
theorem RK.disk {w w' : World} {base base' B : Nat} {vS vC vB : Value} {X : RX} (h : RK w base B vS vC vB X) (hc : TC base' isDisk w w') : RK w' base B vS vC vB X := ⟨h.toRM.disk hc, h.ok⟩
theorem RK.fresh {w w' : World} {base B : Nat} {vS vC vB : Value} {X : RX} (h : RK w base B vS vC vB X) (hc : Below w.heap.size w w') : RK w' base B vS vC vB X := ⟨h.toRM.fresh hc, h.ok⟩
theorem RM.low {w : World} {base b B : Nat} {vS vC vB : Value} {X : RX} (h : RM w base B vS vC vB X) (hb : b ≤ base) : RM w b B vS vC vB X := ⟨h.blk, Kd.R_lower h.S hb, Kd.R_lower h.C hb, Kd.R_lower h.bad hb, Nat.le_trans hb h.hB⟩
theorem RM.away {w w' : World} {base B : Nat} {vS vC vB : Value} {X : RX} (h : RM w base B vS vC vB X) : B < w.heap.size := h.lt
theorem q29 : ∀ q, q ∈ 29 :: bytesK.E → q = 29 ∨ q = 5 := by
  intro q hq
  rw [show 29 :: bytesK.E = [29, 5] from rfl] at hq
  simpa using hq
theorem q106 : ∀ q, q ∈ 106 :: rwrK.E → q = 106 ∨ q = 5 := by
  intro q hq
  rw [show 106 :: rwrK.E = [106, 5] from rfl] at hq
  simpa using hq
theorem q4 : ∀ q, q ∈ 4 :: Kd.bool.E → q = 4 := by
  intro q hq
  rw [show 4 :: Kd.bool.E = [4] from rfl] at hq
  simpa using hq
/-- what a change of some of its blocks leaves -/
theorem R_types_chg {α : Type} {d : Kd α} {e : Nat} {w w' : World} {base : Nat} {v : Value} {xs : List α} {S : Nat → Prop} (hr : Kd.R d e w base (fun _ => True) v xs) (hc : Chg w w' S)
    (hs : ∀ k, S k → k < w.heap.size → ∃ t cells, w.heap[k]? = some (.cells cells t (0, 0)) ∧ ∀ q, q ∈ e :: d.E → q ≠ t) : Kd.R d e w' base (fun _ => True) v xs :=
  Kd.R_mono (Kd.R_move (Kd.R_bound hr) (fun k hk => hc.block k hk.2.2.1 (fun hS => by
    obtain ⟨t, cells, hcl, hq⟩ := hs k hS hk.2.2.1
    obtain ⟨_, _, _, q, hq', cells', hc'⟩ := hk
    rw [hcl] at hc'
    injection hc' with hc'
    injection hc' with _ hc'
    exact hq q hq' hc'.symm))) (fun _ _ => trivial)
theorem own_cells {α : Type} {d : Kd α} {e : Nat} {w : World} {base : Nat} {v : Value} {xs : List α} {ok : Nat → Prop} (hr : Kd.R d e w base ok v xs) (k : Nat) (hk : some k = v.ownBlock) : base ≤ k ∧ ∃ cells, w.heap[k]? = some (.cells cells e (0, 0)) := by
  obtain ⟨inner, ho⟩ := Kd.R_own hr
  exact ⟨own_base ho k hk.symm, own_typed ho k hk.symm⟩
/-- the row of sectors was turned, then its cell -/
theorem RM.reS {w w' : World} {base B : Nat} {vS vC vB v1 : Value} {X : RX} {S' : List (List Int)} (h : RM w base B vS vC vB X) (hc : Chg w w' (fun k => some k = vS.ownBlock)) (ho : Kd.R bytesK 29 w' base (fun _ => True) v1 S') :
    RM (w'.setCell ⟨B, 0, none⟩ v1) base B v1 vC vB { X with S := S' } ∧ TC base isRef w (w'.setCell ⟨B, 0, none⟩ v1) := by
  have hne : some B ≠ vS.ownBlock := fun e => by
    obtain ⟨_, cells, hc⟩ := own_cells h.S B e
    rw [h.blk] at hc
    simp at hc
  have hb : w'.heap[B]? = _ := (hc.block B h.lt hne).trans h.blk
  have hs : ∀ k, some k = vS.ownBlock → k < w.heap.size → base ≤ k ∧ ∃ o, w.heap[k]? = some o ∧ isRef o := fun k hk hl => by
    obtain ⟨h1, cells, h2⟩ := own_cells h.S k hk
    exact ⟨h1, _, h2, .inr (.inl rfl)⟩
  have hs' : ∀ k, some k = vS.ownBlock → k < w.heap.size → ∃ t cells, w.heap[k]? = some (.cells cells t (0, 0)) ∧ t = 29 := fun k hk hl => by
    obtain ⟨h1, cells, h2⟩ := own_cells h.S k hk
    exact ⟨29, cells, h2, rfl⟩
  refine ⟨⟨set7 hb 0 v1, Kd.R_set ho hb (fun q hq => by rcases q29 q hq with h | h <;> simp [h]) 0 v1, Kd.R_set (R_types_chg h.C hc fun k hk hl => by obtain ⟨t, c, h1, rfl⟩ := hs' k hk hl; exact ⟨_, c, h1, fun q hq => by rcases q106 q hq with h | h <;> simp [h]⟩) hb (fun q hq => by rcases q106 q hq with h | h <;> simp [h]) 0 v1,
    Kd.R_set (R_types_chg h.bad hc fun k hk hl => by obtain ⟨t, c, h1, rfl⟩ := hs' k hk hl; exact ⟨_, c, h1, fun q hq => by simp [q4 q hq]⟩) hb (fun q hq => by simp [q4 q hq]) 0 v1, h.hB⟩, ?_⟩
  exact (TC.of_chg hc h.base_le hs).trans (.set hb (isRef53 _) h.hB v1)
/-- the row of marks was turned, then its cell -/
theorem RM.reB {w w' : World} {base B : Nat} {vS vC vB v1 : Value} {X : RX} {S' : List Bool} (h : RM w base B vS vC vB X) (hc : Chg w w' (fun k => some k = vB.ownBlock)) (ho : Kd.R Kd.bool 4 w' base (fun _ => True) v1 S') :
    RM (w'.setCell ⟨B, 2, none⟩ v1) base B vS vC v1 { X with bad := S' } ∧ TC base isRef w (w'.setCell ⟨B, 2, none⟩ v1) := by
  have hne : some B ≠ vB.ownBlock := fun e => by
    obtain ⟨_, cells, hc⟩ := own_cells h.bad B e
    rw [h.blk] at hc
    simp at hc
  have hb : w'.heap[B]? = _ := (hc.block B h.lt hne).trans h.blk
  have hs : ∀ k, some k = vB.ownBlock → k < w.heap.size → base ≤ k ∧ ∃ o, w.heap[k]? = some o ∧ isRef o := fun k hk hl => by
    obtain ⟨h1, cells, h2⟩ := own_cells h.bad k hk
    exact ⟨h1, _, h2, .inr (.inr rfl)⟩
  have hs' : ∀ k, some k = vB.ownBlock → k < w.heap.size → ∃ t cells, w.heap[k]? = some (.cells cells t (0, 0)) ∧ t = 4 := fun k hk hl => by
    obtain ⟨h1, cells, h2⟩ := own_cells h.bad k hk
    exact ⟨4, cells, h2, rfl⟩
  refine ⟨⟨set7 hb 2 v1, Kd.R_set (R_types_chg h.S hc fun k hk hl => by obtain ⟨t, c, h1, rfl⟩ := hs' k hk hl; exact ⟨_, c, h1, fun q hq => by rcases q29 q hq with h | h <;> simp [h]⟩) hb (fun q hq => by rcases q29 q hq with h | h <;> simp [h]) 2 v1,
    Kd.R_set (R_types_chg h.C hc fun k hk hl => by obtain ⟨t, c, h1, rfl⟩ := hs' k hk hl; exact ⟨_, c, h1, fun q hq => by rcases q106 q hq with h | h <;> simp [h]⟩) hb (fun q hq => by rcases q106 q hq with h | h <;> simp [h]) 2 v1,
    Kd.R_set ho hb (fun q hq => by simp [q4 q hq]) 2 v1, h.hB⟩, ?_⟩
  exact (TC.of_chg hc h.base_le hs).trans (.set hb (isRef53 _) h.hB v1)
theorem DK.ref {w w' : World} {base base' B M Bd : Nat} {vc : Value} {D : PD} (h : DK w base B M Bd vc D) (hc : TC base' isRef w w') : DK w' base B M Bd vc D :=
  h.tkeep hc fun o ho ht => by
    cases o with
    | cells c t f => simp only [isDisk, isRef] at ho ht; rcases ho with h | h <;> simp [h] at ht
    | _ => exact ht
theorem cells5 {w : World} {B : Nat} {a b c d e : Value} {t : Nat} (h : w.heap[B]? = some (.cells #[a, b, c, d, e] t (0, 0))) :
    (w.cell? ⟨B, 0, none⟩ = some a ∧ w.cell? ⟨B, 1, none⟩ = some b ∧ w.cell? ⟨B, 2, none⟩ = some c ∧ w.cell? ⟨B, 3, none⟩ = some d ∧ w.cell? ⟨B, 4, none⟩ = some e) ∧
    (w.frozen? ⟨B, 0, none⟩ = false ∧ w.frozen? ⟨B, 1, none⟩ = false ∧ w.frozen? ⟨B, 2, none⟩ = false ∧ w.frozen? ⟨B, 3, none⟩ = false ∧ w.frozen? ⟨B, 4, none⟩ = false) := by
  refine ⟨⟨?_, ?_, ?_, ?_, ?_⟩, ?_, ?_, ?_, ?_, ?_⟩ <;> simp [World.cell?, World.frozen?, h]
theorem not_ref (q : Nat) (hq : q = 5 ∨ q = 106) (cells : Array Value) : ¬ isRef (.cells cells q (0, 0)) := by
  intro h
  simp only [isRef] at h
  rcases hq with e | e <;> simp [e] at h
/-- only the numbers of the reference's disk were turned -/
theorem RK.num {w : World} {base B : Nat} {vS vC vB : Value} {X : RX} (h : RK w base B vS vC vB X) (l : Int) (d : Bool) (hl : -1 ≤ l ∧ l ≤ 9223372036854775807) {w' : World} (ho : Only w w' B) (hb : w'.heap[B]? = some (.cells #[vS, vC, vB, .int .i64 l, .bool d] 53 (0, 0))) :
    RK w' base B vS vC vB { X with left := l, dead := d } ∧ TC base isRef w w' := by
  have hc : Chg w w' (fun k => k = B) := ho.chg fun _ h => h
  have htc : TC base isRef w w' := .of_chg hc h.base_le fun k hk _ => by subst hk; exact ⟨h.hB, _, h.blk, isRef53 _⟩
  have hm : ∀ {α : Type} {d : Kd α} {e : Nat} {v : Value} {xs : List α}, Kd.R d e w base (fun _ => True) v xs → (∀ q, q ∈ e :: d.E → q ≠ 53) → Kd.R d e w' base (fun _ => True) v xs := fun hr hq => by
    have h1 := Kd.R_types hr h.blk hq
    exact Kd.R_mono (Kd.R_step h1 (fun k hk hl => hc.block k hl hk.2)) (fun _ _ => trivial)
  refine ⟨⟨⟨hb, hm h.S ?_, hm h.C ?_, hm h.bad ?_, h.hB⟩, ⟨h.ok.s64, h.ok.c64, h.ok.hb, hl, h.ok.hn⟩⟩, htc⟩
  · intro q hq
    rw [show 29 :: bytesK.E = [29, 5] from rfl] at hq
    simp only [List.mem_cons, List.not_mem_nil, or_false] at hq
    rintro rfl
    simp at hq
  · intro q hq
    rw [show 106 :: rwrK.E = [106, 5] from rfl] at hq
    simp only [List.mem_cons, List.not_mem_nil, or_false] at hq
    rintro rfl
    simp at hq
  · intro q hq
    rw [show 4 :: Kd.bool.E = [4] from rfl] at hq
    simp only [List.mem_cons, List.not_mem_nil, or_false] at hq
    rintro rfl
    simp at hq
theorem rhas_calls (w : World) (base B : Nat) (vS vC vB : Value) (X : RX) (at_ : Int) (b : Bool) (hb : inB at_ X.S.length = b) (h : RK w base B vS vC vB X) :
    Calls Try.prog 70 #[.pointer (some ⟨B, 0, none⟩), .int .i64 at_] w fun e w' => e = .returned (.bool b) ∧ w = w' := by
  subst hb
  obtain ⟨⟨h0, h1, h2, h3, h4⟩, _⟩ := cells5 h.blk
  obtain ⟨A, c, rfl⟩ := Kd.R_slice h.S
  clear h h1 h2 h3 h4
  by_cases h : 0 ≤ at_
  · by_cases h' : at_ < X.S.length
    · rw [show inB at_ X.S.length = true by simp [inB]; omega]
      go_enter Try.func70, Try.ntmps70
      go_wp2
      go_ret
      exact ⟨rfl, rfl⟩
    · rw [show inB at_ X.S.length = false by simp [inB]; omega]
      have h2 : decide (at_ < (X.S.length : Int)) = false := by simp; omega
      go_enter Try.func70, Try.ntmps70
      go_wp2
      go_ret
      exact ⟨rfl, rfl⟩
  · rw [show inB at_ X.S.length = false by simp [inB]; omega]
    go_enter Try.func70, Try.ntmps70
    go_wp2
    go_ret
    exact ⟨rfl, rfl⟩
def ractX (X : RX) : RX × Int := if X.dead || X.left == 0 then ({ X with dead := true }, 50) else if 0 < X.left then ({ X with left := X.left - 1 }, 0) else (X, 0)
theorem ract_calls (w : World) (base B : Nat) (vS vC vB : Value) (X X' : RX) (r : Int) (hx : ractX X = (X', r)) (h : RK w base B vS vC vB X) :
    Calls Try.prog 71 #[.pointer (some ⟨B, 0, none⟩)] w fun e w' => e = .returned (.int .i64 r) ∧ RK w' base B vS vC vB X' ∧ TC base isRef w w' ∧ Chg w w' (fun k => k = B) := by
  obtain ⟨⟨h0, h1, h2, h3, h4⟩, f0, f1, f2, f3, f4⟩ := cells5 h.blk
  have HR := Aside0.mk h
  obtain ⟨S, cache, bad, left, dead⟩ := X
  simp only at h3 h4
  have hl := h.ok.hl
  simp only at hl
  obtain ⟨hl1, hl2⟩ := hl
  clear h
  cases dead with
  | true =>
    have e : ractX { S := S, cache := cache, bad := bad, left := left, dead := true } = ({ S := S, cache := cache, bad := bad, left := left, dead := true }, 50) := by simp [ractX]
    obtain ⟨rfl, rfl⟩ := Prod.mk.inj (e.symm.trans hx)
    clear e hx
    go_enter Try.func71, Try.ntmps71
    go_wp2
    go_ret
    have ho := (Only.refl w B).set (i := 4) (.bool true)
    obtain ⟨k1, k2⟩ := HR.out.num left true ⟨hl1, hl2⟩ ho (set7 HR.out.blk 4 (.bool true))
    exact ⟨rfl, k1, k2, ho.chg fun _ h => h⟩
  | false =>
    by_cases hz : left = 0
    · subst hz
      have e : ractX { S := S, cache := cache, bad := bad, left := 0, dead := false } = ({ S := S, cache := cache, bad := bad, left := 0, dead := true }, 50) := by simp [ractX]
      obtain ⟨rfl, rfl⟩ := Prod.mk.inj (e.symm.trans hx)
      clear e hx
      go_enter Try.func71, Try.ntmps71
      go_wp2
      go_ret
      have ho := (Only.refl w B).set (i := 4) (.bool true)
      obtain ⟨k1, k2⟩ := HR.out.num 0 true ⟨by omega, by omega⟩ ho (set7 HR.out.blk 4 (.bool true))
      exact ⟨rfl, k1, k2, ho.chg fun _ h => h⟩
    · have hz0 : (left == 0) = false := by simpa using hz
      by_cases hp : 0 < left
      · have e : ractX { S := S, cache := cache, bad := bad, left := left, dead := false } = ({ S := S, cache := cache, bad := bad, left := left - 1, dead := false }, 0) := by simp [ractX, hz, hp]
        obtain ⟨rfl, rfl⟩ := Prod.mk.inj (e.symm.trans hx)
        clear e hx hz
        go_enter Try.func71, Try.ntmps71
        go_wp2
        go_ret
        have ho := (Only.refl w B).set (i := 3) (.int .i64 (left - 1))
        obtain ⟨k1, k2⟩ := HR.out.num (left - 1) false ⟨by omega, by omega⟩ ho (set7 HR.out.blk 3 (.int .i64 (left - 1)))
        exact ⟨rfl, k1, k2, ho.chg fun _ h => h⟩
      · have e : ractX { S := S, cache := cache, bad := bad, left := left, dead := false } = ({ S := S, cache := cache, bad := bad, left := left, dead := false }, 0) := by simp [ractX, hz, hp]
        obtain ⟨rfl, rfl⟩ := Prod.mk.inj (e.symm.trans hx)
        clear e hx hz
        go_enter Try.func71, Try.ntmps71
        go_wp2
        go_ret
        exact ⟨rfl, HR.out, TC.refl _ _ _, Chg.refl _ _⟩
def rarmX (X : RX) (n : Int) : RX := { X with left := if 0 ≤ n then n else -1 }
theorem rarm_calls (w : World) (base B : Nat) (vS vC vB : Value) (X : RX) (n : Int) (hn : -9223372036854775808 ≤ n ∧ n ≤ 9223372036854775807) (h : RK w base B vS vC vB X) :
    Calls Try.prog 29 #[.pointer (some ⟨B, 0, none⟩), .int .i64 n] w fun e w' => e = .returned (.tuple #[]) ∧ RK w' base B vS vC vB (rarmX X n) ∧ TC base isRef w w' := by
  obtain ⟨⟨h0, h1, h2, h3, h4⟩, f0, f1, f2, f3, f4⟩ := cells5 h.blk
  have HR := Aside0.mk h
  clear h
  by_cases h0 : 0 ≤ n
  · have e : rarmX X n = { X with left := n, dead := X.dead } := by unfold rarmX; rw [if_pos h0]
    rw [e]
    clear e
    go_enter Try.func29, Try.ntmps29
    go_wp2
    go_end0
    have ho := ((Only.refl w B).set (i := 3) (.int .i64 (-1))).set (i := 3) (.int .i64 n)
    obtain ⟨k1, k2⟩ := HR.out.num n X.dead ⟨by omega, by omega⟩ ho (set7 (set7 HR.out.blk 3 (.int .i64 (-1))) 3 (.int .i64 n))
    exact ⟨rfl, k1, k2⟩
  · have e : rarmX X n = { X with left := -1, dead := X.dead } := by unfold rarmX; rw [if_neg h0]
    rw [e]
    clear e
    go_enter Try.func29, Try.ntmps29
    go_wp2
    go_end0
    have ho := ((Only.refl w B).set (i := 3) (.int .i64 (-1)))
    obtain ⟨k1, k2⟩ := HR.out.num (-1) X.dead ⟨by omega, by omega⟩ ho (set7 HR.out.blk 3 (.int .i64 (-1)))
    exact ⟨rfl, k1, k2⟩
end Go.Proofs.Ytlepcmljmibdnaa
