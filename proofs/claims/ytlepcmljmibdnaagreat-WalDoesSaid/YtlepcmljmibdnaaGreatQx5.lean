/- Parts of one proof, joined: Tc, Rn, Rf, Rg, Rh, Ri, Rj, Cr. Conditions: those of each statement. -/
import Derived.Test.YtlepcmljmibdnaaGreatQx4
import Derived.ArgAppend
namespace Go.Proofs.YtlepcmljmibdnaaGreat
open Go.RowKit Go.Proofs.YtlepcmljmibdnaaGreatW.PrintWords Go.Proofs.YtlepcmljmibdnaaGreatW.PrintLast Go.Proofs.YtlepcmljmibdnaaGreatW.PrintMore PDiskArms
set_option linter.unusedVariables false
set_option linter.unusedSimpArgs false
/-- nothing below base, and no block but those of kind T, has changed -/
structure TC (base : Nat) (T : Obj → Prop) (w w' : World) : Prop where
  low : Below base w w'
  blk : ∀ (k : Nat) (o : Obj), w.heap[k]? = some o → ¬ T o → w'.heap[k]? = some o
section
variable {base : Nat} {T T' : Obj → Prop} {a b c : World}
theorem TC.refl (base : Nat) (T : Obj → Prop) (w : World) : TC base T w w := ⟨Below.refl _ _, fun _ _ h _ => h⟩
theorem TC.trans (h : TC base T a b) (k : TC base T b c) : TC base T a c := ⟨h.low.trans k.low, fun i o ho hn => k.blk i o (h.blk i o ho hn) hn⟩
theorem TC.mono (h : TC base T a b) (ht : ∀ o, T o → T' o) : TC base T' a b := ⟨h.low, fun i o ho hn => h.blk i o ho (fun e => hn (ht o e))⟩
theorem TC.lower {base' : Nat} (h : TC base T a b) (hb : base' ≤ base) : TC base' T a b := ⟨h.low.mono hb, h.blk⟩
theorem TC.of_chg {S : Nat → Prop} (h : Chg a b S) (hb : base ≤ a.heap.size) (hs : ∀ k, S k → k < a.heap.size → base ≤ k ∧ ∃ o, a.heap[k]? = some o ∧ T o) : TC base T a b :=
  ⟨⟨h.os, h.tape, h.output, h.size, fun k hk => h.block k (by omega) (fun e => by have := (hs k e (by omega)).1; omega)⟩, fun k o ho hn => by
    have hk : k < a.heap.size := (Array.getElem?_eq_some_iff.1 ho).1
    rw [h.block k hk (fun e => by
      obtain ⟨_, o', ho', ht⟩ := hs k e hk
      rw [ho] at ho'
      obtain rfl := Option.some.inj ho'
      exact hn ht)]
    exact ho⟩
theorem TC.of_below (h : Below a.heap.size a b) (hb : base ≤ a.heap.size) : TC base T a b :=
  ⟨h.mono hb, fun k o ho _ => (h.block k (Array.getElem?_eq_some_iff.1 ho).1).trans ho⟩
theorem TC.drew (h : TC base T a b) : TC base T a b.drew := ⟨h.low.drew, h.blk⟩
theorem TC.alloc (h : TC base T a b) (o : Obj) (hb : base ≤ a.heap.size) : TC base T a (b.alloc o) :=
  h.trans (.of_below (Below.alloc (Below.refl _ _) (Nat.le_refl _) o) (Nat.le_trans hb h.low.size))
theorem TC.grown {row : Option Nat} (h : a.grownBy b row) (hs : ∀ k, some k = row → base ≤ k ∧ ∃ o, a.heap[k]? = some o ∧ T o) (hb : base ≤ a.heap.size) : TC base T a b :=
  .of_chg (chg_grown h (S := fun k => some k = row) (fun k hk => hk)) hb (fun k hk _ => hs k hk)
theorem TC.set {g j : Nat} {o : Obj} (hg : a.heap[g]? = some o) (ht : T o) (hb : base ≤ g) (u : Value) : TC base T a (a.setCell ⟨g, j, none⟩ u) :=
  .of_chg (((Only.refl a g).set (i := j) u).chg (S := fun k => k = g) fun _ h => h) (by have := (Array.getElem?_eq_some_iff.1 hg).1; omega) (fun k hk _ => by subst hk; exact ⟨hb, o, hg, ht⟩)
theorem R_tc {α : Type} {d : Kd α} {e : Nat} {ok : Nat → Prop} {v : Value} {xs : List α} (h : d.R e a base ok v xs) {base' : Nat} (hc : TC base' T a b) (ht : ∀ q, q ∈ e :: d.E → ∀ cells, ¬ T (.cells cells q (0, 0))) : d.R e b base ok v xs :=
  Kd.R_mono (Kd.R_move (Kd.R_bound h) (fun k hk => by
    obtain ⟨_, _, _, q, hq, cells, hce⟩ := hk
    rw [hce]
    exact hc.blk k _ hce (ht q hq cells))) (fun _ hk => hk.1)
end
theorem below_after {b : Nat} {w0 w w' : World} (h : Below b w0 w) (k : Below b w0 w') (hs : w.heap.size ≤ w'.heap.size) : Below b w w' :=
  ⟨k.os.trans h.os.symm, k.tape.trans h.tape.symm, k.output.trans h.output.symm, hs, fun i hi => (k.block i hi).trans (h.block i hi).symm⟩
/-- the blocks of a disk -/
def isDisk (o : Obj) : Prop := match o with
  | .cells _ t _ => t = 90 ∨ t = 124
  | .map _ _ => True
  | _ => False
theorem DK.tc {w w' : World} {base B M Bd : Nat} {vc : Value} {D : PD} (h : DK w base B M Bd vc D) (hc : Chg w w' (FP B M Bd vc)) : TC base isDisk w w' := by
  refine .of_chg hc h.base_le fun k hk hl => ⟨(h.fp k hk).1, ?_⟩
  rcases hk with rfl | rfl | rfl | hk
  · exact ⟨_, h.blk, .inl rfl⟩
  · obtain ⟨es, cl, he, _⟩ := h.kept
    exact ⟨_, he, trivial⟩
  · obtain ⟨es, cl, he, _⟩ := h.bad
    exact ⟨_, he, trivial⟩
  · obtain ⟨inner, ho⟩ := Kd.R_own h.cache
    obtain ⟨cells, hc⟩ := own_typed ho k hk.symm
    exact ⟨_, hc, .inr rfl⟩
theorem DK.tkeep {w w' : World} {base base' B M Bd : Nat} {vc : Value} {D : PD} {T : Obj → Prop} (h : DK w base B M Bd vc D) (hc : TC base' T w w') (ht : ∀ o, isDisk o → ¬ T o) : DK w' base B M Bd vc D := by
  obtain ⟨e1, c1, hk1, hr1⟩ := h.kept
  obtain ⟨e2, c2, hk2, hr2⟩ := h.bad
  refine ⟨hc.blk B _ h.blk (ht _ (.inl rfl)), ⟨e1, c1, hc.blk M _ hk1 (ht _ trivial), hr1⟩, ⟨e2, c2, hc.blk Bd _ hk2 (ht _ trivial), hr2⟩, R_tc h.cache hc ?_, h.hB, h.hM, h.hBd, h.hne, h.sec, h.hn, h.hl⟩
  intro q hq cells
  have : q = 124 := by
    have : (124 :: wrK.E) = [124] := by rfl
    rw [this] at hq
    simpa using hq
  subst this
  exact ht _ (.inr rfl)

/-! ### the reference's disk -/
structure RX where
  S : List (List Int)
  cache : List (Int × List Int)
  bad : List Bool
  left : Int
  dead : Bool
def bytesK : Kd (List Int) := Kd.slice 5 (Kd.int .u8)
def rwrK : Kd (Int × List Int) := Kd.pair (Kd.int .i64) bytesK
def isRef (o : Obj) : Prop := match o with
  | .cells _ t _ => t = 93 ∨ t = 58 ∨ t = 4
  | _ => False
theorem isRef53 (c : Array Value) : isRef (.cells c 93 (0, 0)) := .inl rfl
structure RM (w : World) (base B : Nat) (vS vC vB : Value) (X : RX) : Prop where
  blk : w.heap[B]? = some (.cells #[vS, vC, vB, .int .i64 X.left, .bool X.dead] 93 (0, 0))
  S : Kd.R bytesK 58 w base (fun _ => True) vS X.S
  C : Kd.R rwrK 127 w base (fun _ => True) vC X.cache
  bad : Kd.R Kd.bool 4 w base (fun _ => True) vB X.bad
  hB : base ≤ B
structure XOk (X : RX) : Prop where
  s64 : ∀ s ∈ X.S, s.length = 64
  c64 : ∀ p ∈ X.cache, p.2.length = 64 ∧ 0 ≤ p.1 ∧ p.1 < X.S.length
  hb : X.bad.length = X.S.length
  hl : -1 ≤ X.left ∧ X.left ≤ 9223372036854775807
  hn : X.S.length ≤ 4096
structure RK (w : World) (base B : Nat) (vS vC vB : Value) (X : RX) : Prop extends RM w base B vS vC vB X where
  ok : XOk X
theorem RM.lt {w : World} {base B : Nat} {vS vC vB : Value} {X : RX} (h : RM w base B vS vC vB X) : B < w.heap.size := (Array.getElem?_eq_some_iff.1 h.blk).1
theorem RM.base_le {w : World} {base B : Nat} {vS vC vB : Value} {X : RX} (h : RM w base B vS vC vB X) : base ≤ w.heap.size := by have := h.lt; have := h.hB; omega
theorem RM.tkeep {w w' : World} {base base' B : Nat} {vS vC vB : Value} {X : RX} {T : Obj → Prop} (h : RM w base B vS vC vB X) (hc : TC base' T w w') (ht : ∀ q, q = 93 ∨ q = 58 ∨ q = 5 ∨ q = 127 ∨ q = 4 → ∀ cells, ¬ T (.cells cells q (0, 0))) : RM w' base B vS vC vB X := by
  refine ⟨hc.blk B _ h.blk (ht 93 (.inl rfl) _), R_tc h.S hc ?_, R_tc h.C hc ?_, R_tc h.bad hc ?_, h.hB⟩
  · intro q hq
    rw [show 58 :: bytesK.E = [58, 5] from rfl] at hq
    simp only [List.mem_cons, List.not_mem_nil, or_false] at hq
    exact ht q (by rcases hq with h | h <;> simp [h])
  · intro q hq
    rw [show 127 :: rwrK.E = [127, 5] from rfl] at hq
    simp only [List.mem_cons, List.not_mem_nil, or_false] at hq
    exact ht q (by rcases hq with h | h <;> simp [h])
  · intro q hq
    rw [show 4 :: Kd.bool.E = [4] from rfl] at hq
    simp only [List.mem_cons, List.not_mem_nil, or_false] at hq
    exact ht q (by simp [hq])
theorem RM.disk {w w' : World} {base base' B : Nat} {vS vC vB : Value} {X : RX} (h : RM w base B vS vC vB X) (hc : TC base' isDisk w w') : RM w' base B vS vC vB X :=
  h.tkeep hc fun q hq cells ht => by
    simp only [isDisk] at ht
    rcases hq with h | h | h | h | h <;> simp [h] at ht
theorem RM.fresh {w w' : World} {base B : Nat} {vS vC vB : Value} {X : RX} (h : RM w base B vS vC vB X) (hc : Below w.heap.size w w') : RM w' base B vS vC vB X :=
  h.tkeep (T := fun _ => False) (.of_below hc h.base_le) fun q hq cells ht => ht
theorem RK.disk {w w' : World} {base base' B : Nat} {vS vC vB : Value} {X : RX} (h : RK w base B vS vC vB X) (hc : TC base' isDisk w w') : RK w' base B vS vC vB X := ⟨h.toRM.disk hc, h.ok⟩
theorem RK.fresh {w w' : World} {base B : Nat} {vS vC vB : Value} {X : RX} (h : RK w base B vS vC vB X) (hc : Below w.heap.size w w') : RK w' base B vS vC vB X := ⟨h.toRM.fresh hc, h.ok⟩
theorem RM.low {w : World} {base b B : Nat} {vS vC vB : Value} {X : RX} (h : RM w base B vS vC vB X) (hb : b ≤ base) : RM w b B vS vC vB X := ⟨h.blk, Kd.R_lower h.S hb, Kd.R_lower h.C hb, Kd.R_lower h.bad hb, Nat.le_trans hb h.hB⟩
theorem q29 : ∀ q, q ∈ 58 :: bytesK.E → q = 58 ∨ q = 5 := by
  intro q hq
  rw [show 58 :: bytesK.E = [58, 5] from rfl] at hq
  simpa using hq
theorem q106 : ∀ q, q ∈ 127 :: rwrK.E → q = 127 ∨ q = 5 := by
  intro q hq
  rw [show 127 :: rwrK.E = [127, 5] from rfl] at hq
  simpa using hq
theorem q4 : ∀ q, q ∈ 4 :: Kd.bool.E → q = 4 := by
  intro q hq
  rw [show 4 :: Kd.bool.E = [4] from rfl] at hq
  simpa using hq
/-- what a change of some of its blocks leaves -/
theorem R_types_chg {α : Type} {d : Kd α} {e : Nat} {w w' : World} {base : Nat} {v : Value} {xs : List α} {S : Nat → Prop} (hr : Kd.R d e w base (fun _ => True) v xs) (hc : Chg w w' S)
    (hs : ∀ k, S k → k < w.heap.size → ∃ t cells, w.heap[k]? = some (.cells cells t (0, 0)) ∧ ∀ q, q ∈ e :: d.E → q ≠ t) : Kd.R d e w' base (fun _ => True) v xs :=
  Kd.R_mono (Kd.R_move (Kd.R_bound hr) (fun k hk => hc.block k hk.2.2.1 (fun hS => by
    obtain ⟨t, cells, hcl, hq⟩ := hs k hS hk.2.2.1
    obtain ⟨_, _, _, q, hq', cells', hc'⟩ := hk
    rw [hcl] at hc'
    injection hc' with hc'
    injection hc' with _ hc'
    exact hq q hq' hc'.symm))) (fun _ _ => trivial)
theorem own_cells {α : Type} {d : Kd α} {e : Nat} {w : World} {base : Nat} {v : Value} {xs : List α} {ok : Nat → Prop} (hr : Kd.R d e w base ok v xs) (k : Nat) (hk : some k = v.ownBlock) : base ≤ k ∧ ∃ cells, w.heap[k]? = some (.cells cells e (0, 0)) := by
  obtain ⟨inner, ho⟩ := Kd.R_own hr
  exact ⟨own_base ho k hk.symm, own_typed ho k hk.symm⟩
/-- the row of sectors was turned, then its cell -/
theorem RM.reS {w w' : World} {base B : Nat} {vS vC vB v1 : Value} {X : RX} {S' : List (List Int)} (h : RM w base B vS vC vB X) (hc : Chg w w' (fun k => some k = vS.ownBlock)) (ho : Kd.R bytesK 58 w' base (fun _ => True) v1 S') :
    RM (w'.setCell ⟨B, 0, none⟩ v1) base B v1 vC vB { X with S := S' } ∧ TC base isRef w (w'.setCell ⟨B, 0, none⟩ v1) := by
  have hne : some B ≠ vS.ownBlock := fun e => by
    obtain ⟨_, cells, hc⟩ := own_cells h.S B e
    rw [h.blk] at hc
    simp at hc
  have hb : w'.heap[B]? = _ := (hc.block B h.lt hne).trans h.blk
  have hs : ∀ k, some k = vS.ownBlock → k < w.heap.size → base ≤ k ∧ ∃ o, w.heap[k]? = some o ∧ isRef o := fun k hk hl => by
    obtain ⟨h1, cells, h2⟩ := own_cells h.S k hk
    exact ⟨h1, _, h2, .inr (.inl rfl)⟩
  have hs' : ∀ k, some k = vS.ownBlock → k < w.heap.size → ∃ t cells, w.heap[k]? = some (.cells cells t (0, 0)) ∧ t = 58 := fun k hk hl => by
    obtain ⟨h1, cells, h2⟩ := own_cells h.S k hk
    exact ⟨58, cells, h2, rfl⟩
  refine ⟨⟨set7 hb 0 v1, Kd.R_set ho hb (fun q hq => by rcases q29 q hq with h | h <;> simp [h]) 0 v1, Kd.R_set (R_types_chg h.C hc fun k hk hl => by obtain ⟨t, c, h1, rfl⟩ := hs' k hk hl; exact ⟨_, c, h1, fun q hq => by rcases q106 q hq with h | h <;> simp [h]⟩) hb (fun q hq => by rcases q106 q hq with h | h <;> simp [h]) 0 v1,
    Kd.R_set (R_types_chg h.bad hc fun k hk hl => by obtain ⟨t, c, h1, rfl⟩ := hs' k hk hl; exact ⟨_, c, h1, fun q hq => by simp [q4 q hq]⟩) hb (fun q hq => by simp [q4 q hq]) 0 v1, h.hB⟩, ?_⟩
  exact (TC.of_chg hc h.base_le hs).trans (.set hb (isRef53 _) h.hB v1)
/-- the row of marks was turned, then its cell -/
theorem RM.reB {w w' : World} {base B : Nat} {vS vC vB v1 : Value} {X : RX} {S' : List Bool} (h : RM w base B vS vC vB X) (hc : Chg w w' (fun k => some k = vB.ownBlock)) (ho : Kd.R Kd.bool 4 w' base (fun _ => True) v1 S') :
    RM (w'.setCell ⟨B, 2, none⟩ v1) base B vS vC v1 { X with bad := S' } ∧ TC base isRef w (w'.setCell ⟨B, 2, none⟩ v1) := by
  have hne : some B ≠ vB.ownBlock := fun e => by
    obtain ⟨_, cells, hc⟩ := own_cells h.bad B e
    rw [h.blk] at hc
    simp at hc
  have hb : w'.heap[B]? = _ := (hc.block B h.lt hne).trans h.blk
  have hs : ∀ k, some k = vB.ownBlock → k < w.heap.size → base ≤ k ∧ ∃ o, w.heap[k]? = some o ∧ isRef o := fun k hk hl => by
    obtain ⟨h1, cells, h2⟩ := own_cells h.bad k hk
    exact ⟨h1, _, h2, .inr (.inr rfl)⟩
  have hs' : ∀ k, some k = vB.ownBlock → k < w.heap.size → ∃ t cells, w.heap[k]? = some (.cells cells t (0, 0)) ∧ t = 4 := fun k hk hl => by
    obtain ⟨h1, cells, h2⟩ := own_cells h.bad k hk
    exact ⟨4, cells, h2, rfl⟩
  refine ⟨⟨set7 hb 2 v1, Kd.R_set (R_types_chg h.S hc fun k hk hl => by obtain ⟨t, c, h1, rfl⟩ := hs' k hk hl; exact ⟨_, c, h1, fun q hq => by rcases q29 q hq with h | h <;> simp [h]⟩) hb (fun q hq => by rcases q29 q hq with h | h <;> simp [h]) 2 v1,
    Kd.R_set (R_types_chg h.C hc fun k hk hl => by obtain ⟨t, c, h1, rfl⟩ := hs' k hk hl; exact ⟨_, c, h1, fun q hq => by rcases q106 q hq with h | h <;> simp [h]⟩) hb (fun q hq => by rcases q106 q hq with h | h <;> simp [h]) 2 v1,
    Kd.R_set ho hb (fun q hq => by simp [q4 q hq]) 2 v1, h.hB⟩, ?_⟩
  exact (TC.of_chg hc h.base_le hs).trans (.set hb (isRef53 _) h.hB v1)
theorem DK.ref {w w' : World} {base base' B M Bd : Nat} {vc : Value} {D : PD} (h : DK w base B M Bd vc D) (hc : TC base' isRef w w') : DK w' base B M Bd vc D :=
  h.tkeep hc fun o ho ht => by
    cases o with
    | cells c t f => simp only [isDisk, isRef] at ho ht; rcases ho with h | h <;> simp [h] at ht
    | _ => exact ht
theorem cells5 {w : World} {B : Nat} {a b c d e : Value} {t : Nat} (h : w.heap[B]? = some (.cells #[a, b, c, d, e] t (0, 0))) :
    (w.cell? ⟨B, 0, none⟩ = some a ∧ w.cell? ⟨B, 1, none⟩ = some b ∧ w.cell? ⟨B, 2, none⟩ = some c ∧ w.cell? ⟨B, 3, none⟩ = some d ∧ w.cell? ⟨B, 4, none⟩ = some e) ∧
    (w.frozen? ⟨B, 0, none⟩ = false ∧ w.frozen? ⟨B, 1, none⟩ = false ∧ w.frozen? ⟨B, 2, none⟩ = false ∧ w.frozen? ⟨B, 3, none⟩ = false ∧ w.frozen? ⟨B, 4, none⟩ = false) := by
  refine ⟨⟨?_, ?_, ?_, ?_, ?_⟩, ?_, ?_, ?_, ?_, ?_⟩ <;> simp [World.cell?, World.frozen?, h]
/-- only the numbers of the reference's disk were turned -/
theorem RK.num {w : World} {base B : Nat} {vS vC vB : Value} {X : RX} (h : RK w base B vS vC vB X) (l : Int) (d : Bool) (hl : -1 ≤ l ∧ l ≤ 9223372036854775807) {w' : World} (ho : Only w w' B) (hb : w'.heap[B]? = some (.cells #[vS, vC, vB, .int .i64 l, .bool d] 93 (0, 0))) :
    RK w' base B vS vC vB { X with left := l, dead := d } ∧ TC base isRef w w' := by
  have hc : Chg w w' (fun k => k = B) := ho.chg fun _ h => h
  have htc : TC base isRef w w' := .of_chg hc h.base_le fun k hk _ => by subst hk; exact ⟨h.hB, _, h.blk, isRef53 _⟩
  have hm : ∀ {α : Type} {d : Kd α} {e : Nat} {v : Value} {xs : List α}, Kd.R d e w base (fun _ => True) v xs → (∀ q, q ∈ e :: d.E → q ≠ 93) → Kd.R d e w' base (fun _ => True) v xs := fun hr hq => by
    have h1 := Kd.R_types hr h.blk hq
    exact Kd.R_mono (Kd.R_step h1 (fun k hk hl => hc.block k hl hk.2)) (fun _ _ => trivial)
  refine ⟨⟨⟨hb, hm h.S ?_, hm h.C ?_, hm h.bad ?_, h.hB⟩, ⟨h.ok.s64, h.ok.c64, h.ok.hb, hl, h.ok.hn⟩⟩, htc⟩
  · intro q hq
    rw [show 58 :: bytesK.E = [58, 5] from rfl] at hq
    simp only [List.mem_cons, List.not_mem_nil, or_false] at hq
    rintro rfl
    simp at hq
  · intro q hq
    rw [show 127 :: rwrK.E = [127, 5] from rfl] at hq
    simp only [List.mem_cons, List.not_mem_nil, or_false] at hq
    rintro rfl
    simp at hq
  · intro q hq
    rw [show 4 :: Kd.bool.E = [4] from rfl] at hq
    simp only [List.mem_cons, List.not_mem_nil, or_false] at hq
    rintro rfl
    simp at hq
theorem rhas_calls (w : World) (base B : Nat) (vS vC vB : Value) (X : RX) (at_ : Int) (b : Bool) (hb : inB at_ X.S.length = b) (h : RK w base B vS vC vB X) :
    Calls Tryz.prog 103 #[.pointer (some ⟨B, 0, none⟩), .int .i64 at_] w fun e w' => e = .returned (.bool b) ∧ w = w' := by
  subst hb
  obtain ⟨⟨h0, h1, h2, h3, h4⟩, _⟩ := cells5 h.blk
  obtain ⟨A, c, rfl⟩ := Kd.R_slice h.S
  clear h h1 h2 h3 h4
  by_cases h : 0 ≤ at_
  · by_cases h' : at_ < X.S.length
    · rw [show inB at_ X.S.length = true by simp [inB]; omega]
      go_enter Tryz.func103, Tryz.ntmps103
      go_wp2
      go_ret
      exact ⟨rfl, rfl⟩
    · rw [show inB at_ X.S.length = false by simp [inB]; omega]
      have h2 : decide (at_ < (X.S.length : Int)) = false := by simp; omega
      go_enter Tryz.func103, Tryz.ntmps103
      go_wp2
      go_ret
      exact ⟨rfl, rfl⟩
  · rw [show inB at_ X.S.length = false by simp [inB]; omega]
    go_enter Tryz.func103, Tryz.ntmps103
    go_wp2
    go_ret
    exact ⟨rfl, rfl⟩
def ractX (X : RX) : RX × Int := if X.dead || X.left == 0 then ({ X with dead := true }, 50) else if 0 < X.left then ({ X with left := X.left - 1 }, 0) else (X, 0)
theorem ract_calls (w : World) (base B : Nat) (vS vC vB : Value) (X X' : RX) (r : Int) (hx : ractX X = (X', r)) (h : RK w base B vS vC vB X) :
    Calls Tryz.prog 130 #[.pointer (some ⟨B, 0, none⟩)] w fun e w' => e = .returned (.int .i64 r) ∧ RK w' base B vS vC vB X' ∧ TC base isRef w w' ∧ Chg w w' (fun k => k = B) := by
  obtain ⟨⟨h0, h1, h2, h3, h4⟩, f0, f1, f2, f3, f4⟩ := cells5 h.blk
  have HR := Aside0.mk h
  obtain ⟨S, cache, bad, left, dead⟩ := X
  simp only at h3 h4
  have hl := h.ok.hl
  simp only at hl
  obtain ⟨hl1, hl2⟩ := hl
  clear h
  cases dead with
  | true =>
    have e : ractX { S := S, cache := cache, bad := bad, left := left, dead := true } = ({ S := S, cache := cache, bad := bad, left := left, dead := true }, 50) := by simp [ractX]
    obtain ⟨rfl, rfl⟩ := Prod.mk.inj (e.symm.trans hx)
    clear e hx
    go_enter Tryz.func130, Tryz.ntmps130
    go_wp2
    go_ret
    have ho := (Only.refl w B).set (i := 4) (.bool true)
    obtain ⟨k1, k2⟩ := HR.out.num left true ⟨hl1, hl2⟩ ho (set7 HR.out.blk 4 (.bool true))
    exact ⟨rfl, k1, k2, ho.chg fun _ h => h⟩
  | false =>
    by_cases hz : left = 0
    · subst hz
      have e : ractX { S := S, cache := cache, bad := bad, left := 0, dead := false } = ({ S := S, cache := cache, bad := bad, left := 0, dead := true }, 50) := by simp [ractX]
      obtain ⟨rfl, rfl⟩ := Prod.mk.inj (e.symm.trans hx)
      clear e hx
      go_enter Tryz.func130, Tryz.ntmps130
      go_wp2
      go_ret
      have ho := (Only.refl w B).set (i := 4) (.bool true)
      obtain ⟨k1, k2⟩ := HR.out.num 0 true ⟨by omega, by omega⟩ ho (set7 HR.out.blk 4 (.bool true))
      exact ⟨rfl, k1, k2, ho.chg fun _ h => h⟩
    · have hz0 : (left == 0) = false := by simpa using hz
      by_cases hp : 0 < left
      · have e : ractX { S := S, cache := cache, bad := bad, left := left, dead := false } = ({ S := S, cache := cache, bad := bad, left := left - 1, dead := false }, 0) := by simp [ractX, hz, hp]
        obtain ⟨rfl, rfl⟩ := Prod.mk.inj (e.symm.trans hx)
        clear e hx hz
        go_enter Tryz.func130, Tryz.ntmps130
        go_wp2
        go_ret
        have ho := (Only.refl w B).set (i := 3) (.int .i64 (left - 1))
        obtain ⟨k1, k2⟩ := HR.out.num (left - 1) false ⟨by omega, by omega⟩ ho (set7 HR.out.blk 3 (.int .i64 (left - 1)))
        exact ⟨rfl, k1, k2, ho.chg fun _ h => h⟩
      · have e : ractX { S := S, cache := cache, bad := bad, left := left, dead := false } = ({ S := S, cache := cache, bad := bad, left := left, dead := false }, 0) := by simp [ractX, hz, hp]
        obtain ⟨rfl, rfl⟩ := Prod.mk.inj (e.symm.trans hx)
        clear e hx hz
        go_enter Tryz.func130, Tryz.ntmps130
        go_wp2
        go_ret
        exact ⟨rfl, HR.out, TC.refl _ _ _, Chg.refl _ _⟩
def rarmX (X : RX) (n : Int) : RX := { X with left := if 0 ≤ n then n else -1 }
theorem rarm_calls (w : World) (base B : Nat) (vS vC vB : Value) (X : RX) (n : Int) (hn : -9223372036854775808 ≤ n ∧ n ≤ 9223372036854775807) (h : RK w base B vS vC vB X) :
    Calls Tryz.prog 22 #[.pointer (some ⟨B, 0, none⟩), .int .i64 n] w fun e w' => e = .returned (.tuple #[]) ∧ RK w' base B vS vC vB (rarmX X n) ∧ TC base isRef w w' := by
  obtain ⟨⟨h0, h1, h2, h3, h4⟩, f0, f1, f2, f3, f4⟩ := cells5 h.blk
  have HR := Aside0.mk h
  clear h
  by_cases h0 : 0 ≤ n
  · have e : rarmX X n = { X with left := n, dead := X.dead } := by unfold rarmX; rw [if_pos h0]
    rw [e]
    clear e
    go_enter Tryz.func22, Tryz.ntmps22
    go_wp2
    go_end0
    have ho := ((Only.refl w B).set (i := 3) (.int .i64 (-1))).set (i := 3) (.int .i64 n)
    obtain ⟨k1, k2⟩ := HR.out.num n X.dead ⟨by omega, by omega⟩ ho (set7 (set7 HR.out.blk 3 (.int .i64 (-1))) 3 (.int .i64 n))
    exact ⟨rfl, k1, k2⟩
  · have e : rarmX X n = { X with left := -1, dead := X.dead } := by unfold rarmX; rw [if_neg h0]
    rw [e]
    clear e
    go_enter Tryz.func22, Tryz.ntmps22
    go_wp2
    go_end0
    have ho := ((Only.refl w B).set (i := 3) (.int .i64 (-1)))
    obtain ⟨k1, k2⟩ := HR.out.num (-1) X.dead ⟨by omega, by omega⟩ ho (set7 HR.out.blk 3 (.int .i64 (-1)))
    exact ⟨rfl, k1, k2⟩
end Go.Proofs.YtlepcmljmibdnaaGreat
namespace Go.Proofs.YtlepcmljmibdnaaGreat
open Go.RowKit Go.Proofs.YtlepcmljmibdnaaGreatW.PrintWords Go.Proofs.YtlepcmljmibdnaaGreatW.PrintLast Go.Proofs.YtlepcmljmibdnaaGreatW.PrintMore PDiskArms
set_option linter.unusedVariables false
set_option linter.unusedSimpArgs false
theorem info5e : (Tryz.prog.info? 5).map (fun i => (i.zero, i.size, i.bytes)) = some (some (.int .u8 0), (Kd.int .u8).sz, 1) := by kernel_rfl
theorem info29e : (Tryz.prog.info? 58).map (fun i => (i.zero, i.size, i.bytes)) = some (some (.slice none 0 0), bytesK.sz, 24) := by kernel_rfl
theorem info4e : (Tryz.prog.info? 4).map (fun i => (i.zero, i.size, i.bytes)) = some (some (.bool false), Kd.bool.sz, 1) := by kernel_rfl
theorem info106e : (Tryz.prog.info? 127).map (fun i => (i.zero, i.size, i.bytes)) = some (some (.agg #[.int .i64 0, .slice none 0 0]), rwrK.sz, 32) := by kernel_rfl
/-- a row of noughts, made -/
theorem make64 (W : World) : (Instr.makeSlice 58 (.int .i64 64) (.int .i64 64)).run Tryz.prog W = .ok (.slice (some ⟨W.heap.size, 0, none⟩) 64 64) (W.alloc (.cells (madeCells #[.int .u8 0] 64) 5)) :=
  print_make (P := Tryz.prog) 58 5 .u8 1 Tryz.underlying58 info5e (by decide) 64 (by decide) W
theorem made_R (W : World) (base : Nat) (hb : base ≤ W.heap.size) : Kd.R (Kd.int .u8) 5 (W.alloc (.cells (madeCells #[.int .u8 0] 64) 5)) base (fun k => W.heap.size ≤ k) (.slice (some ⟨W.heap.size, 0, none⟩) 64 64) zsec :=
  Kd.R_of_own (own_made W base 5 .u8 64 hb (by decide)) (fun k hk => by have : W.heap.size = k := by simpa [Value.ownBlock] using hk
                                                                        omega)
def rnewN (n : Int) : Nat := (min (max n 0) 4096).toNat
def rnewX (m : Nat) : RX := { S := List.replicate m zsec, cache := [], bad := List.replicate m false, left := -1, dead := false }
theorem rep_succ {α : Type} (m : Nat) (x : α) : List.replicate m x ++ [x] = List.replicate (m + 1) x := by rw [List.replicate_succ']
theorem make_M (W : World) (base : Nat) (hb : base ≤ W.heap.size) : bytesK.M (W.alloc (.cells (madeCells #[.int .u8 0] 64) 5)) base (fun k => W.heap.size ≤ k) zsec [.slice (some ⟨W.heap.size, 0, none⟩) 64 64] :=
  ⟨_, rfl, made_R W base hb⟩
def RNewP (w : World) (N : Nat) (e : Ending) (w' : World) : Prop := ∃ B vS vB, e = .returned (.pointer (some ⟨B, 0, none⟩)) ∧ RM w' w.heap.size B vS (.slice none 0 0) vB (rnewX N) ∧ Below w.heap.size w w'
set_option maxHeartbeats 1000000 in
theorem rnew_calls (w : World) (n : Int) :
    Calls Tryz.prog 9 #[.int .i64 n] w (RNewP w (rnewN n)) := by
  have hmk := make64
  have hN : Aside0 ((rnewN n : Int) = min (max n 0) 4096) := ⟨by unfold rnewN; omega⟩
  generalize rnewN n = N at hN
  have hN4 : N ≤ 4096 := by have := hN.out; omega
  have hblk := heap_alloc_new w (.cells #[.slice none 0 0, .slice none 0 0, .slice none 0 0, .int .i64 (-1), .bool false] 93)
  have H0 : Aside0 (RM (w.alloc (.cells #[.slice none 0 0, .slice none 0 0, .slice none 0 0, .int .i64 (-1), .bool false] 93)) w.heap.size w.heap.size (.slice none 0 0) (.slice none 0 0) (.slice none 0 0) (rnewX 0)) :=
    ⟨⟨hblk, Kd.R_nil _ _ _ _ _, Kd.R_nil _ _ _ _ _, Kd.R_nil _ _ _ _ _, Nat.le_refl _⟩⟩
  clear hblk
  go_enter Tryz.func9, Tryz.ntmps9
  go_wp2
  go_loopg [4] N (fun kq v4 w' => ∃ (i : Nat) (vS vB : Value), v4 = .int .i64 (i : Int) ∧ Aside0 (i + kq = N) ∧ Aside0 (RM w' w.heap.size w.heap.size vS (.slice none 0 0) vB (rnewX i)) ∧ Aside0 (Below w.heap.size w w'))
  case atStart => exact ⟨0, _, _, rfl, ⟨by omega⟩, H0, ⟨Below.alloc (Below.refl _ _) (Nat.le_refl _) _⟩⟩
  case round =>
    obtain ⟨i, vS, vB, rfl, HI, HRi, HBi⟩ := hrel
    by_cases hi : i < N
    · have h1 : (i : Int) < n := by have := hN.out; omega
      have h2 : (i : Int) < 4096 := by have := hN.out; omega
      have hcs := cells5 HRi.out.blk
      obtain ⟨⟨q0, q1, q2, q3, q4⟩, f0, f1, f2, f3, f4⟩ := hcs
      obtain ⟨A, c, hvS⟩ := Kd.R_slice HRi.out.S
      have HVS := Aside0.mk hvS
      have q0' : wr.drew.cell? ⟨w.heap.size, 0, none⟩ = some vS := q0
      have HBS := Aside0.mk (show w.heap.size ≤ wr.heap.size from HBi.out.size)
      clear q0 q1 q3 q4 hvS f1 f3 f4
      have HM : Aside0 (bytesK.M (wr.alloc (.cells (madeCells #[.int .u8 0] 64) 5)).drew w.heap.size (fun k => wr.heap.size ≤ k) zsec [.slice (some ⟨wr.heap.size, 0, none⟩) 64 64]) := ⟨Kd.M_step (make_M wr w.heap.size HBS.out) (fun _ _ _ => rfl)⟩
      have HSZ : Aside0 ((wr.alloc (.cells (madeCells #[.int .u8 0] 64) 5)).drew.heap.size = wr.heap.size + 1) := ⟨alloc_size wr _⟩
      have HOK : Aside0 (∀ k, wr.heap.size ≤ k → True ∧ some k ≠ vS.ownBlock) := ⟨fun k hk => ⟨trivial, Kd.fresh_ok HRi.out.S k hk⟩⟩
      have HS1 := Aside0.mk (HRi.out.fresh (Below.alloc (Below.refl wr.heap.size wr) (Nat.le_refl _) (.cells (madeCells #[.int .u8 0] 64) 5)).drew).S
      have HBW := Aside0.mk (show w.heap.size ≤ (wr.alloc (.cells (madeCells #[.int .u8 0] 64) 5)).drew.heap.size from Nat.le_trans HBS.out (Below.alloc (Below.refl wr.heap.size wr) (Nat.le_refl _) _).size)
      have HLL := Aside0.mk (show ((rnewX i).S.length + 1) * 24 ≤ 140737488355328 by rw [show (rnewX i).S.length = i from List.length_replicate]; omega)
      have HLT := Aside0.mk HRi.out.lt
      have HBLT := Aside0.mk (show w.heap.size < (wr.alloc (.cells (madeCells #[.int .u8 0] 64) 5)).drew.heap.size from Nat.lt_of_lt_of_le HLT.out (Below.alloc (Below.refl wr.heap.size wr) (Nat.le_refl _) _).size)
      have HBN := Aside0.mk (show some w.heap.size ≠ vS.ownBlock from fun e => by
        obtain ⟨_, cells, hc⟩ := own_cells HRi.out.S _ e
        rw [HRi.out.blk] at hc
        simp at hc)
      go_wp2
      refine Fork.wp_fork (Fork.Lo.rel 0) [7, 10] [] (.one 0 0 (.one 1 0 (.one 2 0 (.one 3 0 (.one 4 1 (.one 5 2 (.one 6 2 (.one 7 2 (.one 8 0 (.one 9 0 (.one 10 2 .nil))))))))))) (by kernel_rfl) (by kernel_rfl) ?_
      generalize hops : List.toArray (_ : List Oper) = ops
      have HO := Aside0.mk hops
      clear hops
      iterate 4 ((refine Fork.plain (Fork.at_ HO.out rfl) _ rfl (fun W => by go_simp; exact rfl) ?_); simp only [Act.put, List.setIfInBounds_toArray, List.set_cons_succ, List.set_cons_zero])
      refine Fork.reads (Fork.at_ HO.out rfl) _ rfl (fun W hW => Arr.ex_load1 rfl rfl (by kernel_rfl) (Fork.bel_cell hW (by assumption))) ?_
      simp only [Act.put, List.setIfInBounds_toArray, List.set_cons_succ, List.set_cons_zero]
      refine Fork.step (Fork.at_ HO.out rfl) (fun K hK => ?_)
      go_simp
      refine hK _ _ (.of_new (Below.alloc (Below.refl _ _) (Nat.le_refl _) _) (Nat.zero_le _)) ?_
      clear hK K
      try simp only [Act.put, List.setIfInBounds_toArray, List.set_cons_succ, List.set_cons_zero]
      refine Fork.step (Fork.at_ HO.out rfl) (fun K hK => ?_)
      go_simp
      refine hK _ _ (.of_new (Below.alloc (Below.refl _ _) (Nat.le_refl _) _) (Nat.zero_le _)) ?_
      clear hK K
      try simp only [Act.put, List.setIfInBounds_toArray, List.set_cons_succ, List.set_cons_zero]
      refine Fork.step (Fork.at_ HO.out rfl) (fun K hK => ?_)
      refine Kd.R_append_step bytesK (W := (wr.alloc (.cells (madeCells #[.int .u8 0] 64) 5)).drew) (w0 := (wr.alloc (.cells (madeCells #[.int .u8 0] 64) 5)).drew) w.heap.size rfl (.tmp 20) (.tmp 22) 32 58 (.slice none 0 0) 24 rfl Tryz.underlying32 info29e rfl (by decide) (by decide) vS (rnewX i).S zsec [.slice (some ⟨wr.heap.size, 0, none⟩) 64 64] (fun _ => True) (fun k => wr.heap.size ≤ k) rfl (by rw [HSZ.out]; rfl) HM.out HOK.out (fun _ _ => trivial) HS1.out (Below.refl _ _) HBW.out HLL.out ?_
      intro v1 w4 ho hb hg hat
      refine hK _ _ (.of_old (.zero hg.os hg.tape hg.output) rfl) ?_
      clear hK K
      have hblk4 : w4.heap[w.heap.size]? = wr.heap[w.heap.size]? := (hg.block _ HBLT.out HBN.out).trans (heap_alloc_old wr _ HLT.out)
      obtain ⟨⟨r0, r1, r2, r3, r4⟩, g0, g1, g2, g3, g4⟩ := cells5 (hblk4.trans HRi.out.blk)
      clear r1 r2 r3 r4 g1 g2 g3 g4
      obtain ⟨A1, c1, hv1⟩ := Kd.R_slice ho
      generalize ((rnewX i).S ++ [zsec]).length = n1 at hv1
      subst hv1
      have HR1 := Aside0.mk ho
      have HG1 := Aside0.mk hg
      clear ho hb hg hat hblk4
      try simp only [Act.put, List.setIfInBounds_toArray, List.set_cons_succ, List.set_cons_zero]
      iterate 2 ((refine Fork.plain (Fork.at_ HO.out rfl) _ rfl (fun W => by go_simp; exact rfl) ?_); simp only [Act.put, List.setIfInBounds_toArray, List.set_cons_succ, List.set_cons_zero])
      refine Fork.step (Fork.at_ HO.out rfl) (fun K hK => ?_)
      go_simp
      refine hK _ _ (.of_old (.zero rfl rfl rfl) rfl) ?_
      clear hK K
      try simp only [Act.put, List.setIfInBounds_toArray, List.set_cons_succ, List.set_cons_zero]
      refine Fork.done ?_
      have hX1 : { rnewX i with S := (rnewX i).S ++ [zsec] } = { rnewX (i + 1) with bad := (rnewX i).bad } := by unfold rnewX; simp [rep_succ]
      have hc1 : Chg wr w4 (fun k => some k = vS.ownBlock) := ((Chg.refl wr _).alloc _).drew.trans (chg_grown HG1.out (fun _ h => h))
      obtain ⟨k1, k2⟩ := HRi.out.reS hc1 HR1.out
      rw [hX1] at k1
      have HK1 := Aside0.mk k1
      have HBk := Aside0.mk (HBi.out.trans k2.low)
      generalize w4.setCell ⟨w.heap.size, 0, none⟩ (Value.slice A1 n1 c1) = w5 at HK1 HBk ⊢
      clear q0' f0 f2 r0 g0 hX1 hc1 k1 k2
      obtain ⟨⟨q0, q1, q2, q3, q4⟩, f0, f1, f2, f3, f4⟩ := cells5 HK1.out.blk
      obtain ⟨Ab, cb, hvB⟩ := Kd.R_slice HK1.out.bad
      have HVB := Aside0.mk hvB
      have HLB := Aside0.mk (show (rnewX i).bad.length = i from List.length_replicate)
      have HNB := Aside0.mk (show some w.heap.size ≠ vB.ownBlock from fun e => by
        obtain ⟨_, cells, hc⟩ := own_cells HK1.out.bad _ e
        rw [HK1.out.blk] at hc
        simp at hc)
      clear q0 q1 q3 q4 hvB f0 f1 f3 f4
      go_wp2_with (first | ((with_reducible refine gate_builtin (b := .append) (xs := #[.tmp 30, .tmp 31]) rfl ?_); at_builtin; refine Kd.R_append Kd.bool (W := w5) (w0 := w5) w.heap.size rfl (.tmp 30) (.tmp 31) 38 4 (.bool false) 1 rfl Tryz.underlying38 info4e rfl (by decide) (by decide) vB (rnewX i).bad false [.bool false] (fun _ => True) (fun _ => False) rfl rfl rfl (fun _ h => h.elim) (fun _ _ => trivial) HK1.out.bad (Below.refl _ _) HBk.out.size (by rw [HLB.out]; omega) ?_; intro v2 w6 ho hb hg hat; have hblk6 := (hg.block _ HK1.out.lt HNB.out).trans HK1.out.blk; obtain ⟨⟨r0, r1, r2, r3, r4⟩, g0, g1, g2, g3, g4⟩ := cells5 hblk6; clear r0 r1 r3 r4 g0 g1 g3 g4 hblk6; obtain ⟨A2, c2, hv2⟩ := Kd.R_slice ho; generalize ((rnewX i).bad ++ [false]).length = n2 at hv2; subst hv2; have HR2 := Aside0.mk ho; have HG2 := Aside0.mk hg; clear ho hb hg hat))
      have hX2 : { { rnewX (i + 1) with bad := (rnewX i).bad } with bad := (rnewX i).bad ++ [false] } = rnewX (i + 1) := by unfold rnewX; simp [rep_succ]
      obtain ⟨k1, k2⟩ := HK1.out.reB (chg_grown HG2.out (fun _ h => h)) HR2.out
      rw [hX2] at k1
      have hk1 := HI.out
      obtain ⟨gq, rfl⟩ : ∃ gq, gk = gq + 1 := ⟨gk - 1, by omega⟩
      go_roundg gq
      case rel => exact ⟨i + 1, _, _, by go_num, ⟨by omega⟩, ⟨k1⟩, ⟨HBk.out.trans k2.low⟩⟩
      case measure => omega
    · have hi0 := HI.out
      obtain rfl : gk = 0 := by omega
      obtain rfl : i = N := by omega
      have hN0 := hN.out
      clear hi0
      by_cases h1 : (i : Int) < n
      · have h2 : decide ((i : Int) < 4096) = false := by simp; omega
        clear hN0
        go_wp2
        go_ret
        exact ⟨_, _, _, rfl, HRi.out, HBi.out⟩
      · clear hN0
        go_wp2
        go_ret
        exact ⟨_, _, _, rfl, HRi.out, HBi.out⟩
theorem rnew_ok (N : Nat) (h : N ≤ 4096) : XOk (rnewX N) := by
  refine ⟨fun s hs => ?_, fun p hp => ?_, ?_, ⟨?_, ?_⟩, ?_⟩
  · rw [List.eq_of_mem_replicate hs]; rfl
  · cases hp
  · simp [rnewX]
  · exact Int.le_refl _
  · show (-1 : Int) ≤ _; omega
  · simp [rnewX, h]
end Go.Proofs.YtlepcmljmibdnaaGreat
namespace Go.Proofs.YtlepcmljmibdnaaGreat
open Go.RowKit Go.Proofs.YtlepcmljmibdnaaGreatW.PrintWords Go.Proofs.YtlepcmljmibdnaaGreatW.PrintLast Go.Proofs.YtlepcmljmibdnaaGreatW.PrintMore PDiskArms
set_option linter.unusedVariables false
set_option linter.unusedSimpArgs false
theorem R_put1 {α : Type} {d : Kd α} {e g n cap base : Nat} {W : World} {ok okp : Nat → Prop} {xs : List α} (hsz : d.sz = 1) (h : d.R e W base ok (.slice (some ⟨g, 0, none⟩) n cap) xs) (i : Nat) (hi : i < n) (x' : α) (u : Value)
    (hM : d.M W base okp x' [u]) (hokp : ∀ k, okp k → ok k ∧ k ≠ g) : d.R e (W.setCell ⟨g, i, none⟩ u) base ok (.slice (some ⟨g, 0, none⟩) n cap) (xs.set i x') ∧ W.grownBy (W.setCell ⟨g, i, none⟩ u) (some g) := by
  obtain ⟨y, hy⟩ : ∃ y, xs[i]? = some y := by
    obtain ⟨hn, _⟩ := Kd.R_reads' h
    exact ⟨_, List.getElem?_eq_getElem (by omega)⟩
  obtain ⟨c, hcl, _, hcc, _⟩ := Kd.R_elem h y (i : Int) (by omega) (by omega)
  have := Kd.R_seg (okp := okp) (seg := [u]) (j := 0) h (i : Int) (by omega) (by omega) hcl hcc (by rw [hsz]; exact Nat.le_refl 1) (x' := x') (by
    rw [List.take_zero, List.drop_eq_nil_of_le (by rw [hcl, hsz]; exact Nat.le_refl 1)]
    exact hM) hokp
  rw [hsz] at this
  simp only [Int.toNat_natCast, Nat.mul_one, Nat.add_zero] at this
  exact this
section
variable {w : World} {base B : Nat} {vS vC vB : Value} {X : RX}
theorem rs_at (h : RM w base B vS vC vB X) (k : Nat) (s : List Int) (hk : X.S[k]? = some s) :
    ∃ g c A ci, vS = .slice (some ⟨g, 0, none⟩) X.S.length c ∧ w.cell? ⟨g, k, none⟩ = some (.slice A s.length ci) ∧ w.frozen? ⟨g, k, none⟩ = false ∧ bytesK.M w base (fun k => k ≠ g) s [.slice A s.length ci] := by
  have hl : k < X.S.length := (List.getElem?_eq_some_iff.1 hk).1
  obtain ⟨g, c, hv⟩ := R_addr h.S (by omega)
  have hS := h.S
  rw [hv] at hS
  obtain ⟨c', hcl, hM, hcc, hf⟩ := Kd.R_elem hS s (k : Int) (by omega) (by omega)
  have e : X.S.getD (k : Int).toNat s = s := by simp [List.getD, hk]
  rw [e] at hM
  obtain ⟨v, rfl, hR⟩ := hM
  obtain ⟨A, ci, rfl⟩ := Kd.R_slice hR
  have h1 := hcc 0 _ rfl
  have h2 := hf 0
  rw [Int.toNat_natCast, show bytesK.sz = 1 from rfl, Nat.mul_one, Nat.add_zero] at h1 h2
  exact ⟨g, c, A, ci, hv, h1, h2, ⟨_, rfl, Kd.R_mono hR fun k hk => hk.2⟩⟩
theorem rc_at (h : RM w base B vS vC vB X) (k : Nat) (p : Int × List Int) (hk : X.cache[k]? = some p) :
    ∃ g c A ci, vC = .slice (some ⟨g, 0, none⟩) X.cache.length c ∧ w.cell? ⟨g, k * 2, none⟩ = some (.int .i64 p.1) ∧ w.cell? ⟨g, k * 2 + 1, none⟩ = some (.slice A p.2.length ci) ∧ bytesK.M w base (fun _ => True) p.2 [.slice A p.2.length ci] := by
  have hl : k < X.cache.length := (List.getElem?_eq_some_iff.1 hk).1
  obtain ⟨g, c, hv⟩ := R_addr h.C (by omega)
  have hC := h.C
  rw [hv] at hC
  obtain ⟨c', hcl, hM, hcc, hf⟩ := Kd.R_elem hC p (k : Int) (by omega) (by omega)
  have e : X.cache.getD (k : Int).toNat p = p := by simp [List.getD, hk]
  rw [e] at hM
  obtain ⟨c0, c1, rfl, hM0, v, rfl, hR⟩ := hM
  have hM0' : c0 = [.int .i64 p.1] := hM0
  subst hM0'
  obtain ⟨A, ci, rfl⟩ := Kd.R_slice hR
  have h1 := hcc 0 _ rfl
  have h2 := hcc 1 _ rfl
  rw [Int.toNat_natCast, show rwrK.sz = 2 from rfl] at h1 h2
  rw [Nat.add_zero] at h1
  exact ⟨g, c, A, ci, hv, h1, h2, ⟨_, rfl, Kd.R_mono hR fun k hk => trivial⟩⟩
theorem RM.putS {g n c : Nat} (h : RM w base B (.slice (some ⟨g, 0, none⟩) n c) vC vB X) (a : Nat) (ha : a < n) (s : List Int) (u : Value) (hM : bytesK.M w base (fun k => k ≠ g) s [u]) :
    RM (w.setCell ⟨g, a, none⟩ u) base B (.slice (some ⟨g, 0, none⟩) n c) vC vB { X with S := X.S.set a s } ∧ TC base isRef w (w.setCell ⟨g, a, none⟩ u) := by
  obtain ⟨k1, hg⟩ := R_put1 rfl h.S a ha s u hM (fun k hk => ⟨trivial, hk⟩)
  obtain ⟨hb, cells, hcl⟩ := own_cells h.S g rfl
  have hc : Chg w (w.setCell ⟨g, a, none⟩ u) (fun k => some k = some g) := chg_grown hg fun _ h => h
  have hs : ∀ k, some k = some g → k < w.heap.size → ∃ t cells, w.heap[k]? = some (.cells cells t (0, 0)) ∧ t = 58 := fun k hk _ => by
    obtain rfl := Option.some.inj hk
    exact ⟨_, cells, hcl, rfl⟩
  have hne : ¬ some B = some g := fun e => by
    obtain rfl := Option.some.inj e
    rw [h.blk] at hcl
    simp at hcl
  refine ⟨⟨(hc.block B h.lt hne).trans h.blk, k1, R_types_chg h.C hc fun k hk hl => ?_, R_types_chg h.bad hc fun k hk hl => ?_, h.hB⟩, .of_chg hc h.base_le fun k hk _ => ?_⟩
  · obtain ⟨t, c, h1, rfl⟩ := hs k hk hl
    exact ⟨_, c, h1, fun q hq => by rcases q106 q hq with h | h <;> simp [h]⟩
  · obtain ⟨t, c, h1, rfl⟩ := hs k hk hl
    exact ⟨_, c, h1, fun q hq => by simp [q4 q hq]⟩
  · obtain rfl := Option.some.inj hk
    exact ⟨hb, _, hcl, .inr (.inl rfl)⟩
end
def rputs (S : List (List Int)) (l : List (Int × List Int)) : List (List Int) := l.foldl (fun S p => S.set p.1.toNat p.2) S
theorem rputs_succ (S : List (List Int)) (l : List (Int × List Int)) (i : Nat) (p : Int × List Int) (h : l[i]? = some p) : rputs S (l.take (i + 1)) = (rputs S (l.take i)).set p.1.toNat p.2 := by
  unfold rputs
  rw [List.take_add_one, h, List.foldl_append]
  rfl
theorem rputs_len (S : List (List Int)) (l : List (Int × List Int)) : (rputs S l).length = S.length := by
  induction l generalizing S with
  | nil => rfl
  | cons p l ih => exact (ih (S.set p.1.toNat p.2)).trans (by simp)
theorem rputs_64 (S : List (List Int)) (l : List (Int × List Int)) (hS : ∀ s ∈ S, s.length = 64) (hl : ∀ p ∈ l, p.2.length = 64) : ∀ s ∈ rputs S l, s.length = 64 := by
  induction l generalizing S with
  | nil => exact hS
  | cons p l ih =>
    refine ih (S.set p.1.toNat p.2) (fun s hs => ?_) (fun q hq => hl q (by simp [hq]))
    rcases List.mem_or_eq_of_mem_set hs with h | h
    · exact hS s h
    · rw [h]; exact hl p (by simp)
theorem ract_same (X : RX) : (ractX X).1.S = X.S ∧ (ractX X).1.cache = X.cache ∧ (ractX X).1.bad = X.bad := by
  unfold ractX
  split
  · exact ⟨rfl, rfl, rfl⟩
  · split <;> exact ⟨rfl, rfl, rfl⟩
theorem write2_cells (w : World) (a0 a1 : Value) (t : Nat) : (w.alloc (.cells #[a0, a1] t)).drew.cell? ⟨w.heap.size, 0, none⟩ = some a0 ∧ (w.alloc (.cells #[a0, a1] t)).drew.cell? ⟨w.heap.size, 1, none⟩ = some a1 := by
  have h : (w.alloc (.cells #[a0, a1] t)).drew.heap[w.heap.size]? = some (.cells #[a0, a1] t (0, 0)) := heap_alloc_new w _
  constructor <;> (unfold World.cell?; rw [h]; rfl)
def rflushX (X : RX) : RX × Int := if (ractX X).2 ≠ 0 then ractX X else ({ (ractX X).1 with S := rputs X.S X.cache, cache := [] }, 0)
/-- the cache was let go -/
theorem RM.nocache {w : World} {base B : Nat} {vS vC vB : Value} {X : RX} (h : RM w base B vS vC vB X) : RM (w.setCell ⟨B, 1, none⟩ (.slice none 0 0)) base B vS (.slice none 0 0) vB { X with cache := [] } ∧ TC base isRef w (w.setCell ⟨B, 1, none⟩ (.slice none 0 0)) :=
  ⟨⟨set7 h.blk 1 _, Kd.R_set h.S h.blk (fun q hq => by rcases q29 q hq with h | h <;> simp [h]) 1 _, Kd.R_nil _ _ _ _ _, Kd.R_set h.bad h.blk (fun q hq => by simp [q4 q hq]) 1 _, h.hB⟩, .set h.blk (isRef53 _) h.hB _⟩
set_option maxHeartbeats 1000000 in
theorem rflush_calls (w : World) (base B : Nat) (vS vC vB : Value) (X X' : RX) (r : Int) (hx : rflushX X = (X', r)) (h : RK w base B vS vC vB X) (hl : X.cache.length ≤ 1000) :
    Calls Tryz.prog 132 #[.pointer (some ⟨B, 0, none⟩)] w fun e w' => e = .returned (.int .i64 r) ∧ TC base isRef w w' ∧ ∃ vC', RK w' base B vS vC' vB X' := by
  obtain ⟨X1, e, hact⟩ : ∃ X1 e, ractX X = (X1, e) := ⟨_, _, rfl⟩
  have HA := Aside0.mk hact
  have HR := Aside0.mk h
  have HX := Aside0.mk hx
  have hsm := ract_same X
  rw [hact] at hsm
  have HSM := Aside0.mk hsm
  clear h hx hact hsm
  by_cases hz : e = 0
  · subst hz
    have HX' : Aside0 (X' = { X1 with S := rputs X1.S X1.cache, cache := [] } ∧ r = 0) := ⟨by
      have := HX.out
      unfold rflushX at this
      rw [HA.out, if_neg (by simp), ← HSM.out.1, ← HSM.out.2.1] at this
      obtain ⟨h1, h2⟩ := Prod.mk.inj this
      exact ⟨h1.symm, h2.symm⟩⟩
    obtain rfl := HX'.out.2
    have hl1 : X1.cache.length ≤ 1000 := by rw [HSM.out.2.1]; exact hl
    have HCO : Aside0 (∀ p ∈ X1.cache, p.2.length = 64 ∧ 0 ≤ p.1 ∧ p.1 < X1.S.length) := ⟨by rw [HSM.out.2.1, HSM.out.1]; exact HR.out.ok.c64⟩
    go_enter Tryz.func132, Tryz.ntmps132
    go_wp2_with (first | (go_at_call 130; with_reducible refine (ract_calls w base B vS vC vB X X1 0 HA.out HR.out).mono ?_; rintro e w1 ⟨rfl, hr, ht, _⟩; have HR1 := Aside0.mk hr; have HT1 := Aside0.mk ht; obtain ⟨A0, c0, hvC⟩ := Kd.R_slice hr.C; subst hvC; have q1 := (cells5 hr.blk).1.2.1; clear hr ht))
    clear q1
    go_loopg [16] X1.cache.length (fun kq v16 w' => ∃ (i : Nat), v16 = .int .i64 (i : Int) ∧ Aside0 (i + kq = X1.cache.length) ∧ Aside0 (RM w' base B vS (.slice A0 X1.cache.length c0) vB { X1 with S := rputs X1.S (X1.cache.take i) }) ∧ Aside0 (TC base isRef w w'))
    case atStart => exact ⟨0, rfl, ⟨by omega⟩, ⟨HR1.out.toRM⟩, HT1⟩
    case round =>
      obtain ⟨i, rfl, HI, HRi, HTi⟩ := hrel
      by_cases hi : i < X1.cache.length
      · obtain ⟨p, hp⟩ : ∃ p, X1.cache[i]? = some p := ⟨_, List.getElem?_eq_getElem hi⟩
        obtain ⟨h64, hp0, hpl⟩ := HCO.out p (List.mem_of_getElem? hp)
        obtain ⟨a, ha⟩ : ∃ a : Nat, p.1 = (a : Int) := ⟨p.1.toNat, by omega⟩
        obtain ⟨g, c, A, ci, hvc, x0, x1, hM⟩ := rc_at HRi.out i p hp
        injection hvc with hv1 hv2 hv3
        subst hv1
        subst hv3
        clear hv2
        rw [ha] at x0
        have hal : a < (rputs X1.S (X1.cache.take i)).length := by rw [rputs_len]; omega
        obtain ⟨sa, hsa⟩ : ∃ sa, (rputs X1.S (X1.cache.take i))[a]? = some sa := ⟨_, List.getElem?_eq_getElem hal⟩
        obtain ⟨gs, cs, As, cis, hvs, y0, yf, _⟩ := rs_at HRi.out a sa hsa
        subst hvs
        have hal' : (a : Int) < ((rputs X1.S (X1.cache.take i)).length : Int) := by omega
        have HP := Aside0.mk hp
        have HPA := Aside0.mk ha
        have HM := Aside0.mk hM
        have HAL := Aside0.mk hal
        have q0 := (cells5 HRi.out.blk).1.1
        have hz := write2_cells wr (.int .i64 (a : Int)) (.slice A p.2.length ci) 127
        obtain ⟨z0, z1⟩ := hz
        have hbw := (Below.alloc (Below.refl wr.heap.size wr) (Nat.le_refl _) (.cells #[.int .i64 (a : Int), .slice A p.2.length ci] 127)).drew
        have HBW := Aside0.mk hbw
        have q0' := Fork.bel_cell hbw q0
        have y0' := Fork.bel_cell hbw y0
        have yf' := (hbw.frozen (p := ⟨gs, a, none⟩) (block_lt_of_cell y0)).trans yf
        clear h64 hp0 hpl hp ha hM hal q0 y0 yf hbw hsa
        go_wp2
        refine Fork.wp_fork (Fork.Lo.rel 0) [9] [] (.one 0 0 (.one 1 0 (.one 2 0 (.one 4 0 (.one 6 0 (.one 3 1 (.one 5 1 (.one 7 1 (.one 8 0 (.one 9 2 .nil)))))))))) (by kernel_rfl) (by kernel_rfl) ?_
        generalize hops : List.toArray (_ : List Oper) = ops
        have HO := Aside0.mk hops
        clear hops
        iterate 5 ((refine Fork.plain (Fork.at_ HO.out rfl) _ rfl (fun W => by go_simp; exact rfl) ?_); simp only [Act.put, List.setIfInBounds_toArray, List.set_cons_succ, List.set_cons_zero])
        refine Fork.reads (Fork.at_ HO.out rfl) _ rfl (fun W hW => Arr.ex_load1 rfl rfl (by kernel_rfl) (Fork.bel_cell hW (by assumption))) ?_
        simp only [Act.put, List.setIfInBounds_toArray, List.set_cons_succ, List.set_cons_zero]
        refine Fork.reads (Fork.at_ HO.out rfl) _ rfl (fun W hW => Arr.ex_load1 rfl rfl (by kernel_rfl) (Fork.bel_cell hW (by assumption))) ?_
        simp only [Act.put, List.setIfInBounds_toArray, List.set_cons_succ, List.set_cons_zero]
        refine Fork.reads (Fork.at_ HO.out rfl) _ rfl (fun W hW => Arr.ex_load1 rfl rfl (by kernel_rfl) (Fork.bel_cell hW (by assumption))) ?_
        simp only [Act.put, List.setIfInBounds_toArray, List.set_cons_succ, List.set_cons_zero]
        ((refine Fork.plain (Fork.at_ HO.out rfl) _ rfl (fun W => by go_simp; exact rfl) ?_); simp only [Act.put, List.setIfInBounds_toArray, List.set_cons_succ, List.set_cons_zero])
        refine Fork.step (Fork.at_ HO.out rfl) (fun K hK => ?_)
        go_simp
        refine hK _ _ (.of_old (.zero rfl rfl rfl) rfl) ?_
        clear hK K
        try simp only [Act.put, List.setIfInBounds_toArray, List.set_cons_succ, List.set_cons_zero]
        refine Fork.done ?_
        have hr2 := HRi.out.fresh HBW.out
        obtain ⟨_, cells, hcl⟩ := own_cells hr2.S gs rfl
        have hM2 := bytesK.M_mono (ok' := fun k => k ≠ gs) (fun k hk => hk.2) (Kd.M_types (Kd.M_below HM.out HBW.out) hcl (fun q hq => by rw [show bytesK.E = [5] from rfl] at hq; simp at hq; simp [hq]))
        obtain ⟨k1, k2⟩ := hr2.putS a HAL.out p.2 _ hM2
        have hk1 := HI.out
        obtain ⟨gq, rfl⟩ : ∃ gq, gk = gq + 1 := ⟨gk - 1, by omega⟩
        go_wp2
        go_roundg gq
        case rel => exact ⟨i + 1, by go_num, ⟨by omega⟩, ⟨by rw [rputs_succ X1.S X1.cache i p HP.out, HPA.out]; exact k1⟩, ⟨HTi.out.trans ((TC.of_below HBW.out HRi.out.base_le).trans k2)⟩⟩
        case measure => omega
      · have hi0 := HI.out
        obtain rfl : gk = 0 := by omega
        obtain rfl : i = X1.cache.length := by omega
        clear hi0
        have hm : ¬ ((X1.cache.length : Int) < (X1.cache.length : Int)) := by omega
        have q1 := (cells5 HRi.out.blk).1.2.1
        have f1 := (cells5 HRi.out.blk).2.2.1
        go_wp2
        go_ret
        obtain ⟨k1, k2⟩ := HRi.out.nocache
        rw [HX'.out.1]
        rw [List.take_length] at k1
        refine ⟨rfl, HTi.out.trans k2, _, k1, ⟨?_, fun p hp => (by cases hp), ?_, HR1.out.ok.hl, ?_⟩⟩
        · exact rputs_64 X1.S X1.cache HR1.out.ok.s64 (fun p hp => (HCO.out p hp).1)
        · show X1.bad.length = (rputs X1.S X1.cache).length
          rw [rputs_len]; exact HR1.out.ok.hb
        · show (rputs X1.S X1.cache).length ≤ 4096
          rw [rputs_len]; exact HR1.out.ok.hn
  · have hz' : (e == 0) = false := by simpa using hz
    have HX' : Aside0 (X1 = X' ∧ e = r) := ⟨by
      have := HX.out
      unfold rflushX at this
      rw [HA.out, if_pos hz] at this
      exact Prod.mk.inj this⟩
    obtain ⟨rfl, rfl⟩ := HX'.out
    clear hz
    go_enter Tryz.func132, Tryz.ntmps132
    go_wp2_with (first | (go_at_call 130; with_reducible refine (ract_calls w base B vS vC vB X X1 e HA.out HR.out).mono ?_; rintro e' w1 ⟨rfl, hr, ht, _⟩; have HR1 := Aside0.mk hr; have HT1 := Aside0.mk ht; clear hr ht))
    go_ret
    exact ⟨rfl, HT1.out, vC, HR1.out⟩
end Go.Proofs.YtlepcmljmibdnaaGreat
namespace Go.Proofs.YtlepcmljmibdnaaGreat
open Go.RowKit Go.Proofs.YtlepcmljmibdnaaGreatW.PrintWords Go.Proofs.YtlepcmljmibdnaaGreatW.PrintLast Go.Proofs.YtlepcmljmibdnaaGreatW.PrintMore PDiskArms
set_option linter.unusedVariables false
set_option linter.unusedSimpArgs false
def rsel (S : List (List Int)) (l : List (Int × List Int)) (ks : List Bool) : Nat → List (List Int)
  | 0 => S
  | i + 1 => if ks.getD i false then (rsel S l ks i).set (l.getD i (0, [])).1.toNat (l.getD i (0, [])).2 else rsel S l ks i
theorem rsel_true (S : List (List Int)) (l : List (Int × List Int)) (ks : List Bool) (i : Nat) (p : Int × List Int) (hb : ks.getD i false = true) (hp : l.getD i (0, []) = p) : rsel S l ks (i + 1) = (rsel S l ks i).set p.1.toNat p.2 := by
  subst hp
  show (if ks.getD i false then _ else _) = _
  rw [if_pos hb]
theorem rsel_false (S : List (List Int)) (l : List (Int × List Int)) (ks : List Bool) (i : Nat) (hb : ks.getD i false = false) : rsel S l ks (i + 1) = rsel S l ks i := by
  show (if ks.getD i false then _ else _) = _
  rw [if_neg (by rw [hb]; simp)]
theorem rsel_len (S : List (List Int)) (l : List (Int × List Int)) (ks : List Bool) (i : Nat) : (rsel S l ks i).length = S.length := by
  induction i with
  | zero => rfl
  | succ i ih => unfold rsel; split <;> simp [ih]
theorem rsel_64 (S : List (List Int)) (l : List (Int × List Int)) (ks : List Bool) (hS : ∀ s ∈ S, s.length = 64) (hl : ∀ p ∈ l, p.2.length = 64) : ∀ i, i ≤ l.length → ∀ s ∈ rsel S l ks i, s.length = 64
  | 0, _ => hS
  | i + 1, hi => by
    unfold rsel
    split
    · intro s hs
      rcases List.mem_or_eq_of_mem_set hs with h | h
      · exact rsel_64 S l ks hS hl i (by omega) s h
      · rw [h]
        have : l.getD i (0, []) = l[i] := by simp [List.getD, List.getElem?_eq_getElem (show i < l.length by omega)]
        rw [this]
        exact hl _ (List.getElem_mem _)
    · exact rsel_64 S l ks hS hl i (by omega)
def rcrashX (X : RX) (ks : List Bool) : RX := { S := rsel X.S X.cache ks X.cache.length, cache := [], bad := X.bad, left := -1, dead := false }
theorem RM.crashed {w : World} {base B : Nat} {vS vC vB : Value} {X : RX} (h : RM w base B vS vC vB X) :
    RM (((w.setCell ⟨B, 1, none⟩ (.slice none 0 0)).setCell ⟨B, 4, none⟩ (.bool false)).setCell ⟨B, 3, none⟩ (.int .i64 (-1))) base B vS (.slice none 0 0) vB { X with cache := [], left := -1, dead := false } ∧
      TC base isRef w (((w.setCell ⟨B, 1, none⟩ (.slice none 0 0)).setCell ⟨B, 4, none⟩ (.bool false)).setCell ⟨B, 3, none⟩ (.int .i64 (-1))) := by
  have b1 := set7 h.blk 1 (.slice none 0 0)
  have b2 := set7 b1 4 (.bool false)
  have b3 := set7 b2 3 (.int .i64 (-1))
  have hS : ∀ {α : Type} {d : Kd α} {e : Nat} {v : Value} {xs : List α}, Kd.R d e w base (fun _ => True) v xs → (∀ q, q ∈ e :: d.E → q ≠ 93) → Kd.R d e (((w.setCell ⟨B, 1, none⟩ (.slice none 0 0)).setCell ⟨B, 4, none⟩ (.bool false)).setCell ⟨B, 3, none⟩ (.int .i64 (-1))) base (fun _ => True) v xs := fun hr hq =>
    Kd.R_set (Kd.R_set (Kd.R_set hr h.blk hq 1 _) b1 hq 4 _) b2 hq 3 _
  exact ⟨⟨b3, hS h.S (fun q hq => by rcases q29 q hq with h | h <;> simp [h]), Kd.R_nil _ _ _ _ _, hS h.bad (fun q hq => by simp [q4 q hq]), h.hB⟩, ((TC.set h.blk (isRef53 _) h.hB _).trans (.set b1 (isRef53 _) h.hB _)).trans (.set b2 (isRef53 _) h.hB _)⟩
set_option maxHeartbeats 2000000 in
theorem rcrash_calls (w : World) (base B : Nat) (vS vC vB : Value) (X : RX) (Ak : Option Addr) (ck : Nat) (ks : List Bool) (h : RK w base B vS vC vB X) (hl : X.cache.length ≤ 1000) (hk : ∀ w', TC base isRef w w' → Kd.bool.C w' Ak ks.length ks) :
    Calls Tryz.prog 24 #[.pointer (some ⟨B, 0, none⟩), .slice Ak ks.length ck] w fun e w' => e = .returned (.tuple #[]) ∧ RK w' base B vS (.slice none 0 0) vB (rcrashX X ks) ∧ TC base isRef w w' := by
  have HR := Aside0.mk h
  have HK := Aside0.mk hk
  have HCO := Aside0.mk h.ok.c64
  obtain ⟨A0, c0, hvC⟩ := Kd.R_slice h.C
  subst hvC
  have q1 := (cells5 h.blk).1.2.1
  clear h hk
  go_enter Tryz.func24, Tryz.ntmps24
  go_wp2
  clear q1
  go_loopg [11] X.cache.length (fun kq v11 w' => ∃ (i : Nat), v11 = .int .i64 (i : Int) ∧ Aside0 (i + kq = X.cache.length) ∧ Aside0 (RM w' base B vS (.slice A0 X.cache.length c0) vB { X with S := rsel X.S X.cache ks i }) ∧ Aside0 (TC base isRef w w'))
  case atStart => exact ⟨0, rfl, ⟨by omega⟩, ⟨HR.out.toRM⟩, ⟨TC.refl _ _ _⟩⟩
  case round =>
    obtain ⟨i, rfl, HI, HRi, HTi⟩ := hrel
    by_cases hi : i < X.cache.length
    · obtain ⟨p, hp⟩ : ∃ p, X.cache[i]? = some p := ⟨_, List.getElem?_eq_getElem hi⟩
      have HGP := Aside0.mk (show X.cache.getD i (0, []) = p by simp [List.getD, hp])
      obtain ⟨h64, hp0, hpl⟩ := HCO.out p (List.mem_of_getElem? hp)
      obtain ⟨a, ha⟩ : ∃ a : Nat, p.1 = (a : Int) := ⟨p.1.toNat, by omega⟩
      obtain ⟨g, c, A, ci, hvc, x0, x1, hM⟩ := rc_at HRi.out i p hp
      injection hvc with hv1 hv2 hv3
      subst hv1
      subst hv3
      clear hv2
      rw [ha] at x0
      have hal : a < (rsel X.S X.cache ks i).length := by rw [rsel_len]; omega
      obtain ⟨sa, hsa⟩ : ∃ sa, (rsel X.S X.cache ks i)[a]? = some sa := ⟨_, List.getElem?_eq_getElem hal⟩
      obtain ⟨gs, cs, As, cis, hvs, y0, yf, _⟩ := rs_at HRi.out a sa hsa
      subst hvs
      have hal' : (a : Int) < ((rsel X.S X.cache ks i).length : Int) := by omega
      have HP := Aside0.mk hp
      have HPA := Aside0.mk ha
      have HM := Aside0.mk hM
      have HAL := Aside0.mk hal
      have q0 := (cells5 HRi.out.blk).1.1
      have hz := write2_cells wr (.int .i64 (a : Int)) (.slice A p.2.length ci) 127
      obtain ⟨z0, z1⟩ := hz
      have hbw := (Below.alloc (Below.refl wr.heap.size wr) (Nat.le_refl _) (.cells #[.int .i64 (a : Int), .slice A p.2.length ci] 127)).drew
      have HBW := Aside0.mk hbw
      have HBV := Aside0.mk (Below.alloc (Below.refl wr.heap.size wr) (Nat.le_refl _) (.cells #[.int .i64 (a : Int), .slice A p.2.length ci] 127))
      have q0' := Fork.bel_cell hbw q0
      have y0' := Fork.bel_cell hbw y0
      have yf' := (hbw.frozen (p := ⟨gs, a, none⟩) (block_lt_of_cell y0)).trans yf
      clear h64 hp0 hpl hp ha hM hal q0 y0 yf hbw hsa
      have HSA := Aside0.mk q0'
      by_cases hik : i < ks.length
      · obtain ⟨b, hb⟩ : ∃ b, ks.getD i false = b := ⟨_, rfl⟩
        have HBB := Aside0.mk hb
        have hcb := Kd.at_bool (Kd.C_below (HK.out wr HTi.out) HBW.out) (i : Int) (by omega) (by omega)
        rw [show rdOf false ks (i : Int) = b by rw [← HBB.out]; simp [rdOf]] at hcb
        obtain ⟨ak, e, hcb⟩ := hcb
        subst e
        rw [Int.toNat_natCast] at hcb
        have hcb' : (wr.alloc (.cells #[.int .i64 (a : Int), .slice A p.2.length ci] 127)).cell? (ak.add i) = some (.bool b) := hcb
        clear hb hcb
        cases b with
        | true =>
          go_wp2
          refine Fork.wp_fork (Fork.Lo.rel 0) [9] [] (.one 0 0 (.one 1 0 (.one 2 0 (.one 4 0 (.one 6 0 (.one 3 1 (.one 5 1 (.one 7 1 (.one 8 0 (.one 9 2 .nil)))))))))) (by kernel_rfl) (by kernel_rfl) ?_
          generalize hops : List.toArray (_ : List Oper) = ops
          have HO := Aside0.mk hops
          clear hops
          iterate 5 ((refine Fork.plain (Fork.at_ HO.out rfl) _ rfl (fun W => by go_simp; exact rfl) ?_); simp only [Act.put, List.setIfInBounds_toArray, List.set_cons_succ, List.set_cons_zero])
          refine Fork.reads (Fork.at_ HO.out rfl) _ rfl (fun W hW => Arr.ex_load1 rfl rfl (by kernel_rfl) (Fork.bel_cell hW (by assumption))) ?_
          simp only [Act.put, List.setIfInBounds_toArray, List.set_cons_succ, List.set_cons_zero]
          refine Fork.reads (Fork.at_ HO.out rfl) _ rfl (fun W hW => Arr.ex_load1 rfl rfl (by kernel_rfl) (Fork.bel_cell hW (by assumption))) ?_
          simp only [Act.put, List.setIfInBounds_toArray, List.set_cons_succ, List.set_cons_zero]
          refine Fork.reads (Fork.at_ HO.out rfl) _ rfl (fun W hW => Arr.ex_load1 rfl rfl (by kernel_rfl) (Fork.bel_cell hW (by assumption))) ?_
          simp only [Act.put, List.setIfInBounds_toArray, List.set_cons_succ, List.set_cons_zero]
          ((refine Fork.plain (Fork.at_ HO.out rfl) _ rfl (fun W => by go_simp; exact rfl) ?_); simp only [Act.put, List.setIfInBounds_toArray, List.set_cons_succ, List.set_cons_zero])
          refine Fork.step (Fork.at_ HO.out rfl) (fun K hK => ?_)
          go_simp
          refine hK _ _ (.of_old (.zero rfl rfl rfl) rfl) ?_
          clear hK K
          try simp only [Act.put, List.setIfInBounds_toArray, List.set_cons_succ, List.set_cons_zero]
          refine Fork.done ?_
          have hr2 := HRi.out.fresh HBW.out
          obtain ⟨_, cells, hcl⟩ := own_cells hr2.S gs rfl
          have hM2 := bytesK.M_mono (ok' := fun k => k ≠ gs) (fun k hk => hk.2) (Kd.M_types (Kd.M_below HM.out HBW.out) hcl (fun q hq => by rw [show bytesK.E = [5] from rfl] at hq; simp at hq; simp [hq]))
          obtain ⟨k1, k2⟩ := hr2.putS a HAL.out p.2 _ hM2
          have hk1 := HI.out
          obtain ⟨gq, rfl⟩ : ∃ gq, gk = gq + 1 := ⟨gk - 1, by omega⟩
          go_wp2
          go_roundg gq
          case rel => exact ⟨i + 1, by go_num, ⟨by omega⟩, ⟨by rw [rsel_true _ _ _ _ p HBB.out HGP.out, HPA.out, Int.toNat_natCast]; exact k1⟩, ⟨HTi.out.trans ((TC.of_below HBW.out HRi.out.base_le).trans k2)⟩⟩
          case measure => omega
        | false =>
          go_wp2
          have hk1 := HI.out
          obtain ⟨gq, rfl⟩ : ∃ gq, gk = gq + 1 := ⟨gk - 1, by omega⟩
          go_roundg gq
          case rel => exact ⟨i + 1, by go_num, ⟨by omega⟩, ⟨by rw [rsel_false _ _ _ _ HBB.out]; exact HRi.out.fresh HBV.out⟩, ⟨HTi.out.trans (TC.of_below HBV.out HRi.out.base_le)⟩⟩
          case measure => omega
      · have HKF := Aside0.mk (show ks.getD i false = false by simp [List.getD, List.getElem?_eq_none (Nat.le_of_not_lt hik)])
        have hik' : decide (i < ks.length) = false := by simp; omega
        go_wp2
        have hk1 := HI.out
        obtain ⟨gq, rfl⟩ : ∃ gq, gk = gq + 1 := ⟨gk - 1, by omega⟩
        go_roundg gq
        case rel => exact ⟨i + 1, by go_num, ⟨by omega⟩, ⟨by rw [rsel_false _ _ _ _ HKF.out]; exact HRi.out.fresh HBV.out⟩, ⟨HTi.out.trans (TC.of_below HBV.out HRi.out.base_le)⟩⟩
        case measure => omega
    · have hi0 := HI.out
      obtain rfl : gk = 0 := by omega
      obtain rfl : i = X.cache.length := by omega
      clear hi0
      have hm : ¬ ((X.cache.length : Int) < (X.cache.length : Int)) := by omega
      have hcs := cells5 HRi.out.blk
      obtain ⟨⟨q0, q1, q2, q3, q4⟩, f0, f1, f2, f3, f4⟩ := hcs
      clear q0 q2 f0 f2
      go_wp2
      go_end0
      obtain ⟨k1, k2⟩ := HRi.out.crashed
      exact ⟨rfl, ⟨k1, ⟨rsel_64 X.S X.cache ks HR.out.ok.s64 (fun p hp => (HCO.out p hp).1) _ (Nat.le_refl _), fun p hp => (by cases hp), by show X.bad.length = (rsel _ _ _ _).length; rw [rsel_len]; exact HR.out.ok.hb, ⟨by show (-1 : Int) ≤ -1; omega, by show (-1 : Int) ≤ _; omega⟩, by show (rsel _ _ _ _).length ≤ 4096; rw [rsel_len]; exact HR.out.ok.hn⟩⟩, HTi.out.trans k2⟩
end Go.Proofs.YtlepcmljmibdnaaGreat
namespace Go.Proofs.YtlepcmljmibdnaaGreat
open Go.RowKit Go.Proofs.YtlepcmljmibdnaaGreatW.PrintWords Go.Proofs.YtlepcmljmibdnaaGreatW.PrintLast Go.Proofs.YtlepcmljmibdnaaGreatW.PrintMore PDiskArms
set_option linter.unusedVariables false
set_option linter.unusedSimpArgs false
section
variable {w : World} {base B : Nat} {vS vC vB : Value} {X : RX}
theorem rb_at (h : RM w base B vS vC vB X) (k : Nat) (b : Bool) (hk : X.bad[k]? = some b) :
    ∃ g c, vB = .slice (some ⟨g, 0, none⟩) X.bad.length c ∧ w.cell? ⟨g, k, none⟩ = some (.bool b) ∧ w.frozen? ⟨g, k, none⟩ = false := by
  have hl : k < X.bad.length := (List.getElem?_eq_some_iff.1 hk).1
  obtain ⟨g, c, hv⟩ := R_addr h.bad (by omega)
  have hS := h.bad
  rw [hv] at hS
  obtain ⟨c', hcl, hM, hcc, hf⟩ := Kd.R_elem hS b (k : Int) (by omega) (by omega)
  have e : X.bad.getD (k : Int).toNat b = b := by simp [List.getD, hk]
  rw [e] at hM
  have hM' : c' = [.bool b] := hM
  subst hM'
  have h1 := hcc 0 _ rfl
  have h2 := hf 0
  rw [Int.toNat_natCast, show Kd.bool.sz = 1 from rfl, Nat.mul_one, Nat.add_zero] at h1 h2
  exact ⟨g, c, hv, h1, h2⟩
end
def rfaultX (X : RX) (at_ : Int) (on : Bool) : RX := if inB at_ X.S.length = false then X else { X with bad := X.bad.set at_.toNat on }
def rreadX (X : RX) (at_ : Int) : List Int × Int :=
  if X.dead then ([], 50) else if inB at_ X.S.length = false then ([], 1) else if X.bad.getD at_.toNat false then ([], 52) else (readL (X.S.getD at_.toNat []) X.cache at_, 0)
set_option maxHeartbeats 1000000 in
theorem rread_calls (w : World) (base B : Nat) (vS vC vB : Value) (X : RX) (at_ r : Int) (s : List Int) (hx : rreadX X at_ = (s, r)) (h : RK w base B vS vC vB X) (hl : X.cache.length ≤ 1000) :
    Calls Tryz.prog 52 #[.pointer (some ⟨B, 0, none⟩), .int .i64 at_] w fun e w' => ∃ A c, e = .returned (.tuple #[.slice A s.length c, .int .i64 r]) ∧ Kd.R (Kd.int .u8) 5 w' w.heap.size (fun k => w.heap.size ≤ k) (.slice A s.length c) s ∧ Below w.heap.size w w' := by
  have HR := Aside0.mk h
  obtain ⟨⟨q0, q1, q2, q3, q4⟩, _⟩ := cells5 h.blk
  by_cases hd : X.dead = true
  · rw [hd] at q4
    have hf : rreadX X at_ = ([], 50) := by unfold rreadX; rw [if_pos hd]
    obtain ⟨rfl, rfl⟩ := Prod.mk.inj (hf.symm.trans hx)
    clear hf hx hd h q0 q1 q2 q3
    go_enter Tryz.func52, Tryz.ntmps52
    go_wp2
    go_ret2
    exact ⟨none, 0, rfl, Kd.R_nil _ _ _ _ _, Below.refl _ _⟩
  have hd0 : X.dead = false := by simpa using hd
  rw [hd0] at q4
  by_cases hi : inB at_ X.S.length = false
  · have HI := Aside0.mk hi
    have hf : rreadX X at_ = ([], 1) := by unfold rreadX; rw [if_neg hd, if_pos hi]
    obtain ⟨rfl, rfl⟩ := Prod.mk.inj (hf.symm.trans hx)
    clear hf hx hd h q0 q1 q2 q3 hi hd0
    go_enter Tryz.func52, Tryz.ntmps52
    go_wp2_with (first | (go_at_call 103; with_reducible refine (rhas_calls w base B vS vC vB X at_ false HI.out HR.out).mono ?_; rintro e w' ⟨rfl, rfl⟩))
    go_ret2
    exact ⟨none, 0, rfl, Kd.R_nil _ _ _ _ _, Below.refl _ _⟩
  have hi0 : inB at_ X.S.length = true := by simpa using hi
  have HI := Aside0.mk hi0
  have hr : 0 ≤ at_ ∧ at_ < X.S.length := by unfold inB at hi0; exact of_decide_eq_true hi0
  obtain ⟨a, rfl⟩ : ∃ a : Nat, at_ = (a : Int) := ⟨at_.toNat, by omega⟩
  have hal : a < X.bad.length := by rw [h.ok.hb]; omega
  obtain ⟨b, hb⟩ : ∃ b, X.bad[a]? = some b := ⟨_, List.getElem?_eq_getElem hal⟩
  obtain ⟨gb, cb, rfl, y0, yf⟩ := rb_at h.toRM a b hb
  have hali : (a : Int) < (X.bad.length : Int) := by omega
  have hgb : X.bad.getD a false = b := by simp [List.getD, hb]
  cases b with
  | true =>
    have hf : rreadX X (a : Int) = ([], 52) := by unfold rreadX; rw [if_neg hd, if_neg hi, Int.toNat_natCast, if_pos hgb]
    obtain ⟨rfl, rfl⟩ := Prod.mk.inj (hf.symm.trans hx)
    clear hf hx hd h q0 q1 q3 hi hd0 hi0 hr hb hal yf hgb
    go_enter Tryz.func52, Tryz.ntmps52
    go_wp2_with (first | (go_at_call 103; with_reducible refine (rhas_calls w base B vS vC _ X (a : Int) true HI.out HR.out).mono ?_; rintro e w' ⟨rfl, rfl⟩))
    go_ret2
    exact ⟨none, 0, rfl, Kd.R_nil _ _ _ _ _, Below.refl _ _⟩
  | false =>
    obtain ⟨s0, hs0⟩ : ∃ s0, X.S[a]? = some s0 := ⟨_, List.getElem?_eq_getElem (by omega)⟩
    have hf : rreadX X (a : Int) = (readL s0 X.cache a, 0) := by unfold rreadX; rw [if_neg hd, if_neg hi, Int.toNat_natCast, if_neg (by rw [hgb]; simp)]; simp [List.getD, hs0]
    obtain ⟨hsr, rfl⟩ := Prod.mk.inj (hf.symm.trans hx)
    have HSR := Aside0.mk hsr
    obtain ⟨gs, cs, As, cis, rfl, z0, _, hM0⟩ := rs_at h.toRM a s0 hs0
    have HC0 : Aside0 ((Kd.int .u8).C w As s0.length s0) := ⟨by obtain ⟨v, hv, hR⟩ := hM0; obtain rfl := List.head_eq_of_cons_eq hv; exact (Kd.R_reads' hR).2.2⟩
    have hsl : (a : Int) < (X.S.length : Int) := by omega
    obtain ⟨Ac, cc, rfl⟩ := Kd.R_slice h.C
    have HS64 := Aside0.mk (h.ok.s64 s0 (List.mem_of_getElem? hs0))
    clear hf hx hd h q3 hi hd0 hi0 hr hb hal yf hgb hM0 hs0 hsr
    go_enter Tryz.func52, Tryz.ntmps52
    go_wp2_with (first | (go_at_call 103; with_reducible refine (rhas_calls w base B _ _ _ X (a : Int) true HI.out HR.out).mono ?_; rintro e w' ⟨rfl, rfl⟩))
    clear q0 q1 q2 q4 y0 z0 hali hsl
    go_loopg [6, 36] X.cache.length (fun kq v6 v36 w' => ∃ (i : Nat) (A : Option Addr) (c : Nat) (s : List Int), v36 = .int .i64 (i : Int) ∧ v6 = .slice A s.length c ∧ Aside0 (i + kq = X.cache.length) ∧ Aside0 ((Kd.int .u8).C w' A s.length s) ∧ Aside0 (readL s0 (X.cache.take i) a = s) ∧ Aside0 (Below w.heap.size w w') ∧ Aside0 (s.length = 64))
    case atStart => exact ⟨0, As, cis, s0, rfl, rfl, ⟨by omega⟩, HC0, ⟨rfl⟩, ⟨Below.refl _ _⟩, HS64⟩
    case round =>
      obtain ⟨i, A, c, s1, rfl, rfl, HIq, HC1, HRL, HBr, H64⟩ := hrel
      by_cases hi : i < X.cache.length
      · obtain ⟨p, hp⟩ : ∃ p, X.cache[i]? = some p := ⟨_, List.getElem?_eq_getElem hi⟩
        obtain ⟨g, c', A1, ci, hvc, x0, x1, hM⟩ := rc_at (HR.out.toRM.fresh HBr.out) i p hp
        injection hvc with hv1 hv2 hv3
        subst hv1
        subst hv3
        have HP := Aside0.mk hp
        have HP64 := Aside0.mk (HR.out.ok.c64 p (List.mem_of_getElem? hp)).1
        have HCp : Aside0 ((Kd.int .u8).C wr A1 p.2.length p.2) := ⟨by obtain ⟨v, hv, hR⟩ := hM; obtain rfl := List.head_eq_of_cons_eq hv; exact (Kd.R_reads' hR).2.2⟩
        clear hv2 hp hM
        have hbw := Below.alloc (Below.refl wr.heap.size wr) (Nat.le_refl _) (.cells #[.int .i64 p.1, .slice A1 p.2.length ci] 127)
        have HBW := Aside0.mk hbw
        clear hbw
        by_cases hpa : p.1 = (a : Int)
        · have HPA := Aside0.mk hpa
          have hpa' : (p.1 == (a : Int)) = true := by simpa using hpa
          clear hpa
          go_wp2
          have hk1 := HIq.out
          obtain ⟨gq, rfl⟩ : ∃ gq, gk = gq + 1 := ⟨gk - 1, by omega⟩
          go_roundg gq
          case rel => exact ⟨i + 1, A1, ci, p.2, by go_num, rfl, ⟨by omega⟩, ⟨Kd.C_below HCp.out HBW.out⟩, ⟨by rw [readL_succ s0 X.cache a i p HP.out, if_pos HPA.out]⟩, ⟨HBr.out.trans (HBW.out.mono HBr.out.size)⟩, HP64⟩
          case measure => omega
        · have HPA := Aside0.mk hpa
          have hpa' : (p.1 == (a : Int)) = false := by simpa using hpa
          clear hpa
          go_wp2
          have hk1 := HIq.out
          obtain ⟨gq, rfl⟩ : ∃ gq, gk = gq + 1 := ⟨gk - 1, by omega⟩
          go_roundg gq
          case rel => exact ⟨i + 1, A, c, s1, by go_num, rfl, ⟨by omega⟩, ⟨Kd.C_below HC1.out HBW.out⟩, ⟨by rw [readL_succ s0 X.cache a i p HP.out, if_neg HPA.out]; exact HRL.out⟩, ⟨HBr.out.trans (HBW.out.mono HBr.out.size)⟩, H64⟩
          case measure => omega
      · have hi0 := HIq.out
        obtain rfl : gk = 0 := by omega
        obtain rfl : i = X.cache.length := by omega
        clear hi0
        have hm : ¬ ((X.cache.length : Int) < (X.cache.length : Int)) := by omega
        obtain rfl : s1 = s := by have := HRL.out; rw [List.take_length, HSR.out] at this; exact this.symm
        go_wp2_with (first | ((with_reducible refine gate_builtin (b := .append) (xs := #[.const (.slice none 0 0), .tmp 47]) rfl ?_); at_builtin; refine Kd.R_append_rows (Kd.int .u8) (W := wr) (w0 := wr) wr.heap.size rfl (.const (.slice none 0 0)) (.tmp 47) 58 5 (.int .u8 0) 1 rfl Tryz.underlying58 info5e rfl (by decide) (by decide) (.slice none 0 0) [] s1 A s1.length c (fun _ => True) (fun _ => False) rfl rfl (Kd.R_nil _ _ _ _ _) HC1.out (fun _ _ h => h) (fun _ h => h.elim) (fun _ _ => trivial) (Below.refl _ _) (Nat.le_refl _) (by rw [H64.out]; decide) ?_; intro v2 w6 ho hb hg hat; rw [List.nil_append] at ho; obtain ⟨A2, c2, hv2⟩ := Kd.R_slice ho; subst hv2; have HR2 := Aside0.mk ho; have HB2 := Aside0.mk hb; clear ho hb hg hat))
        go_ret2
        exact ⟨_, _, rfl, Kd.R_mono (Kd.R_bound (Kd.R_lower HR2.out HBr.out.size)) (fun k hk => hk.2.1), HBr.out.trans (HB2.out.mono HBr.out.size)⟩
end Go.Proofs.YtlepcmljmibdnaaGreat
namespace Go.Kd2
open Go.RowKit Go.Proofs.YtlepcmljmibdnaaGreatW.PrintWords
/-- one element appended to a row that is cut at its end: always a new row -/
theorem R_append_full {α : Type} (d : Kd α) {P : Program} {ops : Array Oper} {Q : Exit → Act → World → Prop} {Kc : Act → World → Prop} {o : Oper} {a : Act} {W : World} (base : Nat) (hw : Region.wanted o (yielded ops a.tmps) = true) (s x : Operand) (t e : TypeId) (z : Value) (bytes : Nat)
    (ho : o.op = .call { callee := .builtin .append, args := #[s, x], argTypes := #[t, t] })
    (ht : P.underlying t = some (.slice e)) (hinfo : (P.info? e).map (fun i => (i.zero, i.size, i.bytes)) = some (some z, d.sz, bytes)) (hz : z.cells.size = d.sz) (hs0 : 0 < d.sz) (hb0 : 0 < bytes)
    (A : Option Addr) (n c : Nat) (xs : List α) (p : α) (cs : List Value) (okp : Nat → Prop) (hs : a.eval s = .slice A n n) (hx : a.eval x = .slice (some ⟨W.heap.size, 0, none⟩) 1 1) (hp : d.M W base okp p cs) (hokp : ∀ k, okp k → some k ≠ (Value.slice A n c).ownBlock)
    (HO : d.R e W base (fun _ => True) (.slice A n c) xs) (hbase : base ≤ W.heap.size) (hl : (xs.length + 1) * bytes ≤ 140737488355328)
    (h : ∀ v1 w1, d.R e w1 base (fun _ => True) v1 (xs ++ [p]) → Below W.heap.size W w1 → W.heap.size < w1.heap.size → Below (W.heap.size + 1) (W.alloc (.cells cs.toArray e)) w1 → Kc (a.put o.dst v1) w1) :
    if Region.wanted o (yielded ops a.tmps) = true then Oper.wp P o a (W.alloc (.cells cs.toArray e)) Kc Q else Kc (a.put o.dst undef) (W.alloc (.cells cs.toArray e)) := by
  obtain ⟨h0, inner, hown, hr⟩ := HO
  obtain ⟨i0, hi, hzz⟩ := Option.map_eq_some_iff.1 hinfo
  simp only [Prod.mk.injEq] at hzz
  obtain ⟨hz0, hz1, hz2⟩ := hzz
  have hn : n = xs.length := by
    rcases hown.2 with ⟨he, h0⟩ | ⟨g, cap, cur, he, _⟩
    · injection he with _ h1 _; omega
    · injection he with _ h1 _
  subst hn
  have hlen : xs.length + 1 ≤ 140737488355328 := Nat.le_trans (Nat.le_mul_of_pos_right _ hb0) hl
  have hcl : cs.length = d.sz := d.K_len (d.K_of_M hp)
  have hsz1 : (W.alloc (.cells cs.toArray e)).heap.size = W.heap.size + 1 := by show (W.heap.push _).size = _; simp
  have hnews : ∀ j u, cs[j]? = some u → (W.alloc (.cells cs.toArray e)).cell? ((⟨W.heap.size, 0, none⟩ : Addr).add j) = some u := by
    intro j u hj
    have e1 : (⟨W.heap.size, 0, none⟩ : Addr).add j = ⟨W.heap.size, j, none⟩ := by unfold Addr.add; split <;> simp_all
    rw [e1]
    unfold World.cell?
    rw [heap_alloc_new]
    simpa using hj
  have key : ∃ v1 w1, (Builtin.append_ #[t, t] o.type #[.slice A xs.length xs.length, .slice (some ⟨W.heap.size, 0, none⟩) 1 1]).run P (W.alloc (.cells cs.toArray e)) = .ok v1 w1 ∧
      w1.ownsRow (W.heap.size + 1) e d.sz v1 (xs.length + 1) (inner ++ cs) ∧ Below (W.heap.size + 1) (W.alloc (.cells cs.toArray e)) w1 := by
    cases A with
    | none =>
      have hx0 : xs.length = 0 ∧ inner = [] := by
        rcases hown.2 with ⟨_, h0⟩ | ⟨g, cap, cur, he, _⟩
        · refine ⟨h0, List.eq_nil_of_length_eq_zero ?_⟩
          rw [hown.1, h0, Nat.zero_mul]
        · cases he
      obtain ⟨h1, h2⟩ := hx0
      rw [h1, h2]
      obtain ⟨v', w', hrun, r1, r2, r3⟩ := run_append_own (P := P) (W.alloc (.cells cs.toArray e)) (W.heap.size + 1) t o.type e i0 z d.sz bytes ht hi hz0 hz1 hz2 hz hs0 (.slice none 0 0) 0 [] (World.ownsRow_nil _ _ e d.sz) ⟨W.heap.size, 0, none⟩ 1 1 cs (by simpa using hcl) hnews (d.K_one (d.K_of_M hp)) (by simp [maxLen]) (by rw [h1] at hl; exact hl) (by rw [hsz1]; exact Nat.le_refl _)
      refine ⟨v', w', hrun, by simpa using r1, ⟨r2.os, r2.tape, r2.output, r2.size, fun k hk => r2.block k (by rw [hsz1]; exact hk) (by simp [Value.ownBlock])⟩⟩
    | some ad =>
      rcases hown.2 with ⟨he, _⟩ | ⟨g, cap, cur, he, hg, hh, h1, h2, h3, h4⟩
      · cases he
      · injection he with e1 _ _
        obtain rfl := Option.some.inj e1
        have holds : ∀ j u, inner[j]? = some u → (W.alloc (.cells cs.toArray e)).cell? ((⟨g, 0, none⟩ : Addr).add j) = some u := by
          intro j u hj
          have e1 : (⟨g, 0, none⟩ : Addr).add j = ⟨g, j, none⟩ := by unfold Addr.add; split <;> simp_all
          rw [e1]
          have hgl : g < W.heap.size := (Array.getElem?_eq_some_iff.1 hh).1
          unfold World.cell?
          rw [heap_alloc_old W _ hgl, hh]
          rw [← h4] at hj
          show cur[j]? = some u
          rw [← Array.getElem?_toList]
          rw [List.getElem?_take] at hj
          split at hj
          · exact hj
          · cases hj
        obtain ⟨v', w', hrun, r1, r2⟩ := run_append_arg_grows (P := P) (W.alloc (.cells cs.toArray e)) t o.type e i0 z d.sz bytes ht hi hz0 hz1 hz2 hz hs0 ⟨g, 0, none⟩ xs.length xs.length inner hown.1 holds ⟨W.heap.size, 0, none⟩ 1 1 cs (by simpa using hcl) hnews (by omega) (by unfold maxLen; omega) hl
        rw [hsz1] at r1
        exact ⟨v', w', hrun, r1, ⟨r2.os, r2.tape, r2.output, r2.size, fun k hk => r2.block k (by rw [hsz1]; exact hk) (by simp)⟩⟩
  obtain ⟨v1, w1, hrun, hown1, hb1⟩ := key
  rw [if_pos hw]
  unfold Oper.wp execOp
  simp only [ho, resolve, invoke, builtin, Sem.run_bind, Sem.run_pure, Result.andThen_ok, List.map_toArray, List.map_cons, List.map_nil, hs, hx, hrun]
  have hb2 : Below W.heap.size W w1 := (Below.alloc (Below.refl _ _) (Nat.le_refl _) _).trans (hb1.mono (Nat.le_succ _))
  have hsz2 : W.heap.size < w1.heap.size := by have := hb1.size; omega
  refine h v1 w1 (Kd.R_appended (okp := okp) (ok := fun _ => True) (W := W) (v := .slice A xs.length c) h0 hr hp (fun k hk => ⟨trivial, hokp k hk⟩) (fun _ _ => trivial) (own_weaken hown1 (by omega)) ⟨hb2.os, hb2.tape, hb2.output, hb2.size, fun k hk _ => hb2.block k hk⟩ (.inr ?_)) hb2 hsz2 hb1
  rcases hown1.2 with ⟨_, h0⟩ | ⟨g, cap, cur, rfl, hg, _⟩
  · omega
  · exact ⟨g, rfl, by omega⟩
end Go.Kd2
namespace Go.Proofs.YtlepcmljmibdnaaGreat
open Go.RowKit Go.Proofs.YtlepcmljmibdnaaGreatW.PrintWords Go.Proofs.YtlepcmljmibdnaaGreatW.PrintLast Go.Proofs.YtlepcmljmibdnaaGreatW.PrintMore PDiskArms
set_option linter.unusedVariables false
set_option linter.unusedSimpArgs false
def rwriteX (X : RX) (at_ : Int) (b : List Int) : RX × Int :=
  if X.dead then (X, 50) else if inB at_ X.S.length = false then (X, 1) else if 64 < b.length then (X, 2) else
    if (ractX X).2 ≠ 0 then ractX X else ({ (ractX X).1 with cache := (ractX X).1.cache ++ [(at_, pad b)] }, 0)
/-- the cache's row was made anew -/
theorem RM.reC {w w' : World} {base B : Nat} {vS vC vB v1 : Value} {X : RX} {l : List (Int × List Int)} (h : RM w base B vS vC vB X) (hc : Below w.heap.size w w') (ho : Kd.R rwrK 127 w' base (fun _ => True) v1 l) :
    RM (w'.setCell ⟨B, 1, none⟩ v1) base B vS v1 vB { X with cache := l } ∧ TC base isRef w (w'.setCell ⟨B, 1, none⟩ v1) := by
  have h' := h.fresh hc
  exact ⟨⟨set7 h'.blk 1 v1, Kd.R_set h'.S h'.blk (fun q hq => by rcases q29 q hq with h | h <;> simp [h]) 1 _, Kd.R_set ho h'.blk (fun q hq => by rcases q106 q hq with h | h <;> simp [h]) 1 _, Kd.R_set h'.bad h'.blk (fun q hq => by simp [q4 q hq]) 1 _, h.hB⟩, (TC.of_below hc h.base_le).trans (.set h'.blk (isRef53 _) h.hB _)⟩
theorem rwr_M {w : World} {b base : Nat} {A : Option Addr} {c : Nat} {at_ : Int} {s : List Int} (h : Kd.R (Kd.int .u8) 5 w b (fun _ => True) (.slice A s.length c) s) (hb : base ≤ b) : rwrK.M w base (fun k => b ≤ k) (at_, s) [.int .i64 at_, .slice A s.length c] :=
  ⟨[.int .i64 at_], [.slice A s.length c], rfl, rfl, _, rfl, Kd.R_lower (Kd.R_mono (Kd.R_bound h) (fun k hk => hk.2.1)) hb⟩
theorem ex_row1_rwr (W : World) {o : Oper} {ρ : Operand → Value} {x : Operand} {u v : Value} (ho : o.op = .buildSlice 91 1 #[(0, x)]) (hx : ρ x = .agg #[u, v]) :
    (execOp ρ o).run Tryz.prog W = .ok (.value (.slice (some ⟨W.heap.size, 0, none⟩) 1 1)) (W.alloc (.cells #[u, v] 127)) := by
  obtain ⟨i, h1, h2⟩ := Option.map_eq_some_iff.1 info106e
  simp only [Prod.mk.injEq] at h2
  obtain ⟨hz, hs, _⟩ := h2
  have hs' : i.size = 2 := hs
  have h := Arr.ex_row1 (P := Tryz.prog) (W := W) (ρ := ρ) ho Tryz.underlying91 h1 hz (by omega) (by omega) (by rw [hx, hs']; rfl)
  rw [hx] at h
  exact h
set_option maxHeartbeats 2000000 in
theorem rwrite_calls (w : World) (base B : Nat) (vS vC vB : Value) (X X' : RX) (at_ r : Int) (A : Option Addr) (c : Nat) (b : List Int) (hx : rwriteX X at_ b = (X', r)) (h : RK w base B vS vC vB X) (hl : X.cache.length ≤ 1000)
    (hb : ∀ w', TC base isRef w w' → (Kd.int .u8).C w' A b.length b) :
    Calls Tryz.prog 95 #[.pointer (some ⟨B, 0, none⟩), .int .i64 at_, .slice A b.length c] w fun e w' => e = .returned (.int .i64 r) ∧ TC base isRef w w' ∧ ∃ vC', RK w' base B vS vC' vB X' := by
  have HR := Aside0.mk h
  have HB := Aside0.mk hb
  obtain ⟨⟨q0, q1, q2, q3, q4⟩, _⟩ := cells5 h.blk
  clear hb q0 q1 q2 q3
  by_cases hd : X.dead = true
  · rw [hd] at q4
    have hf : rwriteX X at_ b = (X, 50) := by unfold rwriteX; rw [if_pos hd]
    obtain ⟨rfl, rfl⟩ := Prod.mk.inj (hf.symm.trans hx)
    clear hf hx hd h
    go_enter Tryz.func95, Tryz.ntmps95
    go_wp2
    go_ret
    exact ⟨rfl, TC.refl _ _ _, vC, HR.out⟩
  have hd0 : X.dead = false := by simpa using hd
  rw [hd0] at q4
  by_cases hi : inB at_ X.S.length = false
  · have HI := Aside0.mk hi
    have hf : rwriteX X at_ b = (X, 1) := by unfold rwriteX; rw [if_neg hd, if_pos hi]
    obtain ⟨rfl, rfl⟩ := Prod.mk.inj (hf.symm.trans hx)
    clear hf hx hd h hi hd0
    go_enter Tryz.func95, Tryz.ntmps95
    go_wp2_with (first | (go_at_call 103; with_reducible refine (rhas_calls w base B vS vC vB X at_ false HI.out HR.out).mono ?_; rintro e w' ⟨rfl, rfl⟩))
    go_ret
    exact ⟨rfl, TC.refl _ _ _, vC, HR.out⟩
  have hi0 : inB at_ X.S.length = true := by simpa using hi
  have HI := Aside0.mk hi0
  by_cases h64 : 64 < b.length
  · have hf : rwriteX X at_ b = (X, 2) := by unfold rwriteX; rw [if_neg hd, if_neg hi, if_pos h64]
    obtain ⟨rfl, rfl⟩ := Prod.mk.inj (hf.symm.trans hx)
    have h64' : (64 : Int) < (b.length : Int) := by omega
    clear hf hx hd h hi hd0 hi0 h64
    go_enter Tryz.func95, Tryz.ntmps95
    go_wp2_with (first | (go_at_call 103; with_reducible refine (rhas_calls w base B vS vC vB X at_ true HI.out HR.out).mono ?_; rintro e w' ⟨rfl, rfl⟩))
    go_ret
    exact ⟨rfl, TC.refl _ _ _, vC, HR.out⟩
  have h64' : ¬ (64 : Int) < (b.length : Int) := by omega
  have h64n : (b.length : Int) ≤ 64 := by omega
  obtain ⟨X1, e, hact⟩ : ∃ X1 e, ractX X = (X1, e) := ⟨_, _, rfl⟩
  have hf : rwriteX X at_ b = if e ≠ 0 then (X1, e) else ({ X1 with cache := X1.cache ++ [(at_, pad b)] }, 0) := by unfold rwriteX; rw [if_neg hd, if_neg hi, if_neg h64, hact]
  have HX := Aside0.mk (hf.symm.trans hx)
  have HA := Aside0.mk hact
  have hsm := ract_same X
  rw [hact] at hsm
  have HSM := Aside0.mk hsm
  have hrng : 0 ≤ at_ ∧ at_ < X.S.length := by unfold inB at hi0; exact of_decide_eq_true hi0
  have HRG := Aside0.mk hrng
  have HH64 := Aside0.mk (show b.length ≤ 64 by omega)
  clear hf hx hd h hi hd0 hi0 h64 hact hsm hrng
  by_cases hz : e = 0
  · subst hz
    have HX' : Aside0 ({ X1 with cache := X1.cache ++ [(at_, pad b)] } = X' ∧ 0 = r) := ⟨by have := HX.out; rw [if_neg (by simp)] at this; exact Prod.mk.inj this⟩
    obtain rfl := HX'.out.2
    have HLC := Aside0.mk (show (X1.cache.length + 1) * 32 ≤ 140737488355328 by rw [HSM.out.2.1]; omega)
    go_enter Tryz.func95, Tryz.ntmps95
    go_wp2_with (first | (go_at_call 103; with_reducible refine (rhas_calls w base B vS vC vB X at_ true HI.out HR.out).mono ?_; rintro e w' ⟨rfl, rfl⟩) | (go_at_call 130; with_reducible refine (ract_calls w base B vS vC vB X X1 0 HA.out HR.out).mono ?_; rintro e w1 ⟨rfl, hr, ht, _⟩; have HR1 := Aside0.mk hr; have HT1 := Aside0.mk ht; have HBC := Aside0.mk (HB.out w1 ht); have q1 := (cells5 hr.blk).1.2.1; have hcf := Kd.R_reads hr.C; clear hr ht q4))
    obtain ⟨A0, c0, hvC, hnc, _⟩ := hcf
    subst hvC
    have q1' : w1.drew.cell? ⟨B, 1, none⟩ = some (.slice A0 X1.cache.length c0) := q1
    have hnci : (X1.cache.length : Int) ≤ (c0 : Int) := by omega
    have HBW := Aside0.mk HR1.out.base_le
    have HRD := Aside0.mk (HR1.out.toRM.fresh (Below.refl w1.heap.size w1).drew)
    refine Fork.wp_fork (Fork.Lo.rel (w1.drew.heap.size)) [22, 28] [28] (.one 0 0 (.one 1 0 (.one 2 0 (.one 3 0 (.one 5 0 (.one 6 0 (.one 7 0 (.one 10 0 (.one 11 0 (.one 12 0 (.one 16 0 (.one 17 0 (.one 19 0 (.one 20 0 (.one 21 0 (.one 4 3 (.one 8 3 (.one 9 0 (.one 13 3 (.one 14 0 (.one 15 0 (.one 18 2 (.one 22 2 (.one 23 0 (.one 24 2 (.one 25 2 (.one 26 0 (.one 27 0 (.one 28 2 .nil))))))))))))))))))))))))))))) (by kernel_rfl) (by kernel_rfl) ?_
    generalize hops : List.toArray (_ : List Oper) = ops
    have HO := Aside0.mk hops
    clear hops
    iterate 14 ((refine Fork.plain (Fork.at_ HO.out rfl) _ rfl (fun W => by go_simp; exact rfl) ?_); simp only [Act.put, List.setIfInBounds_toArray, List.set_cons_succ, List.set_cons_zero])
    refine Fork.plain (Fork.at_ HO.out rfl) _ rfl (fun W => by have q := IntWalk.i64_in (64 - (b.length : Int)) (by omega); go_simp; exact rfl) ?_
    simp only [Act.put, List.setIfInBounds_toArray, List.set_cons_succ, List.set_cons_zero]
    refine Fork.olds (Fork.at_ HO.out rfl) _ rfl (fun W hW => Arr.ex_load1 rfl rfl (by kernel_rfl) (Fork.bel_cell hW.below (by assumption))) ?_
    simp only [Act.put, List.setIfInBounds_toArray, List.set_cons_succ, List.set_cons_zero]
    refine Fork.olds (Fork.at_ HO.out rfl) _ rfl (fun W hW => Arr.ex_load1 rfl rfl (by kernel_rfl) (Fork.bel_cell hW.below (by assumption))) ?_
    simp only [Act.put, List.setIfInBounds_toArray, List.set_cons_succ, List.set_cons_zero]
    ((refine Fork.plain (Fork.at_ HO.out rfl) _ rfl (fun W => by go_simp; exact rfl) ?_); simp only [Act.put, List.setIfInBounds_toArray, List.set_cons_succ, List.set_cons_zero])
    refine Fork.olds (Fork.at_ HO.out rfl) _ rfl (fun W hW => Arr.ex_load1 rfl rfl (by kernel_rfl) (Fork.bel_cell hW.below (by assumption))) ?_
    simp only [Act.put, List.setIfInBounds_toArray, List.set_cons_succ, List.set_cons_zero]
    iterate 2 ((refine Fork.plain (Fork.at_ HO.out rfl) _ rfl (fun W => by go_simp; exact rfl) ?_); simp only [Act.put, List.setIfInBounds_toArray, List.set_cons_succ, List.set_cons_zero])
    refine Fork.step (Fork.at_ HO.out rfl) (fun K hK => ?_)
    refine Kd.R_append_rows_step (Kd.int .u8) (w0 := w1.drew) w1.drew.heap.size rfl (.const (.slice none 0 0)) (.tmp 41) 58 5 (.int .u8 0) 1 rfl Tryz.underlying58 info5e rfl (by decide) (by decide) (.slice none 0 0) [] b A b.length c (fun _ => True) (fun _ => False) rfl rfl (Kd.R_nil _ _ _ _ _) HBC.out (fun _ _ h => h) (fun _ h => h.elim) (fun _ _ => trivial) (Below.refl _ _) (Nat.le_refl _) (by simp; omega) ?_
    intro v1 w10 ho hb hg hat
    refine hK _ _ (.of_new hb (Nat.le_refl _)) ?_
    clear hK K
    have HR10 := Aside0.mk ho
    have HB10 := Aside0.mk hb
    obtain ⟨A10, c10, hv10⟩ := Kd.R_slice ho
    clear ho hb hg hat
    try simp only [Act.put, List.setIfInBounds_toArray, List.set_cons_succ, List.set_cons_zero]
    refine Fork.step (Fork.at_ HO.out rfl) (fun K hK => ?_)
    refine Kd.R_append_zeros_step (Kd.int .u8) (w0 := w1.drew) w1.drew.heap.size rfl (.tmp 42) (.tmp 45) 58 3 5 (.int .u8 0) 1 rfl Tryz.underlying58 Tryz.underlying3 info5e rfl (by decide) (by decide) v1 ([] ++ b) 0 (64 - (b.length : Int)) (fun _ => True) rfl rfl rfl (fun _ _ => trivial) HR10.out (by omega) HB10.out HB10.out.size (by simp; omega) ?_
    intro v2 w11 ho hb hg hat
    refine hK _ _ (.of_old (.of_below (below_after HB10.out hb hg.size)) rfl) ?_
    clear hK K
    have e64 : (64 - (b.length : Int)).toNat = 64 - b.length := by omega
    rw [List.nil_append, e64] at ho
    have hpl : (b ++ List.replicate (64 - b.length) 0) = pad b := rfl
    rw [hpl] at ho
    have HR11 := Aside0.mk ho
    have HB11 := Aside0.mk hb
    obtain ⟨A11, c11, hv11⟩ := Kd.R_slice ho
    subst hv11
    clear ho hb hg hat e64 hpl
    try simp only [Act.put, List.setIfInBounds_toArray, List.set_cons_succ, List.set_cons_zero]
    ((refine Fork.plain (Fork.at_ HO.out rfl) _ rfl (fun W => by go_simp; exact rfl) ?_); simp only [Act.put, List.setIfInBounds_toArray, List.set_cons_succ, List.set_cons_zero])
    refine Fork.step (Fork.at_ HO.out rfl) (fun K hK => ?_)
    unfold Oper.wp
    rw [ex_row1_rwr w11 rfl rfl]
    refine hK _ _ (.of_new (Below.alloc (Below.refl _ _) (Nat.le_refl _) _) HB11.out.size) ?_
    clear hK K
    try simp only [Act.put, List.setIfInBounds_toArray, List.set_cons_succ, List.set_cons_zero]
    refine Fork.step (Fork.at_ HO.out rfl) (fun K hK => ?_)
    refine Kd2.R_append_full rwrK (W := w11) base rfl (.tmp 39) (.tmp 48) 91 127 (.agg #[.int .i64 0, .slice none 0 0]) 32 rfl Tryz.underlying91 info106e rfl (by decide) (by decide) A0 X1.cache.length c0 X1.cache (at_, pad b) [.int .i64 at_, .slice A11 (pad b).length c11] (fun k => w1.heap.size ≤ k) rfl rfl (rwr_M HR11.out HBW.out) (fun k hk => Kd.fresh_ok HR1.out.C k hk) (HRD.out.fresh HB11.out).C (Nat.le_trans HBW.out HB11.out.size) HLC.out ?_
    intro v3 w12 ho hb hs hb1
    refine hK _ _ (.of_new ?_ (Nat.le_trans HB11.out.size (by rw [alloc_size]; exact Nat.le_succ _))) ?_
    · rw [alloc_size]; exact hb1
    clear hK K
    have hbb := HB11.out.trans (hb.mono HB11.out.size)
    have hblk := (HRD.out.fresh hbb).blk
    obtain ⟨⟨r0, r1, r2, r3, r4⟩, g0, g1, g2, g3, g4⟩ := cells5 hblk
    clear r0 r2 r3 r4 g0 g2 g3 g4 hblk
    have HR12 := Aside0.mk ho
    have HB12 := Aside0.mk hbb
    obtain ⟨A12, c12, hv12⟩ := Kd.R_slice ho
    generalize (X1.cache ++ [(at_, pad b)]).length = n12 at hv12
    subst hv12
    clear ho hb hs hb1 hbb
    try simp only [Act.put, List.setIfInBounds_toArray, List.set_cons_succ, List.set_cons_zero]
    iterate 2 ((refine Fork.plain (Fork.at_ HO.out rfl) _ rfl (fun W => by go_simp; exact rfl) ?_); simp only [Act.put, List.setIfInBounds_toArray, List.set_cons_succ, List.set_cons_zero])
    refine Fork.step (Fork.at_ HO.out rfl) (fun K hK => ?_)
    go_simp
    refine hK _ _ (.of_any rfl rfl) ?_
    clear hK K
    try simp only [Act.put, List.setIfInBounds_toArray, List.set_cons_succ, List.set_cons_zero]
    refine Fork.done ?_
    go_wp2
    go_ret
    obtain ⟨k1, k2⟩ := HRD.out.reC HB12.out HR12.out
    rw [← HX'.out.1]
    refine ⟨rfl, HT1.out.drew.trans k2, _, k1, ⟨HR1.out.ok.s64, fun p hp => ?_, HR1.out.ok.hb, HR1.out.ok.hl, HR1.out.ok.hn⟩⟩
    simp only [List.mem_append, List.mem_singleton] at hp
    rcases hp with hp | rfl
    · exact HR1.out.ok.c64 p hp
    · have := HRG.out
      rw [← HSM.out.1] at this
      exact ⟨pad_length b HH64.out, this.1, this.2⟩
  · have hz' : (e == 0) = false := by simpa using hz
    have HX' : Aside0 (X1 = X' ∧ e = r) := ⟨by have := HX.out; rw [if_pos hz] at this; exact Prod.mk.inj this⟩
    obtain ⟨rfl, rfl⟩ := HX'.out
    clear hz
    go_enter Tryz.func95, Tryz.ntmps95
    go_wp2_with (first | (go_at_call 103; with_reducible refine (rhas_calls w base B vS vC vB X at_ true HI.out HR.out).mono ?_; rintro e w' ⟨rfl, rfl⟩) | (go_at_call 130; with_reducible refine (ract_calls w base B vS vC vB X X1 e HA.out HR.out).mono ?_; rintro e' w1 ⟨rfl, hr, ht, _⟩; have HR1 := Aside0.mk hr; have HT1 := Aside0.mk ht; clear hr ht))
    go_ret
    exact ⟨rfl, HT1.out, vC, HR1.out⟩
end Go.Proofs.YtlepcmljmibdnaaGreat
namespace Go.Proofs.YtlepcmljmibdnaaGreat
open Go.RowKit Go.Proofs.YtlepcmljmibdnaaGreatW.PrintWords Go.Proofs.YtlepcmljmibdnaaGreatW.PrintLast Go.Proofs.YtlepcmljmibdnaaGreatW.PrintMore PDiskArms
set_option linter.unusedVariables false
set_option linter.unusedSimpArgs false
end Go.Proofs.YtlepcmljmibdnaaGreat
namespace Go.Proofs.YtlepcmljmibdnaaGreat
open Go.RowKit Go.Proofs.YtlepcmljmibdnaaGreatW.PrintWords Go.Proofs.YtlepcmljmibdnaaGreatW.PrintLast Go.Proofs.YtlepcmljmibdnaaGreatW.PrintMore PDiskArms
set_option linter.unusedVariables false
set_option linter.unusedSimpArgs false
structure Corr (D : PD) (X : RX) : Prop where
  n : D.n = X.S.length
  cache : D.cache = X.cache
  dead : D.dead = X.dead
  armed : D.armed = decide (0 ≤ X.left)
  left : 0 ≤ X.left → D.left = X.left
  S : ∀ (i : Nat) s, X.S[i]? = some s → (D.kept i).getD zsec = s
  bad : ∀ (i : Nat) b, X.bad[i]? = some b → D.bad i = b
theorem corr_new (n : Int) : Corr (newP n) (rnewX (rnewN n)) := by
  refine ⟨?_, rfl, rfl, rfl, fun h => ?_, fun i s hs => ?_, fun i b hb => ?_⟩
  · simp only [newP, rnewX, List.length_replicate, rnewN]; omega
  · simp [rnewX] at h
  · simp only [rnewX, List.getElem?_replicate] at hs
    split at hs
    · exact Option.some.inj hs
    · cases hs
  · simp only [rnewX, List.getElem?_replicate] at hb
    split at hb
    · exact Option.some.inj hb
    · cases hb
theorem corr_act {D : PD} {X : RX} (h : Corr D X) : (actP D).2 = (ractX X).2 ∧ Corr (actP D).1 (ractX X).1 := by
  obtain ⟨n, kept, cache, bad, armed, left, dead⟩ := D
  obtain ⟨S, c, b, l, d⟩ := X
  obtain ⟨h1, h2, h3, h4, h5, h6, h7⟩ := h
  simp only at h1 h2 h3 h4 h5 h6 h7
  subst h3
  cases dead with
  | true => simp only [actP, ractX, Bool.true_or, if_true]; exact ⟨by simp, ⟨h1, h2, rfl, h4, h5, h6, h7⟩⟩
  | false =>
    by_cases hl : 0 ≤ l
    · have ha : armed = true := by rw [h4]; simpa using hl
      have := h5 hl
      subst this
      subst ha
      by_cases hz : left = 0
      · subst hz
        simp only [actP, ractX]
        exact ⟨by simp, ⟨h1, h2, rfl, rfl, h5, h6, h7⟩⟩
      · have e1 : actP { n := n, kept := kept, cache := cache, bad := bad, armed := true, left := left, dead := false } = ({ n := n, kept := kept, cache := cache, bad := bad, armed := true, left := left - 1, dead := false }, 0) := by simp [actP, hz]
        have e2 : ractX { S := S, cache := c, bad := b, left := left, dead := false } = ({ S := S, cache := c, bad := b, left := left - 1, dead := false }, 0) := by simp [ractX, hz]; omega
        rw [e1, e2]
        exact ⟨rfl, ⟨h1, h2, rfl, by simp; omega, fun _ => rfl, h6, h7⟩⟩
    · have ha : armed = false := by rw [h4]; simpa using hl
      subst ha
      have e1 : actP { n := n, kept := kept, cache := cache, bad := bad, armed := false, left := left, dead := false } = ({ n := n, kept := kept, cache := cache, bad := bad, armed := false, left := left, dead := false }, 0) := by simp [actP]
      have e2 : ractX { S := S, cache := c, bad := b, left := l, dead := false } = ({ S := S, cache := c, bad := b, left := l, dead := false }, 0) := by
        have : ¬ 0 < l := by omega
        have h0 : ¬ l = 0 := by omega
        simp [ractX, this, h0]
      rw [e1, e2]
      exact ⟨rfl, ⟨h1, h2, rfl, h4, h5, h6, h7⟩⟩
theorem corr_write {D : PD} {X : RX} (h : Corr D X) (at_ : Int) (b : List Int) : (writeP D at_ b).2 = (rwriteX X at_ b).2 ∧ Corr (writeP D at_ b).1 (rwriteX X at_ b).1 := by
  unfold writeP rwriteX
  rw [h.dead, h.n]
  by_cases h1 : X.dead = true
  · rw [if_pos h1, if_pos h1]; exact ⟨rfl, h⟩
  rw [if_neg h1, if_neg h1]
  by_cases h2 : inB at_ X.S.length = false
  · rw [if_pos h2, if_pos h2]; exact ⟨rfl, h⟩
  rw [if_neg h2, if_neg h2]
  by_cases h3 : 64 < b.length
  · rw [if_pos h3, if_pos h3]; exact ⟨rfl, h⟩
  rw [if_neg h3, if_neg h3]
  obtain ⟨k1, k2⟩ := corr_act h
  rw [k1]
  by_cases h4 : (ractX X).2 ≠ 0
  · rw [if_pos h4, if_pos h4]; exact ⟨k1, k2⟩
  · rw [if_neg h4, if_neg h4]
    exact ⟨rfl, ⟨k2.n, by simp only []; rw [k2.cache], k2.dead, k2.armed, k2.left, k2.S, k2.bad⟩⟩
theorem corr_put {D : PD} {S : List (List Int)} (h : ∀ (i : Nat) s, S[i]? = some s → (D.kept i).getD zsec = s) (p : Int × List Int) (hp : 0 ≤ p.1) :
    ∀ (i : Nat) s, (S.set p.1.toNat p.2)[i]? = some s → ((keepP D p).kept i).getD zsec = s := by
  intro i s hs
  rw [keepP_at]
  rw [List.getElem?_set] at hs
  by_cases hi : p.1.toNat = i
  · rw [if_pos hi] at hs
    rw [if_pos (by omega)]
    split at hs
    · exact Option.some.inj hs
    · cases hs
  · rw [if_neg hi] at hs
    rw [if_neg (by omega)]
    exact h i s hs
theorem corr_puts {D : PD} {S : List (List Int)} (l : List (Int × List Int)) (h : ∀ (i : Nat) s, S[i]? = some s → (D.kept i).getD zsec = s) (hl : ∀ p ∈ l, 0 ≤ p.1) :
    ∀ (i : Nat) s, (rputs S l)[i]? = some s → ((keepAll D l).kept i).getD zsec = s := by
  induction l generalizing D S with
  | nil => exact h
  | cons p l ih => exact ih (corr_put h p (hl p (by simp))) (fun q hq => hl q (by simp [hq]))
theorem corr_flush {D : PD} {X : RX} (h : Corr D X) (hx : XOk X) : (flushP D).2 = (rflushX X).2 ∧ Corr (flushP D).1 (rflushX X).1 := by
  unfold flushP rflushX
  obtain ⟨k1, k2⟩ := corr_act h
  rw [k1]
  by_cases h4 : (ractX X).2 ≠ 0
  · rw [if_pos h4, if_pos h4]; exact ⟨k1, k2⟩
  · rw [if_neg h4, if_neg h4]
    have hs := ract_same X
    refine ⟨rfl, ⟨?_, rfl, ?_, ?_, ?_, ?_, ?_⟩⟩
    · simp only []; rw [(keepAll_more _ _).1, k2.n, rputs_len, hs.1]
    · simp only []; rw [(keepAll_same _ _).1]; exact k2.dead
    · simp only []; rw [(keepAll_same _ _).2.1]; exact k2.armed
    · simp only []; rw [(keepAll_same _ _).2.2]; exact k2.left
    · simp only []
      rw [k2.cache, hs.2.1]
      refine corr_puts X.cache (fun i s hs' => k2.S i s (by rw [hs.1]; exact hs')) (fun p hp => (hx.c64 p hp).2.1)
    · simp only []; rw [(keepAll_more _ _).2]; exact k2.bad
theorem corr_arm {D : PD} {X : RX} (h : Corr D X) (n : Int) : Corr (armP D n) (rarmX X n) := by
  refine ⟨h.n, h.cache, h.dead, ?_, fun hl => ?_, h.S, h.bad⟩
  · unfold armP rarmX
    simp only []
    by_cases hn : 0 ≤ n
    · simp [hn]
    · simp [hn]
  · unfold armP rarmX at *
    simp only [] at hl ⊢
    by_cases hn : 0 ≤ n
    · rw [if_pos hn]; omega
    · rw [if_neg hn] at hl; omega
theorem corr_sel {D : PD} {S : List (List Int)} (l : List (Int × List Int)) (ks : List Bool) (h : ∀ (i : Nat) s, S[i]? = some s → (D.kept i).getD zsec = s) (hl : ∀ p ∈ l, 0 ≤ p.1) :
    ∀ k, k ≤ l.length → ∀ (i : Nat) s, (rsel S l ks k)[i]? = some s → ((sel D l ks k).kept i).getD zsec = s
  | 0, _ => h
  | k + 1, hk => by
    unfold rsel sel
    split
    · refine corr_put (corr_sel l ks h hl k (by omega)) _ ?_
      rw [show l.getD k (0, []) = l[k] by simp [List.getD, List.getElem?_eq_getElem (show k < l.length by omega)]]
      exact hl _ (List.getElem_mem _)
    · exact corr_sel l ks h hl k (by omega)
theorem corr_crash {D : PD} {X : RX} (h : Corr D X) (hx : XOk X) (ks : List Bool) : Corr (crashP D ks) (rcrashX X ks) := by
  refine ⟨?_, rfl, rfl, rfl, fun hl => ?_, ?_, ?_⟩
  · show (sel D D.cache ks _).n = _
    rw [(sel_same _ _ _ _).1, h.n]
    show _ = ((rsel X.S X.cache ks _).length : Int)
    rw [rsel_len]
  · simp [rcrashX] at hl
  · intro i s hs
    show ((sel D D.cache ks D.cache.length).kept i).getD zsec = s
    rw [h.cache]
    exact corr_sel X.cache ks h.S (fun p hp => (hx.c64 p hp).2.1) _ (Nat.le_refl _) i s hs
  · show ∀ (i : Nat) b, X.bad[i]? = some b → (sel D D.cache ks _).bad i = b
    rw [(sel_same _ _ _ _).2]
    exact h.bad
theorem corr_read {D : PD} {X : RX} (h : Corr D X) (hx : XOk X) (at_ : Int) : readP D at_ = rreadX X at_ := by
  unfold readP rreadX
  rw [h.dead, h.n]
  by_cases h1 : X.dead = true
  · rw [if_pos h1, if_pos h1]
  rw [if_neg h1, if_neg h1]
  by_cases h2 : inB at_ X.S.length = false
  · rw [if_pos h2, if_pos h2]
  rw [if_neg h2, if_neg h2]
  have hr : 0 ≤ at_ ∧ at_ < X.S.length := by
    have : inB at_ X.S.length = true := by simpa using h2
    exact of_decide_eq_true this
  obtain ⟨a, rfl⟩ : ∃ a : Nat, at_ = (a : Int) := ⟨at_.toNat, by omega⟩
  have hb : X.bad[a]? = some (X.bad.getD a false) := by
    have : a < X.bad.length := by rw [hx.hb]; omega
    simp [List.getD, List.getElem?_eq_getElem this]
  have hs : X.S[a]? = some (X.S.getD a []) := by
    have : a < X.S.length := by omega
    simp [List.getD, List.getElem?_eq_getElem this]
  rw [Int.toNat_natCast, h.bad a _ hb, h.cache, h.S a _ hs]
end Go.Proofs.YtlepcmljmibdnaaGreat
