/- Parts of one proof, joined: Calm. Conditions: those of each statement. -/
import Derived.OrdersHeld
import Derived.Below
import Derived.Deep.RegionHeld3
namespace Go.Calm
open Go.RowKit
section
variable {P : Program} {ops : Array Oper} {Q : Exit → Act → World → Prop} {md : Region.Mode} {xs : List Nat}

/-- j waits for i, through others or not. -/
def waitsT (md : Region.Mode) (ops : Array Oper) : Nat → Nat → Nat → Bool
  | 0, _, _ => false
  | n + 1, j, i => match ops[j]? with
    | some o => o.after.any fun e => Region.binds md e && (e.on == i || waitsT md ops n e.on i)
    | none => false

def Closed (md : Region.Mode) (ops : Array Oper) (listed : Array Bool) : Prop :=
  ∀ j o, ops[j]? = some o → listed.getD j false = true → ∀ e ∈ o.after, Region.binds md e = true → listed.getD e.on false = true

theorem waits_listed {listed : Array Bool} (hc : Closed md ops listed) {i : Nat} : ∀ (n j : Nat), waitsT md ops n j i = true → listed.getD j false = true → listed.getD i false = true
  | 0, _, h, _ => by simp [waitsT] at h
  | n + 1, j, h, hl => by
    simp only [waitsT] at h
    cases ho : ops[j]? with
    | none => simp [ho] at h
    | some o =>
      simp only [ho] at h
      obtain ⟨e, he, hb⟩ := Array.any_eq_true'.1 h
      simp only [Bool.and_eq_true, Bool.or_eq_true, beq_iff_eq] at hb
      have h1 := hc j o ho hl e he hb.1
      rcases hb.2 with h2 | h2
      · rw [← h2]; exact h1
      · exact waits_listed hc n e.on h2 h1
theorem waits_ready {listed : Array Bool} (hc : Closed md ops listed) {i j n : Nat} (hj : j ∈ Region.ready md ops listed) (h : waitsT md ops n j i = true) : listed.getD i false = true := by
  obtain ⟨_, o, ho, hall⟩ := mem_ready.1 hj
  cases n with
  | zero => simp [waitsT] at h
  | succ n =>
    simp only [waitsT, ho] at h
    obtain ⟨e, he, hb⟩ := Array.any_eq_true'.1 h
    simp only [Bool.and_eq_true, Bool.or_eq_true, beq_iff_eq] at hb
    have h1 := hall e he hb.1
    rcases hb.2 with h2 | h2
    · rw [← h2]; exact h1
    · exact waits_listed hc n e.on h2 h1
theorem Closed.set {listed : Array Bool} (hc : Closed md ops listed) {i : Nat} (hi : i ∈ Region.ready md ops listed) : Closed md ops (listed.setIfInBounds i true) := by
  intro j o ho hl e he hb
  by_cases hij : i = j
  · subst hij
    obtain ⟨_, o', ho', hall⟩ := mem_ready.1 hi
    rw [ho] at ho'
    obtain rfl := Option.some.inj ho'
    exact getD_set_true (hall e he hb)
  · rw [getD_set_ne false hij] at hl
    exact getD_set_true (hc j o ho hl e he hb)

/-- Whatever order: behind each operation that is no free writer (xs) memory has only grown. -/
def wpAnyG (P : Program) (md : Region.Mode) (ops : Array Oper) (Q : Exit → Act → World → Prop) (xs : List Nat) : Nat → Array Bool → Act → World → Prop
  | 0, listed, a, w => Region.ready md ops listed = [] ∧ Q .normal a w
  | fuel + 1, listed, a, w =>
    (Region.ready md ops listed = [] → Q .normal a w) ∧
    ∀ i ∈ Region.ready md ops listed, wpOp P ops Q i (fun a' w' => (i ∉ xs → Below w.heap.size w w') ∧ wpAnyG P md ops Q xs fuel (listed.setIfInBounds i true) a' w') a w
theorem wpAny_of_G : ∀ (fuel : Nat) (listed : Array Bool) (a : Act) (w : World), wpAnyG P md ops Q xs fuel listed a w → wpAny P md ops Q fuel listed a w
  | 0, _, _, _, h => h
  | fuel + 1, _, _, _, h => ⟨h.1, fun i hi => wpOp_mono (fun a' w' h' => wpAny_of_G fuel _ a' w' h'.2) (h.2 i hi)⟩

def Holds (pl : Bool) (w : World) (W : World) : Prop := pl = true ∨ Below w.heap.size w W
theorem Holds.refl (pl : Bool) (w : World) : Holds pl w w := .inr (Below.refl _ _)
theorem Holds.next {pl : Bool} {w w1 W : World} (hb : pl = true ∨ Below w.heap.size w w1) (h : Holds pl w1 W) : Holds pl w W := by
  rcases hb with hb | hb
  · exact .inl hb
  · rcases h with h | h
    · exact .inl h
    · exact .inr (hb.trans (h.mono hb.size))
theorem yields_next {pl : Bool} {w w1 : World} {o : Oper} {v : Value} {a : Act} (hb : pl = true ∨ Below w.heap.size w w1) (h : YieldsIf P ops (Holds pl w) o v a) : YieldsIf P ops (Holds pl w1) o v a :=
  h.imp (fun ⟨h1, h2⟩ => ⟨h1, fun W hW => h2 W (hW.next hb)⟩) id

theorem first {i : Nat} {oi : Oper} {v : Value} {pl : Bool} (hi : ops[i]? = some oi) (hsel : ∀ (j : Nat) (o : Oper) cs b, ops[j]? = some o → o.op ≠ .select cs b)
    (hQ : ∀ c a w, Q (.panic c) (a.put oi.dst v) w → Q (.panic c) a w) (hix : i ∉ xs) (n : Nat) :
    ∀ (fuel : Nat) (listed : Array Bool) (a : Act) (w : World), Closed md ops listed →
      (pl = true ∨ ∀ j ∈ xs, listed.getD j true = false → waitsT md ops n j i = true) →
      (∀ j oj, ops[j]? = some oj → j ≠ i → listed.getD j true = false → (∀ e ∈ oj.after, Region.binds md e = true → e.on ≠ i) → oi.apart ops oj = true) →
      i ∈ Region.ready md ops listed → YieldsIf P ops (Holds pl w) oi v a →
      wpAnyG P md ops Q xs fuel (listed.setIfInBounds i true) (a.put oi.dst v) w → wpAnyG P md ops Q xs (fuel + 1) listed a w := by
  intro fuel
  induction fuel with
  | zero =>
    intro listed a w _ _ _ hr hy H
    refine ⟨fun h => (by rw [h] at hr; cases hr), fun j hj => ?_⟩
    by_cases hji : j = i
    · subst hji; exact hy.wpOp hi (Holds.refl _ _) ⟨fun _ => Below.refl _ _, H⟩
    · have := ready_mono hj hji
      rw [H.1] at this
      cases this
  | succ fuel ih =>
    intro listed a w hcl hX hfree hr hy H
    refine ⟨fun h => (by rw [h] at hr; cases hr), fun j hj => ?_⟩
    by_cases hji : j = i
    · subst hji; exact hy.wpOp hi (Holds.refl _ _) ⟨fun _ => Below.refl _ _, H⟩
    · have h1 := H.2 j (ready_mono hj hji)
      obtain ⟨hjun, oj, hoj, hall⟩ := mem_ready.1 hj
      have hiun : listed.getD i false = false := by
        have h0 := (mem_ready.1 hr).1
        rcases Nat.lt_or_ge i listed.size with h' | h'
        · simp [h'] at h0 ⊢; exact h0
        · simp [Array.getElem?_eq_none h']
      have hnot : ∀ e ∈ oj.after, Region.binds md e = true → e.on ≠ i := fun e he hb heq => by
        have h1 := hall e he hb
        rw [heq, hiun] at h1
        cases h1
      have hgrow : ∀ w', (j ∉ xs → Below w.heap.size w w') → (pl = true ∨ Below w.heap.size w w') := fun w' hw' => by
        rcases hX with hX | hX
        · exact .inl hX
        · refine .inr (hw' fun hjx => ?_)
          have := waits_ready hcl hj (hX j hjx hjun)
          rw [hiun] at this
          cases this
      have h2 := wpOp_putIf hoj (hfree j oj hoj hji hjun hnot) (fun cs b => hsel i oi cs b hi) (fun cs b => hsel j oj cs b hoj) hQ hy h1
      have hfree' : ∀ k ok, ops[k]? = some ok → k ≠ i → (listed.setIfInBounds j true).getD k true = false →
          (∀ e ∈ ok.after, Region.binds md e = true → e.on ≠ i) → oi.apart ops ok = true := fun k ok hk hki hun hno => by
        refine hfree k ok hk hki ?_ hno
        by_cases hjk : j = k
        · subst hjk; exact hjun
        · rw [getD_set_ne true hjk] at hun; exact hun
      have hX' : pl = true ∨ ∀ k ∈ xs, (listed.setIfInBounds j true).getD k true = false → waitsT md ops n k i = true := by
        refine hX.imp id fun hX k hk hun => hX k hk ?_
        by_cases hjk : j = k
        · subst hjk; exact hjun
        · rw [getD_set_ne true hjk] at hun; exact hun
      refine wpOp_mono (fun a' w' h3 => ⟨h3.2.1, ih (listed.setIfInBounds j true) a' w' (hcl.set hj) hX' hfree' (ready_mono hr (Ne.symm hji)) (yields_next (hgrow w' h3.2.1) h3.1) ?_⟩) h2
      rw [Array.setIfInBounds_comm _ _ hji]
      exact h3.2.2

/-- What an operation is in the chosen order: plain (0), a reading (1), what grows or writes (2). -/
def wpG (P : Program) (ops : Array Oper) (Q : Exit → Act → World → Prop) (xs : List Nat) : List (Nat × Nat) → Act → World → Prop
  | [], a, w => Q .normal a w
  | (i, 2) :: rest, a, w => wpOp P ops Q i (fun a' w' => (i ∉ xs → Below w.heap.size w w') ∧ wpG P ops Q xs rest a' w') a w
  | (i, k) :: rest, a, w => ∃ o v, ops[i]? = some o ∧ YieldsIf P ops (Holds (k == 0) w) o v a ∧ wpG P ops Q xs rest (a.put o.dst v) w

def okB (md : Region.Mode) (ops : Array Oper) (xs : List Nat) : Array Bool → List (Nat × Nat) → Bool
  | listed, [] => (Region.ready md ops listed).isEmpty
  | listed, (i, 2) :: rest => Region.ready md ops listed == [i] && okB md ops xs (listed.setIfInBounds i true) rest
  | listed, (i, k) :: rest => (Region.ready md ops listed).contains i && Region.free md ops listed i && !xs.contains i &&
      (k == 0 || xs.all fun j => listed.getD j true || waitsT md ops ops.size j i) && okB md ops xs (listed.setIfInBounds i true) rest

theorem anyG_of_wpG (hs : Region.noSelect ops = true) (hQ : ∀ c a w, ¬ Q (.panic c) a w) : ∀ (l : List (Nat × Nat)) (listed : Array Bool) (a : Act) (w : World), Closed md ops listed →
    okB md ops xs listed l = true → wpG P ops Q xs l a w → wpAnyG P md ops Q xs l.length listed a w
  | [], listed, a, w, _, hB, h => ⟨by simpa [okB] using hB, h⟩
  | (i, k) :: rest, listed, a, w, hc, hB, h => by
    by_cases hk : k = 2
    · subst hk
      simp only [okB, Bool.and_eq_true, beq_iff_eq] at hB
      have hi : i ∈ Region.ready md ops listed := by rw [hB.1]; simp
      refine ⟨fun h0 => (by rw [h0] at hi; cases hi), fun j hj => ?_⟩
      rw [hB.1] at hj
      obtain rfl : j = i := by simpa using hj
      exact wpOp_mono (fun a' w' h' => ⟨h'.1, anyG_of_wpG hs hQ rest _ a' w' (hc.set hi) hB.2 h'.2⟩) h
    · have hB' : (((Region.ready md ops listed).contains i && Region.free md ops listed i && !xs.contains i &&
          (k == 0 || xs.all fun j => listed.getD j true || waitsT md ops ops.size j i)) && okB md ops xs (listed.setIfInBounds i true) rest) = true := by
        match k, hk, hB with
        | 0, _, hB => exact hB
        | 1, _, hB => exact hB
        | k + 3, _, hB => exact hB
      have h' : ∃ o v, ops[i]? = some o ∧ YieldsIf P ops (Holds (k == 0) w) o v a ∧ wpG P ops Q xs rest (a.put o.dst v) w := by
        match k, hk, h with
        | 0, _, h => exact h
        | 1, _, h => exact h
        | k + 3, _, h => exact h
      simp only [Bool.and_eq_true, Bool.not_eq_true', Bool.or_eq_true] at hB'
      obtain ⟨⟨⟨⟨h1, h2⟩, h3⟩, h4⟩, h5⟩ := hB'
      obtain ⟨o, v, ho, hy, hr⟩ := h'
      have hi : i ∈ Region.ready md ops listed := by simpa using h1
      refine first ho (Region.noSelect_spec hs) (fun c a w hp => absurd hp (hQ c _ w)) (by simpa using h3) ops.size rest.length listed a w hc ?_ (Region.free_spec ho h2) hi hy
        (anyG_of_wpG hs hQ rest _ _ w (hc.set hi) h5 hr)
      rcases h4 with h4 | h4
      · exact .inl h4
      · refine .inr fun j hj hun => ?_
        have := List.all_eq_true.1 h4 j hj
        simpa [hun] using this

theorem closed_none (m : Nat) : Closed md ops (Array.replicate m false) := by
  intro j o _ hl
  rw [show (Array.replicate m false).getD j false = false by
    rcases Nat.lt_or_ge j m with h | h <;> simp [h]] at hl
  cases hl

/-- THE LAW: a region that draws, walked in the order l: pairs of an operation's number and its kind. -/
theorem wp_calm {id : Nat} {a : Act} {w : World} {os : List Oper} (xs : List Nat) (l : List (Nat × Nat)) (hm : P.follows .mixedOrders = true)
    (hB : (Region.noSelect os.toArray && l.length == os.length && okB .any os.toArray xs (Array.replicate os.length false) l) = true)
    (h : wpG P os.toArray (NoPanic Q) xs l a w.drew) : (Code.region id os.toArray true).wp P Q a w := by
  simp only [Bool.and_eq_true, beq_iff_eq] at hB
  refine wp_region_noPanic (wp_region_any hm ?_)
  have h1 := anyG_of_wpG (md := .any) hB.1.1 (fun c a w hp => hp) l (Array.replicate os.length false) a w.drew (closed_none _) hB.2 h
  have h2 := wpAny_of_G _ _ _ _ h1
  rw [hB.1.2] at h2
  simpa using h2
end

section
variable {P : Program} {ops : Array Oper} {Q : Exit → Act → World → Prop} {xs : List Nat} {a : Act} {w : World} {i : Nat} {rest : List (Nat × Nat)}
theorem done (h : Q .normal a w) : wpG P ops (NoPanic Q) xs [] a w := h
theorem plain {o : Oper} (ho : ops[i]? = some o) (v : Value) (hw : Region.wanted o (yielded ops a.tmps) = true) (hr : ∀ W, (execOp a.eval o).run P W = .ok (.value v) W)
    (h : wpG P ops Q xs rest (a.put o.dst v) w) : wpG P ops Q xs ((i, 0) :: rest) a w := ⟨o, v, ho, .inl ⟨hw, fun W _ => hr W⟩, h⟩
theorem reads {o : Oper} (ho : ops[i]? = some o) (v : Value) (hw : Region.wanted o (yielded ops a.tmps) = true) (hr : ∀ W, Below w.heap.size w W → (execOp a.eval o).run P W = .ok (.value v) W)
    (h : wpG P ops Q xs rest (a.put o.dst v) w) : wpG P ops Q xs ((i, 1) :: rest) a w :=
  ⟨o, v, ho, .inl ⟨hw, fun W hW => hr W (hW.resolve_left (by simp))⟩, h⟩
theorem acts {o : Oper} (ho : ops[i]? = some o) (hw : Region.wanted o (yielded ops a.tmps) = true)
    (h : ∀ K : Act → World → Prop, (∀ a' w', (i ∉ xs → Below w.heap.size w w') → wpG P ops Q xs rest a' w' → K a' w') → o.wp P a w K Q) : wpG P ops Q xs ((i, 2) :: rest) a w := by
  show wpOp P ops Q i _ a w
  unfold wpOp
  simp only [ho, hw, if_true]
  exact .inl (h _ fun a' w' h1 h2 => ⟨h1, h2⟩)
theorem step {o : Oper} (ho : ops[i]? = some o)
    (h : ∀ K : Act → World → Prop, (∀ a' w', (i ∉ xs → Below w.heap.size w w') → wpG P ops Q xs rest a' w' → K a' w') → if Region.wanted o (yielded ops a.tmps) = true then o.wp P a w K Q else K (a.put o.dst undef) w) :
    wpG P ops Q xs ((i, 2) :: rest) a w := by
  show wpOp P ops Q i _ a w
  unfold wpOp
  simp only [ho]
  by_cases hw : Region.wanted o (yielded ops a.tmps) = true
  · have := h (fun a' w' => (i ∉ xs → Below w.heap.size w w') ∧ wpG P ops Q xs rest a' w') (fun a' w' h1 h2 => ⟨h1, h2⟩)
    rw [if_pos hw] at this ⊢
    exact .inl this
  · have := h (fun a' w' => (i ∉ xs → Below w.heap.size w w') ∧ wpG P ops Q xs rest a' w') (fun a' w' h1 h2 => ⟨h1, h2⟩)
    rw [if_neg hw] at this ⊢
    exact this
end
end Go.Calm
