/- Parts of one proof, joined: Fork. Conditions: those of each statement. -/
import Derived.Test.YtmjnndcadndiaaaGreatCm2
namespace Go.Fork
open Go.RowKit Go.Calm
inductive Tr where
  | nil
  | one (i k : Nat) (t : Tr)
  | two (i : Nat) (t : Tr) (j : Nat) (t' : Tr)
def Tr.len : Tr → Nat
  | .nil => 0
  | .one _ _ t => t.len + 1
  | .two _ t _ _ => t.len + 1
/-- below b all is as it was -/
structure Lo (b : Nat) (w w' : World) : Prop where
  os : w'.os = w.os
  tape : w'.tape = w.tape
  output : w'.output = w.output
  size : b ≤ w.heap.size → b ≤ w'.heap.size
  block : ∀ k, k < b → w'.heap[k]? = w.heap[k]?
theorem Lo.refl (b : Nat) (w : World) : Lo b w w := ⟨rfl, rfl, rfl, id, fun _ _ => rfl⟩
theorem Lo.trans {b : Nat} {a w w' : World} (h : Lo b a w) (k : Lo b w w') : Lo b a w' := ⟨k.os.trans h.os, k.tape.trans h.tape, k.output.trans h.output, fun e => k.size (h.size e), fun i hi => (k.block i hi).trans (h.block i hi)⟩
theorem Lo.of_below {b : Nat} {w w' : World} (h : Below b w w') : Lo b w w' := ⟨h.os, h.tape, h.output, fun e => Nat.le_trans e h.size, h.block⟩
theorem Lo.below {w w' : World} (h : Lo w.heap.size w w') : Below w.heap.size w w' := ⟨h.os, h.tape, h.output, h.size (Nat.le_refl _), h.block⟩
theorem Lo.zero {w w' : World} (h1 : w'.os = w.os) (h2 : w'.tape = w.tape) (h3 : w'.output = w.output) : Lo 0 w w' := ⟨h1, h2, h3, fun _ => Nat.zero_le _, fun _ hk => absurd hk (Nat.not_lt_zero _)⟩
structure Rel (G : World → World → Prop) : Prop where
  refl : ∀ w, G w w
  trans : ∀ {a b c}, G a b → G b c → G a c
theorem Lo.rel (b : Nat) : Rel (Lo b) := ⟨Lo.refl b, fun h k => h.trans k⟩
/-- what an operation that acts may do to memory: what G lets it, unless it is one of ys; if it is none of the writers xs, only grow it -/
structure Grow (G : World → World → Prop) (xs ys : List Nat) (i : Nat) (w w' : World) : Prop where
  low : i ∉ ys → G w w'
  new : i ∉ xs → Below w.heap.size w w'
theorem Grow.of_new {b : Nat} {xs ys : List Nat} {i : Nat} {w w' : World} (h : Below w.heap.size w w') (hb : b ≤ w.heap.size) : Grow (Lo b) xs ys i w w' := ⟨fun _ => .of_below (h.mono hb), fun _ => h⟩
theorem Grow.of_any {G : World → World → Prop} {xs ys : List Nat} {i : Nat} {w w' : World} (hx : xs.contains i = true) (hy : ys.contains i = true) : Grow G xs ys i w w' := ⟨fun hn => absurd (by simpa using hy) hn, fun hn => absurd (by simpa using hx) hn⟩
theorem Grow.of_old {G : World → World → Prop} {xs ys : List Nat} {i : Nat} {w w' : World} (h : G w w') (hx : xs.contains i = true) : Grow G xs ys i w w' := ⟨fun _ => h, fun hn => absurd (by simpa using hx) hn⟩
def Hold (G : World → World → Prop) (k : Nat) (w W : World) : Prop := k = 0 ∨ (k = 1 ∧ Below w.heap.size w W) ∨ (k = 3 ∧ G w W)
section
variable {P : Program} {md : Region.Mode} {ops : Array Oper} {Q : Exit → Act → World → Prop} {G : World → World → Prop} {xs ys : List Nat}
theorem Hold.refl (hG : Rel G) {k : Nat} (h : k = 0 ∨ k = 1 ∨ k = 3) (w : World) : Hold G k w w := by
  rcases h with h | h | h
  · exact .inl h
  · exact .inr (.inl ⟨h, Below.refl _ _⟩)
  · exact .inr (.inr ⟨h, hG.refl _⟩)
theorem Hold.next (hG : Rel G) {k : Nat} {w w1 W : World} (hb : k = 0 ∨ (k = 3 ∧ G w w1) ∨ (k ≠ 3 ∧ Below w.heap.size w w1)) (h : Hold G k w1 W) : Hold G k w W := by
  rcases h with h | ⟨h, h'⟩ | ⟨h, h'⟩
  · exact .inl h
  · subst h
    have hb := ((hb.resolve_left (by decide)).resolve_left (by rintro ⟨h, _⟩; cases h)).2
    exact .inr (.inl ⟨rfl, hb.trans (h'.mono hb.size)⟩)
  · subst h
    rcases hb with hb | ⟨_, hb⟩ | ⟨hb, _⟩
    · cases hb
    · exact .inr (.inr ⟨rfl, hG.trans hb h'⟩)
    · exact absurd rfl hb
theorem yields_next (hG : Rel G) {k : Nat} {w w1 : World} {o : Oper} {v : Value} {a : Act} (hb : k = 0 ∨ (k = 3 ∧ G w w1) ∨ (k ≠ 3 ∧ Below w.heap.size w w1)) (h : YieldsIf P ops (Hold G k w) o v a) : YieldsIf P ops (Hold G k w1) o v a :=
  h.imp (fun ⟨h1, h2⟩ => ⟨h1, fun W hW => h2 W (Hold.next hG hb hW)⟩) id
def wpAnyG (P : Program) (md : Region.Mode) (ops : Array Oper) (Q : Exit → Act → World → Prop) (G : World → World → Prop) (xs ys : List Nat) : Nat → Array Bool → Act → World → Prop
  | 0, listed, a, w => Region.ready md ops listed = [] ∧ Q .normal a w
  | fuel + 1, listed, a, w =>
    (Region.ready md ops listed = [] → Q .normal a w) ∧
    ∀ i ∈ Region.ready md ops listed, wpOp P ops Q i (fun a' w' => Grow G xs ys i w w' ∧ wpAnyG P md ops Q G xs ys fuel (listed.setIfInBounds i true) a' w') a w
theorem wpAny_of_G : ∀ (fuel : Nat) (listed : Array Bool) (a : Act) (w : World), wpAnyG P md ops Q G xs ys fuel listed a w → wpAny P md ops Q fuel listed a w
  | 0, _, _, _, h => h
  | fuel + 1, _, _, _, h => ⟨h.1, fun i hi => wpOp_mono (fun a' w' h' => wpAny_of_G fuel _ a' w' h'.2) (h.2 i hi)⟩
theorem first (hG : Rel G) {i : Nat} {oi : Oper} {v : Value} {kd : Nat} (hkd : kd = 0 ∨ kd = 1 ∨ kd = 3) (hi : ops[i]? = some oi) (hsel : ∀ (j : Nat) (o : Oper) cs b, ops[j]? = some o → o.op ≠ .select cs b)
    (hQ : ∀ c a w, Q (.panic c) (a.put oi.dst v) w → Q (.panic c) a w) (hix : i ∉ xs) (n : Nat) :
    ∀ (fuel : Nat) (listed : Array Bool) (a : Act) (w : World), Closed md ops listed →
      (kd = 0 ∨ (kd = 3 ∧ ∀ j ∈ ys, listed.getD j true = false → waitsT md ops n j i = true) ∨ (kd ≠ 3 ∧ ∀ j ∈ xs, listed.getD j true = false → waitsT md ops n j i = true)) →
      (∀ j oj, ops[j]? = some oj → j ≠ i → listed.getD j true = false → (∀ e ∈ oj.after, Region.binds md e = true → e.on ≠ i) → oi.apart ops oj = true) →
      i ∈ Region.ready md ops listed → YieldsIf P ops (Hold G kd w) oi v a →
      wpAnyG P md ops Q G xs ys fuel (listed.setIfInBounds i true) (a.put oi.dst v) w → wpAnyG P md ops Q G xs ys (fuel + 1) listed a w := by
  intro fuel
  induction fuel with
  | zero =>
    intro listed a w _ _ _ hr hy H
    refine ⟨fun h => (by rw [h] at hr; cases hr), fun j hj => ?_⟩
    by_cases hji : j = i
    · subst hji; exact hy.wpOp hi (Hold.refl hG hkd _) ⟨⟨fun _ => hG.refl _, fun _ => Below.refl _ _⟩, H⟩
    · have := ready_mono hj hji
      rw [H.1] at this
      cases this
  | succ fuel ih =>
    intro listed a w hcl hX hfree hr hy H
    refine ⟨fun h => (by rw [h] at hr; cases hr), fun j hj => ?_⟩
    by_cases hji : j = i
    · subst hji; exact hy.wpOp hi (Hold.refl hG hkd _) ⟨⟨fun _ => hG.refl _, fun _ => Below.refl _ _⟩, H⟩
    · have h1 := H.2 j (ready_mono hj hji)
      obtain ⟨hjun, oj, hoj, hall⟩ := mem_ready.1 hj
      have hiun : listed.getD i false = false := by
        have h0 := (mem_ready.1 hr).1
        rcases Nat.lt_or_ge i listed.size with h' | h'
        · simp [h'] at h0 ⊢; exact h0
        · simp [Array.getElem?_eq_none h']
      have hnot : ∀ e ∈ oj.after, Region.binds md e = true → e.on ≠ i := fun e he hb heq => by
        have h1 := hall e he hb
        rw [heq, hiun] at h1
        cases h1
      have hgrow : ∀ w', Grow G xs ys j w w' → (kd = 0 ∨ (kd = 3 ∧ G w w') ∨ (kd ≠ 3 ∧ Below w.heap.size w w')) := fun w' hw' => by
        rcases hX with hX | ⟨h3, hX⟩ | ⟨h3, hX⟩
        · exact .inl hX
        · refine .inr (.inl ⟨h3, hw'.low fun hjx => ?_⟩)
          have := waits_ready hcl hj (hX j hjx hjun)
          rw [hiun] at this
          cases this
        · refine .inr (.inr ⟨h3, hw'.new fun hjx => ?_⟩)
          have := waits_ready hcl hj (hX j hjx hjun)
          rw [hiun] at this
          cases this
      have h2 := wpOp_putIf hoj (hfree j oj hoj hji hjun hnot) (fun cs b => hsel i oi cs b hi) (fun cs b => hsel j oj cs b hoj) hQ hy h1
      have hfree' : ∀ k ok, ops[k]? = some ok → k ≠ i → (listed.setIfInBounds j true).getD k true = false →
          (∀ e ∈ ok.after, Region.binds md e = true → e.on ≠ i) → oi.apart ops ok = true := fun k ok hk hki hun hno => by
        refine hfree k ok hk hki ?_ hno
        by_cases hjk : j = k
        · subst hjk; exact hjun
        · rw [getD_set_ne true hjk] at hun; exact hun
      have hun' : ∀ k, (listed.setIfInBounds j true).getD k true = false → listed.getD k true = false := fun k hun => by
        by_cases hjk : j = k
        · subst hjk; exact hjun
        · rw [getD_set_ne true hjk] at hun; exact hun
      have hX' : kd = 0 ∨ (kd = 3 ∧ ∀ k ∈ ys, (listed.setIfInBounds j true).getD k true = false → waitsT md ops n k i = true) ∨ (kd ≠ 3 ∧ ∀ k ∈ xs, (listed.setIfInBounds j true).getD k true = false → waitsT md ops n k i = true) :=
        hX.imp id fun h => h.imp (fun h => ⟨h.1, fun k hk hun => h.2 k hk (hun' k hun)⟩) (fun h => ⟨h.1, fun k hk hun => h.2 k hk (hun' k hun)⟩)
      refine wpOp_mono (fun a' w' h3 => ⟨h3.2.1, ih (listed.setIfInBounds j true) a' w' (hcl.set hj) hX' hfree' (ready_mono hr (Ne.symm hji)) (yields_next hG (hgrow w' h3.2.1) h3.1) ?_⟩) h2
      rw [Array.setIfInBounds_comm _ _ hji]
      exact h3.2.2

def wpT (P : Program) (ops : Array Oper) (Q : Exit → Act → World → Prop) (G : World → World → Prop) (xs ys : List Nat) : Tr → Act → World → Prop
  | .nil, a, w => Q .normal a w
  | .one i 2 t, a, w => wpOp P ops Q i (fun a' w' => Grow G xs ys i w w' ∧ wpT P ops Q G xs ys t a' w') a w
  | .one i k t, a, w => ∃ o v, ops[i]? = some o ∧ YieldsIf P ops (Hold G k w) o v a ∧ wpT P ops Q G xs ys t (a.put o.dst v) w
  | .two i t j t', a, w => wpOp P ops Q i (fun a' w' => Grow G xs ys i w w' ∧ wpT P ops Q G xs ys t a' w') a w ∧ wpOp P ops Q j (fun a' w' => Grow G xs ys j w w' ∧ wpT P ops Q G xs ys t' a' w') a w
def okT (md : Region.Mode) (ops : Array Oper) (xs ys : List Nat) : Array Bool → Tr → Bool
  | listed, .nil => (Region.ready md ops listed).isEmpty
  | listed, .one i 2 t => Region.ready md ops listed == [i] && okT md ops xs ys (listed.setIfInBounds i true) t
  | listed, .one i k t => (Region.ready md ops listed).contains i && Region.free md ops listed i && !xs.contains i &&
      (k == 0 || k == 3 && (ys.all fun j => listed.getD j true || waitsT md ops ops.size j i) || k == 1 && xs.all fun j => listed.getD j true || waitsT md ops ops.size j i) && okT md ops xs ys (listed.setIfInBounds i true) t
  | listed, .two i t j t' => Region.ready md ops listed == [i, j] && t.len == t'.len && okT md ops xs ys (listed.setIfInBounds i true) t && okT md ops xs ys (listed.setIfInBounds j true) t'
theorem anyG_of_wpT (hG : Rel G) (hs : Region.noSelect ops = true) (hQ : ∀ c a w, ¬ Q (.panic c) a w) : ∀ (l : Tr) (listed : Array Bool) (a : Act) (w : World), Closed md ops listed →
    okT md ops xs ys listed l = true → wpT P ops Q G xs ys l a w → wpAnyG P md ops Q G xs ys l.len listed a w
  | .nil, listed, a, w, _, hB, h => ⟨by simpa [okT] using hB, h⟩
  | .two i t j t', listed, a, w, hc, hB, h => by
    simp only [okT, Bool.and_eq_true, beq_iff_eq] at hB
    obtain ⟨⟨⟨hr, hl⟩, h1⟩, h2⟩ := hB
    have hi : i ∈ Region.ready md ops listed := by rw [hr]; simp
    have hj : j ∈ Region.ready md ops listed := by rw [hr]; simp
    refine ⟨fun h0 => (by rw [h0] at hi; cases hi), fun m hm => ?_⟩
    rw [hr] at hm
    simp only [List.mem_cons, List.not_mem_nil, or_false] at hm
    rcases hm with rfl | rfl
    · exact wpOp_mono (fun a' w' h' => ⟨h'.1, anyG_of_wpT hG hs hQ t _ a' w' (hc.set hi) h1 h'.2⟩) h.1
    · refine wpOp_mono (fun a' w' h' => ⟨h'.1, ?_⟩) h.2
      have := anyG_of_wpT hG hs hQ t' _ a' w' (hc.set hj) h2 h'.2
      rw [← hl] at this
      exact this
  | .one i k rest, listed, a, w, hc, hB, h => by
    by_cases hk : k = 2
    · subst hk
      simp only [okT, Bool.and_eq_true, beq_iff_eq] at hB
      have hi : i ∈ Region.ready md ops listed := by rw [hB.1]; simp
      refine ⟨fun h0 => (by rw [h0] at hi; cases hi), fun j hj => ?_⟩
      rw [hB.1] at hj
      obtain rfl : j = i := by simpa using hj
      exact wpOp_mono (fun a' w' h' => ⟨h'.1, anyG_of_wpT hG hs hQ rest _ a' w' (hc.set hi) hB.2 h'.2⟩) h
    · have hB' : (((Region.ready md ops listed).contains i && Region.free md ops listed i && !xs.contains i &&
          (k == 0 || k == 3 && (ys.all fun j => listed.getD j true || waitsT md ops ops.size j i) || k == 1 && xs.all fun j => listed.getD j true || waitsT md ops ops.size j i)) && okT md ops xs ys (listed.setIfInBounds i true) rest) = true := by
        match k, hk, hB with
        | 0, _, hB => exact hB
        | 1, _, hB => exact hB
        | k + 3, _, hB => exact hB
      have h' : ∃ o v, ops[i]? = some o ∧ YieldsIf P ops (Hold G k w) o v a ∧ wpT P ops Q G xs ys rest (a.put o.dst v) w := by
        match k, hk, h with
        | 0, _, h => exact h
        | 1, _, h => exact h
        | k + 3, _, h => exact h
      simp only [Bool.and_eq_true, Bool.not_eq_true', Bool.or_eq_true] at hB'
      obtain ⟨⟨⟨⟨h1, h2⟩, h3⟩, h4⟩, h5⟩ := hB'
      obtain ⟨o, v, ho, hy, hr⟩ := h'
      have hi : i ∈ Region.ready md ops listed := by simpa using h1
      simp only [beq_iff_eq] at h4
      have hkd : k = 0 ∨ k = 1 ∨ k = 3 := by
        rcases h4 with (h4 | ⟨h4, _⟩) | ⟨h4, _⟩
        · exact .inl h4
        · exact .inr (.inr h4)
        · exact .inr (.inl h4)
      have hw : ∀ zs : List Nat, (zs.all fun j => listed.getD j true || waitsT md ops ops.size j i) = true → ∀ j ∈ zs, listed.getD j true = false → waitsT md ops ops.size j i = true := fun zs h j hj hun => by
        have := List.all_eq_true.1 h j hj
        simpa [hun] using this
      refine first hG hkd ho (Region.noSelect_spec hs) (fun c a w hp => absurd hp (hQ c _ w)) (by simpa using h3) ops.size rest.len listed a w hc ?_ (Region.free_spec ho h2) hi hy
        (anyG_of_wpT hG hs hQ rest _ _ w (hc.set hi) h5 hr)
      rcases h4 with (h4 | ⟨h4, h4'⟩) | ⟨h4, h4'⟩
      · exact .inl h4
      · exact .inr (.inl ⟨h4, hw ys h4'⟩)
      · exact .inr (.inr ⟨by rw [h4]; decide, hw xs h4'⟩)
/-- THE LAW. -/
theorem wp_fork {id : Nat} {a : Act} {w : World} {os : List Oper} {G : World → World → Prop} (hG : Rel G) (xs ys : List Nat) (l : Tr) (hm : P.follows .mixedOrders = true)
    (hB : (Region.noSelect os.toArray && l.len == os.length && okT .any os.toArray xs ys (Array.replicate os.length false) l) = true)
    (h : wpT P os.toArray (NoPanic Q) G xs ys l a w.drew) : (Code.region id os.toArray true).wp P Q a w := by
  simp only [Bool.and_eq_true, beq_iff_eq] at hB
  refine wp_region_noPanic (wp_region_any hm ?_)
  have h1 := anyG_of_wpT (md := .any) hG hB.1.1 (fun c a w hp => hp) l (Array.replicate os.length false) a w.drew (closed_none _) hB.2 h
  have h2 := wpAny_of_G _ _ _ _ h1
  rw [hB.1.2] at h2
  simpa using h2
end
set_option linter.unusedSimpArgs false
section
variable {P : Program} {ops : Array Oper} {Q : Exit → Act → World → Prop} {G : World → World → Prop} {xs ys : List Nat} {a : Act} {w : World} {i : Nat} {rest : Tr}
theorem done (h : Q .normal a w) : wpT P ops (NoPanic Q) G xs ys .nil a w := h
theorem plain {o : Oper} (ho : ops[i]? = some o) (v : Value) (hw : Region.wanted o (yielded ops a.tmps) = true) (hr : ∀ W, (execOp a.eval o).run P W = .ok (.value v) W)
    (h : wpT P ops Q G xs ys rest (a.put o.dst v) w) : wpT P ops Q G xs ys (.one i 0 rest) a w := ⟨o, v, ho, .inl ⟨hw, fun W _ => hr W⟩, h⟩
theorem reads {o : Oper} (ho : ops[i]? = some o) (v : Value) (hw : Region.wanted o (yielded ops a.tmps) = true) (hr : ∀ W, Below w.heap.size w W → (execOp a.eval o).run P W = .ok (.value v) W)
    (h : wpT P ops Q G xs ys rest (a.put o.dst v) w) : wpT P ops Q G xs ys (.one i 1 rest) a w :=
  ⟨o, v, ho, .inl ⟨hw, fun W hW => hr W (by rcases hW with h | ⟨_, h⟩ | ⟨h, _⟩; (cases h); exact h; cases h)⟩, h⟩
theorem olds {o : Oper} (ho : ops[i]? = some o) (v : Value) (hw : Region.wanted o (yielded ops a.tmps) = true) (hr : ∀ W, G w W → (execOp a.eval o).run P W = .ok (.value v) W)
    (h : wpT P ops Q G xs ys rest (a.put o.dst v) w) : wpT P ops Q G xs ys (.one i 3 rest) a w :=
  ⟨o, v, ho, .inl ⟨hw, fun W hW => hr W (by rcases hW with h | ⟨h, _⟩ | ⟨_, h⟩; (cases h); (cases h); exact h)⟩, h⟩
theorem op {o : Oper} {J : Act → World → Prop} (ho : ops[i]? = some o)
    (h : ∀ K : Act → World → Prop, (∀ a' w', Grow G xs ys i w w' → J a' w' → K a' w') → if Region.wanted o (yielded ops a.tmps) = true then o.wp P a w K Q else K (a.put o.dst undef) w) :
    wpOp P ops Q i (fun a' w' => Grow G xs ys i w w' ∧ J a' w') a w := by
  unfold wpOp
  simp only [ho]
  by_cases hw : Region.wanted o (yielded ops a.tmps) = true
  · have := h (fun a' w' => Grow G xs ys i w w' ∧ J a' w') (fun a' w' h1 h2 => ⟨h1, h2⟩)
    rw [if_pos hw] at this ⊢
    exact .inl this
  · have := h (fun a' w' => Grow G xs ys i w w' ∧ J a' w') (fun a' w' h1 h2 => ⟨h1, h2⟩)
    rw [if_neg hw] at this ⊢
    exact this
theorem step {o : Oper} (ho : ops[i]? = some o)
    (h : ∀ K : Act → World → Prop, (∀ a' w', Grow G xs ys i w w' → wpT P ops Q G xs ys rest a' w' → K a' w') → if Region.wanted o (yielded ops a.tmps) = true then o.wp P a w K Q else K (a.put o.dst undef) w) :
    wpT P ops Q G xs ys (.one i 2 rest) a w := op ho h
end
theorem at_ {l : List Oper} {ops : Array Oper} {i : Nat} {o : Oper} (h : l.toArray = ops) (e : l[i]? = some o) : ops[i]? = some o := by subst h; simpa using e
theorem bel_cell {w W : World} {p : Addr} {v : Value} (h : Below w.heap.size w W) (hc : w.cell? p = some v) : W.cell? p = some v := (h.cell (block_lt_of_cell hc)).trans hc
end Go.Fork
