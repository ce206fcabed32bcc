/- Parts of one proof, joined: Fork, Dx, Da, Dy, Wc. Conditions: those of each statement. -/
import Derived.Test.YtlepcmljmibdnaaWz0
import Derived.Test.YtlepcmljmibdnaaWz1
namespace Go.Fork
open Go.RowKit Go.Calm
inductive Tr where
  | nil
  | one (i k : Nat) (t : Tr)
  | two (i : Nat) (t : Tr) (j : Nat) (t' : Tr)
def Tr.len : Tr → Nat
  | .nil => 0
  | .one _ _ t => t.len + 1
  | .two _ t _ _ => t.len + 1
/-- below b all is as it was -/
structure Lo (b : Nat) (w w' : World) : Prop where
  os : w'.os = w.os
  tape : w'.tape = w.tape
  output : w'.output = w.output
  size : b ≤ w.heap.size → b ≤ w'.heap.size
  block : ∀ k, k < b → w'.heap[k]? = w.heap[k]?
theorem Lo.refl (b : Nat) (w : World) : Lo b w w := ⟨rfl, rfl, rfl, id, fun _ _ => rfl⟩
theorem Lo.trans {b : Nat} {a w w' : World} (h : Lo b a w) (k : Lo b w w') : Lo b a w' := ⟨k.os.trans h.os, k.tape.trans h.tape, k.output.trans h.output, fun e => k.size (h.size e), fun i hi => (k.block i hi).trans (h.block i hi)⟩
theorem Lo.of_below {b : Nat} {w w' : World} (h : Below b w w') : Lo b w w' := ⟨h.os, h.tape, h.output, fun e => Nat.le_trans e h.size, h.block⟩
theorem Lo.below {w w' : World} (h : Lo w.heap.size w w') : Below w.heap.size w w' := ⟨h.os, h.tape, h.output, h.size (Nat.le_refl _), h.block⟩
theorem Lo.zero {w w' : World} (h1 : w'.os = w.os) (h2 : w'.tape = w.tape) (h3 : w'.output = w.output) : Lo 0 w w' := ⟨h1, h2, h3, fun _ => Nat.zero_le _, fun _ hk => absurd hk (Nat.not_lt_zero _)⟩
structure Rel (G : World → World → Prop) : Prop where
  refl : ∀ w, G w w
  trans : ∀ {a b c}, G a b → G b c → G a c
theorem Lo.rel (b : Nat) : Rel (Lo b) := ⟨Lo.refl b, fun h k => h.trans k⟩
/-- what an operation that acts may do to memory: what G lets it, unless it is one of ys; if it is none of the writers xs, only grow it -/
structure Grow (G : World → World → Prop) (xs ys : List Nat) (i : Nat) (w w' : World) : Prop where
  low : i ∉ ys → G w w'
  new : i ∉ xs → Below w.heap.size w w'
theorem Grow.of_new {b : Nat} {xs ys : List Nat} {i : Nat} {w w' : World} (h : Below w.heap.size w w') (hb : b ≤ w.heap.size) : Grow (Lo b) xs ys i w w' := ⟨fun _ => .of_below (h.mono hb), fun _ => h⟩
theorem Grow.of_any {G : World → World → Prop} {xs ys : List Nat} {i : Nat} {w w' : World} (hx : xs.contains i = true) (hy : ys.contains i = true) : Grow G xs ys i w w' := ⟨fun hn => absurd (by simpa using hy) hn, fun hn => absurd (by simpa using hx) hn⟩
theorem Grow.of_old {G : World → World → Prop} {xs ys : List Nat} {i : Nat} {w w' : World} (h : G w w') (hx : xs.contains i = true) : Grow G xs ys i w w' := ⟨fun _ => h, fun hn => absurd (by simpa using hx) hn⟩
def Hold (G : World → World → Prop) (k : Nat) (w W : World) : Prop := k = 0 ∨ (k = 1 ∧ Below w.heap.size w W) ∨ (k = 3 ∧ G w W)
section
variable {P : Program} {md : Region.Mode} {ops : Array Oper} {Q : Exit → Act → World → Prop} {G : World → World → Prop} {xs ys : List Nat}
theorem Hold.refl (hG : Rel G) {k : Nat} (h : k = 0 ∨ k = 1 ∨ k = 3) (w : World) : Hold G k w w := by
  rcases h with h | h | h
  · exact .inl h
  · exact .inr (.inl ⟨h, Below.refl _ _⟩)
  · exact .inr (.inr ⟨h, hG.refl _⟩)
theorem Hold.next (hG : Rel G) {k : Nat} {w w1 W : World} (hb : k = 0 ∨ (k = 3 ∧ G w w1) ∨ (k ≠ 3 ∧ Below w.heap.size w w1)) (h : Hold G k w1 W) : Hold G k w W := by
  rcases h with h | ⟨h, h'⟩ | ⟨h, h'⟩
  · exact .inl h
  · subst h
    have hb := ((hb.resolve_left (by decide)).resolve_left (by rintro ⟨h, _⟩; cases h)).2
    exact .inr (.inl ⟨rfl, hb.trans (h'.mono hb.size)⟩)
  · subst h
    rcases hb with hb | ⟨_, hb⟩ | ⟨hb, _⟩
    · cases hb
    · exact .inr (.inr ⟨rfl, hG.trans hb h'⟩)
    · exact absurd rfl hb
theorem yields_next (hG : Rel G) {k : Nat} {w w1 : World} {o : Oper} {v : Value} {a : Act} (hb : k = 0 ∨ (k = 3 ∧ G w w1) ∨ (k ≠ 3 ∧ Below w.heap.size w w1)) (h : YieldsIf P ops (Hold G k w) o v a) : YieldsIf P ops (Hold G k w1) o v a :=
  h.imp (fun ⟨h1, h2⟩ => ⟨h1, fun W hW => h2 W (Hold.next hG hb hW)⟩) id
def wpAnyG (P : Program) (md : Region.Mode) (ops : Array Oper) (Q : Exit → Act → World → Prop) (G : World → World → Prop) (xs ys : List Nat) : Nat → Array Bool → Act → World → Prop
  | 0, listed, a, w => Region.ready md ops listed = [] ∧ Q .normal a w
  | fuel + 1, listed, a, w =>
    (Region.ready md ops listed = [] → Q .normal a w) ∧
    ∀ i ∈ Region.ready md ops listed, wpOp P ops Q i (fun a' w' => Grow G xs ys i w w' ∧ wpAnyG P md ops Q G xs ys fuel (listed.setIfInBounds i true) a' w') a w
theorem wpAny_of_G : ∀ (fuel : Nat) (listed : Array Bool) (a : Act) (w : World), wpAnyG P md ops Q G xs ys fuel listed a w → wpAny P md ops Q fuel listed a w
  | 0, _, _, _, h => h
  | fuel + 1, _, _, _, h => ⟨h.1, fun i hi => wpOp_mono (fun a' w' h' => wpAny_of_G fuel _ a' w' h'.2) (h.2 i hi)⟩
theorem first (hG : Rel G) {i : Nat} {oi : Oper} {v : Value} {kd : Nat} (hkd : kd = 0 ∨ kd = 1 ∨ kd = 3) (hi : ops[i]? = some oi) (hsel : ∀ (j : Nat) (o : Oper) cs b, ops[j]? = some o → o.op ≠ .select cs b)
    (hQ : ∀ c a w, Q (.panic c) (a.put oi.dst v) w → Q (.panic c) a w) (hix : i ∉ xs) (n : Nat) :
    ∀ (fuel : Nat) (listed : Array Bool) (a : Act) (w : World), Closed md ops listed →
      (kd = 0 ∨ (kd = 3 ∧ ∀ j ∈ ys, listed.getD j true = false → waitsT md ops n j i = true) ∨ (kd ≠ 3 ∧ ∀ j ∈ xs, listed.getD j true = false → waitsT md ops n j i = true)) →
      (∀ j oj, ops[j]? = some oj → j ≠ i → listed.getD j true = false → (∀ e ∈ oj.after, Region.binds md e = true → e.on ≠ i) → oi.apart ops oj = true) →
      i ∈ Region.ready md ops listed → YieldsIf P ops (Hold G kd w) oi v a →
      wpAnyG P md ops Q G xs ys fuel (listed.setIfInBounds i true) (a.put oi.dst v) w → wpAnyG P md ops Q G xs ys (fuel + 1) listed a w := by
  intro fuel
  induction fuel with
  | zero =>
    intro listed a w _ _ _ hr hy H
    refine ⟨fun h => (by rw [h] at hr; cases hr), fun j hj => ?_⟩
    by_cases hji : j = i
    · subst hji; exact hy.wpOp hi (Hold.refl hG hkd _) ⟨⟨fun _ => hG.refl _, fun _ => Below.refl _ _⟩, H⟩
    · have := ready_mono hj hji
      rw [H.1] at this
      cases this
  | succ fuel ih =>
    intro listed a w hcl hX hfree hr hy H
    refine ⟨fun h => (by rw [h] at hr; cases hr), fun j hj => ?_⟩
    by_cases hji : j = i
    · subst hji; exact hy.wpOp hi (Hold.refl hG hkd _) ⟨⟨fun _ => hG.refl _, fun _ => Below.refl _ _⟩, H⟩
    · have h1 := H.2 j (ready_mono hj hji)
      obtain ⟨hjun, oj, hoj, hall⟩ := mem_ready.1 hj
      have hiun : listed.getD i false = false := by
        have h0 := (mem_ready.1 hr).1
        rcases Nat.lt_or_ge i listed.size with h' | h'
        · simp [h'] at h0 ⊢; exact h0
        · simp [Array.getElem?_eq_none h']
      have hnot : ∀ e ∈ oj.after, Region.binds md e = true → e.on ≠ i := fun e he hb heq => by
        have h1 := hall e he hb
        rw [heq, hiun] at h1
        cases h1
      have hgrow : ∀ w', Grow G xs ys j w w' → (kd = 0 ∨ (kd = 3 ∧ G w w') ∨ (kd ≠ 3 ∧ Below w.heap.size w w')) := fun w' hw' => by
        rcases hX with hX | ⟨h3, hX⟩ | ⟨h3, hX⟩
        · exact .inl hX
        · refine .inr (.inl ⟨h3, hw'.low fun hjx => ?_⟩)
          have := waits_ready hcl hj (hX j hjx hjun)
          rw [hiun] at this
          cases this
        · refine .inr (.inr ⟨h3, hw'.new fun hjx => ?_⟩)
          have := waits_ready hcl hj (hX j hjx hjun)
          rw [hiun] at this
          cases this
      have h2 := wpOp_putIf hoj (hfree j oj hoj hji hjun hnot) (fun cs b => hsel i oi cs b hi) (fun cs b => hsel j oj cs b hoj) hQ hy h1
      have hfree' : ∀ k ok, ops[k]? = some ok → k ≠ i → (listed.setIfInBounds j true).getD k true = false →
          (∀ e ∈ ok.after, Region.binds md e = true → e.on ≠ i) → oi.apart ops ok = true := fun k ok hk hki hun hno => by
        refine hfree k ok hk hki ?_ hno
        by_cases hjk : j = k
        · subst hjk; exact hjun
        · rw [getD_set_ne true hjk] at hun; exact hun
      have hun' : ∀ k, (listed.setIfInBounds j true).getD k true = false → listed.getD k true = false := fun k hun => by
        by_cases hjk : j = k
        · subst hjk; exact hjun
        · rw [getD_set_ne true hjk] at hun; exact hun
      have hX' : kd = 0 ∨ (kd = 3 ∧ ∀ k ∈ ys, (listed.setIfInBounds j true).getD k true = false → waitsT md ops n k i = true) ∨ (kd ≠ 3 ∧ ∀ k ∈ xs, (listed.setIfInBounds j true).getD k true = false → waitsT md ops n k i = true) :=
        hX.imp id fun h => h.imp (fun h => ⟨h.1, fun k hk hun => h.2 k hk (hun' k hun)⟩) (fun h => ⟨h.1, fun k hk hun => h.2 k hk (hun' k hun)⟩)
      refine wpOp_mono (fun a' w' h3 => ⟨h3.2.1, ih (listed.setIfInBounds j true) a' w' (hcl.set hj) hX' hfree' (ready_mono hr (Ne.symm hji)) (yields_next hG (hgrow w' h3.2.1) h3.1) ?_⟩) h2
      rw [Array.setIfInBounds_comm _ _ hji]
      exact h3.2.2

def wpT (P : Program) (ops : Array Oper) (Q : Exit → Act → World → Prop) (G : World → World → Prop) (xs ys : List Nat) : Tr → Act → World → Prop
  | .nil, a, w => Q .normal a w
  | .one i 2 t, a, w => wpOp P ops Q i (fun a' w' => Grow G xs ys i w w' ∧ wpT P ops Q G xs ys t a' w') a w
  | .one i k t, a, w => ∃ o v, ops[i]? = some o ∧ YieldsIf P ops (Hold G k w) o v a ∧ wpT P ops Q G xs ys t (a.put o.dst v) w
  | .two i t j t', a, w => wpOp P ops Q i (fun a' w' => Grow G xs ys i w w' ∧ wpT P ops Q G xs ys t a' w') a w ∧ wpOp P ops Q j (fun a' w' => Grow G xs ys j w w' ∧ wpT P ops Q G xs ys t' a' w') a w
def okT (md : Region.Mode) (ops : Array Oper) (xs ys : List Nat) : Array Bool → Tr → Bool
  | listed, .nil => (Region.ready md ops listed).isEmpty
  | listed, .one i 2 t => Region.ready md ops listed == [i] && okT md ops xs ys (listed.setIfInBounds i true) t
  | listed, .one i k t => (Region.ready md ops listed).contains i && Region.free md ops listed i && !xs.contains i &&
      (k == 0 || k == 3 && (ys.all fun j => listed.getD j true || waitsT md ops ops.size j i) || k == 1 && xs.all fun j => listed.getD j true || waitsT md ops ops.size j i) && okT md ops xs ys (listed.setIfInBounds i true) t
  | listed, .two i t j t' => Region.ready md ops listed == [i, j] && t.len == t'.len && okT md ops xs ys (listed.setIfInBounds i true) t && okT md ops xs ys (listed.setIfInBounds j true) t'
theorem anyG_of_wpT (hG : Rel G) (hs : Region.noSelect ops = true) (hQ : ∀ c a w, ¬ Q (.panic c) a w) : ∀ (l : Tr) (listed : Array Bool) (a : Act) (w : World), Closed md ops listed →
    okT md ops xs ys listed l = true → wpT P ops Q G xs ys l a w → wpAnyG P md ops Q G xs ys l.len listed a w
  | .nil, listed, a, w, _, hB, h => ⟨by simpa [okT] using hB, h⟩
  | .two i t j t', listed, a, w, hc, hB, h => by
    simp only [okT, Bool.and_eq_true, beq_iff_eq] at hB
    obtain ⟨⟨⟨hr, hl⟩, h1⟩, h2⟩ := hB
    have hi : i ∈ Region.ready md ops listed := by rw [hr]; simp
    have hj : j ∈ Region.ready md ops listed := by rw [hr]; simp
    refine ⟨fun h0 => (by rw [h0] at hi; cases hi), fun m hm => ?_⟩
    rw [hr] at hm
    simp only [List.mem_cons, List.not_mem_nil, or_false] at hm
    rcases hm with rfl | rfl
    · exact wpOp_mono (fun a' w' h' => ⟨h'.1, anyG_of_wpT hG hs hQ t _ a' w' (hc.set hi) h1 h'.2⟩) h.1
    · refine wpOp_mono (fun a' w' h' => ⟨h'.1, ?_⟩) h.2
      have := anyG_of_wpT hG hs hQ t' _ a' w' (hc.set hj) h2 h'.2
      rw [← hl] at this
      exact this
  | .one i k rest, listed, a, w, hc, hB, h => by
    by_cases hk : k = 2
    · subst hk
      simp only [okT, Bool.and_eq_true, beq_iff_eq] at hB
      have hi : i ∈ Region.ready md ops listed := by rw [hB.1]; simp
      refine ⟨fun h0 => (by rw [h0] at hi; cases hi), fun j hj => ?_⟩
      rw [hB.1] at hj
      obtain rfl : j = i := by simpa using hj
      exact wpOp_mono (fun a' w' h' => ⟨h'.1, anyG_of_wpT hG hs hQ rest _ a' w' (hc.set hi) hB.2 h'.2⟩) h
    · have hB' : (((Region.ready md ops listed).contains i && Region.free md ops listed i && !xs.contains i &&
          (k == 0 || k == 3 && (ys.all fun j => listed.getD j true || waitsT md ops ops.size j i) || k == 1 && xs.all fun j => listed.getD j true || waitsT md ops ops.size j i)) && okT md ops xs ys (listed.setIfInBounds i true) rest) = true := by
        match k, hk, hB with
        | 0, _, hB => exact hB
        | 1, _, hB => exact hB
        | k + 3, _, hB => exact hB
      have h' : ∃ o v, ops[i]? = some o ∧ YieldsIf P ops (Hold G k w) o v a ∧ wpT P ops Q G xs ys rest (a.put o.dst v) w := by
        match k, hk, h with
        | 0, _, h => exact h
        | 1, _, h => exact h
        | k + 3, _, h => exact h
      simp only [Bool.and_eq_true, Bool.not_eq_true', Bool.or_eq_true] at hB'
      obtain ⟨⟨⟨⟨h1, h2⟩, h3⟩, h4⟩, h5⟩ := hB'
      obtain ⟨o, v, ho, hy, hr⟩ := h'
      have hi : i ∈ Region.ready md ops listed := by simpa using h1
      simp only [beq_iff_eq] at h4
      have hkd : k = 0 ∨ k = 1 ∨ k = 3 := by
        rcases h4 with (h4 | ⟨h4, _⟩) | ⟨h4, _⟩
        · exact .inl h4
        · exact .inr (.inr h4)
        · exact .inr (.inl h4)
      have hw : ∀ zs : List Nat, (zs.all fun j => listed.getD j true || waitsT md ops ops.size j i) = true → ∀ j ∈ zs, listed.getD j true = false → waitsT md ops ops.size j i = true := fun zs h j hj hun => by
        have := List.all_eq_true.1 h j hj
        simpa [hun] using this
      refine first hG hkd ho (Region.noSelect_spec hs) (fun c a w hp => absurd hp (hQ c _ w)) (by simpa using h3) ops.size rest.len listed a w hc ?_ (Region.free_spec ho h2) hi hy
        (anyG_of_wpT hG hs hQ rest _ _ w (hc.set hi) h5 hr)
      rcases h4 with (h4 | ⟨h4, h4'⟩) | ⟨h4, h4'⟩
      · exact .inl h4
      · exact .inr (.inl ⟨h4, hw ys h4'⟩)
      · exact .inr (.inr ⟨by rw [h4]; decide, hw xs h4'⟩)
/-- THE LAW. -/
theorem wp_fork {id : Nat} {a : Act} {w : World} {os : List Oper} {G : World → World → Prop} (hG : Rel G) (xs ys : List Nat) (l : Tr) (hm : P.follows .mixedOrders = true)
    (hB : (Region.noSelect os.toArray && l.len == os.length && okT .any os.toArray xs ys (Array.replicate os.length false) l) = true)
    (h : wpT P os.toArray (NoPanic Q) G xs ys l a w.drew) : (Code.region id os.toArray true).wp P Q a w := by
  simp only [Bool.and_eq_true, beq_iff_eq] at hB
  refine wp_region_noPanic (wp_region_any hm ?_)
  have h1 := anyG_of_wpT (md := .any) hG hB.1.1 (fun c a w hp => hp) l (Array.replicate os.length false) a w.drew (closed_none _) hB.2 h
  have h2 := wpAny_of_G _ _ _ _ h1
  rw [hB.1.2] at h2
  simpa using h2
end
set_option linter.unusedSimpArgs false
section
variable {P : Program} {ops : Array Oper} {Q : Exit → Act → World → Prop} {G : World → World → Prop} {xs ys : List Nat} {a : Act} {w : World} {i : Nat} {rest : Tr}
theorem done (h : Q .normal a w) : wpT P ops (NoPanic Q) G xs ys .nil a w := h
theorem plain {o : Oper} (ho : ops[i]? = some o) (v : Value) (hw : Region.wanted o (yielded ops a.tmps) = true) (hr : ∀ W, (execOp a.eval o).run P W = .ok (.value v) W)
    (h : wpT P ops Q G xs ys rest (a.put o.dst v) w) : wpT P ops Q G xs ys (.one i 0 rest) a w := ⟨o, v, ho, .inl ⟨hw, fun W _ => hr W⟩, h⟩
theorem reads {o : Oper} (ho : ops[i]? = some o) (v : Value) (hw : Region.wanted o (yielded ops a.tmps) = true) (hr : ∀ W, Below w.heap.size w W → (execOp a.eval o).run P W = .ok (.value v) W)
    (h : wpT P ops Q G xs ys rest (a.put o.dst v) w) : wpT P ops Q G xs ys (.one i 1 rest) a w :=
  ⟨o, v, ho, .inl ⟨hw, fun W hW => hr W (by rcases hW with h | ⟨_, h⟩ | ⟨h, _⟩; (cases h); exact h; cases h)⟩, h⟩
theorem olds {o : Oper} (ho : ops[i]? = some o) (v : Value) (hw : Region.wanted o (yielded ops a.tmps) = true) (hr : ∀ W, G w W → (execOp a.eval o).run P W = .ok (.value v) W)
    (h : wpT P ops Q G xs ys rest (a.put o.dst v) w) : wpT P ops Q G xs ys (.one i 3 rest) a w :=
  ⟨o, v, ho, .inl ⟨hw, fun W hW => hr W (by rcases hW with h | ⟨h, _⟩ | ⟨_, h⟩; (cases h); (cases h); exact h)⟩, h⟩
theorem op {o : Oper} {J : Act → World → Prop} (ho : ops[i]? = some o)
    (h : ∀ K : Act → World → Prop, (∀ a' w', Grow G xs ys i w w' → J a' w' → K a' w') → if Region.wanted o (yielded ops a.tmps) = true then o.wp P a w K Q else K (a.put o.dst undef) w) :
    wpOp P ops Q i (fun a' w' => Grow G xs ys i w w' ∧ J a' w') a w := by
  unfold wpOp
  simp only [ho]
  by_cases hw : Region.wanted o (yielded ops a.tmps) = true
  · have := h (fun a' w' => Grow G xs ys i w w' ∧ J a' w') (fun a' w' h1 h2 => ⟨h1, h2⟩)
    rw [if_pos hw] at this ⊢
    exact .inl this
  · have := h (fun a' w' => Grow G xs ys i w w' ∧ J a' w') (fun a' w' h1 h2 => ⟨h1, h2⟩)
    rw [if_neg hw] at this ⊢
    exact this
theorem step {o : Oper} (ho : ops[i]? = some o)
    (h : ∀ K : Act → World → Prop, (∀ a' w', Grow G xs ys i w w' → wpT P ops Q G xs ys rest a' w' → K a' w') → if Region.wanted o (yielded ops a.tmps) = true then o.wp P a w K Q else K (a.put o.dst undef) w) :
    wpT P ops Q G xs ys (.one i 2 rest) a w := op ho h
end
theorem at_ {l : List Oper} {ops : Array Oper} {i : Nat} {o : Oper} (h : l.toArray = ops) (e : l[i]? = some o) : ops[i]? = some o := by subst h; simpa using e
theorem bel_cell {w W : World} {p : Addr} {v : Value} (h : Below w.heap.size w W) (hc : w.cell? p = some v) : W.cell? p = some v := (h.cell (block_lt_of_cell hc)).trans hc
end Go.Fork
namespace Go.Proofs.Ytlepcmljmibdnaa
open Go.RowKit Go.Proofs.YtlepcmljmibdnaaW.PrintWords Go.Proofs.YtlepcmljmibdnaaW.PrintLast Go.Proofs.YtlepcmljmibdnaaW.PrintMore
attribute [local go_sem] run_makeMap
set_option linter.unusedVariables false
set_option linter.unusedSimpArgs false
end Go.Proofs.Ytlepcmljmibdnaa
namespace Go.Proofs.Ytlepcmljmibdnaa
open Go.RowKit Go.Proofs.YtlepcmljmibdnaaW.PrintWords Go.Proofs.YtlepcmljmibdnaaW.PrintLast Go.Proofs.YtlepcmljmibdnaaW.PrintMore PDiskArms
set_option linter.unusedVariables false
set_option linter.unusedSimpArgs false
def Few (l : List S31) : Prop := l.length ≤ 40 ∧ ∀ x ∈ l, x.f2.length ≤ 100 ∧ x.f4.length ≤ 50
/-- what the deeds keep -/
structure Arms (arm left : Int) (i : Nat) (D : PD) : Prop where
  dead : D.dead = false
  armd : D.armed = decide (0 ≤ arm)
  lft : 0 ≤ arm → D.left = left
  neg : arm < 0 → left = arm
  len : D.cache.length ≤ i
theorem keepAll_same (D : PD) (l : List (Int × List Int)) : (keepAll D l).dead = D.dead ∧ (keepAll D l).armed = D.armed ∧ (keepAll D l).left = D.left := by
  induction l generalizing D with
  | nil => exact ⟨rfl, rfl, rfl⟩
  | cons x l ih => exact ih (keepP D x)
end Go.Proofs.Ytlepcmljmibdnaa
namespace Go.Proofs.Ytlepcmljmibdnaa
open Go.RowKit Go.Proofs.YtlepcmljmibdnaaW.PrintWords Go.Proofs.YtlepcmljmibdnaaW.PrintLast Go.Proofs.YtlepcmljmibdnaaW.PrintMore PDiskArms
set_option linter.unusedVariables false
set_option linter.unusedSimpArgs false
theorem DK.low {w : World} {base B M Bd : Nat} {vc : Value} {D : PD} (h : DK w base B M Bd vc D) (b : Nat) (hb : b ≤ base) : DK w b B M Bd vc D :=
  ⟨h.blk, h.kept, h.bad, Kd.R_lower h.cache hb, Nat.le_trans hb h.hB, Nat.le_trans hb h.hM, Nat.le_trans hb h.hBd, h.hne, h.sec, h.hn, h.hl⟩
/-- a disk, seen from an elder world: nothing of it but F has changed -/
structure At (w0 : World) (F : Nat → Prop) (w : World) (B M Bd : Nat) (vc : Value) (D : PD) : Prop where
  dk : DK w 0 B M Bd vc D
  chg : Chg w0 w F
  fp : ∀ k, k < w0.heap.size → FP B M Bd vc k → F k
theorem At.refl {w : World} {base B M Bd : Nat} {vc : Value} {D : PD} (h : DK w base B M Bd vc D) : At w (FP B M Bd vc) w B M Bd vc D := ⟨h.low 0 (Nat.zero_le _), Chg.refl _ _, fun _ _ h => h⟩
section
variable {w0 w w' : World} {F : Nat → Prop} {B M Bd : Nat} {vc vc' : Value} {D D' : PD}
theorem At.reach (h : At w0 F w B M Bd vc D) (hc : Chg w w' (FP B M Bd vc)) : Chg w0 w' F :=
  ⟨hc.os.trans h.chg.os, hc.tape.trans h.chg.tape, hc.output.trans h.chg.output, Nat.le_trans h.chg.size hc.size, fun k hk hn => (hc.block k (Nat.lt_of_lt_of_le hk h.chg.size) (fun e => hn (h.fp k hk e))).trans (h.chg.block k hk hn)⟩
theorem At.next (h : At w0 F w B M Bd vc D) (hd : DK w' 0 B M Bd vc' D') (hc : Chg w w' (FP B M Bd vc)) (hf : ∀ k, k < w.heap.size → FP B M Bd vc' k → FP B M Bd vc k) : At w0 F w' B M Bd vc' D' :=
  ⟨hd, h.reach hc, fun k hk e => h.fp k hk (hf k (Nat.lt_of_lt_of_le hk h.chg.size) e)⟩
theorem At.then_ {w1 : World} (h : At w0 F w B M Bd vc D) (k : At w (FP B M Bd vc) w1 B M Bd vc' D') : At w0 F w1 B M Bd vc' D' := h.next k.dk k.chg k.fp
theorem At.grow (h : At w0 F w B M Bd vc D) (hc : Chg w w' (fun _ => False)) : At w0 F w' B M Bd vc D := h.next (h.dk.chg hc) (hc.mono fun _ h => h.elim) (fun _ _ h => h)
theorem fp_old {k : Nat} (ho : vc'.ownBlock = vc.ownBlock ∨ ∃ j, vc'.ownBlock = some j ∧ w.heap.size ≤ j) (hk : k < w.heap.size) (h : FP B M Bd vc' k) : FP B M Bd vc k := by
  rcases h with h | h | h | h
  · exact .inl h
  · exact .inr (.inl h)
  · exact .inr (.inr (.inl h))
  · rcases ho with ho | ⟨j, hj, hjl⟩
    · exact .inr (.inr (.inr (h.trans ho)))
    · rw [hj] at h
      have := Option.some.inj h
      omega
theorem fp_nil {k : Nat} (h : FP B M Bd (.slice none 0 0) k) : FP B M Bd vc k := by
  rcases h with h | h | h | h
  · exact .inl h
  · exact .inr (.inl h)
  · exact .inr (.inr (.inl h))
  · simp [Value.ownBlock] at h
theorem at_write (at_ e : Int) (A : Option Addr) (c : Nat) (b : List Int) (hw : writeP D at_ b = (D', e)) (hl : D.cache.length ≤ 1000) (hb : ∀ w', Chg w0 w' F → (Kd.int .u8).C w' A b.length b) (h : At w0 F w B M Bd vc D) :
    Calls Try.prog 17 #[.pointer (some ⟨B, 0, none⟩), .int .i64 at_, .slice A b.length c] w fun r w' => r = .returned (.int .i64 e) ∧ ∃ vc', At w0 F w' B M Bd vc' D' := by
  refine (write_calls w 0 B M Bd vc D at_ A c b hl (Nat.zero_le _) h.dk (fun w' hc => hb w' (h.reach hc))).mono ?_
  rw [hw]
  rintro r w' ⟨rfl, vc', hd, ho, hc⟩
  exact ⟨rfl, vc', h.next hd hc fun k hk => fp_old ho hk⟩
theorem at_flush (e : Int) (hw : flushP D = (D', e)) (hl : D.cache.length ≤ 1000) (h : At w0 F w B M Bd vc D) :
    Calls Try.prog 18 #[.pointer (some ⟨B, 0, none⟩)] w fun r w' => r = .returned (.int .i64 e) ∧ ∃ vc', At w0 F w' B M Bd vc' D' := by
  refine (flush_calls w 0 B M Bd vc D hl (Nat.zero_le _) h.dk).mono ?_
  rw [hw]
  rintro r w' ⟨rfl, vc', hd, ho, hc⟩
  refine ⟨rfl, vc', h.next hd (hc.mono fun k hk => hk.elim .inl (fun h => .inr (.inl h))) fun k hk hf => ?_⟩
  rcases ho with rfl | rfl
  · exact hf
  · exact fp_nil hf
theorem at_read (at_ r : Int) (s : List Int) (hr : readP D at_ = (s, r)) (hl : D.cache.length ≤ 1000) (h : At w0 F w B M Bd vc D) :
    Calls Try.prog 23 #[.pointer (some ⟨B, 0, none⟩), .int .i64 at_] w fun e w' => ∃ A c, e = .returned (.tuple #[.slice A s.length c, .int .i64 r]) ∧ Kd.R (Kd.int .u8) 5 w' w.heap.size (fun k => w.heap.size ≤ k) (.slice A s.length c) s ∧ At w0 F w' B M Bd vc D ∧ Below w.heap.size w w' := by
  refine (read_calls w 0 B M Bd vc D at_ hl h.dk).mono ?_
  rw [hr]
  rintro e w' ⟨v, rfl, hR, hb⟩
  obtain ⟨A, c, rfl⟩ := Kd.R_slice hR
  exact ⟨A, c, rfl, Kd.R_mono (Kd.R_bound hR) (fun k hk => hk.2.1), h.grow (.of_below hb), hb⟩
end
def other : List Int := [111, 116, 104, 101, 114]
theorem At.below {w0 w : World} {B M Bd : Nat} {vc : Value} {D : PD} (h : At w0 (fun _ => False) w B M Bd vc D) : Below w0.heap.size w0 w := h.chg.below (Nat.le_refl _) (fun _ h => h.elim)
theorem new_at (w0 w : World) (n : Int) (hb : Below w0.heap.size w0 w) :
    Calls Try.prog 15 #[.int .i64 n] w fun e w' => ∃ B M Bd, e = .returned (.pointer (some ⟨B, 0, none⟩)) ∧ At w0 (fun _ => False) w' B M Bd (.slice none 0 0) (newP n) := by
  refine (new_calls w w0.heap.size hb.size n).mono ?_
  rintro e w' ⟨B, M, Bd, rfl, hd, hb'⟩
  exact ⟨B, M, Bd, rfl, hd.low 0 (Nat.zero_le _), .of_below (hb.trans hb'), fun k hk hf => by have := (hd.fp k hf).1; omega⟩
theorem writeP_cache (D : PD) (at_ : Int) (b : List Int) : (writeP D at_ b).1.cache.length ≤ D.cache.length + 1 := by
  unfold writeP
  split
  · exact Nat.le_succ _
  · split
    · exact Nat.le_succ _
    · split
      · exact Nat.le_succ _
      · split
        · rw [actP_cache]; omega
        · rw [actP_cache]; simp
theorem flushP_cache (D : PD) : (flushP D).1.cache.length ≤ D.cache.length := by
  unfold flushP
  split
  · rw [actP_cache]; omega
  · simp
end Go.Proofs.Ytlepcmljmibdnaa
namespace Go.Proofs.Ytlepcmljmibdnaa
open Go.RowKit Go.Proofs.YtlepcmljmibdnaaW.PrintWords Go.Proofs.YtlepcmljmibdnaaW.PrintLast Go.Proofs.YtlepcmljmibdnaaW.PrintMore PWalOpens
set_option linter.unusedVariables false
set_option linter.unusedSimpArgs false
structure WK (w : World) (base B : Nat) (v : Value) (xs : List Int) : Prop where
  blk : w.heap[B]? = some (.cells #[v] 109 (0, 0))
  R : Kd.R (Kd.int .u8) 5 w base (fun _ => True) v xs
  hB : base ≤ B
theorem cells1 {w : World} {B t : Nat} {a : Value} (h : w.heap[B]? = some (.cells #[a] t (0, 0))) : w.cell? ⟨B, 0, none⟩ = some a ∧ w.frozen? ⟨B, 0, none⟩ = false := by
  constructor <;> simp [World.cell?, World.frozen?, h]
def FW (B : Nat) (v : Value) (k : Nat) : Prop := k = B ∨ some k = v.ownBlock
/-- what a call did to a writer -/
structure WT (w w' : World) (base B : Nat) (v v' : Value) (ys : List Int) : Prop where
  k : WK w' base B v' ys
  chg : Chg w w' (FW B v)
  fp : ∀ k, k < w.heap.size → FW B v' k → FW B v k
section
variable {w w' w2 : World} {base B : Nat} {v v' v2 : Value} {xs ys zs : List Int}
theorem WK.lt (h : WK w base B v xs) : B < w.heap.size := (Array.getElem?_eq_some_iff.1 h.blk).1
theorem WK.base_le (h : WK w base B v xs) : base ≤ w.heap.size := by have := h.lt; have := h.hB; omega
theorem WK.ne (h : WK w base B v xs) : some B ≠ v.ownBlock := Kd.R_ne h.R h.blk (by decide)
theorem WK.fp_lt (h : WK w base B v xs) (k : Nat) (hk : FW B v k) : base ≤ k ∧ k < w.heap.size := by
  rcases hk with rfl | hk
  · exact ⟨h.hB, h.lt⟩
  · obtain ⟨inner, ho⟩ := Kd.R_own h.R
    exact ⟨own_base ho k hk.symm, own_lt ho k hk.symm⟩
theorem WT.refl (h : WK w base B v xs) : WT w w base B v v xs := ⟨h, Chg.refl _ _, fun _ _ h => h⟩
theorem WT.trans (h : WT w w' base B v v' ys) (k : WT w' w2 base B v' v2 zs) : WT w w2 base B v v2 zs :=
  ⟨k.k, ⟨k.chg.os.trans h.chg.os, k.chg.tape.trans h.chg.tape, k.chg.output.trans h.chg.output, Nat.le_trans h.chg.size k.chg.size, fun i hi hn => (k.chg.block i (Nat.lt_of_lt_of_le hi h.chg.size) (fun e => hn (h.fp i hi e))).trans (h.chg.block i hi hn)⟩,
    fun i hi e => h.fp i hi (k.fp i (Nat.lt_of_lt_of_le hi h.chg.size) e)⟩
theorem WT.below (h : WT w w' base B v v' ys) (hk : WK w base B v xs) : Below base w w' := h.chg.below hk.base_le fun k hf => (hk.fp_lt k hf).1
theorem WK.chg (h : WK w base B v xs) {S : Nat → Prop} (hc : Chg w w' S) (hs : ∀ k, FW B v k → ¬ S k) : WK w' base B v xs :=
  ⟨(hc.block B h.lt (hs B (.inl rfl))).trans h.blk, by
    have h1 := Kd.R_bound h.R
    obtain ⟨_, inner, ho, hr⟩ := h.R
    exact ⟨fun _ _ => trivial, inner, own_move ho fun k hk => hc.block k (own_lt ho k hk) (hs k (.inr hk.symm)), hr⟩, h.hB⟩
theorem WK.fresh (h : WK w base B v xs) (hb : Below w.heap.size w w') : WK w' base B v xs := h.chg (S := fun _ => False) (.of_below hb) (fun _ _ h => h)
/-- the row was turned, then its cell -/
theorem WK.put {v1 : Value} (h : WK w base B v xs) (hg : Chg w w' (fun k => some k = v.ownBlock)) (hr : Kd.R (Kd.int .u8) 5 w' base (fun _ => True) v1 ys) (hat : v1.ownBlock = v.ownBlock ∨ ∃ b, v1.ownBlock = some b ∧ w.heap.size ≤ b) :
    WT w (w'.setCell ⟨B, 0, none⟩ v1) base B v v1 ys := by
  have hb : w'.heap[B]? = _ := (hg.block B h.lt h.ne).trans h.blk
  refine ⟨⟨set7 hb 0 v1, Kd.R_set hr hb (fun q hq => by simp at hq; rcases hq with h | h; (simp [h]); cases h) 0 v1, h.hB⟩, ?_, fun k hk hf => ?_⟩
  · exact (hg.mono fun k hk => .inr hk).trans (((Only.refl w' B).set (i := 0) v1).chg fun k hk => .inl hk)
  · rcases hf with hf | hf
    · exact .inl hf
    · rcases hat with hat | ⟨b, hb, hbl⟩
      · exact .inr (hf.trans hat)
      · rw [hb] at hf
        have := Option.some.inj hf
        omega
end
theorem byte_at (n : Int) (j : Nat) (hj : j < 8) : IntKind.u8.wrap (n / 2 ^ (8 * (j : Int)).toNat) = (n / 256 ^ j) % 256 := by
  have e : (8 * (j : Int)).toNat = 8 * j := by omega
  rw [e, Int.pow_mul]
  rfl
theorem info5w : (Try.prog.info? 5).map (fun i => (i.zero, i.size, i.bytes)) = some (some (.int .u8 0), (Kd.int .u8).sz, 1) := by kernel_rfl
theorem WT.drewN {w w' : World} {base B : Nat} {v v' : Value} {ys : List Int} (h : WT w w' base B v v' ys) (n : Nat) : WT w (w'.drewN n) base B v v' ys :=
  ⟨h.k.fresh ⟨rfl, rfl, rfl, Nat.le_refl _, fun _ _ => rfl⟩, ⟨h.chg.os, h.chg.tape, h.chg.output, h.chg.size, h.chg.block⟩, h.fp⟩
theorem R_slice3 {α : Type} {d : Kd α} {e base : Nat} {w : World} {ok : Nat → Prop} {v : Value} {xs : List α} (h : d.R e w base ok v xs) : ∃ A n c, v = .slice A n c := by
  obtain ⟨A, c, e⟩ := Kd.R_slice h
  exact ⟨A, _, c, e⟩
theorem fixed_calls (w : World) (base B : Nat) (v : Value) (xs : List Int) (n : Int) (k : Nat) (h0 : 0 ≤ n) (hn : n < 18446744073709551616) (hk8 : k ≤ 8) (hl : xs.length ≤ 1000000) (h : WK w base B v xs) :
    Calls Try.prog 101 #[.pointer (some ⟨B, 0, none⟩), .int .u64 n, .int .i64 k] w fun e w' => e = .returned (.tuple #[]) ∧ ∃ v', WT w w' base B v v' (xs ++ lowB n k) := by
  have H := Aside0.mk h
  clear h
  go_enter Try.func101, Try.ntmps101
  go_wp2
  go_loopg [6] k (fun kq v6 w' => ∃ (j : Nat) (v' : Value) (f : List Int), v6 = .int .i64 ((j : Int) - 1) ∧ Aside0 (j = kq) ∧ Aside0 (f ++ lowB n j = lowB n k) ∧ Aside0 (j ≤ k) ∧ Aside0 (WT w w' base B v v' (xs ++ f)))
  case atStart => exact ⟨k, v, [], rfl, ⟨rfl⟩, ⟨rfl⟩, ⟨Nat.le_refl _⟩, ⟨by rw [List.append_nil]; exact WT.refl H.out⟩⟩
  case round =>
    obtain ⟨j, v', f, rfl, HJ, HF, HK, HT⟩ := hrel
    cases j with
    | zero =>
      go_wp2
      go_end0
      have hf := HF.out
      simp only [lowB, List.append_nil] at hf
      rw [← hf]
      exact ⟨rfl, v', HT.out⟩
    | succ j =>
      have hj8 : j < 8 := by have := HK.out; omega
      have hc := cells1 HT.out.k.blk
      obtain ⟨q0, f0⟩ := hc
      have q0' : wr.drew.cell? ⟨B, 0, none⟩ = some v' := q0
      have HRd := Aside0.mk (HT.out.k.fresh (Below.refl wr.heap.size wr).drew).R
      have HBs := Aside0.mk HT.out.k.base_le
      have HLf := Aside0.mk (show ((xs ++ f).length + 1) * 1 ≤ 140737488355328 by
        have h1 := congrArg List.length HF.out
        rw [List.length_append, lowB_len, lowB_len] at h1
        rw [List.length_append]
        omega)
      go_wp2
      refine Fork.wp_fork (Fork.Lo.rel 0) [11, 14] [] (.one 0 0 (.one 1 0 (.one 2 0 (.one 3 0 (.one 5 0 (.one 6 0 (.one 7 0 (.one 8 0 (.one 9 0 (.one 4 1 (.one 10 2 (.one 11 2 (.one 12 0 (.one 13 0 (.one 14 2 .nil))))))))))))))) (by kernel_rfl) (by kernel_rfl) ?_
      generalize hops : List.toArray (_ : List Oper) = ops
      have HO := Aside0.mk hops
      clear hops
      iterate 6 ((refine Fork.plain (Fork.at_ HO.out rfl) _ rfl (fun W => by go_simp; exact rfl) ?_); simp only [Act.put, List.setIfInBounds_toArray, List.set_cons_succ, List.set_cons_zero])
      refine Fork.plain (Fork.at_ HO.out rfl) _ rfl (fun W => by have q := IntWalk.i64_in (8 * (j : Int)) (by omega); go_simp; exact rfl) ?_
      simp only [Act.put, List.setIfInBounds_toArray, List.set_cons_succ, List.set_cons_zero]
      iterate 2 ((refine Fork.plain (Fork.at_ HO.out rfl) _ rfl (fun W => by go_simp; exact rfl) ?_); simp only [Act.put, List.setIfInBounds_toArray, List.set_cons_succ, List.set_cons_zero])
      refine Fork.reads (Fork.at_ HO.out rfl) _ rfl (fun W hW => Arr.ex_load1 rfl rfl (by kernel_rfl) (Fork.bel_cell hW (by assumption))) ?_
      simp only [Act.put, List.setIfInBounds_toArray, List.set_cons_succ, List.set_cons_zero]
      refine Fork.step (Fork.at_ HO.out rfl) (fun K hK => ?_)
      go_simp
      refine hK _ _ (.of_new (Below.alloc (Below.refl _ _) (Nat.le_refl _) _) (Nat.zero_le _)) ?_
      clear hK K
      try simp only [Act.put, List.setIfInBounds_toArray, List.set_cons_succ, List.set_cons_zero]
      refine Fork.step (Fork.at_ HO.out rfl) (fun K hK => ?_)
      refine Kd.R_append_step (Kd.int .u8) (W := wr.drew) (w0 := wr.drew) base rfl (.tmp 17) (.tmp 23) 29 5 (.int .u8 0) 1 rfl Try.underlying29 info5w rfl (by decide) (by decide) v' (xs ++ f) _ [.int .u8 _] (fun _ => True) (fun _ => False) rfl rfl rfl (fun _ h => h.elim) (fun _ _ => trivial) HRd.out (Below.refl _ _) HBs.out HLf.out ?_
      intro v1 w4 ho hb hg hat
      refine hK _ _ (.of_old (.zero hg.os hg.tape hg.output) rfl) ?_
      clear hK K
      have hblk4 := cells1 ((hg.block B HT.out.k.lt HT.out.k.ne).trans HT.out.k.blk)
      obtain ⟨r0, g0⟩ := hblk4
      obtain ⟨A1, c1, hv1⟩ := Kd.R_slice ho
      rw [byte_at n j hj8] at ho
      have HR1 := Aside0.mk ho
      have HG1 := Aside0.mk hg
      have HAT := Aside0.mk hat
      generalize (xs ++ f ++ [IntKind.u8.wrap (n / 2 ^ (8 * (j : Int)).toNat)]).length = n1 at hv1
      subst hv1
      clear ho hb hg hat
      try simp only [Act.put, List.setIfInBounds_toArray, List.set_cons_succ, List.set_cons_zero]
      iterate 2 ((refine Fork.plain (Fork.at_ HO.out rfl) _ rfl (fun W => by go_simp; exact rfl) ?_); simp only [Act.put, List.setIfInBounds_toArray, List.set_cons_succ, List.set_cons_zero])
      refine Fork.step (Fork.at_ HO.out rfl) (fun K hK => ?_)
      go_simp
      refine hK _ _ (.of_old (.zero rfl rfl rfl) rfl) ?_
      clear hK K
      try simp only [Act.put, List.setIfInBounds_toArray, List.set_cons_succ, List.set_cons_zero]
      refine Fork.done ?_
      have hcg : Chg wr w4 (fun k => some k = v'.ownBlock) := (Chg.refl wr _).drew.trans (chg_grown HG1.out fun _ h => h)
      have hput := HT.out.k.put hcg HR1.out HAT.out
      obtain ⟨gq, rfl⟩ : ∃ gq, gk = gq + 1 := ⟨j, HJ.out.symm⟩
      obtain rfl : j = gq := by have := HJ.out; omega
      go_wp2
      go_roundg j
      case rel => exact ⟨j, _, f ++ [(n / 256 ^ j) % 256], by go_num, ⟨rfl⟩, ⟨by rw [List.append_assoc]; exact HF.out⟩, ⟨by have := HK.out; omega⟩, ⟨by rw [← List.append_assoc]; exact HT.out.trans hput⟩⟩
      case measure => omega
def encNs (l : List Int) : List Int := l.flatMap encN
theorem encNs_succ (l : List Int) (i : Nat) (n : Int) (h : l[i]? = some n) : encNs (l.take (i + 1)) = encNs (l.take i) ++ encN n := by
  unfold encNs
  rw [List.take_add_one, h, List.flatMap_append]
  simp
theorem encNs_len (l : List Int) : (encNs l).length ≤ 9 * l.length := by
  induction l with
  | nil => simp [encNs]
  | cons n l ih =>
    have := encN_len n
    unfold encNs at ih ⊢
    rw [List.flatMap_cons, List.length_append, List.length_cons]
    omega
set_option maxHeartbeats 1000000 in
theorem wN_calls (w : World) (base B : Nat) (v : Value) (xs l : List Int) (A : Option Addr) (c : Nat) (hn : ∀ n ∈ l, 0 ≤ n ∧ n < 18446744073709551616) (hl : xs.length + 9 * l.length ≤ 900000) (h : WK w base B v xs)
    (hC : ∀ w', Chg w w' (FW B v) → (Kd.int .u64).C w' A l.length l) :
    Calls Try.prog 72 #[.pointer (some ⟨B, 0, none⟩), .slice A l.length c] w fun e w' => e = .returned (.tuple #[]) ∧ ∃ v', WT w w' base B v v' (xs ++ encNs l) := by
  have H := Aside0.mk h
  have HC := Aside0.mk hC
  have HN := Aside0.mk hn
  clear h hC hn
  have hll : l.length ≤ 100000 := by omega
  go_enter Try.func72, Try.ntmps72
  go_wp2
  go_loopg [11] l.length (fun kq v11 w' => ∃ (i : Nat) (v' : Value), v11 = .int .i64 (i : Int) ∧ Aside0 (i + kq = l.length) ∧ Aside0 (WT w w' base B v v' (xs ++ encNs (l.take i))))
  case atStart => exact ⟨0, v, rfl, ⟨by omega⟩, ⟨by rw [List.take_zero]; simp only [encNs, List.flatMap_nil, List.append_nil]; exact WT.refl H.out⟩⟩
  case round =>
    obtain ⟨i, v', rfl, HI, HT⟩ := hrel
    by_cases hi : i < l.length
    · obtain ⟨n, hnn⟩ : ∃ n, l[i]? = some n := ⟨_, List.getElem?_eq_getElem hi⟩
      obtain ⟨hn0, hn1⟩ := HN.out n (List.mem_of_getElem? hnn)
      obtain ⟨ad, e, x0⟩ := Kd.at_int (HC.out wr HT.out.chg) (i : Int) (by omega) (by omega)
      subst e
      rw [show rd l (i : Int) = n by simp [rd, List.getD, hnn], Int.toNat_natCast] at x0
      have HNN := Aside0.mk hnn
      obtain ⟨q0, f0⟩ := cells1 HT.out.k.blk
      have HBs := Aside0.mk HT.out.k.base_le
      have hel := encNs_len (l.take i)
      have htl : (l.take i).length ≤ i := List.length_take_le _ _
      have HLf := Aside0.mk (show ((xs ++ encNs (l.take i)).length + 1) * 1 ≤ 140737488355328 by rw [List.length_append]; omega)
      have HLx := Aside0.mk (show (xs ++ encNs (l.take i)).length + 1 ≤ 1000000 by rw [List.length_append]; omega)
      clear hnn hel htl
      by_cases h128 : n < 128
      · go_wp2_with (first
          | ((with_reducible refine gate_builtin (b := .append) (xs := #[.tmp 21, .tmp 24]) rfl ?_); at_builtin; refine Kd.R_append (Kd.int .u8) (W := wr) (w0 := wr) base rfl (.tmp 21) (.tmp 24) 29 5 (.int .u8 0) 1 rfl Try.underlying29 info5w rfl (by decide) (by decide) v' (xs ++ encNs (l.take i)) _ [.int .u8 _] (fun _ => True) (fun _ => False) rfl rfl rfl (fun _ h => h.elim) (fun _ _ => trivial) HT.out.k.R (Below.refl _ _) HBs.out HLf.out ?_; intro v1 w4 ho hb hg hat; have hput := HT.out.k.put (chg_grown hg fun _ h => h) ho hat; obtain ⟨r0, g0⟩ := cells1 ((hg.block B HT.out.k.lt HT.out.k.ne).trans HT.out.k.blk); obtain ⟨A1, n1, c1, rfl⟩ := R_slice3 ho; have HPUT := Aside0.mk hput; clear hput ho hb hg hat))
        have hk1 := HI.out
        obtain ⟨gq, rfl⟩ : ∃ gq, gk = gq + 1 := ⟨gk - 1, by omega⟩
        go_roundg gq
        case rel => exact ⟨i + 1, _, by go_num, ⟨by omega⟩, ⟨by rw [encNs_succ l i n HNN.out, ← List.append_assoc, show encN n = [n] by unfold encN; rw [if_pos h128]; congr 1; omega]; exact HT.out.trans HPUT.out⟩⟩
        case measure => omega
      · have hs1 := szN_le n
        have hsz := size_f n hn0
        have HSZ := Aside0.mk hsz
        clear hsz
        go_wp2_with (first
          | (go_at_call 100; refine (codec_size.calls 9 n (szN n) _ HSZ.out).mono ?_; rintro e w3 ⟨rfl, hd⟩; obtain ⟨nd, rfl⟩ := hd.out; have HWD := Aside0.mk (HT.out.k.fresh (w' := wr.drewN nd) ⟨rfl, rfl, rfl, Nat.le_refl _, fun _ _ => rfl⟩))
          | ((with_reducible refine gate_builtin (b := .append) (xs := #[.tmp 34, .tmp 38]) rfl ?_); at_builtin; refine Kd.R_append (Kd.int .u8) (W := wr.drewN nd) (w0 := wr.drewN nd) base rfl (.tmp 34) (.tmp 38) 29 5 (.int .u8 0) 1 rfl Try.underlying29 info5w rfl (by decide) (by decide) v' (xs ++ encNs (l.take i)) _ [.int .u8 _] (fun _ => True) (fun _ => False) rfl rfl rfl (fun _ h => h.elim) (fun _ _ => trivial) HWD.out.R (Below.refl _ _) HBs.out HLf.out ?_; intro v1 w4 ho hb hg hat; have hput := HWD.out.put (chg_grown hg fun _ h => h) ho hat; obtain ⟨r0, g0⟩ := cells1 ((hg.block B HWD.out.lt HWD.out.ne).trans HWD.out.blk); obtain ⟨A1, n1, c1, rfl⟩ := R_slice3 ho; have HPUT := Aside0.mk hput; clear hput ho hb hg hat)
          | (go_at_call 101; go_loud (refine (fixed_calls _ base B _ _ n (szN n) hn0 hn1 hs1.2 (by rw [List.length_append]; exact HLx.out) HPUT.out.k).mono ?_); rintro e w5 ⟨rfl, v5, ht⟩; have HT5 := Aside0.mk ht; clear ht))
        have hk1 := HI.out
        obtain ⟨gq, rfl⟩ : ∃ gq, gk = gq + 1 := ⟨gk - 1, by omega⟩
        go_roundg gq
        case rel => exact ⟨i + 1, v5, by go_num, ⟨by omega⟩, ⟨by
          have h1 := ((HT.out.drewN nd).trans HPUT.out).trans HT5.out
          rw [encNs_succ l i n HNN.out, ← List.append_assoc, show encN n = (128 + (szN n : Int)) :: lowB n (szN n) by unfold encN; rw [if_neg (by omega)]]
          simpa using h1⟩⟩
        case measure => omega
    · have hi0 := HI.out
      obtain rfl : gk = 0 := by omega
      obtain rfl : i = l.length := by omega
      clear hi0
      have hm : ¬ ((l.length : Int) < (l.length : Int)) := by omega
      go_wp2
      go_end0
      have := HT.out
      rw [List.take_length] at this
      exact ⟨rfl, v', this⟩
theorem clone_none (w : World) : Calls Try.prog 69 #[.slice none 0 0] w fun e w' => e = .returned (.slice none 0 0) ∧ w = w' := by
  have hq := run_eql_slice_nil29 w none 0 0
  simp only [Option.isNone_none] at hq
  go_enter Try.func69, Try.ntmps69
  go_wp2
  go_ret
  exact ⟨rfl, rfl⟩
/-- slices.Clone of any bytes -/
theorem clone_any (w : World) (A : Option Addr) (c : Nat) (b : List Int) (hl : b.length ≤ 1000000) (hn : A = none → b.length = 0 ∧ c = 0) (hC : (Kd.int .u8).C w A b.length b) :
    Calls Try.prog 69 #[.slice A b.length c] w fun e w' => ∃ A' c', e = .returned (.slice A' b.length c') ∧ Kd.R (Kd.int .u8) 5 w' w.heap.size (fun k => w.heap.size ≤ k) (.slice A' b.length c') b ∧ Below w.heap.size w w' := by
  cases A with
  | none =>
    obtain ⟨h1, rfl⟩ := hn rfl
    obtain rfl : b = [] := List.eq_nil_of_length_eq_zero h1
    refine (clone_none w).mono ?_
    rintro e w' ⟨rfl, rfl⟩
    exact ⟨none, 0, rfl, Kd.R_nil _ _ _ _ _, Below.refl _ _⟩
  | some ad =>
    refine (clone_calls w ad c b hl hC).mono ?_
    rintro e w' ⟨v, rfl, hR, hb⟩
    obtain ⟨A', c', rfl⟩ := Kd.R_slice hR
    exact ⟨A', c', rfl, Kd.R_mono (Kd.R_bound hR) (fun k hk => hk.2.1), hb⟩
theorem own_none {w : World} {base e size n c m : Nat} {xs : List Value} {A : Option Addr} (h : w.ownsRow base e size (.slice A n c) m xs) (hA : A = none) : n = 0 ∧ c = 0 := by
  rcases h.2 with ⟨he, _⟩ | ⟨g, cap, cur, he, _⟩
  · injection he with _ h1 h2; exact ⟨h1, h2⟩
  · injection he with h1 _ _; rw [hA] at h1; cases h1
theorem wBytes_calls (w : World) (base B : Nat) (v : Value) (xs : List Int) (hl : xs.length ≤ 1000000) (h : WK w base B v xs) :
    Calls Try.prog 73 #[.pointer (some ⟨B, 0, none⟩)] w fun e w' => ∃ A c, e = .returned (.slice A xs.length c) ∧ Kd.R (Kd.int .u8) 5 w' w.heap.size (fun k => w.heap.size ≤ k) (.slice A xs.length c) xs ∧ Below w.heap.size w w' := by
  obtain ⟨q0, f0⟩ := cells1 h.blk
  obtain ⟨A, c, hv⟩ := Kd.R_slice h.R
  subst hv
  have HC := Aside0.mk (Kd.R_reads' h.R).2.2
  obtain ⟨inner, ho⟩ := Kd.R_own h.R
  have HN := Aside0.mk (fun hA => own_none ho hA)
  have HL := Aside0.mk hl
  clear ho h hl
  go_enter Try.func73, Try.ntmps73
  go_wp2_with (first | (go_at_call 69; refine (clone_any w A c xs HL.out HN.out HC.out).mono ?_; rintro e w2 ⟨A2, c2, rfl, hr, hb⟩; have HR := Aside0.mk hr; have HB := Aside0.mk hb; clear hr hb))
  go_ret
  exact ⟨A2, c2, rfl, HR.out, HB.out⟩
end Go.Proofs.Ytlepcmljmibdnaa
