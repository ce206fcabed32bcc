/- Parts of one proof, joined: Fork, Wd, Rka, Mp, Arr. Conditions: those of each statement. -/
import Derived.Test.YtdjjlmphifgnnaaGreatCc4
import Derived.Test.YtdjjlmphifgnnaaGreatWMore
import Derived.Test.YtdjjlmphifgnnaaGreatCc0
import Derived.MapFrom
import Derived.Below
import Derived.Laws.CopyOwn
import Derived.Laws.StructEq
import Derived.ChangeKeysEq
namespace Go.Fork
open Go.RowKit Go.Calm
inductive Tr where
  | nil
  | one (i k : Nat) (t : Tr)
  | two (i : Nat) (t : Tr) (j : Nat) (t' : Tr)
def Tr.len : Tr → Nat
  | .nil => 0
  | .one _ _ t => t.len + 1
  | .two _ t _ _ => t.len + 1
/-- below b all is as it was -/
structure Lo (b : Nat) (w w' : World) : Prop where
  os : w'.os = w.os
  tape : w'.tape = w.tape
  output : w'.output = w.output
  size : b ≤ w.heap.size → b ≤ w'.heap.size
  block : ∀ k, k < b → w'.heap[k]? = w.heap[k]?
theorem Lo.refl (b : Nat) (w : World) : Lo b w w := ⟨rfl, rfl, rfl, id, fun _ _ => rfl⟩
theorem Lo.trans {b : Nat} {a w w' : World} (h : Lo b a w) (k : Lo b w w') : Lo b a w' := ⟨k.os.trans h.os, k.tape.trans h.tape, k.output.trans h.output, fun e => k.size (h.size e), fun i hi => (k.block i hi).trans (h.block i hi)⟩
theorem Lo.of_below {b : Nat} {w w' : World} (h : Below b w w') : Lo b w w' := ⟨h.os, h.tape, h.output, fun e => Nat.le_trans e h.size, h.block⟩
theorem Lo.below {w w' : World} (h : Lo w.heap.size w w') : Below w.heap.size w w' := ⟨h.os, h.tape, h.output, h.size (Nat.le_refl _), h.block⟩
theorem Lo.zero {w w' : World} (h1 : w'.os = w.os) (h2 : w'.tape = w.tape) (h3 : w'.output = w.output) : Lo 0 w w' := ⟨h1, h2, h3, fun _ => Nat.zero_le _, fun _ hk => absurd hk (Nat.not_lt_zero _)⟩
structure Rel (G : World → World → Prop) : Prop where
  refl : ∀ w, G w w
  trans : ∀ {a b c}, G a b → G b c → G a c
theorem Lo.rel (b : Nat) : Rel (Lo b) := ⟨Lo.refl b, fun h k => h.trans k⟩
/-- what an operation that acts may do to memory: what G lets it, unless it is one of ys; if it is none of the writers xs, only grow it -/
structure Grow (G : World → World → Prop) (xs ys : List Nat) (i : Nat) (w w' : World) : Prop where
  low : i ∉ ys → G w w'
  new : i ∉ xs → Below w.heap.size w w'
theorem Grow.of_new {b : Nat} {xs ys : List Nat} {i : Nat} {w w' : World} (h : Below w.heap.size w w') (hb : b ≤ w.heap.size) : Grow (Lo b) xs ys i w w' := ⟨fun _ => .of_below (h.mono hb), fun _ => h⟩
theorem Grow.of_any {G : World → World → Prop} {xs ys : List Nat} {i : Nat} {w w' : World} (hx : xs.contains i = true) (hy : ys.contains i = true) : Grow G xs ys i w w' := ⟨fun hn => absurd (by simpa using hy) hn, fun hn => absurd (by simpa using hx) hn⟩
theorem Grow.of_old {G : World → World → Prop} {xs ys : List Nat} {i : Nat} {w w' : World} (h : G w w') (hx : xs.contains i = true) : Grow G xs ys i w w' := ⟨fun _ => h, fun hn => absurd (by simpa using hx) hn⟩
def Hold (G : World → World → Prop) (k : Nat) (w W : World) : Prop := k = 0 ∨ (k = 1 ∧ Below w.heap.size w W) ∨ (k = 3 ∧ G w W)
section
variable {P : Program} {md : Region.Mode} {ops : Array Oper} {Q : Exit → Act → World → Prop} {G : World → World → Prop} {xs ys : List Nat}
theorem Hold.refl (hG : Rel G) {k : Nat} (h : k = 0 ∨ k = 1 ∨ k = 3) (w : World) : Hold G k w w := by
  rcases h with h | h | h
  · exact .inl h
  · exact .inr (.inl ⟨h, Below.refl _ _⟩)
  · exact .inr (.inr ⟨h, hG.refl _⟩)
theorem Hold.next (hG : Rel G) {k : Nat} {w w1 W : World} (hb : k = 0 ∨ (k = 3 ∧ G w w1) ∨ (k ≠ 3 ∧ Below w.heap.size w w1)) (h : Hold G k w1 W) : Hold G k w W := by
  rcases h with h | ⟨h, h'⟩ | ⟨h, h'⟩
  · exact .inl h
  · subst h
    have hb := ((hb.resolve_left (by decide)).resolve_left (by rintro ⟨h, _⟩; cases h)).2
    exact .inr (.inl ⟨rfl, hb.trans (h'.mono hb.size)⟩)
  · subst h
    rcases hb with hb | ⟨_, hb⟩ | ⟨hb, _⟩
    · cases hb
    · exact .inr (.inr ⟨rfl, hG.trans hb h'⟩)
    · exact absurd rfl hb
theorem yields_next (hG : Rel G) {k : Nat} {w w1 : World} {o : Oper} {v : Value} {a : Act} (hb : k = 0 ∨ (k = 3 ∧ G w w1) ∨ (k ≠ 3 ∧ Below w.heap.size w w1)) (h : YieldsIf P ops (Hold G k w) o v a) : YieldsIf P ops (Hold G k w1) o v a :=
  h.imp (fun ⟨h1, h2⟩ => ⟨h1, fun W hW => h2 W (Hold.next hG hb hW)⟩) id
def wpAnyG (P : Program) (md : Region.Mode) (ops : Array Oper) (Q : Exit → Act → World → Prop) (G : World → World → Prop) (xs ys : List Nat) : Nat → Array Bool → Act → World → Prop
  | 0, listed, a, w => Region.ready md ops listed = [] ∧ Q .normal a w
  | fuel + 1, listed, a, w =>
    (Region.ready md ops listed = [] → Q .normal a w) ∧
    ∀ i ∈ Region.ready md ops listed, wpOp P ops Q i (fun a' w' => Grow G xs ys i w w' ∧ wpAnyG P md ops Q G xs ys fuel (listed.setIfInBounds i true) a' w') a w
theorem wpAny_of_G : ∀ (fuel : Nat) (listed : Array Bool) (a : Act) (w : World), wpAnyG P md ops Q G xs ys fuel listed a w → wpAny P md ops Q fuel listed a w
  | 0, _, _, _, h => h
  | fuel + 1, _, _, _, h => ⟨h.1, fun i hi => wpOp_mono (fun a' w' h' => wpAny_of_G fuel _ a' w' h'.2) (h.2 i hi)⟩
theorem first (hG : Rel G) {i : Nat} {oi : Oper} {v : Value} {kd : Nat} (hkd : kd = 0 ∨ kd = 1 ∨ kd = 3) (hi : ops[i]? = some oi) (hsel : ∀ (j : Nat) (o : Oper) cs b, ops[j]? = some o → o.op ≠ .select cs b)
    (hQ : ∀ c a w, Q (.panic c) (a.put oi.dst v) w → Q (.panic c) a w) (hix : i ∉ xs) (n : Nat) :
    ∀ (fuel : Nat) (listed : Array Bool) (a : Act) (w : World), Closed md ops listed →
      (kd = 0 ∨ (kd = 3 ∧ ∀ j ∈ ys, listed.getD j true = false → waitsT md ops n j i = true) ∨ (kd ≠ 3 ∧ ∀ j ∈ xs, listed.getD j true = false → waitsT md ops n j i = true)) →
      (∀ j oj, ops[j]? = some oj → j ≠ i → listed.getD j true = false → (∀ e ∈ oj.after, Region.binds md e = true → e.on ≠ i) → oi.apart ops oj = true) →
      i ∈ Region.ready md ops listed → YieldsIf P ops (Hold G kd w) oi v a →
      wpAnyG P md ops Q G xs ys fuel (listed.setIfInBounds i true) (a.put oi.dst v) w → wpAnyG P md ops Q G xs ys (fuel + 1) listed a w := by
  intro fuel
  induction fuel with
  | zero =>
    intro listed a w _ _ _ hr hy H
    refine ⟨fun h => (by rw [h] at hr; cases hr), fun j hj => ?_⟩
    by_cases hji : j = i
    · subst hji; exact hy.wpOp hi (Hold.refl hG hkd _) ⟨⟨fun _ => hG.refl _, fun _ => Below.refl _ _⟩, H⟩
    · have := ready_mono hj hji
      rw [H.1] at this
      cases this
  | succ fuel ih =>
    intro listed a w hcl hX hfree hr hy H
    refine ⟨fun h => (by rw [h] at hr; cases hr), fun j hj => ?_⟩
    by_cases hji : j = i
    · subst hji; exact hy.wpOp hi (Hold.refl hG hkd _) ⟨⟨fun _ => hG.refl _, fun _ => Below.refl _ _⟩, H⟩
    · have h1 := H.2 j (ready_mono hj hji)
      obtain ⟨hjun, oj, hoj, hall⟩ := mem_ready.1 hj
      have hiun : listed.getD i false = false := by
        have h0 := (mem_ready.1 hr).1
        rcases Nat.lt_or_ge i listed.size with h' | h'
        · simp [h'] at h0 ⊢; exact h0
        · simp [Array.getElem?_eq_none h']
      have hnot : ∀ e ∈ oj.after, Region.binds md e = true → e.on ≠ i := fun e he hb heq => by
        have h1 := hall e he hb
        rw [heq, hiun] at h1
        cases h1
      have hgrow : ∀ w', Grow G xs ys j w w' → (kd = 0 ∨ (kd = 3 ∧ G w w') ∨ (kd ≠ 3 ∧ Below w.heap.size w w')) := fun w' hw' => by
        rcases hX with hX | ⟨h3, hX⟩ | ⟨h3, hX⟩
        · exact .inl hX
        · refine .inr (.inl ⟨h3, hw'.low fun hjx => ?_⟩)
          have := waits_ready hcl hj (hX j hjx hjun)
          rw [hiun] at this
          cases this
        · refine .inr (.inr ⟨h3, hw'.new fun hjx => ?_⟩)
          have := waits_ready hcl hj (hX j hjx hjun)
          rw [hiun] at this
          cases this
      have h2 := wpOp_putIf hoj (hfree j oj hoj hji hjun hnot) (fun cs b => hsel i oi cs b hi) (fun cs b => hsel j oj cs b hoj) hQ hy h1
      have hfree' : ∀ k ok, ops[k]? = some ok → k ≠ i → (listed.setIfInBounds j true).getD k true = false →
          (∀ e ∈ ok.after, Region.binds md e = true → e.on ≠ i) → oi.apart ops ok = true := fun k ok hk hki hun hno => by
        refine hfree k ok hk hki ?_ hno
        by_cases hjk : j = k
        · subst hjk; exact hjun
        · rw [getD_set_ne true hjk] at hun; exact hun
      have hun' : ∀ k, (listed.setIfInBounds j true).getD k true = false → listed.getD k true = false := fun k hun => by
        by_cases hjk : j = k
        · subst hjk; exact hjun
        · rw [getD_set_ne true hjk] at hun; exact hun
      have hX' : kd = 0 ∨ (kd = 3 ∧ ∀ k ∈ ys, (listed.setIfInBounds j true).getD k true = false → waitsT md ops n k i = true) ∨ (kd ≠ 3 ∧ ∀ k ∈ xs, (listed.setIfInBounds j true).getD k true = false → waitsT md ops n k i = true) :=
        hX.imp id fun h => h.imp (fun h => ⟨h.1, fun k hk hun => h.2 k hk (hun' k hun)⟩) (fun h => ⟨h.1, fun k hk hun => h.2 k hk (hun' k hun)⟩)
      refine wpOp_mono (fun a' w' h3 => ⟨h3.2.1, ih (listed.setIfInBounds j true) a' w' (hcl.set hj) hX' hfree' (ready_mono hr (Ne.symm hji)) (yields_next hG (hgrow w' h3.2.1) h3.1) ?_⟩) h2
      rw [Array.setIfInBounds_comm _ _ hji]
      exact h3.2.2

def wpT (P : Program) (ops : Array Oper) (Q : Exit → Act → World → Prop) (G : World → World → Prop) (xs ys : List Nat) : Tr → Act → World → Prop
  | .nil, a, w => Q .normal a w
  | .one i 2 t, a, w => wpOp P ops Q i (fun a' w' => Grow G xs ys i w w' ∧ wpT P ops Q G xs ys t a' w') a w
  | .one i k t, a, w => ∃ o v, ops[i]? = some o ∧ YieldsIf P ops (Hold G k w) o v a ∧ wpT P ops Q G xs ys t (a.put o.dst v) w
  | .two i t j t', a, w => wpOp P ops Q i (fun a' w' => Grow G xs ys i w w' ∧ wpT P ops Q G xs ys t a' w') a w ∧ wpOp P ops Q j (fun a' w' => Grow G xs ys j w w' ∧ wpT P ops Q G xs ys t' a' w') a w
def okT (md : Region.Mode) (ops : Array Oper) (xs ys : List Nat) : Array Bool → Tr → Bool
  | listed, .nil => (Region.ready md ops listed).isEmpty
  | listed, .one i 2 t => Region.ready md ops listed == [i] && okT md ops xs ys (listed.setIfInBounds i true) t
  | listed, .one i k t => (Region.ready md ops listed).contains i && Region.free md ops listed i && !xs.contains i &&
      (k == 0 || k == 3 && (ys.all fun j => listed.getD j true || waitsT md ops ops.size j i) || k == 1 && xs.all fun j => listed.getD j true || waitsT md ops ops.size j i) && okT md ops xs ys (listed.setIfInBounds i true) t
  | listed, .two i t j t' => Region.ready md ops listed == [i, j] && t.len == t'.len && okT md ops xs ys (listed.setIfInBounds i true) t && okT md ops xs ys (listed.setIfInBounds j true) t'
theorem anyG_of_wpT (hG : Rel G) (hs : Region.noSelect ops = true) (hQ : ∀ c a w, ¬ Q (.panic c) a w) : ∀ (l : Tr) (listed : Array Bool) (a : Act) (w : World), Closed md ops listed →
    okT md ops xs ys listed l = true → wpT P ops Q G xs ys l a w → wpAnyG P md ops Q G xs ys l.len listed a w
  | .nil, listed, a, w, _, hB, h => ⟨by simpa [okT] using hB, h⟩
  | .two i t j t', listed, a, w, hc, hB, h => by
    simp only [okT, Bool.and_eq_true, beq_iff_eq] at hB
    obtain ⟨⟨⟨hr, hl⟩, h1⟩, h2⟩ := hB
    have hi : i ∈ Region.ready md ops listed := by rw [hr]; simp
    have hj : j ∈ Region.ready md ops listed := by rw [hr]; simp
    refine ⟨fun h0 => (by rw [h0] at hi; cases hi), fun m hm => ?_⟩
    rw [hr] at hm
    simp only [List.mem_cons, List.not_mem_nil, or_false] at hm
    rcases hm with rfl | rfl
    · exact wpOp_mono (fun a' w' h' => ⟨h'.1, anyG_of_wpT hG hs hQ t _ a' w' (hc.set hi) h1 h'.2⟩) h.1
    · refine wpOp_mono (fun a' w' h' => ⟨h'.1, ?_⟩) h.2
      have := anyG_of_wpT hG hs hQ t' _ a' w' (hc.set hj) h2 h'.2
      rw [← hl] at this
      exact this
  | .one i k rest, listed, a, w, hc, hB, h => by
    by_cases hk : k = 2
    · subst hk
      simp only [okT, Bool.and_eq_true, beq_iff_eq] at hB
      have hi : i ∈ Region.ready md ops listed := by rw [hB.1]; simp
      refine ⟨fun h0 => (by rw [h0] at hi; cases hi), fun j hj => ?_⟩
      rw [hB.1] at hj
      obtain rfl : j = i := by simpa using hj
      exact wpOp_mono (fun a' w' h' => ⟨h'.1, anyG_of_wpT hG hs hQ rest _ a' w' (hc.set hi) hB.2 h'.2⟩) h
    · have hB' : (((Region.ready md ops listed).contains i && Region.free md ops listed i && !xs.contains i &&
          (k == 0 || k == 3 && (ys.all fun j => listed.getD j true || waitsT md ops ops.size j i) || k == 1 && xs.all fun j => listed.getD j true || waitsT md ops ops.size j i)) && okT md ops xs ys (listed.setIfInBounds i true) rest) = true := by
        match k, hk, hB with
        | 0, _, hB => exact hB
        | 1, _, hB => exact hB
        | k + 3, _, hB => exact hB
      have h' : ∃ o v, ops[i]? = some o ∧ YieldsIf P ops (Hold G k w) o v a ∧ wpT P ops Q G xs ys rest (a.put o.dst v) w := by
        match k, hk, h with
        | 0, _, h => exact h
        | 1, _, h => exact h
        | k + 3, _, h => exact h
      simp only [Bool.and_eq_true, Bool.not_eq_true', Bool.or_eq_true] at hB'
      obtain ⟨⟨⟨⟨h1, h2⟩, h3⟩, h4⟩, h5⟩ := hB'
      obtain ⟨o, v, ho, hy, hr⟩ := h'
      have hi : i ∈ Region.ready md ops listed := by simpa using h1
      simp only [beq_iff_eq] at h4
      have hkd : k = 0 ∨ k = 1 ∨ k = 3 := by
        rcases h4 with (h4 | ⟨h4, _⟩) | ⟨h4, _⟩
        · exact .inl h4
        · exact .inr (.inr h4)
        · exact .inr (.inl h4)
      have hw : ∀ zs : List Nat, (zs.all fun j => listed.getD j true || waitsT md ops ops.size j i) = true → ∀ j ∈ zs, listed.getD j true = false → waitsT md ops ops.size j i = true := fun zs h j hj hun => by
        have := List.all_eq_true.1 h j hj
        simpa [hun] using this
      refine first hG hkd ho (Region.noSelect_spec hs) (fun c a w hp => absurd hp (hQ c _ w)) (by simpa using h3) ops.size rest.len listed a w hc ?_ (Region.free_spec ho h2) hi hy
        (anyG_of_wpT hG hs hQ rest _ _ w (hc.set hi) h5 hr)
      rcases h4 with (h4 | ⟨h4, h4'⟩) | ⟨h4, h4'⟩
      · exact .inl h4
      · exact .inr (.inl ⟨h4, hw ys h4'⟩)
      · exact .inr (.inr ⟨by rw [h4]; decide, hw xs h4'⟩)
/-- THE LAW. -/
theorem wp_fork {id : Nat} {a : Act} {w : World} {os : List Oper} {G : World → World → Prop} (hG : Rel G) (xs ys : List Nat) (l : Tr) (hm : P.follows .mixedOrders = true)
    (hB : (Region.noSelect os.toArray && l.len == os.length && okT .any os.toArray xs ys (Array.replicate os.length false) l) = true)
    (h : wpT P os.toArray (NoPanic Q) G xs ys l a w.drew) : (Code.region id os.toArray true).wp P Q a w := by
  simp only [Bool.and_eq_true, beq_iff_eq] at hB
  refine wp_region_noPanic (wp_region_any hm ?_)
  have h1 := anyG_of_wpT (md := .any) hG hB.1.1 (fun c a w hp => hp) l (Array.replicate os.length false) a w.drew (closed_none _) hB.2 h
  have h2 := wpAny_of_G _ _ _ _ h1
  rw [hB.1.2] at h2
  simpa using h2
end
set_option linter.unusedSimpArgs false
section
variable {P : Program} {ops : Array Oper} {Q : Exit → Act → World → Prop} {G : World → World → Prop} {xs ys : List Nat} {a : Act} {w : World} {i : Nat} {rest : Tr}
theorem done (h : Q .normal a w) : wpT P ops (NoPanic Q) G xs ys .nil a w := h
theorem plain {o : Oper} (ho : ops[i]? = some o) (v : Value) (hw : Region.wanted o (yielded ops a.tmps) = true) (hr : ∀ W, (execOp a.eval o).run P W = .ok (.value v) W)
    (h : wpT P ops Q G xs ys rest (a.put o.dst v) w) : wpT P ops Q G xs ys (.one i 0 rest) a w := ⟨o, v, ho, .inl ⟨hw, fun W _ => hr W⟩, h⟩
theorem reads {o : Oper} (ho : ops[i]? = some o) (v : Value) (hw : Region.wanted o (yielded ops a.tmps) = true) (hr : ∀ W, Below w.heap.size w W → (execOp a.eval o).run P W = .ok (.value v) W)
    (h : wpT P ops Q G xs ys rest (a.put o.dst v) w) : wpT P ops Q G xs ys (.one i 1 rest) a w :=
  ⟨o, v, ho, .inl ⟨hw, fun W hW => hr W (by rcases hW with h | ⟨_, h⟩ | ⟨h, _⟩; (cases h); exact h; cases h)⟩, h⟩
theorem olds {o : Oper} (ho : ops[i]? = some o) (v : Value) (hw : Region.wanted o (yielded ops a.tmps) = true) (hr : ∀ W, G w W → (execOp a.eval o).run P W = .ok (.value v) W)
    (h : wpT P ops Q G xs ys rest (a.put o.dst v) w) : wpT P ops Q G xs ys (.one i 3 rest) a w :=
  ⟨o, v, ho, .inl ⟨hw, fun W hW => hr W (by rcases hW with h | ⟨h, _⟩ | ⟨_, h⟩; (cases h); (cases h); exact h)⟩, h⟩
theorem op {o : Oper} {J : Act → World → Prop} (ho : ops[i]? = some o)
    (h : ∀ K : Act → World → Prop, (∀ a' w', Grow G xs ys i w w' → J a' w' → K a' w') → if Region.wanted o (yielded ops a.tmps) = true then o.wp P a w K Q else K (a.put o.dst undef) w) :
    wpOp P ops Q i (fun a' w' => Grow G xs ys i w w' ∧ J a' w') a w := by
  unfold wpOp
  simp only [ho]
  by_cases hw : Region.wanted o (yielded ops a.tmps) = true
  · have := h (fun a' w' => Grow G xs ys i w w' ∧ J a' w') (fun a' w' h1 h2 => ⟨h1, h2⟩)
    rw [if_pos hw] at this ⊢
    exact .inl this
  · have := h (fun a' w' => Grow G xs ys i w w' ∧ J a' w') (fun a' w' h1 h2 => ⟨h1, h2⟩)
    rw [if_neg hw] at this ⊢
    exact this
theorem step {o : Oper} (ho : ops[i]? = some o)
    (h : ∀ K : Act → World → Prop, (∀ a' w', Grow G xs ys i w w' → wpT P ops Q G xs ys rest a' w' → K a' w') → if Region.wanted o (yielded ops a.tmps) = true then o.wp P a w K Q else K (a.put o.dst undef) w) :
    wpT P ops Q G xs ys (.one i 2 rest) a w := op ho h
end
theorem at_ {l : List Oper} {ops : Array Oper} {i : Nat} {o : Oper} (h : l.toArray = ops) (e : l[i]? = some o) : ops[i]? = some o := by subst h; simpa using e
theorem bel_cell {w W : World} {p : Addr} {v : Value} (h : Below w.heap.size w W) (hc : w.cell? p = some v) : W.cell? p = some v := (h.cell (block_lt_of_cell hc)).trans hc
end Go.Fork
namespace Go.Proofs.YtdjjlmphifgnnaaGreat
open Go.RowKit Go.Proofs.YtdjjlmphifgnnaaGreatW.PrintWords Go.Proofs.YtdjjlmphifgnnaaGreatW.PrintLast Go.Proofs.YtdjjlmphifgnnaaGreatW.PrintMore
/-- a word of 64 bits -/
structure W64 where
  b : Nat
  lt : b < 18446744073709551616
instance : Inhabited W64 := ⟨⟨0, by decide⟩⟩
theorem W64.ext {x y : W64} (h : x.b = y.b) : x = y := by cases x; cases y; cases h; rfl
instance : DecidableEq W64 := fun x y => if h : x.b = y.b then .isTrue (W64.ext h) else .isFalse (fun e => h (by rw [e]))
/-- floats in memory -/
def kF : Kd W64 := Kd.scalar (fun x : W64 => .float .f64 x.b) (fun _ => rfl)
end Go.Proofs.YtdjjlmphifgnnaaGreat
namespace Go.Proofs.YtdjjlmphifgnnaaGreat
open Go.RowKit Go.Sort Go.Proofs.YtdjjlmphifgnnaaGreatW.PrintWords Go.Proofs.YtdjjlmphifgnnaaGreatW.PrintLast Go.Proofs.YtdjjlmphifgnnaaGreatW.PrintMore
open Flt (nanP canP keyP)
set_option linter.unusedVariables false
set_option linter.unusedSimpArgs false
/-- a task; what it has of tags is left open -/
structure Tk (τ : Type) where
  id : Nat
  list : Nat
  title : ByteArray
  done : Bool
  rank : W64
  est : W64
  tags : τ
instance {τ : Type} [Inhabited τ] : Inhabited (Tk τ) := ⟨⟨0, 0, .empty, false, default, default, default⟩⟩
def Tk.map {τ σ : Type} (f : τ → σ) (x : Tk τ) : Tk σ := ⟨x.id, x.list, x.title, x.done, x.rank, x.est, f x.tags⟩
def tkC (x : Tk Value) : List Value := [.int .u64 (x.id : Int), .int .u64 (x.list : Int), .string x.title, .bool x.done, .float .f64 x.rank.b, .float .f64 x.est.b, x.tags]
def cmpI (x y : Nat) : Int := if x < y then -1 else if y < x then 1 else 0
def ordI {τ : Type} (x y : Tk τ) : Int := if cmpI (keyP x.rank.b) (keyP y.rank.b) = 0 then cmpI x.id y.id else cmpI (keyP x.rank.b) (keyP y.rank.b)
theorem cmpI_neg (x y : Nat) : cmpI x y < 0 ↔ x < y := by unfold cmpI; split <;> (try split) <;> omega
theorem cmpI_zero (x y : Nat) : cmpI x y = 0 ↔ x = y := by unfold cmpI; split <;> (try split) <;> omega
theorem ordI_neg {τ : Type} (x y : Tk τ) : ordI x y < 0 ↔ keyP x.rank.b < keyP y.rank.b ∨ (keyP x.rank.b = keyP y.rank.b ∧ x.id < y.id) := by
  unfold ordI
  split
  · next h => rw [cmpI_zero] at h; rw [cmpI_neg]; omega
  · next h => rw [cmpI_zero] at h; rw [cmpI_neg]; omega
/-- what stands not behind another one -/
def tle {τ : Type} (x y : Tk τ) : Bool := leOf ordI x y
theorem tle_iff {τ : Type} (x y : Tk τ) : tle x y = true ↔ keyP x.rank.b < keyP y.rank.b ∨ (keyP x.rank.b = keyP y.rank.b ∧ x.id ≤ y.id) := by
  unfold tle leOf
  rw [Bool.not_eq_true', decide_eq_false_iff_not, ordI_neg]
  omega
theorem tle_pre {τ : Type} : Stb.Pre (leOf (ordI (τ := τ))) where
  tot := fun a b => by
    show tle a b = true ∨ tle b a = true
    rw [tle_iff, tle_iff]
    omega
  tr := fun a b c h1 h2 => by
    have h1 := (tle_iff a b).1 h1
    have h2 := (tle_iff b c).1 h2
    exact (tle_iff a c).2 (by omega)
set_option maxHeartbeats 1000000 in
theorem isnan_calls (x : Nat) (w : World) : Calls Tryz.prog 39 #[.int .u64 (x : Int)] w fun e w' => e = .returned (.bool false) ∧ Drawn0 w w' := by
  go_enter Tryz.func39, Tryz.ntmps39
  go_wp2
  go_ret
  exact ⟨rfl, Drawn0.refl _⟩
set_option maxHeartbeats 1000000 in
theorem compare_calls (x y : Nat) (w : World) : Calls Tryz.prog 20 #[.int .u64 (x : Int), .int .u64 (y : Int)] w fun e w' => e = .returned (.int .i64 (cmpI x y)) ∧ Drawn0 w w' := by
  have HA := Aside0.mk (fun w => isnan_calls x w)
  have HB := Aside0.mk (fun w => isnan_calls y w)
  rcases Nat.lt_trichotomy x y with h | h | h
  · have HC : Aside0 (cmpI x y = -1) := ⟨by unfold cmpI; rw [if_pos h]⟩
    go_enter Tryz.func20, Tryz.ntmps20
    go_wp2_with (first
      | (go_at_call 39; refine Calls.mono (HA.out _) ?_; rintro e w1 ⟨rfl, hd⟩; have D1 := Aside0.mk hd; clear hd HA)
      | (go_at_call 39; refine Calls.mono (HB.out _) ?_; rintro e w2 ⟨rfl, hd⟩; have D2 := Aside0.mk hd; clear hd HB))
    go_ret
    exact ⟨by rw [HC.out]; rfl, drawn_trans D1.out D2.out⟩
  · subst h
    have HC : Aside0 (cmpI x x = 0) := ⟨by unfold cmpI; rw [if_neg (by omega), if_neg (by omega)]⟩
    go_enter Tryz.func20, Tryz.ntmps20
    go_wp2_with (first
      | (go_at_call 39; refine Calls.mono (HA.out _) ?_; rintro e w1 ⟨rfl, hd⟩; have D1 := Aside0.mk hd; clear hd HA)
      | (go_at_call 39; refine Calls.mono (HB.out _) ?_; rintro e w2 ⟨rfl, hd⟩; have D2 := Aside0.mk hd; clear hd HB))
    go_ret
    exact ⟨by rw [HC.out]; rfl, drawn_trans D1.out D2.out⟩
  · have h1 : ¬ x < y := by omega
    have HC : Aside0 (cmpI x y = 1) := ⟨by unfold cmpI; rw [if_neg (by omega), if_pos h]⟩
    go_enter Tryz.func20, Tryz.ntmps20
    go_wp2_with (first
      | (go_at_call 39; refine Calls.mono (HA.out _) ?_; rintro e w1 ⟨rfl, hd⟩; have D1 := Aside0.mk hd; clear hd HA)
      | (go_at_call 39; refine Calls.mono (HB.out _) ?_; rintro e w2 ⟨rfl, hd⟩; have D2 := Aside0.mk hd; clear hd HB))
    go_ret
    exact ⟨by rw [HC.out]; rfl, drawn_trans D1.out D2.out⟩
set_option maxHeartbeats 1000000 in
theorem or_calls (x y : Int) (c cap : Nat) (w : World) (h0 : w.cell? ⟨c, 0, none⟩ = some (.int .i64 x)) (h1 : w.cell? ⟨c, 1, none⟩ = some (.int .i64 y)) : Calls Tryz.prog 19 #[.slice (some ⟨c, 0, none⟩) 2 cap] w fun e w' => e = .returned (.int .i64 (if x = 0 then y else x)) ∧ Drawn0 w w' := by
  by_cases hx : x = 0
  · subst hx
    by_cases hy : y = 0
    · subst hy
      go_enter Tryz.func19, Tryz.ntmps19
      go_wp2
      refine wp_loop_rounds 3 ?_
      rw [rounds_succ]
      go_wp2
      rw [rounds_succ]
      go_wp2
      rw [rounds_succ]
      go_wp2
      go_ret
      exact ⟨rfl, Drawn0.refl _⟩
    · skip
      go_enter Tryz.func19, Tryz.ntmps19
      go_wp2
      refine wp_loop_rounds 2 ?_
      rw [rounds_succ]
      go_wp2
      rw [rounds_succ]
      go_wp2
      go_ret
      exact ⟨rfl, Drawn0.refl _⟩
  · have HX := Aside0.mk hx
    go_enter Tryz.func19, Tryz.ntmps19
    go_wp2
    refine wp_loop_rounds 1 ?_
    rw [rounds_succ]
    go_wp2
    go_ret
    exact ⟨rfl, Drawn0.refl _⟩
end Go.Proofs.YtdjjlmphifgnnaaGreat
namespace Go.Mp
open Go.RowKit Go.MapKept
open Classical

/-- What a map's entries say: a function from keys to values. -/
structure Rep (d : TypeDesc) (es : Array MapEntry) (f : Value → Option Value) : Prop where
  isK : ∀ x ∈ es.toList, IsKey d x.key
  nodup : (es.toList.map (·.key)).Nodup
  to_ : ∀ x ∈ es.toList, f x.key = some x.val
  of_ : ∀ k v, f k = some v → ∃ x ∈ es.toList, x.key = k
def Is (d : TypeDesc) (w : World) (r : Nat) (f : Value → Option Value) : Prop := ∃ es clock, w.heap[r]? = some (.map es clock) ∧ Rep d es f
noncomputable def upd (f : Value → Option Value) (k v : Value) : Value → Option Value := fun x => if x = k then some v else f x
noncomputable def del (f : Value → Option Value) (k : Value) : Value → Option Value := fun x => if x = k then none else f x
theorem upd_at (f : Value → Option Value) (k v : Value) : upd f k v k = some v := by simp [upd]
theorem upd_ne (f : Value → Option Value) {k x : Value} (v : Value) (h : x ≠ k) : upd f k v x = f x := by simp [upd, h]
theorem del_at (f : Value → Option Value) (k : Value) : del f k k = none := by simp [del]
theorem del_ne (f : Value → Option Value) {k x : Value} (h : x ≠ k) : del f k x = f x := by simp [del, h]

/-- w' is w with block r turned. -/
structure Turned (w w' : World) (r : Nat) : Prop where
  os : w'.os = w.os
  tape : w'.tape = w.tape
  output : w'.output = w.output
  size : w'.heap.size = w.heap.size
  block : ∀ k, k ≠ r → w'.heap[k]? = w.heap[k]?
theorem turned_set {w : World} {r : Nat} (o : Obj) : Turned w { w with heap := w.heap.setIfInBounds r o } r :=
  ⟨rfl, rfl, rfl, by simp, fun k hk => by simp [Ne.symm hk]⟩
theorem Is.empty (d : TypeDesc) (w : World) : Is d (w.alloc (.map #[] 0)) w.heap.size (fun _ => none) :=
  ⟨#[], 0, (heap_alloc w _).1, ⟨by simp, by simp, by simp, by simp⟩⟩
theorem Is.lt {d : TypeDesc} {w : World} {r : Nat} {f : Value → Option Value} (h : Is d w r f) : r < w.heap.size := by
  obtain ⟨es, c, h, _⟩ := h
  exact (Array.getElem?_eq_some_iff.1 h).1
theorem Is.same {d : TypeDesc} {w w' : World} {r : Nat} {f : Value → Option Value} (h : Is d w r f) (hb : w'.heap[r]? = w.heap[r]?) : Is d w' r f := by
  obtain ⟨es, c, h, hr⟩ := h
  exact ⟨es, c, hb.trans h, hr⟩

section
variable {P : Program} {w : World} {t kt et ty : TypeId} {d : TypeDesc} {r : Nat} {f : Value → Option Value}

theorem find {es : Array MapEntry} (h : Rep d es f) {k : Value} (hk : IsKey d k) :
    (Instr.findNow d k es.toList 0 = some none ∧ f k = none) ∨ ∃ j e, Instr.findNow d k es.toList 0 = some (some (j, e.val)) ∧ es[j]? = some e ∧ e.key = k ∧ f k = some e.val := by
  rcases findNow_spec hk es.toList 0 h.isK with ⟨h1, h2⟩ | ⟨j, e, h1, h2, h3⟩
  · refine .inl ⟨h1, ?_⟩
    cases hf : f k with
    | none => rfl
    | some v =>
      obtain ⟨x, hx, e⟩ := h.of_ k v hf
      exact absurd e (h2 x hx)
  · have h4 : e ∈ es.toList := List.mem_of_getElem? h2
    refine .inr ⟨j, e, by simpa using h1, by simpa using h2, h3, ?_⟩
    rw [← h3]; exact h.to_ e h4

theorem run_lookup (h : Is d w r f) (ht : P.underlying t = some (.map kt et)) (hd : P.underlying kt = some d) {k : Value} (hk : IsKey d k) {z : Value} (hz : (zeroValue et).run P w = .ok z w) :
    (Instr.lookup t (.map (some r)) k false).run P w = .ok ((f k).getD z) w := by
  obtain ⟨es, c, hb, hr⟩ := h
  rcases find hr hk with ⟨h1, h2⟩ | ⟨j, e, h1, h2, h3, h4⟩
  · simp [Instr.lookup, run_underlying ht, MapKept.run_getObj_map hb, MapKept.run_checkKey hd hk, MapKept.run_findKey hd h1, hz, Result.andThen, h2]
  · simp [Instr.lookup, run_underlying ht, MapKept.run_getObj_map hb, MapKept.run_checkKey hd hk, MapKept.run_findKey hd h1, Result.andThen, h4]
theorem modify_map {es : Array MapEntry} {j : Nat} {e : MapEntry} (h : es[j]? = some e) (g : MapEntry → MapEntry) (hg : ∀ x, (g x).key = e.key) :
    (es.modify j g).toList.map (·.key) = es.toList.map (·.key) := by
  apply List.ext_getElem?
  intro i
  simp only [List.getElem?_map, Array.getElem?_toList, Array.getElem?_modify]
  by_cases hij : j = i
  · subst hij; simp [h, hg]
  · simp [hij]

theorem nodup_at {α : Type} {l : List α} (h : l.Nodup) {i j : Nat} {x : α} (hi : l[i]? = some x) (hj : l[j]? = some x) : i = j := by
  obtain ⟨h1, h2⟩ := List.getElem?_eq_some_iff.1 hi
  obtain ⟨h3, h4⟩ := List.getElem?_eq_some_iff.1 hj
  have hp := List.pairwise_iff_getElem.1 h
  rcases Nat.lt_trichotomy i j with hlt | heq | hgt
  · exact absurd (h2.trans h4.symm) (hp i j h1 h3 hlt)
  · exact heq
  · exact absurd (h4.trans h2.symm) (hp j i h3 h1 hgt)
theorem erase_list {es : Array MapEntry} {j : Nat} : (es.eraseIdxIfInBounds j).toList = es.toList.eraseIdx j := by
  unfold Array.eraseIdxIfInBounds
  split
  · simp
  · rename_i h
    rw [List.eraseIdx_of_length_le (by simpa using h)]
theorem run_delete (h : Is d w r f) (ht : P.underlying t = some (.map kt et)) (hd : P.underlying kt = some d) {k : Value} (hk : IsKey d k) :
    ∃ w', (Builtin.delete_ #[t, kt] ty #[.map (some r), k]).run P w = .ok (.tuple #[]) w' ∧ Turned w w' r ∧ Is d w' r (del f k) := by
  obtain ⟨es, c, hb, hr⟩ := h
  rcases find hr hk with ⟨h1, h2⟩ | ⟨j, e, h1, h2, h3, h4⟩
  · refine ⟨_, by simp [Builtin.delete_, run_underlying ht, MapKept.run_getObj_map hb, MapKept.run_checkKey hd hk, MapKept.run_findKey hd h1, MapKept.run_setObj_map _ hb, Result.andThen]; try rfl, turned_set _, es, c, (heap_set hb).1, ⟨hr.isK, hr.nodup, ?_, ?_⟩⟩
    · intro x hx
      have h5 := hr.to_ x hx
      rw [del_ne _ (fun e => by rw [e, h2] at h5; cases h5)]; exact h5
    · intro k' v' hv'
      by_cases e : k' = k
      · subst e; rw [del_at] at hv'; cases hv'
      · rw [del_ne _ e] at hv'; exact hr.of_ k' v' hv'
  · refine ⟨_, by simp [Builtin.delete_, run_underlying ht, MapKept.run_getObj_map hb, MapKept.run_checkKey hd hk, MapKept.run_findKey hd h1, MapKept.run_setObj_map _ hb, Result.andThen]; try rfl, turned_set _, es.eraseIdxIfInBounds j, c, (heap_set hb).1, ⟨?_, ?_, ?_, ?_⟩⟩
    · intro x hx
      rw [erase_list] at hx
      exact hr.isK x (List.mem_of_mem_eraseIdx hx)
    · rw [erase_list]
      exact ((List.eraseIdx_sublist _ _).map _).nodup hr.nodup
    · intro x hx
      rw [erase_list] at hx
      have hx' := List.mem_of_mem_eraseIdx hx
      refine (del_ne _ ?_).trans (hr.to_ x hx')
      intro e'
      obtain ⟨i, hi, hne⟩ := List.mem_eraseIdx_iff_getElem?.1 hx
      have a1 : (es.toList.map (·.key))[i]? = some k := by rw [List.getElem?_map, hne]; simp [e']
      have a2 : (es.toList.map (·.key))[j]? = some k := by rw [List.getElem?_map, Array.getElem?_toList, h2]; simp [h3]
      exact hi (nodup_at hr.nodup a1 a2)
    · intro k' v' hv'
      by_cases e' : k' = k
      · subst e'; rw [del_at] at hv'; cases hv'
      · rw [del_ne _ e'] at hv'
        obtain ⟨x, hx, e2⟩ := hr.of_ k' v' hv'
        obtain ⟨i, hi⟩ := List.mem_iff_getElem?.1 hx
        refine ⟨x, ?_, e2⟩
        rw [erase_list]
        refine List.mem_eraseIdx_iff_getElem?.2 ⟨i, fun e3 => ?_, hi⟩
        subst e3
        rw [Array.getElem?_toList, h2] at hi
        obtain rfl := Option.some.inj hi
        exact e' (e2.symm.trans h3)
theorem run_update (h : Is d w r f) (ht : P.underlying t = some (.map kt et)) (hd : P.underlying kt = some d) {k : Value} (hk : IsKey d k) (v : Value) :
    ∃ w', (Instr.mapUpdate t (.map (some r)) k v).run P w = .ok () w' ∧ Turned w w' r ∧ Is d w' r (upd f k v) := by
  obtain ⟨es, c, hb, hr⟩ := h
  have hlt : r < w.heap.size := (Array.getElem?_eq_some_iff.1 hb).1
  rcases find hr hk with ⟨h1, h2⟩ | ⟨j, e, h1, h2, h3, h4⟩
  · refine ⟨_, by simp [Instr.mapUpdate, run_underlying ht, MapKept.run_getObj_map hb, MapKept.run_checkKey hd hk, MapKept.run_findKey hd h1, MapKept.run_setObj_map _ hb, Result.andThen]; try rfl, turned_set _, _, _, (heap_set hb).1, ⟨?_, ?_, ?_, ?_⟩⟩
    · intro x hx
      rcases (by simpa using hx : x ∈ es ∨ x = ⟨k, v, c⟩) with hx | hx
      · exact hr.isK x (Array.mem_toList_iff.2 hx)
      · rw [hx]; exact hk
    · simp only [Array.toList_push, List.map_append, List.map_cons, List.map_nil]
      refine List.nodup_append.2 ⟨hr.nodup, by simp, ?_⟩
      intro a ha b hb' e
      obtain ⟨x, hx, rfl⟩ := List.mem_map.1 ha
      have := hr.to_ x hx
      rw [List.mem_singleton] at hb'
      subst hb'
      rw [e, h2] at this
      cases this
    · intro x hx
      rcases (by simpa using hx : x ∈ es ∨ x = ⟨k, v, c⟩) with hx | hx
      · have h5 := hr.to_ x (Array.mem_toList_iff.2 hx)
        rw [upd_ne _ _ (fun e => by rw [e, h2] at h5; cases h5)]; exact h5
      · rw [hx]; exact upd_at _ _ _
    · intro k' v' hv'
      by_cases e : k' = k
      · subst e; exact ⟨⟨k', v, c⟩, by simp, rfl⟩
      · rw [upd_ne _ _ e] at hv'
        obtain ⟨x, hx, e⟩ := hr.of_ k' v' hv'
        exact ⟨x, by simp [Array.mem_toList_iff] at hx ⊢; exact .inl hx, e⟩
  · have hm := modify_map h2 (fun x => { x with key := k, val := v }) (fun x => h3.symm)
    refine ⟨_, by simp [Instr.mapUpdate, run_underlying ht, MapKept.run_getObj_map hb, MapKept.run_checkKey hd hk, MapKept.run_findKey hd h1, h2, h3, run_keyThatStays hk, MapKept.run_setObj_map _ hb, Result.andThen]; try rfl, turned_set _, _, _, (heap_set hb).1, ⟨?_, ?_, ?_, ?_⟩⟩
    · intro x hx
      have : x.key ∈ es.toList.map (·.key) := by rw [← hm]; exact List.mem_map.2 ⟨x, hx, rfl⟩
      obtain ⟨y, hy, e⟩ := List.mem_map.1 this
      rw [← e]; exact hr.isK y hy
    · rw [hm]; exact hr.nodup
    · intro x hx
      obtain ⟨i, hi⟩ := List.mem_iff_getElem?.1 hx
      rw [Array.getElem?_toList, Array.getElem?_modify] at hi
      by_cases hij : j = i
      · subst hij
        simp [h2] at hi
        subst hi
        exact upd_at _ _ _
      · simp [hij] at hi
        have hx' : x ∈ es.toList := List.mem_iff_getElem?.2 ⟨i, by rw [Array.getElem?_toList]; exact hi⟩
        have hne : x.key ≠ k := by
          intro e
          have n1 := hr.nodup
          have a1 : (es.toList.map (·.key))[i]? = some k := by rw [List.getElem?_map, Array.getElem?_toList, hi]; simp [e]
          have a2 : (es.toList.map (·.key))[j]? = some k := by rw [List.getElem?_map, Array.getElem?_toList, h2]; simp [h3]
          exact hij (nodup_at n1 a2 a1)
        rw [upd_ne _ _ hne]; exact hr.to_ x hx'
    · intro k' v' hv'
      have hkey : k' ∈ es.toList.map (·.key) := by
        by_cases e : k' = k
        · subst e; exact List.mem_map.2 ⟨_, List.mem_of_getElem? (by rw [Array.getElem?_toList]; exact h2), h3⟩
        · rw [upd_ne _ _ e] at hv'
          obtain ⟨x, hx, e⟩ := hr.of_ k' v' hv'
          exact List.mem_map.2 ⟨x, hx, e⟩
      rw [← hm] at hkey
      obtain ⟨x, hx, e⟩ := List.mem_map.1 hkey
      exact ⟨x, hx, e⟩
end
end Go.Mp
set_option linter.unusedSimpArgs false
namespace Go.Arr
open Go.RowKit Go.Proofs.YtdjjlmphifgnnaaGreatW.PrintWords
section
variable {P : Program} {W : World} {o : Oper} {ρ : Operand → Value}

theorem run_zero {t : TypeId} {i : TypeInfo} {z : Value} (hi : P.info? t = some i) (hz : i.zero = some z) (w : World) : (zeroValue t).run P w = .ok z w := by
  simp [zeroValue, typeInfo, hi, hz]
theorem run_size {t : TypeId} {n : Nat} (h : (P.info? t).map (·.size) = some n) (w : World) : (sizeOf t).run P w = .ok n w := by
  obtain ⟨i, hi, his⟩ := Option.map_eq_some_iff.1 h
  simp [sizeOf, typeInfo, hi, his]
theorem ex_alloc {t : TypeId} {i : TypeInfo} {z : Value} (ho : o.op = .alloc t) (hi : P.info? t = some i) (hz : i.zero = some z) :
    (execOp ρ o).run P W = .ok (.value (.pointer (some ⟨W.heap.size, 0, none⟩))) (W.alloc (.cells z.cells t)) := by
  simp only [execOp, ho, Instr.alloc, Sem.run_bind, run_zero hi hz, Result.andThen_ok]
  rfl
def aggT (P : Program) (ty : TypeId) : Bool := match P.underlying ty with | some (.struct _) | some (.array _ _) => true | _ => false
theorem run_isAgg {ty : TypeId} (h : aggT P ty = true) (w : World) : (isAgg ty).run P w = .ok true w := by
  unfold aggT at h
  cases hu : P.underlying ty with
  | none => simp [hu] at h
  | some d =>
    unfold isAgg
    rw [Sem.run_bind, run_underlying hu w]
    cases d <;> simp_all
theorem ex_load {ty : TypeId} {x : Operand} (ho : o.op = .load ty x) {ad : Addr} (hx : ρ x = .pointer (some ad)) (hagg : aggT P ty = true) {seg : List Value} (hs : (P.info? ty).map (·.size) = some seg.length)
    (hc : ∀ j u, seg[j]? = some u → W.cell? (ad.add j) = some u) : (execOp ρ o).run P W = .ok (.value (.agg seg.toArray)) W := by
  have hl := run_loadCells_list (P := P) W ad seg hc
  simp only [execOp, ho, hx, Instr.loadAt, Instr.sureAddr, Sem.run_bind, Sem.run_pure, Result.andThen_ok, loadVar, run_isAgg hagg, if_true, run_size hs, hl]
theorem run_isAgg0 {ty : TypeId} (h : aggT P ty = false) (hu : (P.underlying ty).isSome = true) (w : World) : (isAgg ty).run P w = .ok false w := by
  unfold aggT at h
  obtain ⟨d, hd⟩ := Option.isSome_iff_exists.1 hu
  unfold isAgg
  rw [Sem.run_bind, run_underlying hd w]
  cases d <;> simp_all
theorem ex_load1 {ty : TypeId} {x : Operand} (ho : o.op = .load ty x) {ad : Addr} (hx : ρ x = .pointer (some ad)) (hagg : (!aggT P ty && (P.underlying ty).isSome) = true) {v : Value} (hc : W.cell? ad = some v) : (execOp ρ o).run P W = .ok (.value v) W := by
  simp only [Bool.and_eq_true, Bool.not_eq_true'] at hagg
  simp [execOp, ho, hx, Instr.loadAt, Instr.sureAddr, loadVar, run_isAgg0 hagg.1 hagg.2, run_load, hc, Result.andThen]
theorem ex_store {ty : TypeId} {x y : Operand} (ho : o.op = .store ty x y) {g off : Nat} (hx : ρ x = .pointer (some ⟨g, off, none⟩)) {v : Value} (hy : ρ y = v) {seg : List Value} (hv : v.cells.toList = seg)
    (hs : (P.info? ty).map (·.size) = some seg.length) {cur : Array Value} {t : TypeId} (hg : W.heap[g]? = some (.cells cur t (0, 0))) (hl : off + seg.length ≤ cur.size) (h1 : ∀ u ∈ seg, u.oneCell' = true) :
    (execOp ρ o).run P W = .ok .skip (W.setRow g (cur.toList.take off ++ seg ++ cur.toList.drop (off + seg.length)).toArray) := by
  have hst := run_storeCells_at P g off t seg 0 cur W hg (by simpa using hl) h1
  have hsz : v.cells.size = seg.length := by rw [← hv]; simp
  simp only [Nat.add_zero] at hst
  simp only [execOp, ho, hx, hy, Instr.storeAt, Instr.sureAddr, Sem.run_bind, Sem.run_pure, Result.andThen_ok, storeVar, run_size hs, hsz, hv]
  simp [hst]
end
section
variable {P : Program} {ops : Array Oper} {rest : List Oper} {o : Oper} {a : Act} {Q : Exit → Act → World → Prop} {W w1 : World}
theorem skip_run (hgd : o.guard = none) (hrun : (execOp a.eval o).run P W = .ok .skip w1) (h : wpList P ops Q rest (a.put o.dst undef) w1) : wpList P ops Q (o :: rest) a W := by
  refine wpList_plain hgd fun K hK => ?_
  unfold Oper.wp
  rw [hrun]
  exact hK _ _ h
end
theorem setRow_alloc (W : World) (cs cs' : Array Value) (t : TypeId) : (W.alloc (.cells cs t)).setRow W.heap.size cs' = W.alloc (.cells cs' t) := by
  have hh : ((W.alloc (.cells cs t)).setRow W.heap.size cs').heap = (W.alloc (.cells cs' t)).heap := by
    have hsz : ((W.alloc (.cells cs t)).setRow W.heap.size cs').heap.size = (W.alloc (.cells cs' t)).heap.size := by
      rw [size_setRow]
      show (W.heap.push _).size = (W.heap.push _).size
      simp only [Array.size_push]
    refine Array.ext hsz fun i h1 h2 => Option.some.inj ?_
    rw [← Array.getElem?_eq_getElem h1, ← Array.getElem?_eq_getElem h2]
    by_cases hi : i = W.heap.size
    · rw [hi, setRow_heap _ _ _ cs' t (0, 0) (heap_alloc_new W _), heap_alloc_new]
    · rw [setRow_other _ _ _ _ hi]
      have : i < W.heap.size := by
        have h3 : i < (W.heap.push (Obj.cells cs' t)).size := h2
        simp only [Array.size_push] at h3
        omega
      rw [heap_alloc_old W _ this, heap_alloc_old W _ this]
  unfold World.setRow World.alloc at hh ⊢
  simp only at hh ⊢
  rw [hh]
section
variable {P : Program} {W : World} {o : Oper} {ρ : Operand → Value}
theorem ex_build {t : TypeId} {parts : Array (Nat × Operand)} (ho : o.op = .build t parts) {cells : Array Value} (h : P.built t (parts.map fun (i, x) => (i, ρ x)).toList = some cells) :
    (execOp ρ o).run P W = .ok (.value (.agg cells)) W := by
  simp only [execOp, ho, Sem.run_bind, run_build W t _ cells h, Result.andThen_ok, Sem.run_pure]
theorem eq_items {e : TypeId} {k : IntKind} (he : P.underlying e = some (.int k)) (d : Nat) (xs ys : List Int) : ∀ is : List Nat, (∀ i ∈ is, i < xs.length ∧ i < ys.length) →
    (Op.eqItems (d + 1) e 1 (encs (Value.int k) xs).toArray (encs (Value.int k) ys).toArray is).run P W = .ok (is.all fun i => xs[i]? == ys[i]?) W
  | [], _ => by simp [Op.eqItems]
  | i :: is, h => by
    obtain ⟨h1, h2⟩ := h i (List.mem_cons_self ..)
    have hag : (isAgg e).run P W = .ok false W := by
      unfold isAgg
      rw [Sem.run_bind, run_underlying he W]
      rfl
    have hp : ∀ zs : List Int, ∀ h : i < zs.length, (part e (encs (Value.int k) zs).toArray (i * 1)).run P W = .ok (.int k zs[i]) W := by
      intro zs h
      have : (encs (Value.int k) zs).toArray[i]? = some (.int k zs[i]) := by simp [encs, h]
      simp [part, hag, this]
    have hq : (Op.equalIn (d + 1) e (.int k xs[i]) (.int k ys[i])).run P W = .ok (xs[i] == ys[i]) W := by
      simp [Op.equalIn, run_underlying he]
    have ih := eq_items he d xs ys is (fun j hj => h j (List.mem_cons_of_mem _ hj))
    simp only [Op.eqItems, Sem.run_bind, hp xs h1, hp ys h2, hq, Result.andThen_ok, List.all_cons, List.getElem?_eq_getElem h1, List.getElem?_eq_getElem h2]
    by_cases hx : xs[i] = ys[i]
    · simp [hx, ih]
    · have : (xs[i] == ys[i]) = false := by simpa using hx
      have h3 : ((some xs[i] : Option Int) == some ys[i]) = false := by simpa using hx
      simp [this, h3]
theorem ex_eql_arr {t e t' : TypeId} {n : Nat} {k : IntKind} {x y : Operand} (ho : o.op = .binOp .eql t x y t') (hu : P.underlying t = some (.array n e)) (he : P.underlying e = some (.int k)) (hi : (P.info? e).isSome = true) (hc : P.cellsOf e = 1)
    (hm : P.eqGuardType P.depth t = false) {xs ys : List Int} (hx : ρ x = .agg (encs (Value.int k) xs).toArray) (hy : ρ y = .agg (encs (Value.int k) ys).toArray) (h1 : xs.length = n) (h2 : ys.length = n) :
    (execOp ρ o).run P W = .ok (.value (.bool (xs == ys))) W := by
  obtain ⟨i, hi⟩ := Option.isSome_iff_exists.1 hi
  have hq : (List.range n).all (fun i => xs[i]? == ys[i]?) = (xs == ys) := by
    rw [Bool.eq_iff_iff, List.all_eq_true, beq_iff_eq]
    constructor
    · intro h
      refine List.ext_getElem? fun j => ?_
      by_cases hj : j < n
      · simpa using h j (List.mem_range.2 hj)
      · rw [List.getElem?_eq_none (by omega), List.getElem?_eq_none (by omega)]
    · rintro rfl j _; simp
  have hr := eq_items (W := W) he 9998 xs ys (List.range n) (fun j hj => by rw [List.mem_range] at hj; omega)
  simp only [execOp, ho, hx, hy, Sem.run_bind, run_eqGuard_agg (P := P) W .eql t x y _ _ hm, Result.andThen_ok, run_eql_struct (P := P) W, run_equalIn_array (P := P) W 9999 _ _ hu hi, hc, hr, hq, Sem.run_pure]
theorem ex_lookup {t kt et : TypeId} {d : TypeDesc} {r : Nat} {f : Value → Option Value} {x ix : Operand} (ho : o.op = .lookup t x ix false) (h : Mp.Is d W r f) (ht : P.underlying t = some (.map kt et)) (hd : P.underlying kt = some d)
    (hx : ρ x = .map (some r)) (hk : MapKept.IsKey d (ρ ix)) {z : Value} (hz : (zeroValue et).run P W = .ok z W) : (execOp ρ o).run P W = .ok (.value ((f (ρ ix)).getD z)) W := by
  simp only [execOp, ho, hx, Sem.run_bind, Mp.run_lookup h ht hd hk hz, Result.andThen_ok, Sem.run_pure]
end
theorem fold_seg (l : List Value) : ∀ (n : Nat) (cs : Array Value), n + l.length ≤ cs.size → (l.zipIdx n).foldl (fun cs (x : Value × Nat) => cs.setIfInBounds x.2 x.1) cs = (cs.toList.take n ++ l ++ cs.toList.drop (n + l.length)).toArray := by
  induction l with
  | nil => intro n cs _; simp
  | cons v rest ih =>
    intro n cs h
    rw [List.zipIdx_cons, List.foldl_cons, ih (n + 1) _ (by simp only [Array.size_setIfInBounds]; simp at h; omega)]
    have := list_seg_step cs.toList n v rest (by simp at h ⊢; omega)
    simp only [Array.toList_setIfInBounds]
    rw [this]
    rfl
section
variable {P : Program} {W : World} {o : Oper} {ρ : Operand → Value}
/-- A row of one element, laid by a literal. -/
theorem ex_row1 {t e : TypeId} {x : Operand} {i : TypeInfo} {z : Value} (ho : o.op = .buildSlice t 1 #[(0, x)]) (ht : P.underlying t = some (.slice e)) (hi : P.info? e = some i) (hz : i.zero = some z) (hp : 0 < i.size) (hb : i.size ≤ 2 ^ 24)
    (hx : (ρ x).cells.size = i.size) : (execOp ρ o).run P W = .ok (.value (.slice (some ⟨W.heap.size, 0, none⟩) 1 1)) (W.alloc (.cells (ρ x).cells e)) := by
  have hs : (sizeOf e).run P W = .ok i.size W := run_size (by rw [hi]; rfl) W
  have hzr := run_zero hi hz W
  have hf : ∀ cs : Array Value, cs.size = i.size → Instr.fill (fun k => some (k * i.size, i.size)) cs [(0, ρ x)] = some (ρ x).cells := by
    intro cs hcs
    have := fold_seg (ρ x).cells.toList 0 cs (by simp [hx, hcs])
    simp only [Instr.fill, Nat.zero_mul, Nat.zero_add, hx, hcs, ne_eq, not_true_eq_false, gt_iff_lt, Nat.lt_irrefl, or_self, if_false, Option.some.injEq]
    rw [← Array.foldl_toList, Array.toList_zipIdx]
    rw [show (ρ x).cells.toList.zipIdx = (ρ x).cells.toList.zipIdx 0 from rfl, this]
    have e : cs.toList.drop (0 + (ρ x).cells.toList.length) = [] := List.drop_eq_nil_of_le (by simp [hx, hcs])
    rw [e]
    simp
  have h1 : ¬ (1 * i.size > 2 ^ 24) := by omega
  have h2 : ¬ (1 * i.size = 0) := by omega
  simp only [execOp, ho, Instr.buildSlice, Sem.run_bind, run_underlying ht, Result.andThen_ok, hs, h1, h2, if_false, hzr, Sem.run_pure, List.map_toArray, List.map_cons, List.map_nil]
  rw [hf _ (by simp)]
  rfl
theorem ex_copy {d s : Operand} {dT sT : TypeId} {v : Value} {w1 : World} (ho : o.op = .call { callee := .builtin .copy, args := #[d, s], argTypes := #[dT, sT] })
    (hrun : (Builtin.copy_ #[dT, sT] o.type #[ρ d, ρ s]).run P W = .ok v w1) : (execOp ρ o).run P W = .ok (.value v) w1 := by
  simp [execOp, ho, resolve, invoke, builtin, hrun, Result.andThen]
end
end Go.Arr
