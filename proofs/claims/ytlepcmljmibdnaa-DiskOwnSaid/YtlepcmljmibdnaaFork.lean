/- A region that draws its order, walked along a tree: where two operations that act don't wait for each other, both orders. -/
import Derived.Test.YtlepcmljmibdnaaCalm
namespace Go.Fork
open Go.RowKit Go.Calm
inductive Tr where
  | nil
  | one (i k : Nat) (t : Tr)
  | two (i : Nat) (t : Tr) (j : Nat) (t' : Tr)
def Tr.len : Tr → Nat
  | .nil => 0
  | .one _ _ t => t.len + 1
  | .two _ t _ _ => t.len + 1
section
variable {P : Program} {md : Region.Mode} {ops : Array Oper} {Q : Exit → Act → World → Prop} {xs : List Nat}
def wpT (P : Program) (ops : Array Oper) (Q : Exit → Act → World → Prop) (xs : List Nat) : Tr → Act → World → Prop
  | .nil, a, w => Q .normal a w
  | .one i 2 t, a, w => wpOp P ops Q i (fun a' w' => (i ∉ xs → Below w.heap.size w w') ∧ wpT P ops Q xs t a' w') a w
  | .one i k t, a, w => ∃ o v, ops[i]? = some o ∧ YieldsIf P ops (Holds (k == 0) w) o v a ∧ wpT P ops Q xs t (a.put o.dst v) w
  | .two i t j t', a, w => wpOp P ops Q i (fun a' w' => (i ∉ xs → Below w.heap.size w w') ∧ wpT P ops Q xs t a' w') a w ∧ wpOp P ops Q j (fun a' w' => (j ∉ xs → Below w.heap.size w w') ∧ wpT P ops Q xs t' a' w') a w
def okT (md : Region.Mode) (ops : Array Oper) (xs : List Nat) : Array Bool → Tr → Bool
  | listed, .nil => (Region.ready md ops listed).isEmpty
  | listed, .one i 2 t => Region.ready md ops listed == [i] && okT md ops xs (listed.setIfInBounds i true) t
  | listed, .one i k t => (Region.ready md ops listed).contains i && Region.free md ops listed i && !xs.contains i &&
      (k == 0 || xs.all fun j => listed.getD j true || waitsT md ops ops.size j i) && okT md ops xs (listed.setIfInBounds i true) t
  | listed, .two i t j t' => Region.ready md ops listed == [i, j] && t.len == t'.len && okT md ops xs (listed.setIfInBounds i true) t && okT md ops xs (listed.setIfInBounds j true) t'
theorem anyG_of_wpT (hs : Region.noSelect ops = true) (hQ : ∀ c a w, ¬ Q (.panic c) a w) : ∀ (l : Tr) (listed : Array Bool) (a : Act) (w : World), Closed md ops listed →
    okT md ops xs listed l = true → wpT P ops Q xs l a w → wpAnyG P md ops Q xs l.len listed a w
  | .nil, listed, a, w, _, hB, h => ⟨by simpa [okT] using hB, h⟩
  | .two i t j t', listed, a, w, hc, hB, h => by
    simp only [okT, Bool.and_eq_true, beq_iff_eq] at hB
    obtain ⟨⟨⟨hr, hl⟩, h1⟩, h2⟩ := hB
    have hi : i ∈ Region.ready md ops listed := by rw [hr]; simp
    have hj : j ∈ Region.ready md ops listed := by rw [hr]; simp
    refine ⟨fun h0 => (by rw [h0] at hi; cases hi), fun m hm => ?_⟩
    rw [hr] at hm
    simp only [List.mem_cons, List.not_mem_nil, or_false] at hm
    rcases hm with rfl | rfl
    · exact wpOp_mono (fun a' w' h' => ⟨h'.1, anyG_of_wpT hs hQ t _ a' w' (hc.set hi) h1 h'.2⟩) h.1
    · refine wpOp_mono (fun a' w' h' => ⟨h'.1, ?_⟩) h.2
      have := anyG_of_wpT hs hQ t' _ a' w' (hc.set hj) h2 h'.2
      rw [← hl] at this
      exact this
  | .one i k rest, listed, a, w, hc, hB, h => by
    by_cases hk : k = 2
    · subst hk
      simp only [okT, Bool.and_eq_true, beq_iff_eq] at hB
      have hi : i ∈ Region.ready md ops listed := by rw [hB.1]; simp
      refine ⟨fun h0 => (by rw [h0] at hi; cases hi), fun j hj => ?_⟩
      rw [hB.1] at hj
      obtain rfl : j = i := by simpa using hj
      exact wpOp_mono (fun a' w' h' => ⟨h'.1, anyG_of_wpT hs hQ rest _ a' w' (hc.set hi) hB.2 h'.2⟩) h
    · have hB' : (((Region.ready md ops listed).contains i && Region.free md ops listed i && !xs.contains i &&
          (k == 0 || xs.all fun j => listed.getD j true || waitsT md ops ops.size j i)) && okT md ops xs (listed.setIfInBounds i true) rest) = true := by
        match k, hk, hB with
        | 0, _, hB => exact hB
        | 1, _, hB => exact hB
        | k + 3, _, hB => exact hB
      have h' : ∃ o v, ops[i]? = some o ∧ YieldsIf P ops (Holds (k == 0) w) o v a ∧ wpT P ops Q xs rest (a.put o.dst v) w := by
        match k, hk, h with
        | 0, _, h => exact h
        | 1, _, h => exact h
        | k + 3, _, h => exact h
      simp only [Bool.and_eq_true, Bool.not_eq_true', Bool.or_eq_true] at hB'
      obtain ⟨⟨⟨⟨h1, h2⟩, h3⟩, h4⟩, h5⟩ := hB'
      obtain ⟨o, v, ho, hy, hr⟩ := h'
      have hi : i ∈ Region.ready md ops listed := by simpa using h1
      refine first ho (Region.noSelect_spec hs) (fun c a w hp => absurd hp (hQ c _ w)) (by simpa using h3) ops.size rest.len listed a w hc ?_ (Region.free_spec ho h2) hi hy
        (anyG_of_wpT hs hQ rest _ _ w (hc.set hi) h5 hr)
      rcases h4 with h4 | h4
      · exact .inl h4
      · refine .inr fun j hj hun => ?_
        have := List.all_eq_true.1 h4 j hj
        simpa [hun] using this
/-- THE LAW. -/
theorem wp_fork {id : Nat} {a : Act} {w : World} {os : List Oper} (xs : List Nat) (l : Tr) (hm : P.follows .mixedOrders = true)
    (hB : (Region.noSelect os.toArray && l.len == os.length && okT .any os.toArray xs (Array.replicate os.length false) l) = true)
    (h : wpT P os.toArray (NoPanic Q) xs l a w.drew) : (Code.region id os.toArray true).wp P Q a w := by
  simp only [Bool.and_eq_true, beq_iff_eq] at hB
  refine wp_region_noPanic (wp_region_any hm ?_)
  have h1 := anyG_of_wpT (md := .any) hB.1.1 (fun c a w hp => hp) l (Array.replicate os.length false) a w.drew (closed_none _) hB.2 h
  have h2 := wpAny_of_G _ _ _ _ h1
  rw [hB.1.2] at h2
  simpa using h2
end
section
variable {P : Program} {ops : Array Oper} {Q : Exit → Act → World → Prop} {xs : List Nat} {a : Act} {w : World} {i : Nat} {rest : Tr}
theorem done (h : Q .normal a w) : wpT P ops (NoPanic Q) xs .nil a w := h
theorem plain {o : Oper} (ho : ops[i]? = some o) (v : Value) (hw : Region.wanted o (yielded ops a.tmps) = true) (hr : ∀ W, (execOp a.eval o).run P W = .ok (.value v) W)
    (h : wpT P ops Q xs rest (a.put o.dst v) w) : wpT P ops Q xs (.one i 0 rest) a w := ⟨o, v, ho, .inl ⟨hw, fun W _ => hr W⟩, h⟩
theorem reads {o : Oper} (ho : ops[i]? = some o) (v : Value) (hw : Region.wanted o (yielded ops a.tmps) = true) (hr : ∀ W, Below w.heap.size w W → (execOp a.eval o).run P W = .ok (.value v) W)
    (h : wpT P ops Q xs rest (a.put o.dst v) w) : wpT P ops Q xs (.one i 1 rest) a w :=
  ⟨o, v, ho, .inl ⟨hw, fun W hW => hr W (hW.resolve_left (by simp))⟩, h⟩
theorem skip {o : Oper} {k : Nat} (ho : ops[i]? = some o) (hk : k = 0 ∨ k = 1) (hw : Region.wanted o (yielded ops a.tmps) = false)
    (h : wpT P ops Q xs rest (a.put o.dst undef) w) : wpT P ops Q xs (.one i k rest) a w := by
  rcases hk with rfl | rfl
  · exact ⟨o, undef, ho, .inr ⟨hw, rfl⟩, h⟩
  · exact ⟨o, undef, ho, .inr ⟨hw, rfl⟩, h⟩
theorem op {o : Oper} {G : Act → World → Prop} (ho : ops[i]? = some o)
    (h : ∀ K : Act → World → Prop, (∀ a' w', (i ∉ xs → Below w.heap.size w w') → G a' w' → K a' w') → if Region.wanted o (yielded ops a.tmps) = true then o.wp P a w K Q else K (a.put o.dst undef) w) :
    wpOp P ops Q i (fun a' w' => (i ∉ xs → Below w.heap.size w w') ∧ G a' w') a w := by
  unfold wpOp
  simp only [ho]
  by_cases hw : Region.wanted o (yielded ops a.tmps) = true
  · have := h (fun a' w' => (i ∉ xs → Below w.heap.size w w') ∧ G a' w') (fun a' w' h1 h2 => ⟨h1, h2⟩)
    rw [if_pos hw] at this ⊢
    exact .inl this
  · have := h (fun a' w' => (i ∉ xs → Below w.heap.size w w') ∧ G a' w') (fun a' w' h1 h2 => ⟨h1, h2⟩)
    rw [if_neg hw] at this ⊢
    exact this
theorem step {o : Oper} (ho : ops[i]? = some o)
    (h : ∀ K : Act → World → Prop, (∀ a' w', (i ∉ xs → Below w.heap.size w w') → wpT P ops Q xs rest a' w' → K a' w') → if Region.wanted o (yielded ops a.tmps) = true then o.wp P a w K Q else K (a.put o.dst undef) w) :
    wpT P ops Q xs (.one i 2 rest) a w := op ho h
theorem fork {j : Nat} {rest' : Tr} {o o' : Oper} (ho : ops[i]? = some o) (ho' : ops[j]? = some o')
    (h : ∀ K : Act → World → Prop, (∀ a' w', (i ∉ xs → Below w.heap.size w w') → wpT P ops Q xs rest a' w' → K a' w') → if Region.wanted o (yielded ops a.tmps) = true then o.wp P a w K Q else K (a.put o.dst undef) w)
    (h' : ∀ K : Act → World → Prop, (∀ a' w', (j ∉ xs → Below w.heap.size w w') → wpT P ops Q xs rest' a' w' → K a' w') → if Region.wanted o' (yielded ops a.tmps) = true then o'.wp P a w K Q else K (a.put o'.dst undef) w) :
    wpT P ops Q xs (.two i rest j rest') a w := ⟨op ho h, op ho' h'⟩
end
theorem at_ {l : List Oper} {ops : Array Oper} {i : Nat} {o : Oper} (h : l.toArray = ops) (e : l[i]? = some o) : ops[i]? = some o := by subst h; simpa using e
theorem bel_cell {w W : World} {p : Addr} {v : Value} (h : Below w.heap.size w W) (hc : w.cell? p = some v) : W.cell? p = some v := (h.cell (block_lt_of_cell hc)).trans hc
end Go.Fork
