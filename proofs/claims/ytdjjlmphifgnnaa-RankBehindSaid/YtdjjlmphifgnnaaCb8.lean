/- Parts of one proof, joined: Tkb, Rkc. Conditions: those of each statement. -/
import Derived.Test.YtdjjlmphifgnnaaCb7
import Derived.Laws.Entries
namespace Go.Proofs.Ytdjjlmphifgnnaa
open Go.Shelf Go.RowKit Go.Sort Go.Proofs.YtdjjlmphifgnnaaW.PrintWords Go.Proofs.YtdjjlmphifgnnaaW.PrintLast Go.Proofs.YtdjjlmphifgnnaaW.PrintMore
open Stb (mrg Pre Sorted stb)
set_option linter.unusedVariables false
set_option linter.unusedSimpArgs false
/-! ### rows of cells -/
theorem reps_at {α : Type} {k : Nat} {enc : α → List Value} (hk : ∀ x, (enc x).length = k) (h0 : 0 < k) {xs : List α} {cs : List Value} (h : Reps (fun x c => c = enc x) k xs cs) {t : Nat} (ht : t < xs.length * k) : ∃ x, xs[t / k]? = some x ∧ cs[t]? = (enc x)[t % k]? := by
  have hlt : t / k < xs.length := (Nat.div_lt_iff_lt_mul h0).2 ht
  obtain ⟨x, hx⟩ : ∃ x, xs[t / k]? = some x := ⟨xs[t / k]'hlt, List.getElem?_eq_getElem _⟩
  refine ⟨x, hx, ?_⟩
  have e := h.2 _ _ hx
  have e2 : enc x = (cs.drop (t / k * k)).take k := e.symm
  rw [e2, List.getElem?_take_of_lt (Nat.mod_lt _ h0), List.getElem?_drop, Nat.div_add_mod']
theorem reps_unique {α : Type} {k : Nat} {enc : α → List Value} (hk : ∀ x, (enc x).length = k) (h0 : 0 < k) {xs : List α} {cs ds : List Value} (h : Reps (fun x c => c = enc x) k xs cs) (h' : Reps (fun x c => c = enc x) k xs ds) : cs = ds := by
  refine List.ext_getElem? fun t => ?_
  by_cases ht : t < xs.length * k
  · obtain ⟨x, hx, e⟩ := reps_at hk h0 h ht
    obtain ⟨y, hy, e'⟩ := reps_at hk h0 h' ht
    rw [hx] at hy
    injection hy with hy
    subst hy
    rw [e, e']
  · rw [List.getElem?_eq_none (by rw [h.1]; omega), List.getElem?_eq_none (by rw [h'.1]; omega)]
theorem flatK_reps {α : Type} [Inhabited α] {k : Nat} {enc : α → List Value} (hk : ∀ x, (enc x).length = k) (h0 : 0 < k) (d : Array α) : Reps (fun x c => c = enc x) k d.toList (flatK enc k d).toList := by
  have hs : (flatK enc k d).toList.length = d.toList.length * k := by simp [flatK]
  refine ⟨hs, fun j p hj => ?_⟩
  have hlt := (List.getElem?_eq_some_iff.1 hj).1
  have hb : j * k + k ≤ d.toList.length * k := by
    have := Nat.mul_le_mul_right k (show j + 1 ≤ d.toList.length from hlt)
    rwa [Nat.add_mul, Nat.one_mul] at this
  refine List.ext_getElem? fun i => ?_
  by_cases hi : i < k
  · rw [List.getElem?_take_of_lt hi, List.getElem?_drop]
    have e1 : (j * k + i) / k = j := by rw [Nat.mul_comm, Nat.mul_add_div h0, Nat.div_eq_of_lt hi, Nat.add_zero]
    have e2 : (j * k + i) % k = i := by rw [Nat.mul_comm, Nat.mul_add_mod, Nat.mod_eq_of_lt hi]
    have hd : d[j]! = p := by
      rw [Array.getElem?_toList] at hj
      rw [getElem!_def, hj]
    have h3 : j * k + i < d.size * k := by rw [← Array.length_toList]; omega
    rw [Array.getElem?_toList]
    unfold flatK
    rw [Array.getElem?_map, Array.getElem?_range, if_pos h3]
    simp only [Option.map_some, e1, e2, hd]
    rw [List.getElem?_eq_getElem (by rw [hk]; exact hi), getElem!_pos _ _ (by rw [hk]; exact hi)]
  · rw [List.getElem?_eq_none (by rw [List.length_take, List.length_drop]; omega), List.getElem?_eq_none (by rw [hk]; omega)]
theorem holdsK_of_cells {α : Type} [Inhabited α] {k : Nat} {enc : α → List Value} {w : World} {g e : Nat} {cur : Array Value} {xs : List α} (hk : ∀ x, (enc x).length = k) (h0 : 0 < k) (hb : w.heap[g]? = some (.cells cur e (0, 0))) (hr : Reps (fun x c => c = enc x) k xs (cur.toList.take (xs.length * k))) : HoldsK enc k w g 0 xs.toArray := by
  have hf := flatK_reps hk h0 xs.toArray
  have e1 := reps_unique hk h0 hr hf
  intro j hj
  have hs : (flatK enc k xs.toArray).size = xs.length * k := by simp [flatK]
  rw [hs] at hj
  refine ⟨?_, by simp [World.frozen?, hb]⟩
  have e2 : cur[j]? = (flatK enc k xs.toArray)[j]? := by
    rw [← Array.getElem?_toList, ← Array.getElem?_toList, ← e1, List.getElem?_take_of_lt hj]
  rw [Nat.zero_add]
  show w.cell? ⟨g, j, none⟩ = some (flatK enc k xs.toArray)[j]!
  unfold World.cell?
  rw [hb]
  show cur[j]? = _
  rw [e2, getElem!_pos _ _ (by rw [hs]; exact hj), Array.getElem?_eq_getElem]
theorem cells_of_sorted {α : Type} [Inhabited α] {k : Nat} {enc : α → List Value} {w w' : World} {g e : Nat} {cur : Array Value} {ys : List α} (hk : ∀ x, (enc x).length = k) (h0 : 0 < k) (hb : w.heap[g]? = some (.cells cur e (0, 0))) (hl : ys.length * k ≤ cur.size) (S : SWK enc k w g 0 ys.toArray w') :
    ∃ cur', w'.heap[g]? = some (.cells cur' e (0, 0)) ∧ cur'.size = cur.size ∧ Reps (fun x c => c = enc x) k ys (cur'.toList.take (ys.length * k)) ∧ w'.os = w.os ∧ w'.tape = w.tape ∧ w'.output = w.output ∧ w.heap.size ≤ w'.heap.size ∧ ∀ i, i < w.heap.size → i ≠ g → w'.heap[i]? = w.heap[i]? := by
  obtain ⟨n, os, rfl⟩ := S
  have hg : g < w.heap.size := (Array.getElem?_eq_some_iff.1 hb).1
  have hs : (flatK enc k ys.toArray).size = ys.length * k := by simp [flatK]
  have hm : (putRowK enc k (Sort.ahead w n) g 0 ys.toArray).heap[g]? = some (.cells (putCells id 0 (flatK enc k ys.toArray) cur) e (0, 0)) := by
    show (w.heap.modify g (onCells (putCells id 0 (flatK enc k ys.toArray))))[g]? = _
    rw [Array.getElem?_modify, if_pos rfl, hb]
    rfl
  refine ⟨putCells id 0 (flatK enc k ys.toArray) cur, ?_, by simp [putCells], ?_, rfl, rfl, rfl, ?_, fun i hi hne => ?_⟩
  · unfold sortWorldK
    rw [heap_grow_old _ _ (by rw [size_putRowK]; exact hg)]
    exact hm
  · have e1 : (putCells id 0 (flatK enc k ys.toArray) cur).toList.take (ys.length * k) = (flatK enc k ys.toArray).toList := by
      refine List.ext_getElem? fun t => ?_
      by_cases ht : t < ys.length * k
      · rw [List.getElem?_take_of_lt ht, Array.getElem?_toList, Array.getElem?_toList]
        unfold putCells
        rw [Array.getElem?_mapIdx, Array.getElem?_eq_getElem (show t < cur.size by omega)]
        simp only [Option.map_some, Nat.zero_le, true_and, Nat.zero_add, Nat.sub_zero, id]
        rw [if_pos (by rw [hs]; exact ht), getElem!_pos _ _ (by rw [hs]; exact ht), Array.getElem?_eq_getElem]
      · rw [List.getElem?_eq_none (by rw [List.length_take]; omega), List.getElem?_eq_none (by rw [Array.length_toList, hs]; omega)]
    rw [e1]
    exact flatK_reps hk h0 ys.toArray
  · unfold sortWorldK
    rw [size_grow, size_putRowK]
    exact Nat.le_add_right _ _
  · unfold sortWorldK
    rw [heap_grow_old _ _ (by rw [size_putRowK]; exact hi)]
    show (w.heap.modify g (onCells (putCells id 0 (flatK enc k ys.toArray))))[i]? = _
    rw [Array.getElem?_modify, if_neg (Ne.symm hne)]
/-! ### a stable sort, element by element -/
theorem mrg_map {α β : Type} {le : β → β → Bool} {le' : α → α → Bool} (f : α → β) (h : ∀ a b, le (f a) (f b) = le' a b) : ∀ (n : Nat) (xs ys : List α), xs.length + ys.length ≤ n → mrg le (xs.map f) (ys.map f) = (mrg le' xs ys).map f := by
  intro n
  induction n with
  | zero =>
    intro xs ys hn
    obtain rfl : xs = [] := List.eq_nil_of_length_eq_zero (by omega)
    rw [List.map_nil, Stb.mrg_nil, Stb.mrg_nil]
  | succ n ih =>
    intro xs ys hn
    cases xs with
    | nil => rw [List.map_nil, Stb.mrg_nil, Stb.mrg_nil]
    | cons x xs =>
      cases ys with
      | nil => rw [List.map_nil, Stb.mrg_nil2, Stb.mrg_nil2]
      | cons y ys =>
        simp only [List.length_cons] at hn
        rw [List.map_cons, List.map_cons, Stb.mrg_cons, Stb.mrg_cons, h]
        have e1 := ih xs (y :: ys) (by simp; omega)
        have e2 := ih (x :: xs) ys (by simp; omega)
        rw [List.map_cons] at e1 e2
        split
        · rw [e1, List.map_cons]
        · rw [e2, List.map_cons]
theorem stb_map {α β : Type} {le : β → β → Bool} {le' : α → α → Bool} (f : α → β) (h : ∀ a b, le (f a) (f b) = le' a b) (L : List α) : stb le (L.map f) = (stb le' L).map f := by
  refine Stb.snoc_ind (motive := fun L => stb le (L.map f) = (stb le' L).map f) L rfl ?_
  intro l x ih
  rw [List.map_append, List.map_cons, List.map_nil, Stb.stb_snoc, Stb.stb_snoc, ih]
  exact mrg_map f h _ (stb le' l) [x] (Nat.le_refl _)
/-! ### rows of tasks -/
theorem kT_M_open {w : World} {base : Nat} {ok : Nat → Prop} {x : Tsk} {cs : List Value} (h : kT.M w base ok x cs) : ∃ s : Sl, cs = tkX (mkX x s) ∧ Kd.R Kd.string 9 w base ok s.v x.tags := by
  obtain ⟨_, _, rfl, rfl, ⟨_, _, rfl, rfl, ⟨_, _, rfl, rfl, ⟨_, _, rfl, rfl, ⟨_, _, rfl, rfl, ⟨_, _, rfl, rfl, ⟨v, rfl, hR⟩⟩⟩⟩⟩⟩⟩ := h
  obtain ⟨A, c, e⟩ := Kd.R_slice hR
  exact ⟨⟨A, x.tags.length, c⟩, by rw [e]; rfl, by rw [e] at hR; exact hR⟩
theorem kT_M_mk {w : World} {base : Nat} {ok : Nat → Prop} {x : TX} (h : Kd.R Kd.string 9 w base ok x.tags.1.v x.tags.2) : kT.M w base ok (deep x) (tkX x) :=
  ⟨[.int .u64 (x.id : Int)], _, rfl, rfl, [.int .u64 (x.list : Int)], _, rfl, rfl, [.string x.title], _, rfl, rfl, [.bool x.done], _, rfl, rfl, [.float .f64 x.rank.b], _, rfl, rfl, [.float .f64 x.est.b], _, rfl, rfl, x.tags.1.v, rfl, h⟩
theorem rows_open {w : World} {base : Nat} {ok : Nat → Prop} {l : List Tsk} {inner : List Value} (h : Reps (kT.M w base ok) 7 l inner) : ∃ xs : List TX, xs.map deep = l ∧ Reps (fun x c => c = tkX x) 7 xs inner ∧ ∀ x ∈ xs, Kd.R Kd.string 9 w base ok x.tags.1.v x.tags.2 := by
  have hv : ∀ p : Tsk, ∀ i : Nat, ∃ s : Sl, l[i]? = some p → (inner.drop (i * 7)).take 7 = tkX (mkX p s) ∧ Kd.R Kd.string 9 w base ok s.v p.tags := by
    intro p i
    by_cases hi : l[i]? = some p
    · obtain ⟨s, h1, h2⟩ := kT_M_open (h.2 _ _ hi)
      exact ⟨s, fun _ => ⟨h1, h2⟩⟩
    · exact ⟨default, fun e => absurd e hi⟩
  obtain ⟨f, hf⟩ : ∃ f : Tsk → Nat → Sl, ∀ p i, l[i]? = some p → (inner.drop (i * 7)).take 7 = tkX (mkX p (f p i)) ∧ Kd.R Kd.string 9 w base ok (f p i).v p.tags := ⟨fun p i => Classical.choose (hv p i), fun p i => Classical.choose_spec (hv p i)⟩
  have hx : ∀ i, i < l.length → l[i]? = some (l.getD i zT) := fun i hi => by rw [List.getD_eq_getElem?_getD, List.getElem?_eq_getElem hi]; rfl
  refine ⟨(List.range l.length).map (fun i => mkX (l.getD i zT) (f (l.getD i zT) i)), ?_, ⟨by rw [List.length_map, List.length_range]; exact h.1, fun j p hj => ?_⟩, fun x hm => ?_⟩
  · refine List.ext_getElem? fun i => ?_
    rw [List.map_map, List.getElem?_map]
    by_cases hi : i < l.length
    · rw [List.getElem?_range hi, hx i hi]
      rfl
    · rw [List.getElem?_eq_none (by simpa using hi), List.getElem?_eq_none (by simpa using hi)]
      rfl
  · rw [List.getElem?_map] at hj
    obtain ⟨i, hi, rfl⟩ := Option.map_eq_some_iff.1 hj
    obtain ⟨hlt, hi⟩ := List.getElem?_eq_some_iff.1 hi
    rw [List.length_range] at hlt
    rw [List.getElem_range] at hi
    subst hi
    exact (hf _ _ (hx j hlt)).1
  · obtain ⟨i, hi, rfl⟩ := List.mem_map.1 hm
    exact (hf _ _ (hx i (List.mem_range.1 hi))).2
theorem rows_shut {w : World} {base : Nat} {ok : Nat → Prop} {xs : List TX} {inner : List Value} (h : Reps (fun x c => c = tkX x) 7 xs inner) (ho : ∀ x ∈ xs, Kd.R Kd.string 9 w base ok x.tags.1.v x.tags.2) : Reps (kT.M w base ok) 7 (xs.map deep) inner := by
  refine ⟨by rw [List.length_map]; exact h.1, fun j p hj => ?_⟩
  rw [List.getElem?_map] at hj
  obtain ⟨x, hx, rfl⟩ := Option.map_eq_some_iff.1 hj
  have e := h.2 _ _ hx
  simp only at e
  rw [e]
  exact kT_M_mk (ho x (List.mem_of_getElem? hx))
theorem orderX_lays (blk off size : Nat) (w0 : World) : CmpLays Try.prog 21 #[] tkX 7 ordI blk off size w0 := by
  intro m os dk hdk x y
  have h := order1_calls (x.map fun t => t.1.v) (y.map fun t => t.1.v) (sortWorldK tkX 7 w0 blk off m dk os)
  exact h.mono fun e w' ⟨he, q, os', hw⟩ => ⟨he, q, os', hw⟩
def Grw (w w' : World) (row : Option Nat) : Prop := w.grownBy w' row
set_option maxHeartbeats 1000000 in
theorem sortR (w : World) (base : Nat) (ok : Nat → Prop) (v : Value) (l : List Tsk) (h : Kd.R kT 34 w base ok v l) (hl : l.length ≤ 100000) : Calls Try.prog 20 #[v, .func (.func 21) #[] #[]] w fun e w' =>
    e = .returned (.tuple #[]) ∧ Kd.R kT 34 w' base ok v (stb tle l) ∧ w.grownBy w' v.ownBlock := by
  obtain ⟨h0, inner, ho, hr⟩ := h
  rcases ho.2 with ⟨rfl, hn⟩ | ⟨g, cap, cur, rfl, hbg, hg, hcap, hmax, hcs, htk⟩
  · obtain rfl : l = [] := List.eq_nil_of_length_eq_zero hn
    refine (sortStable_none none 0 _ w).mono ?_
    rintro e w' ⟨rfl, rfl⟩
    exact ⟨rfl, Kd.R_nil _ _ _ _ _, grown_of_below (Below.refl _ _) _⟩
  · obtain ⟨xs, rfl, hx, hown⟩ := rows_open hr
    rw [List.length_map] at *
    have hlen : ∀ x, (tkX x).length = 7 := fun _ => rfl
    rw [← htk] at hx
    have hH := holdsK_of_cells hlen (by decide) hg hx
    have hglt : g < w.heap.size := (Array.getElem?_eq_some_iff.1 hg).1
    have RK : RowK tkX 7 w g 0 xs.toArray := ⟨hlen, tkX_one, hH, hglt⟩
    have hsz : xs.toArray.size = xs.length := by simp
    refine (sortStable_calls 7 Try.isAgg34 Try.sizeOf34 tkX ordI tle_pre 21 #[] g 0 cap xs.toArray w xs.length (enters_of Try.func21 (by kernel_rfl) rfl) (orderX_lays g 0 xs.length w) RK hsz (by omega) xs w rfl (SWK.start hH)).mono ?_
    rintro e w' ⟨rfl, S⟩
    have hyl : (stb (leOf ordI) xs).length = xs.length := Stb.stb_length xs
    obtain ⟨cur', c1, c2, c3, c4, c5, c6, c7, c8⟩ := cells_of_sorted hlen (by decide) hg (by rw [hyl, hcs]; exact Nat.mul_le_mul_right _ hcap) S
    have hg2 : w.grownBy w' (some g) := ⟨c4, c5, c6, c7, fun i hi hne => c8 i hi (fun e => hne (by rw [e]))⟩
    have hst : stb tle (xs.map deep) = (stb (leOf ordI) xs).map deep := stb_map deep (fun _ _ => rfl) xs
    have hmem : ∀ y ∈ stb (leOf ordI) xs, y ∈ xs := fun y hy => (Stb.stb_perm xs).mem_iff.1 hy
    rw [hst]
    rw [hyl] at c3
    refine ⟨rfl, ⟨h0, cur'.toList.take (xs.length * 7), ⟨?_, .inr ⟨g, cap, cur', ?_, hbg, c1, ?_, hmax, by rw [c2, hcs], ?_⟩⟩, rows_shut c3 fun y hy => ?_⟩, hg2⟩
    · rw [List.length_map, hyl, c3.1, hyl]
      rfl
    · rw [List.length_map, hyl]
    · rw [List.length_map, hyl]; exact hcap
    · rw [List.length_map, hyl]
      rfl
    · have hR := Kd.R_bound (hown y (hmem y hy))
      exact Kd.R_mono (Kd.R_move hR fun k hk => c8 k hk.2.2.1 (fun e => hk.1.2 (by rw [e]; rfl))) (fun k hk => hk.1)
end Go.Proofs.Ytdjjlmphifgnnaa
namespace Go.Proofs.Ytdjjlmphifgnnaa
open Go.RowKit Go.Sort Go.Proofs.YtdjjlmphifgnnaaW.PrintWords Go.Proofs.YtdjjlmphifgnnaaW.PrintLast Go.Proofs.YtdjjlmphifgnnaaW.PrintMore
open Stb (mrg Pre Sorted stb)
set_option linter.unusedVariables false
set_option linter.unusedSimpArgs false
theorem infoT : (Try.prog.info? 34).map (fun i => (i.zero, i.size, i.bytes)) = some (some (.agg #[.int .u64 0, .int .u64 0, .string ⟨#[]⟩, .bool false, .float .f64 0, .float .f64 0, .slice none 0 0]), kT.sz, 80) := by kernel_rfl
theorem heap_setCell_ne (w : World) (B o : Nat) (v : Value) {k : Nat} (h : k ≠ B) : (w.setCell ⟨B, o, none⟩ v).heap[k]? = w.heap[k]? := by
  rw [setCell_eq]
  show (w.heap.modify B _)[k]? = _
  rw [Array.getElem?_modify, if_neg (Ne.symm h)]
theorem heap_setCell_at (w : World) (B o : Nat) (v : Value) {c : Array Value} {e : TypeId} {fr : Nat × Nat} (h : w.heap[B]? = some (.cells c e fr)) : (w.setCell ⟨B, o, none⟩ v).heap[B]? = some (.cells (c.setIfInBounds o v) e fr) := by
  rw [setCell_eq]
  show (w.heap.modify B _)[B]? = _
  rw [Array.getElem?_modify, if_pos rfl, h]
  rfl
theorem R_slice3 {α : Type} {d : Kd α} {e : Nat} {w : World} {base : Nat} {ok : Nat → Prop} {v : Value} {xs : List α} (h : Kd.R d e w base ok v xs) : ∃ A n c, v = .slice A n c := by
  obtain ⟨A, c, rfl⟩ := Kd.R_slice h
  exact ⟨A, _, c, rfl⟩
theorem run_store_float (P : Program) (w : World) (a : Addr) (m : Mode) (k : FloatKind) (b : Nat) : (store a (.float k b) m).run P w = stored P w a (.float k b) m := run_store P w a _ m rfl
theorem below_setCell {b : Nat} (w : World) {B : Nat} (o : Nat) (v : Value) (h : b ≤ B) : Below b w (w.setCell ⟨B, o, none⟩ v) := by
  have e : w.setCell ⟨B, o, none⟩ v = mapBlock w B (·.setIfInBounds o v) := setCell_eq w B o v
  refine ⟨by rw [e]; rfl, by rw [e]; rfl, by rw [e]; rfl, by rw [e]; simp [mapBlock], fun i hi => heap_setCell_ne w B o v (by omega)⟩
/-- what is owned lives on where another, newer block is written -/
theorem R_past {α : Type} {d : Kd α} {e : Nat} {w w1 : World} {base : Nat} {ok : Nat → Prop} {v : Value} {xs : List α} (h : Kd.R d e w base ok v xs) (hm : ∀ k, k < w.heap.size → w1.heap[k]? = w.heap[k]?) : Kd.R d e w1 base ok v xs :=
  Kd.R_mono (Kd.R_move (Kd.R_bound h) fun k hk => hm k hk.2.2.1) (fun k hk => hk.1)
/-- a box of seven cells -/
structure Box7 (w : World) (B t : Nat) (a0 a1 a2 a3 a4 a5 a6 : Value) : Prop where
  at_ : w.heap[B]? = some (.cells #[a0, a1, a2, a3, a4, a5, a6] t (0, 0))
theorem Box7.cells {w : World} {B t : Nat} {a0 a1 a2 a3 a4 a5 a6 : Value} (h : Box7 w B t a0 a1 a2 a3 a4 a5 a6) : (w.cell? ⟨B, 0, none⟩ = some a0 ∧ w.cell? ⟨B, 1, none⟩ = some a1 ∧ w.cell? ⟨B, 2, none⟩ = some a2 ∧ w.cell? ⟨B, 3, none⟩ = some a3 ∧ w.cell? ⟨B, 4, none⟩ = some a4 ∧ w.cell? ⟨B, 5, none⟩ = some a5 ∧ w.cell? ⟨B, 6, none⟩ = some a6) ∧ ∀ j, w.frozen? ⟨B, j, none⟩ = false := by
  refine ⟨⟨?_, ?_, ?_, ?_, ?_, ?_, ?_⟩, fun j => ?_⟩ <;> simp [World.cell?, World.frozen?, h.at_]
theorem Box7.up {w w' : World} {B t : Nat} {a0 a1 a2 a3 a4 a5 a6 : Value} (h : Box7 w B t a0 a1 a2 a3 a4 a5 a6) (hb : Below w.heap.size w w') : Box7 w' B t a0 a1 a2 a3 a4 a5 a6 := ⟨(hb.block B (Array.getElem?_eq_some_iff.1 h.at_).1).trans h.at_⟩
theorem ord_step {w wr W1 w2 : World} {v5 : Value} {L : List Tsk} {v2 : Value} {tg : List ByteArray} (HB : Below w.heap.size w wr) (HB1 : Below wr.heap.size wr W1) (HS1 : W1.heap.size = wr.heap.size + 1) (hb : Below W1.heap.size W1 w2) (HR : Kd.R kT 34 wr w.heap.size (fun k => w.heap.size ≤ k) v5 L) (hr : Kd.R Kd.string 9 w2 W1.heap.size (fun k => W1.heap.size ≤ k) v2 tg) (u : Value) :
    Kd.R kT 34 (w2.setCell ⟨wr.heap.size, 6, none⟩ u) w.heap.size (fun k => w.heap.size ≤ k) v5 L ∧ Kd.R Kd.string 9 (w2.setCell ⟨wr.heap.size, 6, none⟩ u) w.heap.size (fun k => W1.heap.size ≤ k) v2 tg ∧ (∀ k, W1.heap.size ≤ k → w.heap.size ≤ k ∧ some k ≠ v5.ownBlock) ∧ Below w.heap.size w (w2.setCell ⟨wr.heap.size, 6, none⟩ u) ∧ (w2.setCell ⟨wr.heap.size, 6, none⟩ u).heap.size = w2.heap.size := by
  have hsz := HB.size
  refine ⟨R_past HR fun k hk => ?_, ?_, fun k hk => ⟨by omega, fun e => ?_⟩, ?_, ?_⟩
  · rw [heap_setCell_ne _ _ _ _ (by omega), hb.block k (by omega), HB1.block k hk]
  · exact Kd.R_move (Kd.R_lower hr (by omega)) fun k hk => heap_setCell_ne _ _ _ _ (by omega)
  · obtain ⟨_, inner, ho, _⟩ := HR
    have := own_lt ho k e.symm
    omega
  · exact (HB.trans ((HB1.mono hsz).trans (hb.mono (by omega)))).trans (below_setCell w2 6 u hsz)
  · rw [setCell_eq]
    simp [mapBlock]
def OrdQ (w : World) (l : List Tsk) (e : Ending) (w' : World) : Prop := ∃ A n c, e = .returned (.slice A n c) ∧ Kd.R kT 34 w' w.heap.size (fun k => w.heap.size ≤ k) (.slice A n c) l ∧ Below w.heap.size w w'
attribute [local go_sem] run_store_float
set_option maxRecDepth 100000 in
set_option maxHeartbeats 4000000 in
theorem order_calls (w : World) (LA A : Option Addr) (ln lc c : Nat) (l : List Tsk) (list : Nat) (hC : kT.C w A l.length l) (hlen : l.length ≤ 1000) (htag : ∀ x ∈ l, x.tags.length ≤ 1000) :
    Calls Try.prog 9 #[.agg #[.slice LA ln lc, .slice A l.length c], .int .u64 (list : Int)] w (OrdQ w (stb tle (l.filter fun x => x.list == list))) := by
  obtain ⟨xs, hxs, hX, hF⟩ := rawT_of hC
  have hxl : xs.length = l.length := by rw [← hxs, List.length_map]
  rw [← hxl]
  have HX := Aside0.mk hX
  have HF := Aside0.mk hF
  have HXS := Aside0.mk hxs
  have HLEN := Aside0.mk (show xs.length ≤ 1000 from by omega)
  have HTAG := Aside0.mk htag
  have hxn : (xs.length : Int) ≤ 9223372036854775807 := by omega
  clear hX hF hxs hC hlen hxl htag
  go_enter Try.func9, Try.ntmps9
  go_wp2
  go_loopg [5, 7, 11] xs.length (fun kq v5 v7 v11 w' => ∃ (i : Nat) (A5 : Option Addr) (n5 c5 : Nat) (L : List Tsk), v11 = .int .i64 (i : Int) ∧ v5 = .slice A5 n5 c5 ∧ Aside0 (i + kq = xs.length) ∧ Aside0 (L = ((xs.map deep).take i).filter fun x => x.list == list) ∧ Aside0 (Kd.R kT 34 w' w.heap.size (fun k => w.heap.size ≤ k) (.slice A5 n5 c5) L) ∧ Aside0 (Below w.heap.size w w'))
  case atStart => exact ⟨0, none, 0, 0, [], rfl, rfl, ⟨by omega⟩, ⟨rfl⟩, ⟨Kd.R_nil _ _ _ _ _⟩, ⟨(Below.refl _ _).alloc (Nat.le_refl _) _⟩⟩
  case round =>
    obtain ⟨i, A5, n5, c5, L, rfl, rfl, HI, HLL, HR, HB⟩ := hrel
    by_cases hi : i < xs.length
    · have hi0 := HI.out
      obtain ⟨x, hx⟩ : ∃ x, xs[i]? = some x := ⟨xs[i]'hi, List.getElem?_eq_getElem _⟩
      obtain ⟨ad, e, y0, y1, y2, y3, y4, y5, y6⟩ := rawT_get HX.out hx
      subst e
      have HFx := Aside0.mk (HF.out x (List.mem_of_getElem? hx))
      have HTX := Aside0.mk (HTAG.out (deep x) (by rw [← HXS.out]; exact List.mem_map_of_mem (List.mem_of_getElem? hx)))
      have HTK := Aside0.mk (show (xs.map deep).take (i + 1) = (xs.map deep).take i ++ [deep x] from by rw [List.take_add_one, List.getElem?_map, hx]; rfl)
      obtain ⟨id, li, ti, dn, rk, es, ⟨⟨At, nt, ct⟩, tg⟩⟩ := x
      simp only [Sl.v] at y0 y1 y2 y3 y4 y5 y6
      replace y0 := (HB.out.cell (World.block_lt_of_cell? w _ y0)).trans y0
      replace y1 := (HB.out.cell (World.block_lt_of_cell? w _ y1)).trans y1
      replace y2 := (HB.out.cell (World.block_lt_of_cell? w _ y2)).trans y2
      replace y3 := (HB.out.cell (World.block_lt_of_cell? w _ y3)).trans y3
      replace y4 := (HB.out.cell (World.block_lt_of_cell? w _ y4)).trans y4
      replace y5 := (HB.out.cell (World.block_lt_of_cell? w _ y5)).trans y5
      replace y6 := (HB.out.cell (World.block_lt_of_cell? w _ y6)).trans y6
      have hiz : (i : Int) < (xs.length : Int) := by omega
      clear hx
      obtain ⟨gq, rfl⟩ : ∃ gq, gk = gq + 1 := ⟨gk - 1, by omega⟩
      have hb1 : Below wr.heap.size wr (wr.alloc (.cells #[.int .u64 (id : Int), .int .u64 (li : Int), .string ti, .bool dn, .float .f64 rk.b, .float .f64 es.b, .slice At nt ct] 34)) := (Below.refl _ _).alloc (Nat.le_refl _) _
      by_cases hl : li = list
      · have hlz : ((li : Int) == (list : Int)) = true := by simp [hl]
        have hbx : Box7 (wr.alloc (.cells #[.int .u64 (id : Int), .int .u64 (list : Int), .string ti, .bool dn, .float .f64 rk.b, .float .f64 es.b, .slice At nt ct] 34)) wr.heap.size 34 (.int .u64 (id : Int)) (.int .u64 (list : Int)) (.string ti) (.bool dn) (.float .f64 rk.b) (.float .f64 es.b) (.slice At nt ct) := ⟨heap_alloc_new wr _⟩
        rw [hl] at hb1
        obtain ⟨W1, hW1⟩ : ∃ W1, wr.alloc (.cells #[.int .u64 (id : Int), .int .u64 (list : Int), .string ti, .bool dn, .float .f64 rk.b, .float .f64 es.b, .slice At nt ct] 34) = W1 := ⟨_, rfl⟩
        rw [hW1] at hb1 hbx
        have hnt : nt = tg.length := HFx.out.1
        have HCL := Aside0.mk (cloneS_any W1 At ct tg (by have h : tg.length ≤ 1000 := HTX.out; omega) (Kd.C_below (Kd.C_below HFx.out.2.2 HB.out) hb1))
        have HBX := Aside0.mk hbx
        have HB1 := Aside0.mk hb1
        have HS1 := Aside0.mk (show W1.heap.size = wr.heap.size + 1 from by rw [← hW1]; exact Array.size_push _)
        have hL2 : L ++ [deep ⟨id, li, ti, dn, rk, es, (⟨At, nt, ct⟩, tg)⟩] = ((xs.map deep).take (i + 1)).filter fun x => x.list == list := by
          have hf : ((deep ⟨id, li, ti, dn, rk, es, (⟨At, nt, ct⟩, tg)⟩).list == list) = true := by show (li == list) = true; simp [hl]
          rw [HTK.out, List.filter_append, ← HLL.out]
          simp only [List.filter_cons, List.filter_nil, hf, if_true]
        have HLN := Aside0.mk (show L.length ≤ 1000 from by
          rw [HLL.out]
          have h1 := List.length_filter_le (fun x : Tsk => x.list == list) ((xs.map deep).take i)
          rw [List.length_take, List.length_map] at h1
          have := HLEN.out
          omega)
        have HL2 := Aside0.mk hL2
        have HW1 := Aside0.mk hW1
        clear hL2 hbx hb1 hW1
        subst hnt
        subst hl
        go_wp2_with (first
          | (go_at_call 19; rw [HW1.out]; refine HCL.out.mono ?_; rintro e w2 ⟨A2, c2, rfl, hr, hb⟩; have HR2 := Aside0.mk hr; have HB2 := Aside0.mk hb; have HBX2 := Aside0.mk (HBX.out.up hb); obtain ⟨⟨z0, z1, z2, z3, z4, z5, z6⟩, zf⟩ := HBX2.out.cells; have H3 := Aside0.mk (ord_step HB.out HB1.out HS1.out hb HR.out hr (.slice A2 tg.length c2)); clear hr hb)
          | ((with_reducible refine gate_builtin (b := .append) (xs := #[.tmp 23, .tmp 25]) rfl ?_); at_builtin; go_loud (refine Kd.R_append kT (W := w2.setCell ⟨wr.heap.size, 6, none⟩ (.slice A2 tg.length c2)) (w0 := w) w.heap.size rfl (.tmp 23) (.tmp 25) 23 34 (.agg #[.int .u64 0, .int .u64 0, .string ⟨#[]⟩, .bool false, .float .f64 0, .float .f64 0, .slice none 0 0]) 80 rfl Try.underlying23 infoT rfl (by decide) (by decide) (.slice A5 n5 c5) L (deep ⟨id, li, ti, dn, rk, es, (⟨A2, tg.length, c2⟩, tg)⟩) (tkX ⟨id, li, ti, dn, rk, es, (⟨A2, tg.length, c2⟩, tg)⟩) (fun k => w.heap.size ≤ k) (fun k => W1.heap.size ≤ k) rfl (by rw [H3.out.2.2.2.2]; rfl) (kT_M_mk H3.out.2.1) H3.out.2.2.1 (fun k hk => Nat.le_trans H3.out.2.2.2.1.size hk) H3.out.1 H3.out.2.2.2.1 H3.out.2.2.2.1.size (by have := HLN.out; omega) ?_); intro v8 w4 ho hb hg hat; obtain ⟨A8, n8, c8, rfl⟩ := R_slice3 ho; have HR4 := Aside0.mk ho; have HB4 := Aside0.mk hb; clear ho hb hg hat))
        go_roundg gq
        case rel => exact ⟨i + 1, _, _, _, _, by go_num, rfl, ⟨by omega⟩, HL2, HR4, HB4⟩
        case measure => omega
      · have hlz : ((li : Int) == (list : Int)) = false := by simp; omega
        have HR2 := Aside0.mk (Kd.R_below HR.out hb1)
        have HB2 := Aside0.mk (HB.out.trans (hb1.mono HB.out.size))
        have hL2 : L = ((xs.map deep).take (i + 1)).filter fun x => x.list == list := by
          rw [HTK.out, List.filter_append, ← HLL.out]
          have : (deep ⟨id, li, ti, dn, rk, es, (⟨At, nt, ct⟩, tg)⟩).list = li := rfl
          simp [this, hl]
        have HL2 := Aside0.mk hL2
        clear hb1 hL2 hl
        go_wp2
        go_roundg gq
        case rel => exact ⟨i + 1, _, _, _, L, by go_num, rfl, ⟨by omega⟩, HL2, HR2, HB2⟩
        case measure => omega
    · have hi0 := HI.out
      obtain rfl : gk = 0 := by omega
      obtain rfl : i = xs.length := by omega
      clear hi0
      have hm : ¬ ((xs.length : Int) < (xs.length : Int)) := by omega
      have hLl : L = l.filter fun x => x.list == list := by
        rw [HLL.out, HXS.out, show xs.length = l.length by rw [← HXS.out, List.length_map], List.take_length]
      have HLl := Aside0.mk hLl
      have HSO := Aside0.mk (sortR wr w.heap.size _ _ L HR.out (by
        have h1 := List.length_filter_le (fun x : Tsk => x.list == list) l
        have h2 : xs.length = l.length := by rw [← HXS.out, List.length_map]
        have := HLEN.out
        rw [hLl]
        omega))
      have HBS := Aside0.mk (fun (w' : World) (hg : wr.grownBy w' (Value.slice A5 n5 c5).ownBlock) => pw_below_grown HB.out _ HB.out.size hg (fun k hk => HR.out.1 k hk))
      clear hLl
      go_wp2_with (first
        | (go_at_call 20; refine HSO.out.mono ?_; rintro e w2 ⟨rfl, hr, hg⟩; have HR2 := Aside0.mk hr; have HB2 := Aside0.mk (HBS.out w2 hg); clear hr hg))
      go_ret
      refine ⟨A5, n5, c5, rfl, ?_, HB2.out⟩
      rw [← HLl.out]
      exact HR2.out
end Go.Proofs.Ytdjjlmphifgnnaa
