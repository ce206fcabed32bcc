/- Parts of one proof, joined: Mp, Mq. Conditions: those of each statement. -/
import Derived.MapFrom
import Derived.Below
import Derived.DeepKeys3
import Derived.WideKeyMaps
namespace Go.Mp
open Go.RowKit Go.MapKept
open Classical

/-- What a map's entries say: a function from keys to values. -/
structure Rep (d : TypeDesc) (es : Array MapEntry) (f : Value → Option Value) : Prop where
  isK : ∀ x ∈ es.toList, IsKey d x.key
  nodup : (es.toList.map (·.key)).Nodup
  to_ : ∀ x ∈ es.toList, f x.key = some x.val
  of_ : ∀ k v, f k = some v → ∃ x ∈ es.toList, x.key = k
def Is (d : TypeDesc) (w : World) (r : Nat) (f : Value → Option Value) : Prop := ∃ es clock, w.heap[r]? = some (.map es clock) ∧ Rep d es f
noncomputable def upd (f : Value → Option Value) (k v : Value) : Value → Option Value := fun x => if x = k then some v else f x
noncomputable def del (f : Value → Option Value) (k : Value) : Value → Option Value := fun x => if x = k then none else f x
theorem upd_at (f : Value → Option Value) (k v : Value) : upd f k v k = some v := by simp [upd]
theorem upd_ne (f : Value → Option Value) {k x : Value} (v : Value) (h : x ≠ k) : upd f k v x = f x := by simp [upd, h]
theorem del_at (f : Value → Option Value) (k : Value) : del f k k = none := by simp [del]
theorem del_ne (f : Value → Option Value) {k x : Value} (h : x ≠ k) : del f k x = f x := by simp [del, h]

/-- w' is w with block r turned. -/
structure Turned (w w' : World) (r : Nat) : Prop where
  os : w'.os = w.os
  tape : w'.tape = w.tape
  output : w'.output = w.output
  size : w'.heap.size = w.heap.size
  block : ∀ k, k ≠ r → w'.heap[k]? = w.heap[k]?
theorem turned_set {w : World} {r : Nat} (o : Obj) : Turned w { w with heap := w.heap.setIfInBounds r o } r :=
  ⟨rfl, rfl, rfl, by simp, fun k hk => by simp [Ne.symm hk]⟩
theorem Is.empty (d : TypeDesc) (w : World) : Is d (w.alloc (.map #[] 0)) w.heap.size (fun _ => none) :=
  ⟨#[], 0, (heap_alloc w _).1, ⟨by simp, by simp, by simp, by simp⟩⟩
theorem Is.lt {d : TypeDesc} {w : World} {r : Nat} {f : Value → Option Value} (h : Is d w r f) : r < w.heap.size := by
  obtain ⟨es, c, h, _⟩ := h
  exact (Array.getElem?_eq_some_iff.1 h).1
theorem Is.same {d : TypeDesc} {w w' : World} {r : Nat} {f : Value → Option Value} (h : Is d w r f) (hb : w'.heap[r]? = w.heap[r]?) : Is d w' r f := by
  obtain ⟨es, c, h, hr⟩ := h
  exact ⟨es, c, hb.trans h, hr⟩

section
variable {P : Program} {w : World} {t kt et ty : TypeId} {d : TypeDesc} {r : Nat} {f : Value → Option Value}

theorem find {es : Array MapEntry} (h : Rep d es f) {k : Value} (hk : IsKey d k) :
    (Instr.findNow d k es.toList 0 = some none ∧ f k = none) ∨ ∃ j e, Instr.findNow d k es.toList 0 = some (some (j, e.val)) ∧ es[j]? = some e ∧ e.key = k ∧ f k = some e.val := by
  rcases findNow_spec hk es.toList 0 h.isK with ⟨h1, h2⟩ | ⟨j, e, h1, h2, h3⟩
  · refine .inl ⟨h1, ?_⟩
    cases hf : f k with
    | none => rfl
    | some v =>
      obtain ⟨x, hx, e⟩ := h.of_ k v hf
      exact absurd e (h2 x hx)
  · have h4 : e ∈ es.toList := List.mem_of_getElem? h2
    refine .inr ⟨j, e, by simpa using h1, by simpa using h2, h3, ?_⟩
    rw [← h3]; exact h.to_ e h4

theorem run_lookup (h : Is d w r f) (ht : P.underlying t = some (.map kt et)) (hd : P.underlying kt = some d) {k : Value} (hk : IsKey d k) {z : Value} (hz : (zeroValue et).run P w = .ok z w) :
    (Instr.lookup t (.map (some r)) k false).run P w = .ok ((f k).getD z) w := by
  obtain ⟨es, c, hb, hr⟩ := h
  rcases find hr hk with ⟨h1, h2⟩ | ⟨j, e, h1, h2, h3, h4⟩
  · simp [Instr.lookup, run_underlying ht, MapKept.run_getObj_map hb, MapKept.run_checkKey hd hk, MapKept.run_findKey hd h1, hz, Result.andThen, h2]
  · simp [Instr.lookup, run_underlying ht, MapKept.run_getObj_map hb, MapKept.run_checkKey hd hk, MapKept.run_findKey hd h1, Result.andThen, h4]
theorem modify_map {es : Array MapEntry} {j : Nat} {e : MapEntry} (h : es[j]? = some e) (g : MapEntry → MapEntry) (hg : ∀ x, (g x).key = e.key) :
    (es.modify j g).toList.map (·.key) = es.toList.map (·.key) := by
  apply List.ext_getElem?
  intro i
  simp only [List.getElem?_map, Array.getElem?_toList, Array.getElem?_modify]
  by_cases hij : j = i
  · subst hij; simp [h, hg]
  · simp [hij]

theorem nodup_at {α : Type} {l : List α} (h : l.Nodup) {i j : Nat} {x : α} (hi : l[i]? = some x) (hj : l[j]? = some x) : i = j := by
  obtain ⟨h1, h2⟩ := List.getElem?_eq_some_iff.1 hi
  obtain ⟨h3, h4⟩ := List.getElem?_eq_some_iff.1 hj
  have hp := List.pairwise_iff_getElem.1 h
  rcases Nat.lt_trichotomy i j with hlt | heq | hgt
  · exact absurd (h2.trans h4.symm) (hp i j h1 h3 hlt)
  · exact heq
  · exact absurd (h4.trans h2.symm) (hp j i h3 h1 hgt)
theorem erase_list {es : Array MapEntry} {j : Nat} : (es.eraseIdxIfInBounds j).toList = es.toList.eraseIdx j := by
  unfold Array.eraseIdxIfInBounds
  split
  · simp
  · rename_i h
    rw [List.eraseIdx_of_length_le (by simpa using h)]
theorem run_delete (h : Is d w r f) (ht : P.underlying t = some (.map kt et)) (hd : P.underlying kt = some d) {k : Value} (hk : IsKey d k) :
    ∃ w', (Builtin.delete_ #[t, kt] ty #[.map (some r), k]).run P w = .ok (.tuple #[]) w' ∧ Turned w w' r ∧ Is d w' r (del f k) := by
  obtain ⟨es, c, hb, hr⟩ := h
  rcases find hr hk with ⟨h1, h2⟩ | ⟨j, e, h1, h2, h3, h4⟩
  · refine ⟨_, by simp [Builtin.delete_, run_underlying ht, MapKept.run_getObj_map hb, MapKept.run_checkKey hd hk, MapKept.run_findKey hd h1, MapKept.run_setObj_map _ hb, Result.andThen]; try rfl, turned_set _, es, c, (heap_set hb).1, ⟨hr.isK, hr.nodup, ?_, ?_⟩⟩
    · intro x hx
      have h5 := hr.to_ x hx
      rw [del_ne _ (fun e => by rw [e, h2] at h5; cases h5)]; exact h5
    · intro k' v' hv'
      by_cases e : k' = k
      · subst e; rw [del_at] at hv'; cases hv'
      · rw [del_ne _ e] at hv'; exact hr.of_ k' v' hv'
  · refine ⟨_, by simp [Builtin.delete_, run_underlying ht, MapKept.run_getObj_map hb, MapKept.run_checkKey hd hk, MapKept.run_findKey hd h1, MapKept.run_setObj_map _ hb, Result.andThen]; try rfl, turned_set _, es.eraseIdxIfInBounds j, c, (heap_set hb).1, ⟨?_, ?_, ?_, ?_⟩⟩
    · intro x hx
      rw [erase_list] at hx
      exact hr.isK x (List.mem_of_mem_eraseIdx hx)
    · rw [erase_list]
      exact ((List.eraseIdx_sublist _ _).map _).nodup hr.nodup
    · intro x hx
      rw [erase_list] at hx
      have hx' := List.mem_of_mem_eraseIdx hx
      refine (del_ne _ ?_).trans (hr.to_ x hx')
      intro e'
      obtain ⟨i, hi, hne⟩ := List.mem_eraseIdx_iff_getElem?.1 hx
      have a1 : (es.toList.map (·.key))[i]? = some k := by rw [List.getElem?_map, hne]; simp [e']
      have a2 : (es.toList.map (·.key))[j]? = some k := by rw [List.getElem?_map, Array.getElem?_toList, h2]; simp [h3]
      exact hi (nodup_at hr.nodup a1 a2)
    · intro k' v' hv'
      by_cases e' : k' = k
      · subst e'; rw [del_at] at hv'; cases hv'
      · rw [del_ne _ e'] at hv'
        obtain ⟨x, hx, e2⟩ := hr.of_ k' v' hv'
        obtain ⟨i, hi⟩ := List.mem_iff_getElem?.1 hx
        refine ⟨x, ?_, e2⟩
        rw [erase_list]
        refine List.mem_eraseIdx_iff_getElem?.2 ⟨i, fun e3 => ?_, hi⟩
        subst e3
        rw [Array.getElem?_toList, h2] at hi
        obtain rfl := Option.some.inj hi
        exact e' (e2.symm.trans h3)
theorem run_update (h : Is d w r f) (ht : P.underlying t = some (.map kt et)) (hd : P.underlying kt = some d) {k : Value} (hk : IsKey d k) (v : Value) :
    ∃ w', (Instr.mapUpdate t (.map (some r)) k v).run P w = .ok () w' ∧ Turned w w' r ∧ Is d w' r (upd f k v) := by
  obtain ⟨es, c, hb, hr⟩ := h
  have hlt : r < w.heap.size := (Array.getElem?_eq_some_iff.1 hb).1
  rcases find hr hk with ⟨h1, h2⟩ | ⟨j, e, h1, h2, h3, h4⟩
  · refine ⟨_, by simp [Instr.mapUpdate, run_underlying ht, MapKept.run_getObj_map hb, MapKept.run_checkKey hd hk, MapKept.run_findKey hd h1, MapKept.run_setObj_map _ hb, Result.andThen]; try rfl, turned_set _, _, _, (heap_set hb).1, ⟨?_, ?_, ?_, ?_⟩⟩
    · intro x hx
      rcases (by simpa using hx : x ∈ es ∨ x = ⟨k, v, c⟩) with hx | hx
      · exact hr.isK x (Array.mem_toList_iff.2 hx)
      · rw [hx]; exact hk
    · simp only [Array.toList_push, List.map_append, List.map_cons, List.map_nil]
      refine List.nodup_append.2 ⟨hr.nodup, by simp, ?_⟩
      intro a ha b hb' e
      obtain ⟨x, hx, rfl⟩ := List.mem_map.1 ha
      have := hr.to_ x hx
      rw [List.mem_singleton] at hb'
      subst hb'
      rw [e, h2] at this
      cases this
    · intro x hx
      rcases (by simpa using hx : x ∈ es ∨ x = ⟨k, v, c⟩) with hx | hx
      · have h5 := hr.to_ x (Array.mem_toList_iff.2 hx)
        rw [upd_ne _ _ (fun e => by rw [e, h2] at h5; cases h5)]; exact h5
      · rw [hx]; exact upd_at _ _ _
    · intro k' v' hv'
      by_cases e : k' = k
      · subst e; exact ⟨⟨k', v, c⟩, by simp, rfl⟩
      · rw [upd_ne _ _ e] at hv'
        obtain ⟨x, hx, e⟩ := hr.of_ k' v' hv'
        exact ⟨x, by simp [Array.mem_toList_iff] at hx ⊢; exact .inl hx, e⟩
  · have hm := modify_map h2 (fun x => { x with key := k, val := v }) (fun x => h3.symm)
    refine ⟨_, by simp [Instr.mapUpdate, run_underlying ht, MapKept.run_getObj_map hb, MapKept.run_checkKey hd hk, MapKept.run_findKey hd h1, h2, h3, run_keyThatStays hk, MapKept.run_setObj_map _ hb, Result.andThen]; try rfl, turned_set _, _, _, (heap_set hb).1, ⟨?_, ?_, ?_, ?_⟩⟩
    · intro x hx
      have : x.key ∈ es.toList.map (·.key) := by rw [← hm]; exact List.mem_map.2 ⟨x, hx, rfl⟩
      obtain ⟨y, hy, e⟩ := List.mem_map.1 this
      rw [← e]; exact hr.isK y hy
    · rw [hm]; exact hr.nodup
    · intro x hx
      obtain ⟨i, hi⟩ := List.mem_iff_getElem?.1 hx
      rw [Array.getElem?_toList, Array.getElem?_modify] at hi
      by_cases hij : j = i
      · subst hij
        simp [h2] at hi
        subst hi
        exact upd_at _ _ _
      · simp [hij] at hi
        have hx' : x ∈ es.toList := List.mem_iff_getElem?.2 ⟨i, by rw [Array.getElem?_toList]; exact hi⟩
        have hne : x.key ≠ k := by
          intro e
          have n1 := hr.nodup
          have a1 : (es.toList.map (·.key))[i]? = some k := by rw [List.getElem?_map, Array.getElem?_toList, hi]; simp [e]
          have a2 : (es.toList.map (·.key))[j]? = some k := by rw [List.getElem?_map, Array.getElem?_toList, h2]; simp [h3]
          exact hij (nodup_at n1 a2 a1)
        rw [upd_ne _ _ hne]; exact hr.to_ x hx'
    · intro k' v' hv'
      have hkey : k' ∈ es.toList.map (·.key) := by
        by_cases e : k' = k
        · subst e; exact List.mem_map.2 ⟨_, List.mem_of_getElem? (by rw [Array.getElem?_toList]; exact h2), h3⟩
        · rw [upd_ne _ _ e] at hv'
          obtain ⟨x, hx, e⟩ := hr.of_ k' v' hv'
          exact List.mem_map.2 ⟨x, hx, e⟩
      rw [← hm] at hkey
      obtain ⟨x, hx, e⟩ := List.mem_map.1 hkey
      exact ⟨x, hx, e⟩
end
end Go.Mp
namespace Go.Mq
open Go.RowKit Go.MapKept Go.Mp
open Classical
/-- a key's own word -/
def IsK (P : Program) (kt : TypeId) (v : Value) : Prop := ∃ l, keyOf P kt v = some l
structure Rep (P : Program) (kt : TypeId) (es : Array MapEntry) (f : Value → Option Value) : Prop where
  isK : ∀ x ∈ es.toList, IsK P kt x.key
  nodup : (es.toList.map (·.key)).Nodup
  to_ : ∀ x ∈ es.toList, f x.key = some x.val
  of_ : ∀ k v, f k = some v → ∃ x ∈ es.toList, x.key = k
def Is (P : Program) (kt : TypeId) (w : World) (r : Nat) (f : Value → Option Value) : Prop := ∃ es clock, w.heap[r]? = some (.map es clock) ∧ Rep P kt es f
theorem Is.empty (P : Program) (kt : TypeId) (w : World) : Is P kt (w.alloc (.map #[] 0)) w.heap.size (fun _ => none) :=
  ⟨#[], 0, (heap_alloc w _).1, ⟨by simp, by simp, by simp, by simp⟩⟩
theorem Is.lt {P : Program} {kt : TypeId} {w : World} {r : Nat} {f : Value → Option Value} (h : Is P kt w r f) : r < w.heap.size := by
  obtain ⟨es, c, h, _⟩ := h
  exact (Array.getElem?_eq_some_iff.1 h).1
theorem Is.same {P : Program} {kt : TypeId} {w w' : World} {r : Nat} {f : Value → Option Value} (h : Is P kt w r f) (hb : w'.heap[r]? = w.heap[r]?) : Is P kt w' r f := by
  obtain ⟨es, c, h, hr⟩ := h
  exact ⟨es, c, hb.trans h, hr⟩
section
variable {P : Program} {w : World} {t kt et ty : TypeId} {r : Nat} {f : Value → Option Value}
theorem find (KL : WideMaps.KeyLaw P kt) (w : World) {es : Array MapEntry} (h : Rep P kt es f) {k : Value} (hk : IsK P kt k) :
    ((Instr.findKey kt k es.toList).run P w = .ok none w ∧ f k = none) ∨ ∃ j e, (Instr.findKey kt k es.toList).run P w = .ok (some (j, e.val)) w ∧ es[j]? = some e ∧ e.key = k ∧ f k = some e.val := by
  obtain ⟨lk, hlk⟩ := hk
  rcases KL.find w hlk es.toList h.isK with ⟨h1, h2⟩ | ⟨j, e, h1, h2, h3⟩
  · refine .inl ⟨h1, ?_⟩
    cases hf : f k with
    | none => rfl
    | some v =>
      obtain ⟨x, hx, e⟩ := h.of_ k v hf
      exact absurd e (h2 x hx)
  · have h4 : e ∈ es.toList := List.mem_of_getElem? h2
    refine .inr ⟨j, e, h1, by simpa using h2, h3, ?_⟩
    rw [← h3]; exact h.to_ e h4
theorem run_lookup (KL : WideMaps.KeyLaw P kt) (h : Is P kt w r f) (ht : P.underlying t = some (.map kt et)) {k : Value} (hk : IsK P kt k) {z : Value} (hz : (zeroValue et).run P w = .ok z w) :
    (Instr.lookup t (.map (some r)) k false).run P w = .ok ((f k).getD z) w := by
  obtain ⟨es, c, hb, hr⟩ := h
  have hc := fun em => KL.check w em hk.choose_spec
  rcases find KL w hr hk with ⟨h1, h2⟩ | ⟨j, e, h1, h2, h3, h4⟩
  · simp [Instr.lookup, run_underlying ht, MapKept.run_getObj_map hb, hc, h1, hz, Result.andThen, h2]
  · simp [Instr.lookup, run_underlying ht, MapKept.run_getObj_map hb, hc, h1, Result.andThen, h4]
theorem run_update (KL : WideMaps.KeyLaw P kt) (h : Is P kt w r f) (ht : P.underlying t = some (.map kt et)) {k : Value} (hk : IsK P kt k) (v : Value) :
    ∃ w', (Instr.mapUpdate t (.map (some r)) k v).run P w = .ok () w' ∧ Turned w w' r ∧ Is P kt w' r (upd f k v) := by
  obtain ⟨es, c, hb, hr⟩ := h
  have hc := fun em => KL.check w em hk.choose_spec
  have hs := KL.stays w hk.choose_spec
  rcases find KL w hr hk with ⟨h1, h2⟩ | ⟨j, e, h1, h2, h3, h4⟩
  · refine ⟨_, by simp [Instr.mapUpdate, run_underlying ht, MapKept.run_getObj_map hb, hc, h1, MapKept.run_setObj_map _ hb, Result.andThen]; try rfl, turned_set _, _, _, (heap_set hb).1, ⟨?_, ?_, ?_, ?_⟩⟩
    · intro x hx
      rcases (by simpa using hx : x ∈ es ∨ x = ⟨k, v, c⟩) with hx | hx
      · exact hr.isK x (Array.mem_toList_iff.2 hx)
      · rw [hx]; exact hk
    · simp only [Array.toList_push, List.map_append, List.map_cons, List.map_nil]
      refine List.nodup_append.2 ⟨hr.nodup, by simp, ?_⟩
      intro a ha b hb' e
      obtain ⟨x, hx, rfl⟩ := List.mem_map.1 ha
      have := hr.to_ x hx
      rw [List.mem_singleton] at hb'
      subst hb'
      rw [e, h2] at this
      cases this
    · intro x hx
      rcases (by simpa using hx : x ∈ es ∨ x = ⟨k, v, c⟩) with hx | hx
      · have h5 := hr.to_ x (Array.mem_toList_iff.2 hx)
        rw [upd_ne _ _ (fun e => by rw [e, h2] at h5; cases h5)]; exact h5
      · rw [hx]; exact upd_at _ _ _
    · intro k' v' hv'
      by_cases e : k' = k
      · subst e; exact ⟨⟨k', v, c⟩, by simp, rfl⟩
      · rw [upd_ne _ _ e] at hv'
        obtain ⟨x, hx, e⟩ := hr.of_ k' v' hv'
        exact ⟨x, by simp [Array.mem_toList_iff] at hx ⊢; exact .inl hx, e⟩
  · have hm := modify_map h2 (fun x => { x with key := k, val := v }) (fun x => h3.symm)
    refine ⟨_, by simp [Instr.mapUpdate, run_underlying ht, MapKept.run_getObj_map hb, hc, h1, h2, h3, hs, MapKept.run_setObj_map _ hb, Result.andThen]; try rfl, turned_set _, _, _, (heap_set hb).1, ⟨?_, ?_, ?_, ?_⟩⟩
    · intro x hx
      have : x.key ∈ es.toList.map (·.key) := by rw [← hm]; exact List.mem_map.2 ⟨x, hx, rfl⟩
      obtain ⟨y, hy, e⟩ := List.mem_map.1 this
      rw [← e]; exact hr.isK y hy
    · rw [hm]; exact hr.nodup
    · intro x hx
      obtain ⟨i, hi⟩ := List.mem_iff_getElem?.1 hx
      rw [Array.getElem?_toList, Array.getElem?_modify] at hi
      by_cases hij : j = i
      · subst hij
        simp [h2] at hi
        subst hi
        exact upd_at _ _ _
      · simp [hij] at hi
        have hx' : x ∈ es.toList := List.mem_iff_getElem?.2 ⟨i, by rw [Array.getElem?_toList]; exact hi⟩
        have hne : x.key ≠ k := by
          intro e
          have n1 := hr.nodup
          have a1 : (es.toList.map (·.key))[i]? = some k := by rw [List.getElem?_map, Array.getElem?_toList, hi]; simp [e]
          have a2 : (es.toList.map (·.key))[j]? = some k := by rw [List.getElem?_map, Array.getElem?_toList, h2]; simp [h3]
          exact hij (nodup_at n1 a2 a1)
        rw [upd_ne _ _ hne]; exact hr.to_ x hx'
    · intro k' v' hv'
      have hkey : k' ∈ es.toList.map (·.key) := by
        by_cases e : k' = k
        · subst e; exact List.mem_map.2 ⟨_, List.mem_of_getElem? (by rw [Array.getElem?_toList]; exact h2), h3⟩
        · rw [upd_ne _ _ e] at hv'
          obtain ⟨x, hx, e⟩ := hr.of_ k' v' hv'
          exact List.mem_map.2 ⟨x, hx, e⟩
      rw [← hm] at hkey
      obtain ⟨x, hx, e⟩ := List.mem_map.1 hkey
      exact ⟨x, hx, e⟩
end
/-- a key of two words -/
def two (a b : Nat) : Value := .agg #[.int .u64 (a : Int), .int .u64 (b : Int)]
theorem two_inj {a b c d : Nat} : two a b = two c d ↔ a = c ∧ b = d := by
  unfold two
  constructor
  · intro h
    injection h with h
    simp at h
    omega
  · rintro ⟨rfl, rfl⟩; rfl
theorem two_isK {P : Program} {kt u : TypeId} {f1 f2 : Field} (hk : P.underlying kt = some (.struct #[f1, f2])) (hkt : P.keyType kt = true) (hc : P.cellsOf kt = 2) (hn : (f1.name != "_") = true ∧ (f2.name != "_") = true) (h1 : f1.type = u) (h2 : f2.type = u) (o1 : f1.offset = 0) (o2 : f2.offset = 1)
    (hu : P.underlying u = some (.int .u64)) (hcu : P.cellsOf u = 1) (hsz : P.types.size = (P.types.size - 1) + 1) {a b : Nat} (ha : a < 18446744073709551616) (hb : b < 18446744073709551616) : IsK P kt (two a b) := by
  have hwa : (Lit.int .u64 (a : Int)).wf = true := by have e1 : IntKind.u64.min = 0 := rfl; have e2 : IntKind.u64.max = 18446744073709551615 := rfl; simp [Lit.wf, e1, e2]; omega
  have hwb : (Lit.int .u64 (b : Int)).wf = true := by have e1 : IntKind.u64.min = 0 := rfl; have e2 : IntKind.u64.max = 18446744073709551615 := rfl; simp [Lit.wf, e1, e2]; omega
  refine ⟨_, by
    unfold keyOf two
    rw [hk]
    simp only [hkt, Value.formed, hk, hc, Value.cells, Bool.true_and]
    rw [hsz]
    simp [Program.keyLits, hk, hc, hn.1, hn.2, h1, h2, o1, o2, hu, hcu, hwa, hwb]
    rfl⟩
end Go.Mq
