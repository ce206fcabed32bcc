/- Parts of one proof, joined: Arr. Conditions: those of each statement. -/
import Derived.Test.YtmjnndcadndiaaaGreatWMore
import Derived.Test.YtmjnndcadndiaaaGreatCm2
import Derived.Laws.CopyOwn
import Derived.Laws.StructEq
import Derived.ChangeKeysEq
import Derived.Test.YtmjnndcadndiaaaGreatCm1
set_option linter.unusedSimpArgs false
namespace Go.Arr
open Go.RowKit Go.Proofs.YtmjnndcadndiaaaGreatW.PrintWords
section
variable {P : Program} {W : World} {o : Oper} {ρ : Operand → Value}

theorem run_zero {t : TypeId} {i : TypeInfo} {z : Value} (hi : P.info? t = some i) (hz : i.zero = some z) (w : World) : (zeroValue t).run P w = .ok z w := by
  simp [zeroValue, typeInfo, hi, hz]
theorem run_size {t : TypeId} {n : Nat} (h : (P.info? t).map (·.size) = some n) (w : World) : (sizeOf t).run P w = .ok n w := by
  obtain ⟨i, hi, his⟩ := Option.map_eq_some_iff.1 h
  simp [sizeOf, typeInfo, hi, his]
theorem ex_alloc {t : TypeId} {i : TypeInfo} {z : Value} (ho : o.op = .alloc t) (hi : P.info? t = some i) (hz : i.zero = some z) :
    (execOp ρ o).run P W = .ok (.value (.pointer (some ⟨W.heap.size, 0, none⟩))) (W.alloc (.cells z.cells t)) := by
  simp only [execOp, ho, Instr.alloc, Sem.run_bind, run_zero hi hz, Result.andThen_ok]
  rfl
def aggT (P : Program) (ty : TypeId) : Bool := match P.underlying ty with | some (.struct _) | some (.array _ _) => true | _ => false
theorem run_isAgg {ty : TypeId} (h : aggT P ty = true) (w : World) : (isAgg ty).run P w = .ok true w := by
  unfold aggT at h
  cases hu : P.underlying ty with
  | none => simp [hu] at h
  | some d =>
    unfold isAgg
    rw [Sem.run_bind, run_underlying hu w]
    cases d <;> simp_all
theorem ex_load {ty : TypeId} {x : Operand} (ho : o.op = .load ty x) {ad : Addr} (hx : ρ x = .pointer (some ad)) (hagg : aggT P ty = true) {seg : List Value} (hs : (P.info? ty).map (·.size) = some seg.length)
    (hc : ∀ j u, seg[j]? = some u → W.cell? (ad.add j) = some u) : (execOp ρ o).run P W = .ok (.value (.agg seg.toArray)) W := by
  have hl := run_loadCells_list (P := P) W ad seg hc
  simp only [execOp, ho, hx, Instr.loadAt, Instr.sureAddr, Sem.run_bind, Sem.run_pure, Result.andThen_ok, loadVar, run_isAgg hagg, if_true, run_size hs, hl]
theorem run_isAgg0 {ty : TypeId} (h : aggT P ty = false) (hu : (P.underlying ty).isSome = true) (w : World) : (isAgg ty).run P w = .ok false w := by
  unfold aggT at h
  obtain ⟨d, hd⟩ := Option.isSome_iff_exists.1 hu
  unfold isAgg
  rw [Sem.run_bind, run_underlying hd w]
  cases d <;> simp_all
theorem ex_load1 {ty : TypeId} {x : Operand} (ho : o.op = .load ty x) {ad : Addr} (hx : ρ x = .pointer (some ad)) (hagg : (!aggT P ty && (P.underlying ty).isSome) = true) {v : Value} (hc : W.cell? ad = some v) : (execOp ρ o).run P W = .ok (.value v) W := by
  simp only [Bool.and_eq_true, Bool.not_eq_true'] at hagg
  simp [execOp, ho, hx, Instr.loadAt, Instr.sureAddr, loadVar, run_isAgg0 hagg.1 hagg.2, run_load, hc, Result.andThen]
theorem ex_store {ty : TypeId} {x y : Operand} (ho : o.op = .store ty x y) {g off : Nat} (hx : ρ x = .pointer (some ⟨g, off, none⟩)) {v : Value} (hy : ρ y = v) {seg : List Value} (hv : v.cells.toList = seg)
    (hs : (P.info? ty).map (·.size) = some seg.length) {cur : Array Value} {t : TypeId} (hg : W.heap[g]? = some (.cells cur t (0, 0))) (hl : off + seg.length ≤ cur.size) (h1 : ∀ u ∈ seg, u.oneCell' = true) :
    (execOp ρ o).run P W = .ok .skip (W.setRow g (cur.toList.take off ++ seg ++ cur.toList.drop (off + seg.length)).toArray) := by
  have hst := run_storeCells_at P g off t seg 0 cur W hg (by simpa using hl) h1
  have hsz : v.cells.size = seg.length := by rw [← hv]; simp
  simp only [Nat.add_zero] at hst
  simp only [execOp, ho, hx, hy, Instr.storeAt, Instr.sureAddr, Sem.run_bind, Sem.run_pure, Result.andThen_ok, storeVar, run_size hs, hsz, hv]
  simp [hst]
end
section
variable {P : Program} {ops : Array Oper} {rest : List Oper} {o : Oper} {a : Act} {Q : Exit → Act → World → Prop} {W w1 : World}
theorem skip_run (hgd : o.guard = none) (hrun : (execOp a.eval o).run P W = .ok .skip w1) (h : wpList P ops Q rest (a.put o.dst undef) w1) : wpList P ops Q (o :: rest) a W := by
  refine wpList_plain hgd fun K hK => ?_
  unfold Oper.wp
  rw [hrun]
  exact hK _ _ h
end
theorem setRow_alloc (W : World) (cs cs' : Array Value) (t : TypeId) : (W.alloc (.cells cs t)).setRow W.heap.size cs' = W.alloc (.cells cs' t) := by
  have hh : ((W.alloc (.cells cs t)).setRow W.heap.size cs').heap = (W.alloc (.cells cs' t)).heap := by
    have hsz : ((W.alloc (.cells cs t)).setRow W.heap.size cs').heap.size = (W.alloc (.cells cs' t)).heap.size := by
      rw [size_setRow]
      show (W.heap.push _).size = (W.heap.push _).size
      simp only [Array.size_push]
    refine Array.ext hsz fun i h1 h2 => Option.some.inj ?_
    rw [← Array.getElem?_eq_getElem h1, ← Array.getElem?_eq_getElem h2]
    by_cases hi : i = W.heap.size
    · rw [hi, setRow_heap _ _ _ cs' t (0, 0) (heap_alloc_new W _), heap_alloc_new]
    · rw [setRow_other _ _ _ _ hi]
      have : i < W.heap.size := by
        have h3 : i < (W.heap.push (Obj.cells cs' t)).size := h2
        simp only [Array.size_push] at h3
        omega
      rw [heap_alloc_old W _ this, heap_alloc_old W _ this]
  unfold World.setRow World.alloc at hh ⊢
  simp only at hh ⊢
  rw [hh]
section
variable {P : Program} {W : World} {o : Oper} {ρ : Operand → Value}
theorem ex_build {t : TypeId} {parts : Array (Nat × Operand)} (ho : o.op = .build t parts) {cells : Array Value} (h : P.built t (parts.map fun (i, x) => (i, ρ x)).toList = some cells) :
    (execOp ρ o).run P W = .ok (.value (.agg cells)) W := by
  simp only [execOp, ho, Sem.run_bind, run_build W t _ cells h, Result.andThen_ok, Sem.run_pure]
theorem eq_items {e : TypeId} {k : IntKind} (he : P.underlying e = some (.int k)) (d : Nat) (xs ys : List Int) : ∀ is : List Nat, (∀ i ∈ is, i < xs.length ∧ i < ys.length) →
    (Op.eqItems (d + 1) e 1 (encs (Value.int k) xs).toArray (encs (Value.int k) ys).toArray is).run P W = .ok (is.all fun i => xs[i]? == ys[i]?) W
  | [], _ => by simp [Op.eqItems]
  | i :: is, h => by
    obtain ⟨h1, h2⟩ := h i (List.mem_cons_self ..)
    have hag : (isAgg e).run P W = .ok false W := by
      unfold isAgg
      rw [Sem.run_bind, run_underlying he W]
      rfl
    have hp : ∀ zs : List Int, ∀ h : i < zs.length, (part e (encs (Value.int k) zs).toArray (i * 1)).run P W = .ok (.int k zs[i]) W := by
      intro zs h
      have : (encs (Value.int k) zs).toArray[i]? = some (.int k zs[i]) := by simp [encs, h]
      simp [part, hag, this]
    have hq : (Op.equalIn (d + 1) e (.int k xs[i]) (.int k ys[i])).run P W = .ok (xs[i] == ys[i]) W := by
      simp [Op.equalIn, run_underlying he]
    have ih := eq_items he d xs ys is (fun j hj => h j (List.mem_cons_of_mem _ hj))
    simp only [Op.eqItems, Sem.run_bind, hp xs h1, hp ys h2, hq, Result.andThen_ok, List.all_cons, List.getElem?_eq_getElem h1, List.getElem?_eq_getElem h2]
    by_cases hx : xs[i] = ys[i]
    · simp [hx, ih]
    · have : (xs[i] == ys[i]) = false := by simpa using hx
      have h3 : ((some xs[i] : Option Int) == some ys[i]) = false := by simpa using hx
      simp [this, h3]
theorem ex_eql_arr {t e t' : TypeId} {n : Nat} {k : IntKind} {x y : Operand} (ho : o.op = .binOp .eql t x y t') (hu : P.underlying t = some (.array n e)) (he : P.underlying e = some (.int k)) (hi : (P.info? e).isSome = true) (hc : P.cellsOf e = 1)
    (hm : P.eqGuardType P.depth t = false) {xs ys : List Int} (hx : ρ x = .agg (encs (Value.int k) xs).toArray) (hy : ρ y = .agg (encs (Value.int k) ys).toArray) (h1 : xs.length = n) (h2 : ys.length = n) :
    (execOp ρ o).run P W = .ok (.value (.bool (xs == ys))) W := by
  obtain ⟨i, hi⟩ := Option.isSome_iff_exists.1 hi
  have hq : (List.range n).all (fun i => xs[i]? == ys[i]?) = (xs == ys) := by
    rw [Bool.eq_iff_iff, List.all_eq_true, beq_iff_eq]
    constructor
    · intro h
      refine List.ext_getElem? fun j => ?_
      by_cases hj : j < n
      · simpa using h j (List.mem_range.2 hj)
      · rw [List.getElem?_eq_none (by omega), List.getElem?_eq_none (by omega)]
    · rintro rfl j _; simp
  have hr := eq_items (W := W) he 9998 xs ys (List.range n) (fun j hj => by rw [List.mem_range] at hj; omega)
  simp only [execOp, ho, hx, hy, Sem.run_bind, run_eqGuard_agg (P := P) W .eql t x y _ _ hm, Result.andThen_ok, run_eql_struct (P := P) W, run_equalIn_array (P := P) W 9999 _ _ hu hi, hc, hr, hq, Sem.run_pure]
theorem ex_lookup {t kt et : TypeId} {d : TypeDesc} {r : Nat} {f : Value → Option Value} {x ix : Operand} (ho : o.op = .lookup t x ix false) (h : Mp.Is d W r f) (ht : P.underlying t = some (.map kt et)) (hd : P.underlying kt = some d)
    (hx : ρ x = .map (some r)) (hk : MapKept.IsKey d (ρ ix)) {z : Value} (hz : (zeroValue et).run P W = .ok z W) : (execOp ρ o).run P W = .ok (.value ((f (ρ ix)).getD z)) W := by
  simp only [execOp, ho, hx, Sem.run_bind, Mp.run_lookup h ht hd hk hz, Result.andThen_ok, Sem.run_pure]
end
theorem fold_seg (l : List Value) : ∀ (n : Nat) (cs : Array Value), n + l.length ≤ cs.size → (l.zipIdx n).foldl (fun cs (x : Value × Nat) => cs.setIfInBounds x.2 x.1) cs = (cs.toList.take n ++ l ++ cs.toList.drop (n + l.length)).toArray := by
  induction l with
  | nil => intro n cs _; simp
  | cons v rest ih =>
    intro n cs h
    rw [List.zipIdx_cons, List.foldl_cons, ih (n + 1) _ (by simp only [Array.size_setIfInBounds]; simp at h; omega)]
    have := list_seg_step cs.toList n v rest (by simp at h ⊢; omega)
    simp only [Array.toList_setIfInBounds]
    rw [this]
    rfl
section
variable {P : Program} {W : World} {o : Oper} {ρ : Operand → Value}
/-- A row of one element, laid by a literal. -/
theorem ex_row1 {t e : TypeId} {x : Operand} {i : TypeInfo} {z : Value} (ho : o.op = .buildSlice t 1 #[(0, x)]) (ht : P.underlying t = some (.slice e)) (hi : P.info? e = some i) (hz : i.zero = some z) (hp : 0 < i.size) (hb : i.size ≤ 2 ^ 24)
    (hx : (ρ x).cells.size = i.size) : (execOp ρ o).run P W = .ok (.value (.slice (some ⟨W.heap.size, 0, none⟩) 1 1)) (W.alloc (.cells (ρ x).cells e)) := by
  have hs : (sizeOf e).run P W = .ok i.size W := run_size (by rw [hi]; rfl) W
  have hzr := run_zero hi hz W
  have hf : ∀ cs : Array Value, cs.size = i.size → Instr.fill (fun k => some (k * i.size, i.size)) cs [(0, ρ x)] = some (ρ x).cells := by
    intro cs hcs
    have := fold_seg (ρ x).cells.toList 0 cs (by simp [hx, hcs])
    simp only [Instr.fill, Nat.zero_mul, Nat.zero_add, hx, hcs, ne_eq, not_true_eq_false, gt_iff_lt, Nat.lt_irrefl, or_self, if_false, Option.some.injEq]
    rw [← Array.foldl_toList, Array.toList_zipIdx]
    rw [show (ρ x).cells.toList.zipIdx = (ρ x).cells.toList.zipIdx 0 from rfl, this]
    have e : cs.toList.drop (0 + (ρ x).cells.toList.length) = [] := List.drop_eq_nil_of_le (by simp [hx, hcs])
    rw [e]
    simp
  have h1 : ¬ (1 * i.size > 2 ^ 24) := by omega
  have h2 : ¬ (1 * i.size = 0) := by omega
  simp only [execOp, ho, Instr.buildSlice, Sem.run_bind, run_underlying ht, Result.andThen_ok, hs, h1, h2, if_false, hzr, Sem.run_pure, List.map_toArray, List.map_cons, List.map_nil]
  rw [hf _ (by simp)]
  rfl
theorem ex_copy {d s : Operand} {dT sT : TypeId} {v : Value} {w1 : World} (ho : o.op = .call { callee := .builtin .copy, args := #[d, s], argTypes := #[dT, sT] })
    (hrun : (Builtin.copy_ #[dT, sT] o.type #[ρ d, ρ s]).run P W = .ok v w1) : (execOp ρ o).run P W = .ok (.value v) w1 := by
  simp [execOp, ho, resolve, invoke, builtin, hrun, Result.andThen]
end
end Go.Arr
