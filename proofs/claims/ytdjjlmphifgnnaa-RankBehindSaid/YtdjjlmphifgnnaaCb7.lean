/- Parts of one proof, joined: Arr, Rkb, Tka. Conditions: those of each statement. -/
import Derived.Test.YtdjjlmphifgnnaaWMore
import Derived.Test.YtdjjlmphifgnnaaCb5
import Derived.Laws.CopyOwn
import Derived.Laws.StructEq
import Derived.ChangeKeysEq
import Derived.Test.YtdjjlmphifgnnaaCb6
import Derived.Lib.SliceRun
set_option linter.unusedSimpArgs false
namespace Go.Arr
open Go.RowKit Go.Proofs.YtdjjlmphifgnnaaW.PrintWords
section
variable {P : Program} {W : World} {o : Oper} {ρ : Operand → Value}

theorem run_zero {t : TypeId} {i : TypeInfo} {z : Value} (hi : P.info? t = some i) (hz : i.zero = some z) (w : World) : (zeroValue t).run P w = .ok z w := by
  simp [zeroValue, typeInfo, hi, hz]
theorem run_size {t : TypeId} {n : Nat} (h : (P.info? t).map (·.size) = some n) (w : World) : (sizeOf t).run P w = .ok n w := by
  obtain ⟨i, hi, his⟩ := Option.map_eq_some_iff.1 h
  simp [sizeOf, typeInfo, hi, his]
theorem ex_alloc {t : TypeId} {i : TypeInfo} {z : Value} (ho : o.op = .alloc t) (hi : P.info? t = some i) (hz : i.zero = some z) :
    (execOp ρ o).run P W = .ok (.value (.pointer (some ⟨W.heap.size, 0, none⟩))) (W.alloc (.cells z.cells t)) := by
  simp only [execOp, ho, Instr.alloc, Sem.run_bind, run_zero hi hz, Result.andThen_ok]
  rfl
def aggT (P : Program) (ty : TypeId) : Bool := match P.underlying ty with | some (.struct _) | some (.array _ _) => true | _ => false
theorem run_isAgg {ty : TypeId} (h : aggT P ty = true) (w : World) : (isAgg ty).run P w = .ok true w := by
  unfold aggT at h
  cases hu : P.underlying ty with
  | none => simp [hu] at h
  | some d =>
    unfold isAgg
    rw [Sem.run_bind, run_underlying hu w]
    cases d <;> simp_all
theorem ex_load {ty : TypeId} {x : Operand} (ho : o.op = .load ty x) {ad : Addr} (hx : ρ x = .pointer (some ad)) (hagg : aggT P ty = true) {seg : List Value} (hs : (P.info? ty).map (·.size) = some seg.length)
    (hc : ∀ j u, seg[j]? = some u → W.cell? (ad.add j) = some u) : (execOp ρ o).run P W = .ok (.value (.agg seg.toArray)) W := by
  have hl := run_loadCells_list (P := P) W ad seg hc
  simp only [execOp, ho, hx, Instr.loadAt, Instr.sureAddr, Sem.run_bind, Sem.run_pure, Result.andThen_ok, loadVar, run_isAgg hagg, if_true, run_size hs, hl]
theorem run_isAgg0 {ty : TypeId} (h : aggT P ty = false) (hu : (P.underlying ty).isSome = true) (w : World) : (isAgg ty).run P w = .ok false w := by
  unfold aggT at h
  obtain ⟨d, hd⟩ := Option.isSome_iff_exists.1 hu
  unfold isAgg
  rw [Sem.run_bind, run_underlying hd w]
  cases d <;> simp_all
theorem ex_load1 {ty : TypeId} {x : Operand} (ho : o.op = .load ty x) {ad : Addr} (hx : ρ x = .pointer (some ad)) (hagg : (!aggT P ty && (P.underlying ty).isSome) = true) {v : Value} (hc : W.cell? ad = some v) : (execOp ρ o).run P W = .ok (.value v) W := by
  simp only [Bool.and_eq_true, Bool.not_eq_true'] at hagg
  simp [execOp, ho, hx, Instr.loadAt, Instr.sureAddr, loadVar, run_isAgg0 hagg.1 hagg.2, run_load, hc, Result.andThen]
theorem ex_store {ty : TypeId} {x y : Operand} (ho : o.op = .store ty x y) {g off : Nat} (hx : ρ x = .pointer (some ⟨g, off, none⟩)) {v : Value} (hy : ρ y = v) {seg : List Value} (hv : v.cells.toList = seg)
    (hs : (P.info? ty).map (·.size) = some seg.length) {cur : Array Value} {t : TypeId} (hg : W.heap[g]? = some (.cells cur t (0, 0))) (hl : off + seg.length ≤ cur.size) (h1 : ∀ u ∈ seg, u.oneCell' = true) :
    (execOp ρ o).run P W = .ok .skip (W.setRow g (cur.toList.take off ++ seg ++ cur.toList.drop (off + seg.length)).toArray) := by
  have hst := run_storeCells_at P g off t seg 0 cur W hg (by simpa using hl) h1
  have hsz : v.cells.size = seg.length := by rw [← hv]; simp
  simp only [Nat.add_zero] at hst
  simp only [execOp, ho, hx, hy, Instr.storeAt, Instr.sureAddr, Sem.run_bind, Sem.run_pure, Result.andThen_ok, storeVar, run_size hs, hsz, hv]
  simp [hst]
end
section
variable {P : Program} {ops : Array Oper} {rest : List Oper} {o : Oper} {a : Act} {Q : Exit → Act → World → Prop} {W w1 : World}
theorem skip_run (hgd : o.guard = none) (hrun : (execOp a.eval o).run P W = .ok .skip w1) (h : wpList P ops Q rest (a.put o.dst undef) w1) : wpList P ops Q (o :: rest) a W := by
  refine wpList_plain hgd fun K hK => ?_
  unfold Oper.wp
  rw [hrun]
  exact hK _ _ h
end
theorem setRow_alloc (W : World) (cs cs' : Array Value) (t : TypeId) : (W.alloc (.cells cs t)).setRow W.heap.size cs' = W.alloc (.cells cs' t) := by
  have hh : ((W.alloc (.cells cs t)).setRow W.heap.size cs').heap = (W.alloc (.cells cs' t)).heap := by
    have hsz : ((W.alloc (.cells cs t)).setRow W.heap.size cs').heap.size = (W.alloc (.cells cs' t)).heap.size := by
      rw [size_setRow]
      show (W.heap.push _).size = (W.heap.push _).size
      simp only [Array.size_push]
    refine Array.ext hsz fun i h1 h2 => Option.some.inj ?_
    rw [← Array.getElem?_eq_getElem h1, ← Array.getElem?_eq_getElem h2]
    by_cases hi : i = W.heap.size
    · rw [hi, setRow_heap _ _ _ cs' t (0, 0) (heap_alloc_new W _), heap_alloc_new]
    · rw [setRow_other _ _ _ _ hi]
      have : i < W.heap.size := by
        have h3 : i < (W.heap.push (Obj.cells cs' t)).size := h2
        simp only [Array.size_push] at h3
        omega
      rw [heap_alloc_old W _ this, heap_alloc_old W _ this]
  unfold World.setRow World.alloc at hh ⊢
  simp only at hh ⊢
  rw [hh]
section
variable {P : Program} {W : World} {o : Oper} {ρ : Operand → Value}
theorem ex_build {t : TypeId} {parts : Array (Nat × Operand)} (ho : o.op = .build t parts) {cells : Array Value} (h : P.built t (parts.map fun (i, x) => (i, ρ x)).toList = some cells) :
    (execOp ρ o).run P W = .ok (.value (.agg cells)) W := by
  simp only [execOp, ho, Sem.run_bind, run_build W t _ cells h, Result.andThen_ok, Sem.run_pure]
theorem eq_items {e : TypeId} {k : IntKind} (he : P.underlying e = some (.int k)) (d : Nat) (xs ys : List Int) : ∀ is : List Nat, (∀ i ∈ is, i < xs.length ∧ i < ys.length) →
    (Op.eqItems (d + 1) e 1 (encs (Value.int k) xs).toArray (encs (Value.int k) ys).toArray is).run P W = .ok (is.all fun i => xs[i]? == ys[i]?) W
  | [], _ => by simp [Op.eqItems]
  | i :: is, h => by
    obtain ⟨h1, h2⟩ := h i (List.mem_cons_self ..)
    have hag : (isAgg e).run P W = .ok false W := by
      unfold isAgg
      rw [Sem.run_bind, run_underlying he W]
      rfl
    have hp : ∀ zs : List Int, ∀ h : i < zs.length, (part e (encs (Value.int k) zs).toArray (i * 1)).run P W = .ok (.int k zs[i]) W := by
      intro zs h
      have : (encs (Value.int k) zs).toArray[i]? = some (.int k zs[i]) := by simp [encs, h]
      simp [part, hag, this]
    have hq : (Op.equalIn (d + 1) e (.int k xs[i]) (.int k ys[i])).run P W = .ok (xs[i] == ys[i]) W := by
      simp [Op.equalIn, run_underlying he]
    have ih := eq_items he d xs ys is (fun j hj => h j (List.mem_cons_of_mem _ hj))
    simp only [Op.eqItems, Sem.run_bind, hp xs h1, hp ys h2, hq, Result.andThen_ok, List.all_cons, List.getElem?_eq_getElem h1, List.getElem?_eq_getElem h2]
    by_cases hx : xs[i] = ys[i]
    · simp [hx, ih]
    · have : (xs[i] == ys[i]) = false := by simpa using hx
      have h3 : ((some xs[i] : Option Int) == some ys[i]) = false := by simpa using hx
      simp [this, h3]
theorem ex_eql_arr {t e t' : TypeId} {n : Nat} {k : IntKind} {x y : Operand} (ho : o.op = .binOp .eql t x y t') (hu : P.underlying t = some (.array n e)) (he : P.underlying e = some (.int k)) (hi : (P.info? e).isSome = true) (hc : P.cellsOf e = 1)
    (hm : P.eqGuardType P.depth t = false) {xs ys : List Int} (hx : ρ x = .agg (encs (Value.int k) xs).toArray) (hy : ρ y = .agg (encs (Value.int k) ys).toArray) (h1 : xs.length = n) (h2 : ys.length = n) :
    (execOp ρ o).run P W = .ok (.value (.bool (xs == ys))) W := by
  obtain ⟨i, hi⟩ := Option.isSome_iff_exists.1 hi
  have hq : (List.range n).all (fun i => xs[i]? == ys[i]?) = (xs == ys) := by
    rw [Bool.eq_iff_iff, List.all_eq_true, beq_iff_eq]
    constructor
    · intro h
      refine List.ext_getElem? fun j => ?_
      by_cases hj : j < n
      · simpa using h j (List.mem_range.2 hj)
      · rw [List.getElem?_eq_none (by omega), List.getElem?_eq_none (by omega)]
    · rintro rfl j _; simp
  have hr := eq_items (W := W) he 9998 xs ys (List.range n) (fun j hj => by rw [List.mem_range] at hj; omega)
  simp only [execOp, ho, hx, hy, Sem.run_bind, run_eqGuard_agg (P := P) W .eql t x y _ _ hm, Result.andThen_ok, run_eql_struct (P := P) W, run_equalIn_array (P := P) W 9999 _ _ hu hi, hc, hr, hq, Sem.run_pure]
theorem ex_lookup {t kt et : TypeId} {d : TypeDesc} {r : Nat} {f : Value → Option Value} {x ix : Operand} (ho : o.op = .lookup t x ix false) (h : Mp.Is d W r f) (ht : P.underlying t = some (.map kt et)) (hd : P.underlying kt = some d)
    (hx : ρ x = .map (some r)) (hk : MapKept.IsKey d (ρ ix)) {z : Value} (hz : (zeroValue et).run P W = .ok z W) : (execOp ρ o).run P W = .ok (.value ((f (ρ ix)).getD z)) W := by
  simp only [execOp, ho, hx, Sem.run_bind, Mp.run_lookup h ht hd hk hz, Result.andThen_ok, Sem.run_pure]
end
theorem fold_seg (l : List Value) : ∀ (n : Nat) (cs : Array Value), n + l.length ≤ cs.size → (l.zipIdx n).foldl (fun cs (x : Value × Nat) => cs.setIfInBounds x.2 x.1) cs = (cs.toList.take n ++ l ++ cs.toList.drop (n + l.length)).toArray := by
  induction l with
  | nil => intro n cs _; simp
  | cons v rest ih =>
    intro n cs h
    rw [List.zipIdx_cons, List.foldl_cons, ih (n + 1) _ (by simp only [Array.size_setIfInBounds]; simp at h; omega)]
    have := list_seg_step cs.toList n v rest (by simp at h ⊢; omega)
    simp only [Array.toList_setIfInBounds]
    rw [this]
    rfl
section
variable {P : Program} {W : World} {o : Oper} {ρ : Operand → Value}
/-- A row of one element, laid by a literal. -/
theorem ex_row1 {t e : TypeId} {x : Operand} {i : TypeInfo} {z : Value} (ho : o.op = .buildSlice t 1 #[(0, x)]) (ht : P.underlying t = some (.slice e)) (hi : P.info? e = some i) (hz : i.zero = some z) (hp : 0 < i.size) (hb : i.size ≤ 2 ^ 24)
    (hx : (ρ x).cells.size = i.size) : (execOp ρ o).run P W = .ok (.value (.slice (some ⟨W.heap.size, 0, none⟩) 1 1)) (W.alloc (.cells (ρ x).cells e)) := by
  have hs : (sizeOf e).run P W = .ok i.size W := run_size (by rw [hi]; rfl) W
  have hzr := run_zero hi hz W
  have hf : ∀ cs : Array Value, cs.size = i.size → Instr.fill (fun k => some (k * i.size, i.size)) cs [(0, ρ x)] = some (ρ x).cells := by
    intro cs hcs
    have := fold_seg (ρ x).cells.toList 0 cs (by simp [hx, hcs])
    simp only [Instr.fill, Nat.zero_mul, Nat.zero_add, hx, hcs, ne_eq, not_true_eq_false, gt_iff_lt, Nat.lt_irrefl, or_self, if_false, Option.some.injEq]
    rw [← Array.foldl_toList, Array.toList_zipIdx]
    rw [show (ρ x).cells.toList.zipIdx = (ρ x).cells.toList.zipIdx 0 from rfl, this]
    have e : cs.toList.drop (0 + (ρ x).cells.toList.length) = [] := List.drop_eq_nil_of_le (by simp [hx, hcs])
    rw [e]
    simp
  have h1 : ¬ (1 * i.size > 2 ^ 24) := by omega
  have h2 : ¬ (1 * i.size = 0) := by omega
  simp only [execOp, ho, Instr.buildSlice, Sem.run_bind, run_underlying ht, Result.andThen_ok, hs, h1, h2, if_false, hzr, Sem.run_pure, List.map_toArray, List.map_cons, List.map_nil]
  rw [hf _ (by simp)]
  rfl
theorem ex_copy {d s : Operand} {dT sT : TypeId} {v : Value} {w1 : World} (ho : o.op = .call { callee := .builtin .copy, args := #[d, s], argTypes := #[dT, sT] })
    (hrun : (Builtin.copy_ #[dT, sT] o.type #[ρ d, ρ s]).run P W = .ok v w1) : (execOp ρ o).run P W = .ok (.value v) w1 := by
  simp [execOp, ho, resolve, invoke, builtin, hrun, Result.andThen]
end
end Go.Arr
namespace Go.Proofs.Ytdjjlmphifgnnaa
open Go.RowKit Go.Sort Go.Proofs.YtdjjlmphifgnnaaW.PrintWords Go.Proofs.YtdjjlmphifgnnaaW.PrintLast Go.Proofs.YtdjjlmphifgnnaaW.PrintMore
open Flt (nanP canP keyP)
set_option linter.unusedVariables false
set_option linter.unusedSimpArgs false
/-- draws, and blocks behind all others -/
def Gr (w w' : World) : Prop := ∃ n os, w' = grow (w.drewN n) os
theorem Gr.refl (w : World) : Gr w w := ⟨0, #[], by rw [grow_empty]; rfl⟩
theorem Gr.trans {a b c : World} (h : Gr a b) (k : Gr b c) : Gr a c := by
  obtain ⟨n, os, rfl⟩ := h
  obtain ⟨m, os', rfl⟩ := k
  refine ⟨n + m, os ++ os', ?_⟩
  show grow (grow ((a.drewN n).drewN m) os) os' = _
  rw [grow_grow, World.drewN_drewN]
theorem Gr.of_drawn {w w' : World} (h : Drawn0 w w') : Gr w w' := by
  obtain ⟨n, rfl⟩ := h
  exact ⟨n, #[], by rw [grow_empty]⟩
theorem Gr.drew {w w' : World} (h : Gr w w') : Gr w w'.drew := h.trans (Gr.of_drawn (Drawn0.step (Drawn0.refl _) 1))
theorem Gr.alloc {w w' : World} (h : Gr w w') (o : Obj) : Gr w (w'.alloc o) := by
  refine h.trans ⟨0, #[o], ?_⟩
  rw [alloc_eq_grow]
  rfl
theorem Gr.below {w w' : World} (h : Gr w w') : Below w.heap.size w w' := by
  obtain ⟨n, os, rfl⟩ := h
  have h1 := (Drawn0.mk ⟨n, rfl⟩ : Drawn0 w (w.drewN n)).below
  refine ⟨h1.os, h1.tape, h1.output, by rw [size_grow]; exact Nat.le_trans h1.size (Nat.le_add_right _ _), fun i hi => ?_⟩
  show (grow (w.drewN n) os).heap[i]? = w.heap[i]?
  rw [heap_grow_old _ _ (show i < (w.drewN n).heap.size from hi)]
  rfl
theorem grRel : Fork.Rel Gr := ⟨Gr.refl, fun h k => h.trans k⟩
set_option maxHeartbeats 2000000 in
set_option maxRecDepth 100000 in
theorem order1_calls (x y : Tk Value) (w : World) : Calls Try.prog 21 #[.agg (tkC x).toArray, .agg (tkC y).toArray] w fun e w' => e = .returned (.int .i64 (ordI x y)) ∧ Gr w w' := by
  have HKA := Aside0.mk (fun w => key_calls x.rank.b x.rank.lt w)
  have HKB := Aside0.mk (fun w => key_calls y.rank.b y.rank.lt w)
  have HC1 := Aside0.mk (fun w => compare_calls (keyP x.rank.b) (keyP y.rank.b) w)
  have HC2 := Aside0.mk (fun w => compare_calls x.id y.id w)
  go_enter Try.func21, Try.ntmps21
  go_wp2
  have f1 : ((w.alloc (.cells (tkC x).toArray 34)).alloc (.cells (tkC y).toArray 34)).drew.cell? ⟨w.heap.size, 4, none⟩ = some (.float .f64 x.rank.b) := by simp [go_sem, tkC]
  have f2 : ((w.alloc (.cells (tkC x).toArray 34)).alloc (.cells (tkC y).toArray 34)).drew.cell? ⟨w.heap.size + 1, 4, none⟩ = some (.float .f64 y.rank.b) := by simp [go_sem, tkC]
  have f3 : ((w.alloc (.cells (tkC x).toArray 34)).alloc (.cells (tkC y).toArray 34)).drew.cell? ⟨w.heap.size, 0, none⟩ = some (.int .u64 (x.id : Int)) := by simp [go_sem, tkC]
  have f4 : ((w.alloc (.cells (tkC x).toArray 34)).alloc (.cells (tkC y).toArray 34)).drew.cell? ⟨w.heap.size + 1, 0, none⟩ = some (.int .u64 (y.id : Int)) := by simp [go_sem, tkC]
  have HG := Aside0.mk (((Gr.refl w).alloc (.cells (tkC x).toArray 34)).alloc (.cells (tkC y).toArray 34)).drew
  refine Fork.wp_fork grRel [] [] (.one 0 0 (.one 3 0 (.one 7 0 (.one 9 0 (.one 1 1 (.one 4 1 (.one 8 1 (.one 10 1 (.one 2 2 (.one 5 2 (.one 6 2 (.one 11 2 (.one 12 2 (.one 13 2 (.one 14 0 .nil))))))))))))))) (by kernel_rfl) (by kernel_rfl) ?_
  generalize hops : List.toArray (_ : List Oper) = ops
  have HO := Aside0.mk hops
  clear hops
  iterate 4 ((refine Fork.plain (Fork.at_ HO.out rfl) _ rfl (fun W => by go_simp; exact rfl) ?_); simp only [Act.put, List.setIfInBounds_toArray, List.set_cons_succ, List.set_cons_zero])
  refine Fork.reads (Fork.at_ HO.out rfl) _ rfl (fun W hW => Arr.ex_load1 rfl rfl (by kernel_rfl) (Fork.bel_cell hW (by assumption))) ?_
  simp only [Act.put, List.setIfInBounds_toArray, List.set_cons_succ, List.set_cons_zero]
  refine Fork.reads (Fork.at_ HO.out rfl) _ rfl (fun W hW => Arr.ex_load1 rfl rfl (by kernel_rfl) (Fork.bel_cell hW (by assumption))) ?_
  simp only [Act.put, List.setIfInBounds_toArray, List.set_cons_succ, List.set_cons_zero]
  refine Fork.reads (Fork.at_ HO.out rfl) _ rfl (fun W hW => Arr.ex_load1 rfl rfl (by kernel_rfl) (Fork.bel_cell hW (by assumption))) ?_
  simp only [Act.put, List.setIfInBounds_toArray, List.set_cons_succ, List.set_cons_zero]
  refine Fork.reads (Fork.at_ HO.out rfl) _ rfl (fun W hW => Arr.ex_load1 rfl rfl (by kernel_rfl) (Fork.bel_cell hW (by assumption))) ?_
  simp only [Act.put, List.setIfInBounds_toArray, List.set_cons_succ, List.set_cons_zero]
  refine Fork.step (Fork.at_ HO.out rfl) (fun K hK => ?_)
  go_simp
  refine (HKA.out _).mono ?_
  rintro r w3 ⟨rfl, hd⟩
  refine hK _ _ ⟨fun _ => Gr.of_drawn hd, fun _ => hd.below⟩ ?_
  clear hK K
  have HG3 := Aside0.mk (HG.out.trans (Gr.of_drawn hd))
  clear hd f1 f2 f3 f4
  try simp only [Act.put, List.setIfInBounds_toArray, List.set_cons_succ, List.set_cons_zero]
  refine Fork.step (Fork.at_ HO.out rfl) (fun K hK => ?_)
  go_simp
  refine (HKB.out _).mono ?_
  rintro r w4 ⟨rfl, hd⟩
  refine hK _ _ ⟨fun _ => Gr.of_drawn hd, fun _ => hd.below⟩ ?_
  clear hK K
  have HG4 := Aside0.mk (HG3.out.trans (Gr.of_drawn hd))
  clear hd
  try simp only [Act.put, List.setIfInBounds_toArray, List.set_cons_succ, List.set_cons_zero]
  refine Fork.step (Fork.at_ HO.out rfl) (fun K hK => ?_)
  go_simp
  refine (HC1.out _).mono ?_
  rintro r w5 ⟨rfl, hd⟩
  refine hK _ _ ⟨fun _ => Gr.of_drawn hd, fun _ => hd.below⟩ ?_
  clear hK K
  have HG5 := Aside0.mk (HG4.out.trans (Gr.of_drawn hd))
  clear hd
  try simp only [Act.put, List.setIfInBounds_toArray, List.set_cons_succ, List.set_cons_zero]
  refine Fork.step (Fork.at_ HO.out rfl) (fun K hK => ?_)
  go_simp
  refine (HC2.out _).mono ?_
  rintro r w6 ⟨rfl, hd⟩
  refine hK _ _ ⟨fun _ => Gr.of_drawn hd, fun _ => hd.below⟩ ?_
  clear hK K
  have HG6 := Aside0.mk (HG5.out.trans (Gr.of_drawn hd))
  clear hd
  try simp only [Act.put, List.setIfInBounds_toArray, List.set_cons_succ, List.set_cons_zero]
  refine Fork.step (Fork.at_ HO.out rfl) (fun K hK => ?_)
  go_simp
  have ha := (Below.refl w6.heap.size w6).alloc (Nat.le_refl _) (.cells #[.int .i64 (cmpI (keyP x.rank.b) (keyP y.rank.b)), .int .i64 (cmpI x.id y.id)] 3)
  refine hK _ _ ⟨fun _ => (Gr.refl w6).alloc _, fun _ => ha⟩ ?_
  clear hK K
  have HG7 := Aside0.mk (HG6.out.alloc (.cells #[.int .i64 (cmpI (keyP x.rank.b) (keyP y.rank.b)), .int .i64 (cmpI x.id y.id)] 3))
  have HOR : Aside0 (Calls Try.prog 22 #[.slice (some ⟨w6.heap.size, 0, none⟩) 2 2] (w6.alloc (.cells #[.int .i64 (cmpI (keyP x.rank.b) (keyP y.rank.b)), .int .i64 (cmpI x.id y.id)] 3)) fun e w' => e = .returned (.int .i64 (ordI x y)) ∧ Drawn0 (w6.alloc (.cells #[.int .i64 (cmpI (keyP x.rank.b) (keyP y.rank.b)), .int .i64 (cmpI x.id y.id)] 3)) w') := Aside0.mk (or_calls (cmpI (keyP x.rank.b) (keyP y.rank.b)) (cmpI x.id y.id) w6.heap.size 2 (w6.alloc (.cells #[.int .i64 (cmpI (keyP x.rank.b) (keyP y.rank.b)), .int .i64 (cmpI x.id y.id)] 3)) (by simp [go_sem]) (by simp [go_sem]))
  clear ha
  try simp only [Act.put, List.setIfInBounds_toArray, List.set_cons_succ, List.set_cons_zero]
  refine Fork.step (Fork.at_ HO.out rfl) (fun K hK => ?_)
  go_simp
  refine HOR.out.mono ?_
  rintro r w8 ⟨rfl, hd⟩
  refine hK _ _ ⟨fun _ => Gr.of_drawn hd, fun _ => hd.below⟩ ?_
  clear hK K
  have HG8 := Aside0.mk (HG7.out.trans (Gr.of_drawn hd))
  clear hd
  try simp only [Act.put, List.setIfInBounds_toArray, List.set_cons_succ, List.set_cons_zero]
  ((refine Fork.plain (Fork.at_ HO.out rfl) _ rfl (fun W => by go_simp; exact rfl) ?_); simp only [Act.put, List.setIfInBounds_toArray, List.set_cons_succ, List.set_cons_zero])
  refine Fork.done ?_
  go_wp2
  go_ret
  exact ⟨rfl, HG8.out⟩
theorem order1_lays (blk off size : Nat) (w0 : World) : CmpLays Try.prog 21 #[] tkC 7 ordI blk off size w0 := by
  intro m os dk hdk x y
  have h := order1_calls x y (sortWorldK tkC 7 w0 blk off m dk os)
  exact h.mono fun e w' ⟨he, q, os', hw⟩ => ⟨he, q, os', hw⟩
end Go.Proofs.Ytdjjlmphifgnnaa
namespace Go.Proofs.Ytdjjlmphifgnnaa
open Go.RowKit Go.Sort Go.Proofs.YtdjjlmphifgnnaaW.PrintWords Go.Proofs.YtdjjlmphifgnnaaW.PrintLast Go.Proofs.YtdjjlmphifgnnaaW.PrintMore
open Flt (nanP canP keyP)
set_option linter.unusedVariables false
set_option linter.unusedSimpArgs false
theorem infoS : (Try.prog.info? 9).map (fun i => (i.zero, i.size, i.bytes)) = some (some (.string ⟨#[]⟩), 1, 16) := by kernel_rfl
theorem run_eql_slice_nilS (w : World) (a : Option Addr) (l c : Nat) : (binOp .eql 32 (.slice a l c) (.slice none 0 0)).run Try.prog w = .ok (.bool a.isNone) w := by
  exact Lib.run_eql_slice_nil (P := Try.prog) w 32 9 a l c 0 0 Try.underlying32
theorem cloneS_calls (w : World) (ad : Addr) (c : Nat) (b : List ByteArray) (hl : b.length ≤ 1000000) (hC : Kd.string.C w (some ad) b.length b) :
    Calls Try.prog 19 #[.slice (some ad) b.length c] w fun e w' => ∃ v, e = .returned v ∧ Kd.R Kd.string 9 w' w.heap.size (fun _ => True) v b ∧ Below w.heap.size w w' := by
  have hq := run_eql_slice_nilS w (some ad) b.length c
  simp only [Option.isNone_some] at hq
  have HC := Aside0.mk hC
  have HL := Aside0.mk hl
  clear hC hl
  go_enter Try.func19, Try.ntmps19
  go_wp2_with (first | ((with_reducible refine gate_dst (N := 5) rfl ?_); refine Kd.R_lit Kd.string _ 9 ?hg (N := 5) ?hd (xs := ([] : List ByteArray)) (inner := []) (ok := fun _ => True) (okp := fun _ => True) ?hr ?hp (fun _ hk => hk) trivial (Below.refl _ _) (Nat.le_refl _) (by simp) ?_; (case hd => rfl); (case hg => rfl); (case hr => first | (go_simp; done) | (go_simp; rfl)); (case hp => exact (Reps.none _ _)); intro v10 w10 ho11 hb hg_ hnew_; clear hg_ hnew_; have HO := Aside0.mk ho11; have HB := Aside0.mk hb; clear ho11 hb) | ((with_reducible refine gate_builtin (b := .append) (xs := #[.tmp 5, .tmp 6]) rfl ?_); at_builtin; go_loud (refine Kd.R_append_rows Kd.string (w0 := w) w.heap.size rfl (.tmp 5) (.tmp 6) 32 9 (.string ⟨#[]⟩) 16 rfl Try.underlying32 infoS rfl (by decide) (by omega) v10 [] b (some ad) b.length c (fun _ => True) (fun _ => False) rfl rfl HO.out (Kd.C_below HC.out HB.out) (fun _ _ h => h) (fun _ h => h.elim) (fun _ _ => trivial) HB.out HB.out.size (by have := HL.out; simp; omega) ?_; intro v1 w1 ho hb hg hat; have HO1 := Aside0.mk ho; have HB1 := Aside0.mk hb; clear ho hb hg hat)))
  go_ret
  exact ⟨v1, rfl, HO1.out, HB1.out⟩
theorem cloneS_none (w : World) (c : Nat) : Calls Try.prog 19 #[.slice none 0 c] w fun e w' => e = .returned (.slice none 0 0) ∧ w = w' := by
  have hq := run_eql_slice_nilS w none 0 c
  simp only [Option.isNone_none] at hq
  go_enter Try.func19, Try.ntmps19
  go_wp2
  go_ret
  exact ⟨rfl, rfl⟩
/-- slices.Clone of any tags -/
theorem cloneS_any (w : World) (A : Option Addr) (c : Nat) (b : List ByteArray) (hl : b.length ≤ 1000000) (hC : Kd.string.C w A b.length b) :
    Calls Try.prog 19 #[.slice A b.length c] w fun e w' => ∃ A' c', e = .returned (.slice A' b.length c') ∧ Kd.R Kd.string 9 w' w.heap.size (fun k => w.heap.size ≤ k) (.slice A' b.length c') b ∧ Below w.heap.size w w' := by
  cases A with
  | none =>
    obtain rfl : b = [] := by
      rcases Nat.eq_zero_or_pos b.length with h | h
      · exact List.eq_nil_of_length_eq_zero h
      · obtain ⟨ad, e, _⟩ := hC.2.2 h
        cases e
    refine (cloneS_none w c).mono ?_
    rintro e w' ⟨rfl, rfl⟩
    exact ⟨none, 0, rfl, Kd.R_nil _ _ _ _ _, Below.refl _ _⟩
  | some ad =>
    refine (cloneS_calls w ad c b hl hC).mono ?_
    rintro e w' ⟨v, rfl, hR, hb⟩
    obtain ⟨A', c', rfl⟩ := Kd.R_slice hR
    exact ⟨A', c', rfl, Kd.R_mono (Kd.R_bound hR) (fun k hk => hk.2.1), hb⟩
/-! ### kinds -/
def kF : Kd W64 := Kd.scalar (fun x : W64 => .float .f64 x.b) (fun _ => rfl)
/-- a slice, as a value -/
structure Sl where
  A : Option Addr
  n : Nat
  c : Nat
instance : Inhabited Sl := ⟨⟨none, 0, 0⟩⟩
def Sl.v (s : Sl) : Value := .slice s.A s.n s.c
/-- a task as it is read, with its tags -/
abbrev Tsk := Tk (List ByteArray)
/-- a task, its tags told as they lie and as they read -/
abbrev TX := Tk (Sl × List ByteArray)
def kT : Kd Tsk := Kd.iso (Kd.pair (Kd.int .u64) (Kd.pair (Kd.int .u64) (Kd.pair Kd.string (Kd.pair Kd.bool (Kd.pair kF (Kd.pair kF (Kd.slice 9 Kd.string))))))) (fun x : Tsk => ((x.id : Int), (x.list : Int), x.title, x.done, x.rank, x.est, x.tags))
def tkX (x : TX) : List Value := tkC (x.map fun t => t.1.v)
theorem kT_open {w : World} {x : Tsk} {cs : List Value} (h : kT.K w x cs) : ∃ A c, cs = tkC (x.map fun _ => .slice A x.tags.length c) ∧ x.tags.length ≤ c ∧ Kd.string.C w A x.tags.length x.tags := by
  obtain ⟨_, _, rfl, rfl, ⟨_, _, rfl, rfl, ⟨_, _, rfl, rfl, ⟨_, _, rfl, rfl, ⟨_, _, rfl, rfl, ⟨_, _, rfl, rfl, ⟨A1, c1, rfl, l1, g1⟩⟩⟩⟩⟩⟩⟩ := h
  exact ⟨A1, c1, rfl, l1, g1⟩
theorem kT_mk (w : World) (x : Tsk) {A : Option Addr} {c : Nat} (l1 : x.tags.length ≤ c) (g1 : Kd.string.C w A x.tags.length x.tags) : kT.K w x (tkC (x.map fun _ => .slice A x.tags.length c)) :=
  ⟨[.int .u64 (x.id : Int)], _, rfl, rfl, [.int .u64 (x.list : Int)], _, rfl, rfl, [.string x.title], _, rfl, rfl, [.bool x.done], _, rfl, rfl, [.float .f64 x.rank.b], _, rfl, rfl, [.float .f64 x.est.b], _, rfl, rfl, A, c, rfl, l1, g1⟩
theorem tkX_one (x : TX) (u : Value) (hu : u ∈ tkX x) : u.oneCell' = true := by
  simp [tkX, tkC, Tk.map, Sl.v] at hu
  rcases hu with rfl | rfl | rfl | rfl | rfl | rfl | rfl <;> rfl
theorem tkX_len (x : TX) : (tkX x).length = 7 := rfl
def rawT : Kd TX where
  sz := 7
  E := []
  K := fun _ x cs => cs = tkX x
  M := fun _ _ _ x cs => cs = tkX x
  K_len := by rintro _ _ _ rfl; rfl
  K_one := by
    rintro _ x _ rfl u hu
    exact tkX_one x u hu
  K_below := fun _ h => h
  K_of_M := fun h => h
  M_mono := fun _ h => h
  M_bound := fun h => h
  M_move := fun _ h => h
  M_lower := fun _ h => h
def deep (x : TX) : Tsk := x.map Prod.snd
/-- a task's tags, in an elder world -/
def FarT (w0 : World) (x : TX) : Prop := x.tags.1.n = x.tags.2.length ∧ x.tags.2.length ≤ x.tags.1.c ∧ Kd.string.C w0 x.tags.1.A x.tags.2.length x.tags.2
theorem FarT.below {w0 w1 : World} {x : TX} (h : FarT w0 x) (hb : Below w0.heap.size w0 w1) : FarT w1 x := by
  exact ⟨h.1, h.2.1, Kd.C_below h.2.2 hb⟩
theorem rawT_get {w : World} {A : Option Addr} {xs : List TX} (h : rawT.C w A xs.length xs) {i : Nat} {x : TX} (hx : xs[i]? = some x) : ∃ ad, A = some ad ∧ w.cell? (ad.add (i * 7)) = some (.int .u64 (x.id : Int)) ∧ w.cell? ⟨(ad.add (i * 7)).block, (ad.add (i * 7)).off + 1, none⟩ = some (.int .u64 (x.list : Int)) ∧ w.cell? ⟨(ad.add (i * 7)).block, (ad.add (i * 7)).off + 2, none⟩ = some (.string x.title) ∧ w.cell? ⟨(ad.add (i * 7)).block, (ad.add (i * 7)).off + 3, none⟩ = some (.bool x.done) ∧ w.cell? ⟨(ad.add (i * 7)).block, (ad.add (i * 7)).off + 4, none⟩ = some (.float .f64 x.rank.b) ∧ w.cell? ⟨(ad.add (i * 7)).block, (ad.add (i * 7)).off + 5, none⟩ = some (.float .f64 x.est.b) ∧ w.cell? ⟨(ad.add (i * 7)).block, (ad.add (i * 7)).off + 6, none⟩ = some x.tags.1.v := by
  have hlt := (List.getElem?_eq_some_iff.1 hx).1
  obtain ⟨ad, c, e, _, hK, hc0⟩ := Kd.C_get h x (i : Int) (by omega) (by omega)
  rw [Int.toNat_natCast, List.getD_eq_getElem?_getD, hx] at hK
  subst hK
  have hc : ∀ j u, (tkX x)[j]? = some u → w.cell? (ad.add (i * 7 + j)) = some u := by
    intro j u hj
    have := hc0 j u hj
    rwa [Int.toNat_natCast] at this
  exact ⟨ad, e, hc 0 _ rfl, by rw [← add_field _ _ 1 (by omega)]; exact hc 1 _ rfl, by rw [← add_field _ _ 2 (by omega)]; exact hc 2 _ rfl, by rw [← add_field _ _ 3 (by omega)]; exact hc 3 _ rfl, by rw [← add_field _ _ 4 (by omega)]; exact hc 4 _ rfl, by rw [← add_field _ _ 5 (by omega)]; exact hc 5 _ rfl, by rw [← add_field _ _ 6 (by omega)]; exact hc 6 _ rfl⟩
def zT : Tsk := ⟨0, 0, .empty, false, default, default, []⟩
def mkX (p : Tsk) (v : Sl) : TX := p.map fun t => (v, t)
theorem deep_mkX (p : Tsk) (v : Sl) : deep (mkX p v) = p := rfl
theorem rawT_of {w : World} {A : Option Addr} {l : List Tsk} (h : kT.C w A l.length l) : ∃ xs : List TX, xs.map deep = l ∧ rawT.C w A xs.length xs ∧ ∀ x ∈ xs, FarT w x := by
  have hv : ∀ p : Tsk, ∀ i : Nat, ∃ v : Sl, l[i]? = some p → FarT w (mkX p v) ∧ ∃ ad, A = some ad ∧ ∀ j u, (tkX (mkX p v))[j]? = some u → w.cell? (ad.add (i * 7 + j)) = some u := by
    intro p i
    by_cases hi : l[i]? = some p
    · obtain ⟨ad, e, hc⟩ := h.2.2 (by have := (List.getElem?_eq_some_iff.1 hi).1; omega)
      obtain ⟨c, h1, h2, h3⟩ := hc i p hi
      obtain ⟨A1, c1, rfl, l1, g1⟩ := kT_open h2
      exact ⟨⟨A1, p.tags.length, c1⟩, fun _ => ⟨⟨rfl, l1, g1⟩, ad, e, h3⟩⟩
    · exact ⟨default, fun e => absurd e hi⟩
  obtain ⟨f, hf⟩ : ∃ f : Tsk → Nat → Sl, ∀ p i, l[i]? = some p → FarT w (mkX p (f p i)) ∧ ∃ ad, A = some ad ∧ ∀ j u, (tkX (mkX p (f p i)))[j]? = some u → w.cell? (ad.add (i * 7 + j)) = some u := ⟨fun p i => Classical.choose (hv p i), fun p i => Classical.choose_spec (hv p i)⟩
  refine ⟨(List.range l.length).map (fun i => mkX (l.getD i zT) (f (l.getD i zT) i)), ?_, ⟨rfl, ?_, fun h0 => ?_⟩, ?_⟩
  · refine List.ext_getElem? fun i => ?_
    rw [List.map_map, List.getElem?_map]
    by_cases hi : i < l.length
    · rw [List.getElem?_range hi, List.getElem?_eq_getElem hi]
      show some (deep (mkX (l.getD i zT) (f (l.getD i zT) i))) = _
      rw [deep_mkX, List.getD_eq_getElem?_getD, List.getElem?_eq_getElem hi]
      rfl
    · rw [List.getElem?_eq_none (by simpa using hi), List.getElem?_eq_none (by simpa using hi)]
      rfl
  · rw [List.length_map, List.length_range]; exact h.2.1
  · rw [List.length_map, List.length_range] at h0
    obtain ⟨ad, e, hc⟩ := h.2.2 h0
    refine ⟨ad, e, fun j p hj => ?_⟩
    rw [List.getElem?_map] at hj
    obtain ⟨i, hi, rfl⟩ := Option.map_eq_some_iff.1 hj
    obtain ⟨hlt, hi⟩ := List.getElem?_eq_some_iff.1 hi
    rw [List.length_range] at hlt
    rw [List.getElem_range] at hi
    subst hi
    have hx : l[j]? = some (l.getD j zT) := by rw [List.getD_eq_getElem?_getD, List.getElem?_eq_getElem hlt]; rfl
    obtain ⟨h1, ad', e', h2⟩ := hf _ _ hx
    rw [e] at e'
    injection e' with e'
    subst e'
    exact ⟨_, rfl, rfl, h2⟩
  · intro x hx
    obtain ⟨i, hi, rfl⟩ := List.mem_map.1 hx
    have hlt := List.mem_range.1 hi
    exact (hf _ _ (by rw [List.getD_eq_getElem?_getD, List.getElem?_eq_getElem hlt]; rfl)).1
theorem rawT_to {w0 w : World} {A : Option Addr} {n : Nat} {xs : List TX} (h : rawT.C w A n xs) (hf : ∀ x ∈ xs, FarT w x) : kT.C w A n (xs.map deep) := by
  refine ⟨by rw [List.length_map]; exact h.1, h.2.1, fun h0 => ?_⟩
  obtain ⟨ad, e, hc⟩ := h.2.2 h0
  refine ⟨ad, e, fun j p hj => ?_⟩
  rw [List.getElem?_map] at hj
  obtain ⟨x, hx, rfl⟩ := Option.map_eq_some_iff.1 hj
  obtain ⟨c, h1, rfl, h3⟩ := hc j x hx
  obtain ⟨e1, hcap, hC⟩ := hf x (List.mem_of_getElem? hx)
  have e2 : tkX x = tkC ((deep x).map fun _ => .slice x.tags.1.A (deep x).tags.length x.tags.1.c) := by
    unfold tkX
    show tkC ⟨x.id, x.list, x.title, x.done, x.rank, x.est, .slice x.tags.1.A x.tags.1.n x.tags.1.c⟩ = _
    rw [e1]
    rfl
  refine ⟨_, h1, ?_, h3⟩
  rw [e2]
  exact kT_mk w (deep x) hcap hC
end Go.Proofs.Ytdjjlmphifgnnaa
