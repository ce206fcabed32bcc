/- Parts of one proof, joined: Arr, Dw, Df. Conditions: those of each statement. -/
import Derived.Test.YtlepcmljmibdnaaWMore
import Derived.Test.YtlepcmljmibdnaaSc0
import Derived.Laws.CopyOwn
import Derived.Laws.StructEq
import Derived.ChangeKeysEq
import Derived.Carry
import Derived.Deep.LoopGhost
set_option linter.unusedSimpArgs false
namespace Go.Arr
open Go.RowKit Go.Proofs.YtlepcmljmibdnaaW.PrintWords
section
variable {P : Program} {W : World} {o : Oper} {ρ : Operand → Value}

theorem run_zero {t : TypeId} {i : TypeInfo} {z : Value} (hi : P.info? t = some i) (hz : i.zero = some z) (w : World) : (zeroValue t).run P w = .ok z w := by
  simp [zeroValue, typeInfo, hi, hz]
theorem run_size {t : TypeId} {n : Nat} (h : (P.info? t).map (·.size) = some n) (w : World) : (sizeOf t).run P w = .ok n w := by
  obtain ⟨i, hi, his⟩ := Option.map_eq_some_iff.1 h
  simp [sizeOf, typeInfo, hi, his]
theorem ex_alloc {t : TypeId} {i : TypeInfo} {z : Value} (ho : o.op = .alloc t) (hi : P.info? t = some i) (hz : i.zero = some z) :
    (execOp ρ o).run P W = .ok (.value (.pointer (some ⟨W.heap.size, 0, none⟩))) (W.alloc (.cells z.cells t)) := by
  simp only [execOp, ho, Instr.alloc, Sem.run_bind, run_zero hi hz, Result.andThen_ok]
  rfl
def aggT (P : Program) (ty : TypeId) : Bool := match P.underlying ty with | some (.struct _) | some (.array _ _) => true | _ => false
theorem run_isAgg {ty : TypeId} (h : aggT P ty = true) (w : World) : (isAgg ty).run P w = .ok true w := by
  unfold aggT at h
  cases hu : P.underlying ty with
  | none => simp [hu] at h
  | some d =>
    unfold isAgg
    rw [Sem.run_bind, run_underlying hu w]
    cases d <;> simp_all
theorem ex_load {ty : TypeId} {x : Operand} (ho : o.op = .load ty x) {ad : Addr} (hx : ρ x = .pointer (some ad)) (hagg : aggT P ty = true) {seg : List Value} (hs : (P.info? ty).map (·.size) = some seg.length)
    (hc : ∀ j u, seg[j]? = some u → W.cell? (ad.add j) = some u) : (execOp ρ o).run P W = .ok (.value (.agg seg.toArray)) W := by
  have hl := run_loadCells_list (P := P) W ad seg hc
  simp only [execOp, ho, hx, Instr.loadAt, Instr.sureAddr, Sem.run_bind, Sem.run_pure, Result.andThen_ok, loadVar, run_isAgg hagg, if_true, run_size hs, hl]
theorem run_isAgg0 {ty : TypeId} (h : aggT P ty = false) (hu : (P.underlying ty).isSome = true) (w : World) : (isAgg ty).run P w = .ok false w := by
  unfold aggT at h
  obtain ⟨d, hd⟩ := Option.isSome_iff_exists.1 hu
  unfold isAgg
  rw [Sem.run_bind, run_underlying hd w]
  cases d <;> simp_all
theorem ex_load1 {ty : TypeId} {x : Operand} (ho : o.op = .load ty x) {ad : Addr} (hx : ρ x = .pointer (some ad)) (hagg : (!aggT P ty && (P.underlying ty).isSome) = true) {v : Value} (hc : W.cell? ad = some v) : (execOp ρ o).run P W = .ok (.value v) W := by
  simp only [Bool.and_eq_true, Bool.not_eq_true'] at hagg
  simp [execOp, ho, hx, Instr.loadAt, Instr.sureAddr, loadVar, run_isAgg0 hagg.1 hagg.2, run_load, hc, Result.andThen]
theorem ex_store {ty : TypeId} {x y : Operand} (ho : o.op = .store ty x y) {g off : Nat} (hx : ρ x = .pointer (some ⟨g, off, none⟩)) {v : Value} (hy : ρ y = v) {seg : List Value} (hv : v.cells.toList = seg)
    (hs : (P.info? ty).map (·.size) = some seg.length) {cur : Array Value} {t : TypeId} (hg : W.heap[g]? = some (.cells cur t (0, 0))) (hl : off + seg.length ≤ cur.size) (h1 : ∀ u ∈ seg, u.oneCell' = true) :
    (execOp ρ o).run P W = .ok .skip (W.setRow g (cur.toList.take off ++ seg ++ cur.toList.drop (off + seg.length)).toArray) := by
  have hst := run_storeCells_at P g off t seg 0 cur W hg (by simpa using hl) h1
  have hsz : v.cells.size = seg.length := by rw [← hv]; simp
  simp only [Nat.add_zero] at hst
  simp only [execOp, ho, hx, hy, Instr.storeAt, Instr.sureAddr, Sem.run_bind, Sem.run_pure, Result.andThen_ok, storeVar, run_size hs, hsz, hv]
  simp [hst]
end
section
variable {P : Program} {ops : Array Oper} {rest : List Oper} {o : Oper} {a : Act} {Q : Exit → Act → World → Prop} {W w1 : World}
theorem skip_run (hgd : o.guard = none) (hrun : (execOp a.eval o).run P W = .ok .skip w1) (h : wpList P ops Q rest (a.put o.dst undef) w1) : wpList P ops Q (o :: rest) a W := by
  refine wpList_plain hgd fun K hK => ?_
  unfold Oper.wp
  rw [hrun]
  exact hK _ _ h
end
theorem setRow_alloc (W : World) (cs cs' : Array Value) (t : TypeId) : (W.alloc (.cells cs t)).setRow W.heap.size cs' = W.alloc (.cells cs' t) := by
  have hh : ((W.alloc (.cells cs t)).setRow W.heap.size cs').heap = (W.alloc (.cells cs' t)).heap := by
    have hsz : ((W.alloc (.cells cs t)).setRow W.heap.size cs').heap.size = (W.alloc (.cells cs' t)).heap.size := by
      rw [size_setRow]
      show (W.heap.push _).size = (W.heap.push _).size
      simp only [Array.size_push]
    refine Array.ext hsz fun i h1 h2 => Option.some.inj ?_
    rw [← Array.getElem?_eq_getElem h1, ← Array.getElem?_eq_getElem h2]
    by_cases hi : i = W.heap.size
    · rw [hi, setRow_heap _ _ _ cs' t (0, 0) (heap_alloc_new W _), heap_alloc_new]
    · rw [setRow_other _ _ _ _ hi]
      have : i < W.heap.size := by
        have h3 : i < (W.heap.push (Obj.cells cs' t)).size := h2
        simp only [Array.size_push] at h3
        omega
      rw [heap_alloc_old W _ this, heap_alloc_old W _ this]
  unfold World.setRow World.alloc at hh ⊢
  simp only at hh ⊢
  rw [hh]
section
variable {P : Program} {W : World} {o : Oper} {ρ : Operand → Value}
theorem ex_box {t : TypeId} {x : Operand} (ho : o.op = .box t x) : (execOp ρ o).run P W = .ok (.value (.pointer (some ⟨W.heap.size, 0, none⟩))) (W.alloc (.cells (ρ x).cells t)) := by
  simp only [execOp, ho, Instr.box]
  rfl
theorem ex_build {t : TypeId} {parts : Array (Nat × Operand)} (ho : o.op = .build t parts) {cells : Array Value} (h : P.built t (parts.map fun (i, x) => (i, ρ x)).toList = some cells) :
    (execOp ρ o).run P W = .ok (.value (.agg cells)) W := by
  simp only [execOp, ho, Sem.run_bind, run_build W t _ cells h, Result.andThen_ok, Sem.run_pure]
theorem eq_items {e : TypeId} {k : IntKind} (he : P.underlying e = some (.int k)) (d : Nat) (xs ys : List Int) : ∀ is : List Nat, (∀ i ∈ is, i < xs.length ∧ i < ys.length) →
    (Op.eqItems (d + 1) e 1 (encs (Value.int k) xs).toArray (encs (Value.int k) ys).toArray is).run P W = .ok (is.all fun i => xs[i]? == ys[i]?) W
  | [], _ => by simp [Op.eqItems]
  | i :: is, h => by
    obtain ⟨h1, h2⟩ := h i (List.mem_cons_self ..)
    have hag : (isAgg e).run P W = .ok false W := by
      unfold isAgg
      rw [Sem.run_bind, run_underlying he W]
      rfl
    have hp : ∀ zs : List Int, ∀ h : i < zs.length, (part e (encs (Value.int k) zs).toArray (i * 1)).run P W = .ok (.int k zs[i]) W := by
      intro zs h
      have : (encs (Value.int k) zs).toArray[i]? = some (.int k zs[i]) := by simp [encs, h]
      simp [part, hag, this]
    have hq : (Op.equalIn (d + 1) e (.int k xs[i]) (.int k ys[i])).run P W = .ok (xs[i] == ys[i]) W := by
      simp [Op.equalIn, run_underlying he]
    have ih := eq_items he d xs ys is (fun j hj => h j (List.mem_cons_of_mem _ hj))
    simp only [Op.eqItems, Sem.run_bind, hp xs h1, hp ys h2, hq, Result.andThen_ok, List.all_cons, List.getElem?_eq_getElem h1, List.getElem?_eq_getElem h2]
    by_cases hx : xs[i] = ys[i]
    · simp [hx, ih]
    · have : (xs[i] == ys[i]) = false := by simpa using hx
      have h3 : ((some xs[i] : Option Int) == some ys[i]) = false := by simpa using hx
      simp [this, h3]
theorem ex_eql_arr {t e t' : TypeId} {n : Nat} {k : IntKind} {x y : Operand} (ho : o.op = .binOp .eql t x y t') (hu : P.underlying t = some (.array n e)) (he : P.underlying e = some (.int k)) (hi : (P.info? e).isSome = true) (hc : P.cellsOf e = 1)
    (hm : P.eqGuardType P.depth t = false) {xs ys : List Int} (hx : ρ x = .agg (encs (Value.int k) xs).toArray) (hy : ρ y = .agg (encs (Value.int k) ys).toArray) (h1 : xs.length = n) (h2 : ys.length = n) :
    (execOp ρ o).run P W = .ok (.value (.bool (xs == ys))) W := by
  obtain ⟨i, hi⟩ := Option.isSome_iff_exists.1 hi
  have hq : (List.range n).all (fun i => xs[i]? == ys[i]?) = (xs == ys) := by
    rw [Bool.eq_iff_iff, List.all_eq_true, beq_iff_eq]
    constructor
    · intro h
      refine List.ext_getElem? fun j => ?_
      by_cases hj : j < n
      · simpa using h j (List.mem_range.2 hj)
      · rw [List.getElem?_eq_none (by omega), List.getElem?_eq_none (by omega)]
    · rintro rfl j _; simp
  have hr := eq_items (W := W) he 9998 xs ys (List.range n) (fun j hj => by rw [List.mem_range] at hj; omega)
  simp only [execOp, ho, hx, hy, Sem.run_bind, run_eqGuard_agg (P := P) W .eql t x y _ _ hm, Result.andThen_ok, run_eql_struct (P := P) W, run_equalIn_array (P := P) W 9999 _ _ hu hi, hc, hr, hq, Sem.run_pure]
theorem ex_lookup {t kt et : TypeId} {d : TypeDesc} {r : Nat} {f : Value → Option Value} {x ix : Operand} (ho : o.op = .lookup t x ix false) (h : Mp.Is d W r f) (ht : P.underlying t = some (.map kt et)) (hd : P.underlying kt = some d)
    (hx : ρ x = .map (some r)) (hk : MapKept.IsKey d (ρ ix)) {z : Value} (hz : (zeroValue et).run P W = .ok z W) : (execOp ρ o).run P W = .ok (.value ((f (ρ ix)).getD z)) W := by
  simp only [execOp, ho, hx, Sem.run_bind, Mp.run_lookup h ht hd hk hz, Result.andThen_ok, Sem.run_pure]
theorem ex_update {t kt et : TypeId} {d : TypeDesc} {r : Nat} {f : Value → Option Value} {m x y : Operand} (ho : o.op = .mapUpdate t m x y) (h : Mp.Is d W r f) (ht : P.underlying t = some (.map kt et)) (hd : P.underlying kt = some d)
    (hm : ρ m = .map (some r)) (hk : MapKept.IsKey d (ρ x)) : ∃ w', (execOp ρ o).run P W = .ok .skip w' ∧ Mp.Turned W w' r ∧ Mp.Is d w' r (Mp.upd f (ρ x) (ρ y)) := by
  obtain ⟨w', h1, h2, h3⟩ := Mp.run_update h ht hd hk (ρ y)
  exact ⟨w', by simp only [execOp, ho, hm, Sem.run_bind, h1, Result.andThen_ok, Sem.run_pure], h2, h3⟩
end
theorem fold_seg (l : List Value) : ∀ (n : Nat) (cs : Array Value), n + l.length ≤ cs.size → (l.zipIdx n).foldl (fun cs (x : Value × Nat) => cs.setIfInBounds x.2 x.1) cs = (cs.toList.take n ++ l ++ cs.toList.drop (n + l.length)).toArray := by
  induction l with
  | nil => intro n cs _; simp
  | cons v rest ih =>
    intro n cs h
    rw [List.zipIdx_cons, List.foldl_cons, ih (n + 1) _ (by simp only [Array.size_setIfInBounds]; simp at h; omega)]
    have := list_seg_step cs.toList n v rest (by simp at h ⊢; omega)
    simp only [Array.toList_setIfInBounds]
    rw [this]
    rfl
section
variable {P : Program} {W : World} {o : Oper} {ρ : Operand → Value}
/-- A row of one element, laid by a literal. -/
theorem ex_row1 {t e : TypeId} {x : Operand} {i : TypeInfo} {z : Value} (ho : o.op = .buildSlice t 1 #[(0, x)]) (ht : P.underlying t = some (.slice e)) (hi : P.info? e = some i) (hz : i.zero = some z) (hp : 0 < i.size) (hb : i.size ≤ 2 ^ 24)
    (hx : (ρ x).cells.size = i.size) : (execOp ρ o).run P W = .ok (.value (.slice (some ⟨W.heap.size, 0, none⟩) 1 1)) (W.alloc (.cells (ρ x).cells e)) := by
  have hs : (sizeOf e).run P W = .ok i.size W := run_size (by rw [hi]; rfl) W
  have hzr := run_zero hi hz W
  have hf : ∀ cs : Array Value, cs.size = i.size → Instr.fill (fun k => some (k * i.size, i.size)) cs [(0, ρ x)] = some (ρ x).cells := by
    intro cs hcs
    have := fold_seg (ρ x).cells.toList 0 cs (by simp [hx, hcs])
    simp only [Instr.fill, Nat.zero_mul, Nat.zero_add, hx, hcs, ne_eq, not_true_eq_false, gt_iff_lt, Nat.lt_irrefl, or_self, if_false, Option.some.injEq]
    rw [← Array.foldl_toList, Array.toList_zipIdx]
    rw [show (ρ x).cells.toList.zipIdx = (ρ x).cells.toList.zipIdx 0 from rfl, this]
    have e : cs.toList.drop (0 + (ρ x).cells.toList.length) = [] := List.drop_eq_nil_of_le (by simp [hx, hcs])
    rw [e]
    simp
  have h1 : ¬ (1 * i.size > 2 ^ 24) := by omega
  have h2 : ¬ (1 * i.size = 0) := by omega
  simp only [execOp, ho, Instr.buildSlice, Sem.run_bind, run_underlying ht, Result.andThen_ok, hs, h1, h2, if_false, hzr, Sem.run_pure, List.map_toArray, List.map_cons, List.map_nil]
  rw [hf _ (by simp)]
  rfl
theorem ex_copy {d s : Operand} {dT sT : TypeId} {v : Value} {w1 : World} (ho : o.op = .call { callee := .builtin .copy, args := #[d, s], argTypes := #[dT, sT] })
    (hrun : (Builtin.copy_ #[dT, sT] o.type #[ρ d, ρ s]).run P W = .ok v w1) : (execOp ρ o).run P W = .ok (.value v) w1 := by
  simp [execOp, ho, resolve, invoke, builtin, hrun, Result.andThen]
end
end Go.Arr
namespace Go.Proofs.Ytlepcmljmibdnaa
open Go.RowKit Go.Proofs.YtlepcmljmibdnaaW.PrintWords Go.Proofs.YtlepcmljmibdnaaW.PrintLast Go.Proofs.YtlepcmljmibdnaaW.PrintMore
attribute [local go_sem] run_makeMap max2_int min2_int max_two min_two
set_option linter.unusedVariables false
set_option linter.unusedSimpArgs false

theorem bel_cell {w W : World} {p : Addr} {v : Value} (h : Below w.heap.size w W) (hc : w.cell? p = some v) : W.cell? p = some v := (h.cell (block_lt_of_cell hc)).trans hc
theorem alloc_size (w : World) (o : Obj) : (w.alloc o).heap.size = w.heap.size + 1 := by show (w.heap.push o).size = _; simp
theorem alloc_cell {w : World} {p : Addr} {v : Value} (hc : w.cell? p = some v) (o : Obj) : (w.alloc o).cell? p = some v := bel_cell (Below.alloc (Below.refl _ _) (Nat.le_refl _) o) hc
/-- what was there is there, but for what lies in S -/
structure Chg (w w' : World) (S : Nat → Prop) : Prop where
  os : w'.os = w.os
  tape : w'.tape = w.tape
  output : w'.output = w.output
  size : w.heap.size ≤ w'.heap.size
  block : ∀ k, k < w.heap.size → ¬ S k → w'.heap[k]? = w.heap[k]?
theorem Chg.refl (w : World) (S : Nat → Prop) : Chg w w S := ⟨rfl, rfl, rfl, Nat.le_refl _, fun _ _ _ => rfl⟩
theorem Chg.trans {a b c : World} {S : Nat → Prop} (h : Chg a b S) (k : Chg b c S) : Chg a c S :=
  ⟨k.os.trans h.os, k.tape.trans h.tape, k.output.trans h.output, Nat.le_trans h.size k.size, fun i hi hn => (k.block i (Nat.lt_of_lt_of_le hi h.size) hn).trans (h.block i hi hn)⟩
theorem Chg.drew {a b : World} {S : Nat → Prop} (h : Chg a b S) : Chg a b.drew S := ⟨h.os, h.tape, h.output, h.size, h.block⟩
theorem Chg.alloc {a b : World} {S : Nat → Prop} (h : Chg a b S) (o : Obj) : Chg a (b.alloc o) S :=
  h.trans ⟨rfl, rfl, rfl, by show b.heap.size ≤ (b.heap.push o).size; simp, fun k hk _ => heap_alloc_old b o hk⟩
theorem Chg.of_below {a b : World} {S : Nat → Prop} (h : Below a.heap.size a b) : Chg a b S := ⟨h.os, h.tape, h.output, h.size, fun k hk _ => h.block k hk⟩
theorem Chg.turned {a b : World} {S : Nat → Prop} {r : Nat} (h : Mp.Turned a b r) (hr : S r) : Chg a b S :=
  ⟨h.os, h.tape, h.output, by rw [h.size]; exact Nat.le_refl _, fun k _ hn => h.block k (fun e => hn (e ▸ hr))⟩
theorem Chg.mono {a b : World} {S S' : Nat → Prop} (h : Chg a b S) (hs : ∀ k, S k → S' k) : Chg a b S' := ⟨h.os, h.tape, h.output, h.size, fun k hk hn => h.block k hk (fun e => hn (hs k e))⟩
theorem Chg.below {a b : World} {S : Nat → Prop} {base : Nat} (h : Chg a b S) (hb : base ≤ a.heap.size) (hs : ∀ k, S k → base ≤ k) : Below base a b :=
  ⟨h.os, h.tape, h.output, h.size, fun k hk => h.block k (by omega) (fun e => by have := hs k e; omega)⟩

/-- A disk whose map of kept sectors was turned. -/
theorem DK.turn {w w' : World} {base B M Bd : Nat} {vc : Value} {D D' : PD} (h : DK w base B M Bd vc D) (hc : Chg w w' (fun k => k = M)) (hk : Mp.Is (.int .i64) w' M (keptF D'.kept))
    (hs : ∀ a s, D'.kept a = some s → s.length = 64) (e : D' = { D with kept := D'.kept }) : DK w' base B M Bd vc D' := by
  have hB : B < w.heap.size := (Array.getElem?_eq_some_iff.1 h.blk).1
  have hb : DCells w' B M Bd vc D := (hc.block B hB (fun e => h.hne.2.1 e.symm)).trans h.blk
  rw [e]
  refine ⟨hb, hk, h.bad.same (hc.block Bd h.bad.lt (fun e => h.hne.1 e.symm)), Kd.R_step h.cache (fun k hk hl => hc.block k hl hk.2.1), h.hB, h.hM, h.hBd, h.hne, hs, h.hn, h.hl⟩

def newP (n : Int) : PD := { n := min (max n 0) 4096, kept := fun _ => none, cache := [], bad := fun _ => false, armed := false, left := 0, dead := false }
theorem new_calls (w : World) (base : Nat) (hb : base ≤ w.heap.size) (n : Int) :
    Calls Try.prog 15 #[.int .i64 n] w fun e w' => ∃ B M Bd, e = .returned (.pointer (some ⟨B, 0, none⟩)) ∧ DK w' base B M Bd (.slice none 0 0) (newP n) ∧ Below base w w' := by
  obtain ⟨m, hm⟩ : ∃ m, (if n < 0 then 0 else n) = m := ⟨_, rfl⟩
  obtain ⟨q, hq⟩ : ∃ q, (if 4096 < m then 4096 else m) = q := ⟨_, rfl⟩
  have HQ := Aside0.mk (show min (max n 0) 4096 = q by rw [← hq, ← hm]; split <;> split <;> omega)
  go_enter Try.func15, Try.ntmps15
  go_wp2
  go_ret
  have hs0 : (w.alloc (.map #[] 0)).heap.size = w.heap.size + 1 := alloc_size w _
  refine ⟨w.heap.size + 1 + 1, w.heap.size, w.heap.size + 1, rfl, ⟨?_, ?_, ?_, Kd.R_nil _ _ _ _ _, by omega, by omega, by omega, ⟨by omega, by omega, by omega⟩, fun a s h => by simp [newP] at h, by simp only [newP]; omega, by simp [newP]⟩, ?_⟩
  · show DCells _ _ _ _ _ _
    unfold DCells
    have := heap_alloc_new ((w.alloc (.map #[] 0)).alloc (.map #[] 0)) (.cells #[.int .i64 q, .map (some w.heap.size), .slice none 0 0, .map (some (w.heap.size + 1)), .bool false, .int .i64 0, .bool false] 96)
    rw [alloc_size, alloc_size] at this
    rw [this, show (newP n).n = q from HQ.out]
    rfl
  · have e : keptF (newP n).kept = fun _ => none := by funext v; unfold keptF newP; split <;> simp
    rw [e]
    refine (Mp.Is.empty (.int .i64) w).same ?_
    rw [heap_alloc_old _ _ (by rw [alloc_size, alloc_size]; omega), heap_alloc_old _ _ (by rw [alloc_size]; omega)]
  · have e : badF (newP n).bad = fun _ => none := by funext v; unfold badF newP; split <;> simp
    rw [e]
    have := Mp.Is.empty (.int .i64) (w.alloc (.map #[] 0))
    rw [alloc_size] at this
    refine this.same ?_
    rw [heap_alloc_old _ _ (by rw [alloc_size, alloc_size]; omega)]
  · exact (Chg.below (((Chg.refl w (fun _ => False)).alloc _).alloc _ |>.alloc _) hb (fun _ h => h.elim))

def zsec : List Int := List.replicate 64 0
def wrC (x : Int × List Int) : Array Value := (Value.int .i64 x.1 :: encs (Value.int .u8) x.2).toArray
def wrV (x : Int × List Int) : Value := .agg (wrC x)
noncomputable def keepP (D : PD) (x : Int × List Int) : PD := { D with kept := fun a => if a = x.1 then (if x.2 = zsec then none else some x.2) else D.kept a }
theorem keptF_del (D : PD) (x : Int × List Int) (hz : x.2 = zsec) : keptF (keepP D x).kept = Mp.del (keptF D.kept) (.int .i64 x.1) := by
  funext v
  unfold Mp.del keepP
  cases v with
  | int k a =>
    cases k with
    | i64 => by_cases ha : a = x.1 <;> simp [keptF, ha, hz]
    | _ => simp [keptF]
  | _ => simp [keptF]
theorem keptF_upd (D : PD) (x : Int × List Int) (hz : x.2 ≠ zsec) : keptF (keepP D x).kept = Mp.upd (keptF D.kept) (.int .i64 x.1) (secV x.2) := by
  funext v
  unfold Mp.upd keepP
  cases v with
  | int k a =>
    cases k with
    | i64 => by_cases ha : a = x.1 <;> simp [keptF, ha, hz]
    | _ => simp [keptF]
  | _ => simp [keptF]
theorem keepP_sec (D : PD) (x : Int × List Int) (hx : x.2.length = 64) (h : ∀ a s, D.kept a = some s → s.length = 64) : ∀ a s, (keepP D x).kept a = some s → s.length = 64 := by
  intro a s hs
  unfold keepP at hs
  simp only at hs
  split at hs
  · split at hs
    · cases hs
    · obtain rfl := Option.some.inj hs; exact hx
  · exact h a s hs
theorem wr_cell (w : World) (x : Int × List Int) : (w.alloc (.cells (wrC x) 101)).cell? ⟨w.heap.size, 0, none⟩ = some (.int .i64 x.1) := by
  unfold World.cell?
  rw [heap_alloc_new]
  rfl
theorem wr_cells (w : World) (x : Int × List Int) (j : Nat) (u : Value) (hu : (encs (Value.int .u8) x.2)[j]? = some u) : (w.alloc (.cells (wrC x) 101)).cell? ((⟨w.heap.size, 1, none⟩ : Addr).add j) = some u := by
  have e : (⟨w.heap.size, 1, none⟩ : Addr).add j = ⟨w.heap.size, j + 1, none⟩ := by unfold Addr.add; split <;> simp_all <;> omega
  rw [e]
  unfold World.cell?
  rw [heap_alloc_new]
  simpa [wrC] using hu
theorem keep_calls (w : World) (base B M Bd : Nat) (vc : Value) (D : PD) (x : Int × List Int) (hx : x.2.length = 64) (h : DK w base B M Bd vc D) :
    Calls Try.prog 66 #[.pointer (some ⟨B, 0, none⟩), wrV x] w fun e w' => e = .returned (.tuple #[]) ∧ DK w' base B M Bd vc (keepP D x) ∧ Chg w w' (fun k => k = M) := by
  show Calls Try.prog 66 #[.pointer (some ⟨B, 0, none⟩), .agg (wrC x)] w _
  have HX := Aside0.mk hx
  have HD := Aside0.mk h
  obtain ⟨z, hz⟩ : ∃ z, (x.2 == zsec) = z := ⟨_, rfl⟩
  have HZ := Aside0.mk hz
  have hw := wr_cell w x
  obtain ⟨⟨h0, h1, h2, h3, h4, h5, h6⟩, f2, f4, f5, f6⟩ := cells7 h.blk
  have HW := Aside0.mk (wr_cells w x)
  have HM : Aside0 (∀ o, Mp.Is (.int .i64) (w.alloc o).drew M (keptF D.kept)) := Aside0.mk fun o => h.kept.same (heap_alloc_old w o h.kept.lt)
  clear hx h hz
  cases z with
  | true =>
    have hh := Mp.run_delete (P := Try.prog) (t := 92) (kt := 3) (et := 99) (d := .int .i64) (r := M) (f := keptF D.kept) (w := (w.alloc (Obj.cells (wrC x) 101)).drew) (ty := 0) (HM.out (.cells (wrC x) 101)) Try.underlying92 Try.underlying3 (k := .int .i64 x.1) rfl
    rcases hh with ⟨w2, hr2, ht2, hi2⟩
    have HR2 := Aside0.mk hr2
    have HT2 := Aside0.mk ht2
    have HI2 := Aside0.mk hi2
    clear hr2 ht2 hi2
    go_enter Try.func66, Try.ntmps66
    go_wp2_with (first
      | ((with_reducible refine gate_ (.box 101 (.tmp 1)) rfl ?_); refine Kd.event_run rfl (w1 := w.alloc (.cells (wrC x) 101)) (v := .pointer (some ⟨w.heap.size, 0, none⟩)) (Arr.ex_box rfl) ?_; simp only [Act.put, List.setIfInBounds_toArray, List.set_cons_succ, List.set_cons_zero])
      | ((with_reducible refine gate_ (.load 99 (.tmp 4)) rfl ?_); refine Kd.event_run rfl (Arr.ex_load rfl (ad := ⟨w.heap.size, 1, none⟩) rfl (by kernel_rfl) (seg := encs (Value.int .u8) x.2) (by rw [encs_length, HX.out]; kernel_rfl) HW.out) ?_; simp only [Act.put, List.setIfInBounds_toArray, List.set_cons_succ, List.set_cons_zero])
      | ((with_reducible refine gate_ (.build 99 #[]) rfl ?_); refine Kd.event_run rfl (Arr.ex_build rfl (cells := (encs (Value.int .u8) (zsec)).toArray) (by kernel_rfl)) ?_; simp only [Act.put, List.setIfInBounds_toArray, List.set_cons_succ, List.set_cons_zero])
      | ((with_reducible refine gate_ (.binOp .eql 99 (.tmp 5) (.tmp 6) 99) rfl ?_); go_loud (refine Kd.event_run rfl (v := .bool true) (by rw [← HZ.out]; exact Arr.ex_eql_arr rfl Try.underlying99 Try.underlying5 (by kernel_rfl) (by kernel_rfl) (by kernel_rfl) rfl rfl HX.out rfl) ?_); simp only [Act.put, List.setIfInBounds_toArray, List.set_cons_succ, List.set_cons_zero]))
    have h1' := alloc_cell h1 (.cells (wrC x) 101)
    refine Calm.wp_calm [6] [(0, 0), (1, 0), (2, 0), (4, 0), (3, 1), (5, 1), (6, 2)] (by kernel_rfl) (by kernel_rfl) ?_
    generalize hops : List.toArray (_ : List Oper) = ops
    have ho0 := (congrArg (fun z : Array Oper => z[0]?) hops).symm
    have ho1 := (congrArg (fun z : Array Oper => z[1]?) hops).symm
    have ho2 := (congrArg (fun z : Array Oper => z[2]?) hops).symm
    have ho3 := (congrArg (fun z : Array Oper => z[3]?) hops).symm
    have ho4 := (congrArg (fun z : Array Oper => z[4]?) hops).symm
    have ho5 := (congrArg (fun z : Array Oper => z[5]?) hops).symm
    have ho6 := (congrArg (fun z : Array Oper => z[6]?) hops).symm
    simp only [List.getElem?_toArray, List.getElem?_cons_zero, List.getElem?_cons_succ] at ho0 ho1 ho2 ho3 ho4 ho5 ho6
    clear hops
    -- 0: some 8 := Op.move (Operand.tmp 0)
    refine Calm.plain ho0 _ rfl (fun W => by go_simp; exact rfl) ?_
    simp only [Act.put, List.setIfInBounds_toArray, List.set_cons_succ, List.set_cons_zero]
    -- 1: some 9 := Op.nilCheck (Operand.tmp 8)
    refine Calm.plain ho1 _ rfl (fun W => by go_simp; exact rfl) ?_
    simp only [Act.put, List.setIfInBounds_toArray, List.set_cons_succ, List.set_cons_zero]
    -- 2: some 10 := Op.fieldAddr 96 (Operand.tmp 9) 1
    refine Calm.plain ho2 _ rfl (fun W => by go_simp; exact rfl) ?_
    simp only [Act.put, List.setIfInBounds_toArray, List.set_cons_succ, List.set_cons_zero]
    -- 4: some 12 := Op.fieldAddr 101 (Operand.tmp 3) 0
    refine Calm.plain ho4 _ rfl (fun W => by go_simp; exact rfl) ?_
    simp only [Act.put, List.setIfInBounds_toArray, List.set_cons_succ, List.set_cons_zero]
    -- 3: some 11 := Op.load 92 (Operand.tmp 10)
    refine Calm.reads ho3 _ rfl (fun W hW => by have q := bel_cell hW h1'; go_simp; exact rfl) ?_
    simp only [Act.put, List.setIfInBounds_toArray, List.set_cons_succ, List.set_cons_zero]
    -- 5: some 13 := Op.load 3 (Operand.tmp 12)
    refine Calm.reads ho5 _ rfl (fun W hW => by have q := bel_cell hW hw; go_simp; exact rfl) ?_
    simp only [Act.put, List.setIfInBounds_toArray, List.set_cons_succ, List.set_cons_zero]
    -- 6: none := Op.call { callee := Callee.builtin Builtin.delete, args := #[Operand.tmp 11, Operand.tmp 13], argTypes := #[92, 3] }
    refine Calm.step ho6 (fun K hK => ?_)
    go_simp
    rw [HR2.out]
    refine hK _ _ (fun h => absurd h (by simp)) (Calm.done ?_)
    go_wp2
    ((try simp only [Exit.inBlock, Exit.then]); refine bodyPost_ret (results_none rfl _ _ _) rfl ?_)
    have hc : Chg w w2 (fun k => k = M) := ((Chg.refl w _).alloc _).drew.trans (.turned HT2.out rfl)
    exact ⟨rfl, HD.out.turn hc (by rw [keptF_del D x (by simpa using HZ.out)]; exact HI2.out) (keepP_sec D x HX.out HD.out.sec) rfl, hc⟩
  | false =>
    have hh := Mp.run_update (P := Try.prog) (t := 92) (kt := 3) (et := 99) (d := .int .i64) (r := M) (f := keptF D.kept) (w := (w.alloc (Obj.cells (wrC x) 101)).drew) (HM.out (.cells (wrC x) 101)) Try.underlying92 Try.underlying3 (k := .int .i64 x.1) rfl (.agg (encs (Value.int .u8) x.2).toArray)
    rcases hh with ⟨w2, hr2, ht2, hi2⟩
    have HR2 := Aside0.mk hr2
    have HT2 := Aside0.mk ht2
    have HI2 := Aside0.mk hi2
    clear hr2 ht2 hi2
    go_enter Try.func66, Try.ntmps66
    go_wp2_with (first
      | ((with_reducible refine gate_ (.box 101 (.tmp 1)) rfl ?_); refine Kd.event_run rfl (w1 := w.alloc (.cells (wrC x) 101)) (v := .pointer (some ⟨w.heap.size, 0, none⟩)) (Arr.ex_box rfl) ?_; simp only [Act.put, List.setIfInBounds_toArray, List.set_cons_succ, List.set_cons_zero])
      | ((with_reducible refine gate_ (.load 99 (.tmp 4)) rfl ?_); refine Kd.event_run rfl (Arr.ex_load rfl (ad := ⟨w.heap.size, 1, none⟩) rfl (by kernel_rfl) (seg := encs (Value.int .u8) x.2) (by rw [encs_length, HX.out]; kernel_rfl) HW.out) ?_; simp only [Act.put, List.setIfInBounds_toArray, List.set_cons_succ, List.set_cons_zero])
      | ((with_reducible refine gate_ (.build 99 #[]) rfl ?_); refine Kd.event_run rfl (Arr.ex_build rfl (cells := (encs (Value.int .u8) (zsec)).toArray) (by kernel_rfl)) ?_; simp only [Act.put, List.setIfInBounds_toArray, List.set_cons_succ, List.set_cons_zero])
      | ((with_reducible refine gate_ (.binOp .eql 99 (.tmp 5) (.tmp 6) 99) rfl ?_); go_loud (refine Kd.event_run rfl (v := .bool false) (by rw [← HZ.out]; exact Arr.ex_eql_arr rfl Try.underlying99 Try.underlying5 (by kernel_rfl) (by kernel_rfl) (by kernel_rfl) rfl rfl HX.out rfl) ?_); simp only [Act.put, List.setIfInBounds_toArray, List.set_cons_succ, List.set_cons_zero]))
    have h1' := alloc_cell h1 (.cells (wrC x) 101)
    refine Calm.wp_calm [8] [(0, 0), (1, 0), (2, 0), (4, 0), (6, 0), (3, 1), (5, 1), (7, 1), (8, 2)] (by kernel_rfl) (by kernel_rfl) ?_
    generalize hops : List.toArray (_ : List Oper) = ops
    have ho0 := (congrArg (fun z : Array Oper => z[0]?) hops).symm
    have ho1 := (congrArg (fun z : Array Oper => z[1]?) hops).symm
    have ho2 := (congrArg (fun z : Array Oper => z[2]?) hops).symm
    have ho3 := (congrArg (fun z : Array Oper => z[3]?) hops).symm
    have ho4 := (congrArg (fun z : Array Oper => z[4]?) hops).symm
    have ho5 := (congrArg (fun z : Array Oper => z[5]?) hops).symm
    have ho6 := (congrArg (fun z : Array Oper => z[6]?) hops).symm
    have ho7 := (congrArg (fun z : Array Oper => z[7]?) hops).symm
    have ho8 := (congrArg (fun z : Array Oper => z[8]?) hops).symm
    simp only [List.getElem?_toArray, List.getElem?_cons_zero, List.getElem?_cons_succ] at ho0 ho1 ho2 ho3 ho4 ho5 ho6 ho7 ho8
    clear hops
    -- 0: some 14 := Op.move (Operand.tmp 0)
    refine Calm.plain ho0 _ rfl (fun W => by go_simp; exact rfl) ?_
    simp only [Act.put, List.setIfInBounds_toArray, List.set_cons_succ, List.set_cons_zero]
    -- 1: some 15 := Op.nilCheck (Operand.tmp 14)
    refine Calm.plain ho1 _ rfl (fun W => by go_simp; exact rfl) ?_
    simp only [Act.put, List.setIfInBounds_toArray, List.set_cons_succ, List.set_cons_zero]
    -- 2: some 16 := Op.fieldAddr 96 (Operand.tmp 15) 1
    refine Calm.plain ho2 _ rfl (fun W => by go_simp; exact rfl) ?_
    simp only [Act.put, List.setIfInBounds_toArray, List.set_cons_succ, List.set_cons_zero]
    -- 4: some 18 := Op.fieldAddr 101 (Operand.tmp 3) 0
    refine Calm.plain ho4 _ rfl (fun W => by go_simp; exact rfl) ?_
    simp only [Act.put, List.setIfInBounds_toArray, List.set_cons_succ, List.set_cons_zero]
    -- 6: some 20 := Op.fieldAddr 101 (Operand.tmp 3) 1
    refine Calm.plain ho6 _ rfl (fun W => by go_simp; exact rfl) ?_
    simp only [Act.put, List.setIfInBounds_toArray, List.set_cons_succ, List.set_cons_zero]
    -- 3: some 17 := Op.load 92 (Operand.tmp 16)
    refine Calm.reads ho3 _ rfl (fun W hW => by have q := bel_cell hW h1'; go_simp; exact rfl) ?_
    simp only [Act.put, List.setIfInBounds_toArray, List.set_cons_succ, List.set_cons_zero]
    -- 5: some 19 := Op.load 3 (Operand.tmp 18)
    refine Calm.reads ho5 _ rfl (fun W hW => by have q := bel_cell hW hw; go_simp; exact rfl) ?_
    simp only [Act.put, List.setIfInBounds_toArray, List.set_cons_succ, List.set_cons_zero]
    refine Calm.reads ho7 (.agg (encs (Value.int .u8) x.2).toArray) rfl (fun W hW => Arr.ex_load rfl (ad := ⟨w.heap.size, 1, none⟩) rfl (by kernel_rfl) (seg := encs (Value.int .u8) x.2) (by rw [encs_length, HX.out]; kernel_rfl) (fun j u hu => bel_cell hW (HW.out j u hu))) ?_
    simp only [Act.put, List.setIfInBounds_toArray, List.set_cons_succ, List.set_cons_zero]
    -- 8: none := Op.mapUpdate 92 (Operand.tmp 17) (Operand.tmp 19) (Operand.tmp 21)
    refine Calm.step ho8 (fun K hK => ?_)
    go_simp
    rw [HR2.out]
    refine hK _ _ (fun h => absurd h (by simp)) (Calm.done ?_)
    go_wp2
    go_end0
    have hc : Chg w w2 (fun k => k = M) := ((Chg.refl w _).alloc _).drew.trans (.turned HT2.out rfl)
    exact ⟨rfl, HD.out.turn hc (by rw [keptF_upd D x (by simpa using HZ.out)]; exact HI2.out) (keepP_sec D x HX.out HD.out.sec) rfl, hc⟩
end Go.Proofs.Ytlepcmljmibdnaa
namespace Go.Proofs.Ytlepcmljmibdnaa
open Go.RowKit Go.Proofs.YtlepcmljmibdnaaW.PrintWords Go.Proofs.YtlepcmljmibdnaaW.PrintLast Go.Proofs.YtlepcmljmibdnaaW.PrintMore
attribute [local go_sem] run_makeMap max2_int min2_int max_two min_two
set_option linter.unusedVariables false
set_option linter.unusedSimpArgs false

theorem cache_at {w : World} {A : Option Addr} {n : Nat} {xs : List (Int × List Int)} (h : wrK.C w A n xs) (k : Nat) (hk : k < n) (x : Int × List Int) (hx : xs[k]? = some x) :
    ∃ ad, A = some ad ∧ x.2.length = 64 ∧ ∀ j u, (wrC x).toList[j]? = some u → w.cell? ((ad.add (k * 65)).add j) = some u := by
  obtain ⟨ad, c, e, hl, hK, hc⟩ := Kd.C_get h (0, []) (k : Int) (by omega) (by omega)
  have hx' : xs.getD (k : Int).toNat (0, []) = x := by simp [List.getD, hx]
  rw [hx'] at hK
  obtain ⟨c0, c1, rfl, h0, h1⟩ := hK
  obtain ⟨h2, rfl⟩ := Kd.arr_cells h1
  have h0' : c0 = [.int .i64 x.1] := h0
  subst h0'
  refine ⟨ad, e, h2, fun j u hu => ?_⟩
  have := hc j u (by simpa [wrC] using hu)
  rw [show ((k : Int)).toNat * wrK.sz + j = k * 65 + j by rw [Int.toNat_natCast]; rfl] at this
  rw [Addr.add_add]
  exact this

section
variable {w : World} {o : Oper} {ρ : Operand → Value}
theorem ex_load_wr (W : World) {x : Operand} {ad : Addr} (ho : o.op = .load 101 x) (hx : ρ x = .pointer (some ad)) {q : Int × List Int} (hq : q.2.length = 64)
    (hc : ∀ j u, (wrC q).toList[j]? = some u → W.cell? (ad.add j) = some u) : (execOp ρ o).run Try.prog W = .ok (.value (.agg (wrC q))) W := by
  have h := Arr.ex_load (P := Try.prog) (W := W) ho hx (by kernel_rfl) (seg := (wrC q).toList) (by rw [show (wrC q).toList.length = 65 by simp [wrC, encs_length, hq]]; kernel_rfl) hc
  simpa using h
theorem new_wr_cells (W : World) (q : Int × List Int) (j : Nat) (u : Value) (hu : (wrC q).toList[j]? = some u) : (W.alloc (.cells (wrC q) 101)).cell? ((⟨W.heap.size, 0, none⟩ : Addr).add j) = some u := by
  have e : (⟨W.heap.size, 0, none⟩ : Addr).add j = ⟨W.heap.size, j, none⟩ := by unfold Addr.add; split <;> simp_all
  rw [e]
  unfold World.cell?
  rw [heap_alloc_new]
  simpa using hu
theorem ex_alloc_wr (W : World) (ho : o.op = .alloc 101) : (execOp ρ o).run Try.prog W = .ok (.value (.pointer (some ⟨W.heap.size, 0, none⟩))) (W.alloc (.cells (wrC (0, zsec)) 101)) := by
  have hi : ∃ i, Try.prog.info? 101 = some i ∧ i.zero = some (.agg (wrC (0, zsec))) := by
    have : (Try.prog.info? 101).bind (·.zero) = some (.agg (wrC (0, zsec))) := by kernel_rfl
    exact Option.bind_eq_some_iff.1 this
  obtain ⟨i, h1, h2⟩ := hi
  exact Arr.ex_alloc ho h1 h2
theorem wr_size (q : Int × List Int) (hq : q.2.length = 64) : (wrC q).size = 65 := by simp [wrC, encs_length, hq]
theorem ex_store_wr (W : World) {x y : Operand} (p q : Int × List Int) (hp : p.2.length = 64) (hq : q.2.length = 64) (ho : o.op = .store 101 x y) (hx : ρ x = .pointer (some ⟨W.heap.size, 0, none⟩)) (hy : ρ y = .agg (wrC q)) :
    (execOp ρ o).run Try.prog (W.alloc (.cells (wrC p) 101)) = .ok .skip (W.alloc (.cells (wrC q) 101)) := by
  have hl : (wrC q).toList.length = 65 := by rw [Array.length_toList]; exact wr_size q hq
  have h := Arr.ex_store (P := Try.prog) (W := W.alloc (.cells (wrC p) 101)) ho hx hy (seg := (wrC q).toList) rfl (by rw [hl]; kernel_rfl) (heap_alloc_new W _) (by rw [hl, wr_size p hp]; omega) (by
    intro u hu
    simp only [wrC, List.toList_toArray, List.mem_cons, encs, List.mem_map] at hu
    rcases hu with rfl | ⟨a, _, rfl⟩ <;> rfl)
  rw [h, Arr.setRow_alloc]
  have e : (wrC p).toList.drop (0 + (wrC q).toList.length) = [] := by rw [hl]; exact List.drop_eq_nil_of_le (by rw [Array.length_toList, wr_size p hp]; omega)
  rw [e]
  simp
end

theorem Only.chg {w w' : World} {B : Nat} {S : Nat → Prop} (h : Only w w' B) (hs : ∀ k, k = B → S k) : Chg w w' S := ⟨h.1, h.2.1, h.2.2.1, h.2.2.2.1, fun k _ hn => h.2.2.2.2 k (fun e => hn (hs k e))⟩
theorem actP_cache (D : PD) : (actP D).1.cache = D.cache := by
  obtain ⟨n, kept, cache, bad, armed, left, dead⟩ := D
  cases armed <;> cases dead <;> by_cases h : left = 0 <;> simp [actP, h]
noncomputable def keepAll (D : PD) (l : List (Int × List Int)) : PD := l.foldl keepP D
theorem keepAll_cache (D : PD) (l : List (Int × List Int)) : (keepAll D l).cache = D.cache := by
  induction l generalizing D with
  | nil => rfl
  | cons x l ih => exact ih (keepP D x)
theorem keepAll_succ (D : PD) (l : List (Int × List Int)) (i : Nat) (x : Int × List Int) (h : l[i]? = some x) : keepAll D (l.take (i + 1)) = keepP (keepAll D (l.take i)) x := by
  unfold keepAll
  rw [List.take_add_one, h, List.foldl_append]
  rfl
theorem DK.chg {w w' : World} {base B M Bd : Nat} {vc : Value} {D : PD} (h : DK w base B M Bd vc D) (hc : Chg w w' (fun _ => False)) : DK w' base B M Bd vc D :=
  h.turn (hc.mono fun _ h => h.elim) (h.kept.same (hc.block M h.kept.lt (fun h => h))) h.sec rfl
theorem DK.grow {w : World} {base B M Bd : Nat} {vc : Value} {D : PD} (h : DK w base B M Bd vc D) (o : Obj) : DK (w.alloc o) base B M Bd vc D := h.chg ((Chg.refl w _).alloc o)
theorem DK.drew {w : World} {base B M Bd : Nat} {vc : Value} {D : PD} (h : DK w base B M Bd vc D) : DK w.drew base B M Bd vc D := h.chg (Chg.refl w _).drew
noncomputable def flushP (D : PD) : PD × Int := if (actP D).2 ≠ 0 then actP D else ({ keepAll (actP D).1 (actP D).1.cache with cache := [] }, 0)
theorem flush_calls (w : World) (base B M Bd : Nat) (vc : Value) (D : PD) (hl : D.cache.length ≤ 1000) (hbw : base ≤ w.heap.size) (h : DK w base B M Bd vc D) :
    Calls Try.prog 18 #[.pointer (some ⟨B, 0, none⟩)] w fun e w' => e = .returned (.int .i64 (flushP D).2) ∧ ∃ vc', DK w' base B M Bd vc' (flushP D).1 ∧ (vc' = vc ∨ vc' = .slice none 0 0) ∧ Chg w w' (fun k => k = B ∨ k = M) := by
  have HL := Aside0.mk hl
  have HD := Aside0.mk h
  have h1 := (cells7 h.blk).1.2.1
  clear hl h
  obtain ⟨e, he⟩ : ∃ e, (actP D).2 = e := ⟨_, rfl⟩
  obtain ⟨D1, hD1⟩ : ∃ D1, (actP D).1 = D1 := ⟨_, rfl⟩
  have HE := Aside0.mk he
  have HD1 := Aside0.mk hD1
  clear he hD1
  by_cases hz : e = 0
  · subst hz
    obtain ⟨A, c, hvc⟩ := Kd.R_slice HD.out.cache
    subst hvc
    have HC1 := Aside0.mk (show D1.cache = D.cache by rw [← HD1.out]; exact actP_cache D)
    go_enter Try.func18, Try.ntmps18
    go_wp2_with (first | (go_at_call 63; refine (ok_calls _ _ _ h1).mono ?_; rintro e w' ⟨rfl, rfl⟩) | (go_at_call 65; refine (act_calls _ base B M Bd _ D HD.out).mono ?_; rw [HE.out, HD1.out]; rintro e w1 ⟨rfl, hd, ho⟩; obtain ⟨⟨g0, g1, g2, g3, g4, g5, g6⟩, k2, k4, k5, k6⟩ := cells7 hd.blk; have HDK1 := Aside0.mk hd; have HO := Aside0.mk ho; clear hd ho))
    clear g0 g3 g4 g5 g6 k4 k5 k6
    go_loopg [19] D.cache.length (fun kq v19 w' => ∃ (i : Nat), v19 = .int .i64 (i : Int) ∧ Aside0 (i + kq = D.cache.length) ∧ Aside0 (DK w' base B M Bd (.slice A D.cache.length c) (keepAll D1 (D.cache.take i))) ∧ Aside0 (Chg w w' (fun k => k = B ∨ k = M)))
    case atStart => exact ⟨0, rfl, ⟨by omega⟩, ⟨by rw [List.take_zero]; exact HDK1.out⟩, ⟨HO.out.chg (fun _ h => .inl h)⟩⟩
    case round =>
      obtain ⟨i, rfl, HI, HDi, HCi⟩ := hrel
      have hBr := (cells7 HDi.out.blk).1
      by_cases hi : i < D.cache.length
      · obtain ⟨x, hx⟩ : ∃ x, D.cache[i]? = some x := ⟨_, List.getElem?_eq_getElem hi⟩
        have HX := Aside0.mk hx
        clear hx hBr
        have hcw := (Kd.R_reads' HDi.out.cache).2.2
        rw [keepAll_cache, HC1.out] at hcw
        obtain ⟨ad, e, hx2, hcell⟩ := cache_at hcw i hi x HX.out
        subst e
        have HX2 := Aside0.mk hx2
        have HCELL := Aside0.mk hcell
        have HNEW := Aside0.mk (new_wr_cells wr x)
        have hk2 := HL.out
        clear hcw hx2 hcell
        go_wp2_with (first
          | ((with_reducible refine gate_ (.load 101 (.tmp 21)) rfl ?_); refine Kd.event_run rfl (ex_load_wr wr rfl rfl HX2.out HCELL.out) ?_; simp only [Act.put, List.setIfInBounds_toArray, List.set_cons_succ, List.set_cons_zero])
          | ((with_reducible refine gate_ (.alloc 101) rfl ?_); refine Kd.event_run rfl (ex_alloc_wr wr rfl) ?_; simp only [Act.put, List.setIfInBounds_toArray, List.set_cons_succ, List.set_cons_zero])
          | ((with_reducible refine gate_ (.store 101 (.tmp 5) (.tmp 22)) rfl ?_); refine Arr.skip_run rfl (ex_store_wr wr (0, zsec) x (by decide) HX2.out rfl rfl rfl) ?_; simp only [Act.put, List.setIfInBounds_toArray, List.set_cons_succ, List.set_cons_zero])
          | ((with_reducible refine gate_ (.load 101 (.tmp 5)) rfl ?_); refine Kd.event_run rfl (ex_load_wr (wr.alloc (.cells (wrC x) 101)) rfl rfl HX2.out HNEW.out) ?_; simp only [Act.put, List.setIfInBounds_toArray, List.set_cons_succ, List.set_cons_zero])
          | (go_at_call 66; refine (keep_calls _ base B M Bd _ (keepAll D1 (D.cache.take i)) x HX2.out (HDi.out.grow (.cells (wrC x) 101))).mono ?_; rintro e w2 ⟨rfl, hd, hc⟩; have HD2 := Aside0.mk hd; have HC2 := Aside0.mk hc; clear hd hc))
        have hk1 := HI.out
        obtain ⟨gq, rfl⟩ : ∃ gq, gk = gq + 1 := ⟨gk - 1, by omega⟩
        go_roundg gq
        case rel => exact ⟨i + 1, by go_num, ⟨by omega⟩, ⟨by rw [keepAll_succ D1 D.cache i x HX.out]; exact HD2.out⟩, ⟨HCi.out.trans (((Chg.refl wr _).alloc _).trans (HC2.out.mono fun _ h => .inr h))⟩⟩
        case measure => omega
      · have hi0 := HI.out
        obtain rfl : gk = 0 := by omega
        obtain rfl : i = D.cache.length := by omega
        clear hi0
        have hm : ¬ ((D.cache.length : Int) < (D.cache.length : Int)) := by omega
        obtain ⟨⟨c0, c1, c2, c3, c4, c5, c6⟩, k2, k4, k5, k6⟩ := cells7 HDi.out.blk
        clear hBr c0 c1 c3 c4 c5 c6 k4 k5 k6
        go_wp2
        go_ret
        have hf : flushP D = ({ keepAll D1 (D.cache.take D.cache.length) with cache := [] }, 0) := by
          unfold flushP
          rw [if_neg (by rw [HE.out]; simp), HD1.out, HC1.out, List.take_length]
        rw [hf]
        have ho := (Only.refl wr B).set (i := 2) (.slice none 0 0)
        exact ⟨rfl, _, HDi.out.only ho (set7 HDi.out.blk 2 _) rfl rfl (.inr ⟨rfl, rfl⟩) rfl HDi.out.hl, .inr rfl, HCi.out.trans (ho.chg fun _ h => .inl h)⟩
  · have hz' : (e == 0) = false := by simpa using hz
    have HZ := Aside0.mk hz
    clear hz
    go_enter Try.func18, Try.ntmps18
    go_wp2_with (first | (go_at_call 63; refine (ok_calls _ _ _ h1).mono ?_; rintro e w' ⟨rfl, rfl⟩) | (go_at_call 65; refine (act_calls _ base B M Bd vc D HD.out).mono ?_; rw [HE.out, HD1.out]; rintro e w1 ⟨rfl, hd, ho⟩; have HDK1 := Aside0.mk hd; have HO := Aside0.mk ho; clear hd ho))
    go_ret
    have hf : flushP D = (D1, e) := by unfold flushP; rw [if_pos (by rw [HE.out]; exact HZ.out), ← HD1.out, ← HE.out]
    rw [hf]
    exact ⟨rfl, vc, HDK1.out, .inl rfl, HO.out.chg (fun _ h => .inl h)⟩
theorem flush_none (w : World) : Calls Try.prog 18 #[.pointer none] w fun e w' => e = .returned (.int .i64 0) ∧ w = w' := by
  go_enter Try.func18, Try.ntmps18
  go_wp2_with (go_at_call 63; refine (ok_none _).mono ?_; rintro e w' ⟨rfl, rfl⟩)
  go_ret
  exact ⟨rfl, rfl⟩
/-- the first i writes, of which those are kept that ks names -/
noncomputable def sel (D : PD) (l : List (Int × List Int)) (ks : List Bool) : Nat → PD
  | 0 => D
  | i + 1 => if ks.getD i false then keepP (sel D l ks i) (l.getD i (0, [])) else sel D l ks i
theorem sel_cache (D : PD) (l : List (Int × List Int)) (ks : List Bool) (i : Nat) : (sel D l ks i).cache = D.cache := by
  induction i with
  | zero => rfl
  | succ i ih => unfold sel; split <;> exact ih
noncomputable def crashP (D : PD) (ks : List Bool) : PD := restP (sel D D.cache ks D.cache.length)
theorem crash_none (w : World) (v : Value) : Calls Try.prog 20 #[.pointer none, v] w fun e w' => e = .returned (.tuple #[]) ∧ w = w' := by
  go_enter Try.func20, Try.ntmps20
  go_wp2_with (go_at_call 63; refine (ok_none _).mono ?_; rintro e w' ⟨rfl, rfl⟩)
  ((try simp only [Exit.inBlock, Exit.then]); refine bodyPost_ret (results_none rfl _ _ _) rfl ?_)
  exact ⟨rfl, rfl⟩
theorem crash_calls (w : World) (base B M Bd : Nat) (vc : Value) (D : PD) (Ak : Option Addr) (ck : Nat) (ks : List Bool) (hl : D.cache.length ≤ 1000) (hbw : base ≤ w.heap.size) (h : DK w base B M Bd vc D)
    (hks : ∀ w', Chg w w' (fun k => k = B ∨ k = M) → Kd.bool.C w' Ak ks.length ks) :
    Calls Try.prog 20 #[.pointer (some ⟨B, 0, none⟩), .slice Ak ks.length ck] w fun e w' => e = .returned (.tuple #[]) ∧ DK w' base B M Bd (.slice none 0 0) (crashP D ks) ∧ Chg w w' (fun k => k = B ∨ k = M) := by
  have HL := Aside0.mk hl
  have HD := Aside0.mk h
  have HK := Aside0.mk hks
  obtain ⟨⟨g0, g1, g2, g3, g4, g5, g6⟩, k2, k4, k5, k6⟩ := cells7 h.blk
  clear hl h hks
  obtain ⟨A, c, hvc⟩ := Kd.R_slice HD.out.cache
  subst hvc
  go_enter Try.func20, Try.ntmps20
  go_wp2_with (first | (go_at_call 63; refine (ok_calls _ _ _ g1).mono ?_; rintro e w' ⟨rfl, rfl⟩))
  clear g0 g3 g4 g5 g6 k4 k5 k6
  go_loopg [14] D.cache.length (fun kq v14 w' => ∃ (i : Nat), v14 = .int .i64 (i : Int) ∧ Aside0 (i + kq = D.cache.length) ∧ Aside0 (DK w' base B M Bd (.slice A D.cache.length c) (sel D D.cache ks i)) ∧ Aside0 (Chg w w' (fun k => k = B ∨ k = M)))
  case atStart => exact ⟨0, rfl, ⟨by omega⟩, HD, ⟨Chg.refl _ _⟩⟩
  case round =>
    obtain ⟨i, rfl, HI, HDi, HCi⟩ := hrel
    by_cases hi : i < D.cache.length
    · obtain ⟨x, hx⟩ : ∃ x, D.cache[i]? = some x := ⟨_, List.getElem?_eq_getElem hi⟩
      have HX := Aside0.mk hx
      clear hx
      have hcw := (Kd.R_reads' HDi.out.cache).2.2
      rw [sel_cache] at hcw
      obtain ⟨ad, e, hx2, hcell⟩ := cache_at hcw i hi x HX.out
      subst e
      have HX2 := Aside0.mk hx2
      have HCELL := Aside0.mk hcell
      have HNEW := Aside0.mk (new_wr_cells wr x)
      have hk2 := HL.out
      have hgs : (D.cache.getD i (0, [])) = x := by simp [List.getD, HX.out]
      have HGS := Aside0.mk hgs
      clear hcw hx2 hcell hgs
      by_cases hik : i < ks.length
      · obtain ⟨b, hb⟩ : ∃ b, ks.getD i false = b := ⟨_, rfl⟩
        have HB := Aside0.mk hb
        have hcb := Kd.at_bool (HK.out (wr.alloc (.cells (wrC x) 101)) (HCi.out.alloc _)) (i : Int) (by omega) (by omega)
        rw [show rdOf false ks (i : Int) = b by rw [← HB.out]; simp [rdOf]] at hcb
        obtain ⟨ak, e, hcb⟩ := hcb
        subst e
        rw [Int.toNat_natCast] at hcb
        clear hb
        cases b with
        | true =>
          go_wp2_with (first
            | ((with_reducible refine gate_ (.load 101 (.tmp 17)) rfl ?_); refine Kd.event_run rfl (ex_load_wr wr rfl rfl HX2.out HCELL.out) ?_; simp only [Act.put, List.setIfInBounds_toArray, List.set_cons_succ, List.set_cons_zero])
            | ((with_reducible refine gate_ (.alloc 101) rfl ?_); refine Kd.event_run rfl (ex_alloc_wr wr rfl) ?_; simp only [Act.put, List.setIfInBounds_toArray, List.set_cons_succ, List.set_cons_zero])
            | ((with_reducible refine gate_ (.store 101 (.tmp 5) (.tmp 18)) rfl ?_); refine Arr.skip_run rfl (ex_store_wr wr (0, zsec) x (by decide) HX2.out rfl rfl rfl) ?_; simp only [Act.put, List.setIfInBounds_toArray, List.set_cons_succ, List.set_cons_zero])
            | ((with_reducible refine gate_ (.load 101 (.tmp 5)) rfl ?_); refine Kd.event_run rfl (ex_load_wr (wr.alloc (.cells (wrC x) 101)) rfl rfl HX2.out HNEW.out) ?_; simp only [Act.put, List.setIfInBounds_toArray, List.set_cons_succ, List.set_cons_zero])
            | (go_at_call 66; refine (keep_calls _ base B M Bd _ (sel D D.cache ks i) x HX2.out (HDi.out.grow (.cells (wrC x) 101))).mono ?_; rintro e w2 ⟨rfl, hd, hc⟩; have HD2 := Aside0.mk hd; have HC2 := Aside0.mk hc; clear hd hc))
          have hk1 := HI.out
          obtain ⟨gq, rfl⟩ : ∃ gq, gk = gq + 1 := ⟨gk - 1, by omega⟩
          go_roundg gq
          case rel => exact ⟨i + 1, by go_num, ⟨by omega⟩, ⟨by unfold sel; rw [HB.out, HGS.out, if_pos rfl]; exact HD2.out⟩, ⟨HCi.out.trans (((Chg.refl wr _).alloc _).trans (HC2.out.mono fun _ h => .inr h))⟩⟩
          case measure => omega
        | false =>
          go_wp2_with (first
            | ((with_reducible refine gate_ (.load 101 (.tmp 17)) rfl ?_); refine Kd.event_run rfl (ex_load_wr wr rfl rfl HX2.out HCELL.out) ?_; simp only [Act.put, List.setIfInBounds_toArray, List.set_cons_succ, List.set_cons_zero])
            | ((with_reducible refine gate_ (.alloc 101) rfl ?_); refine Kd.event_run rfl (ex_alloc_wr wr rfl) ?_; simp only [Act.put, List.setIfInBounds_toArray, List.set_cons_succ, List.set_cons_zero])
            | ((with_reducible refine gate_ (.store 101 (.tmp 5) (.tmp 18)) rfl ?_); refine Arr.skip_run rfl (ex_store_wr wr (0, zsec) x (by decide) HX2.out rfl rfl rfl) ?_; simp only [Act.put, List.setIfInBounds_toArray, List.set_cons_succ, List.set_cons_zero])
            | ((with_reducible refine gate_ (.load 101 (.tmp 5)) rfl ?_); refine Kd.event_run rfl (ex_load_wr (wr.alloc (.cells (wrC x) 101)) rfl rfl HX2.out HNEW.out) ?_; simp only [Act.put, List.setIfInBounds_toArray, List.set_cons_succ, List.set_cons_zero]))
          have hk1 := HI.out
          obtain ⟨gq, rfl⟩ : ∃ gq, gk = gq + 1 := ⟨gk - 1, by omega⟩
          go_roundg gq
          case rel => exact ⟨i + 1, by go_num, ⟨by omega⟩, ⟨by unfold sel; rw [HB.out]; exact HDi.out.grow _⟩, ⟨HCi.out.alloc _⟩⟩
          case measure => omega
      · have hg : ks.getD i false = false := by simp [List.getD, List.getElem?_eq_none (Nat.le_of_not_lt hik)]
        have HB := Aside0.mk hg
        clear hg
        go_wp2_with (first
          | ((with_reducible refine gate_ (.load 101 (.tmp 17)) rfl ?_); refine Kd.event_run rfl (ex_load_wr wr rfl rfl HX2.out HCELL.out) ?_; simp only [Act.put, List.setIfInBounds_toArray, List.set_cons_succ, List.set_cons_zero])
          | ((with_reducible refine gate_ (.alloc 101) rfl ?_); refine Kd.event_run rfl (ex_alloc_wr wr rfl) ?_; simp only [Act.put, List.setIfInBounds_toArray, List.set_cons_succ, List.set_cons_zero])
          | ((with_reducible refine gate_ (.store 101 (.tmp 5) (.tmp 18)) rfl ?_); refine Arr.skip_run rfl (ex_store_wr wr (0, zsec) x (by decide) HX2.out rfl rfl rfl) ?_; simp only [Act.put, List.setIfInBounds_toArray, List.set_cons_succ, List.set_cons_zero])
          | ((with_reducible refine gate_ (.load 101 (.tmp 5)) rfl ?_); refine Kd.event_run rfl (ex_load_wr (wr.alloc (.cells (wrC x) 101)) rfl rfl HX2.out HNEW.out) ?_; simp only [Act.put, List.setIfInBounds_toArray, List.set_cons_succ, List.set_cons_zero]))
        have hk1 := HI.out
        obtain ⟨gq, rfl⟩ : ∃ gq, gk = gq + 1 := ⟨gk - 1, by omega⟩
        go_roundg gq
        case rel => exact ⟨i + 1, by go_num, ⟨by omega⟩, ⟨by unfold sel; rw [HB.out]; exact HDi.out.grow _⟩, ⟨HCi.out.alloc _⟩⟩
        case measure => omega
    · have hi0 := HI.out
      obtain rfl : gk = 0 := by omega
      obtain rfl : i = D.cache.length := by omega
      clear hi0
      have hm : ¬ ((D.cache.length : Int) < (D.cache.length : Int)) := by omega
      go_wp2_with (go_at_call 67; refine (rest_calls _ base B M Bd _ _ HDi.out).mono ?_; rintro e w2 ⟨rfl, hd, hc⟩; have HD2 := Aside0.mk hd; have HC2 := Aside0.mk hc; clear hd hc)
      go_end0
      exact ⟨rfl, HD2.out, HCi.out.trans (HC2.out.chg fun _ h => .inl h)⟩
end Go.Proofs.Ytlepcmljmibdnaa
