/- The disk's writers: New, keep. Conditions: those of each statement. -/
import Derived.Test.YtlepcmljmibdnaaDk
import Derived.Test.YtlepcmljmibdnaaArr
import Derived.Carry
namespace Go.Proofs.Ytlepcmljmibdnaa
open Go.RowKit Go.Proofs.YtlepcmljmibdnaaW.PrintWords Go.Proofs.YtlepcmljmibdnaaW.PrintLast Go.Proofs.YtlepcmljmibdnaaW.PrintMore
attribute [local go_sem] run_makeMap max2_int min2_int max_two min_two
set_option linter.unusedVariables false
set_option linter.unusedSimpArgs false

theorem bel_cell {w W : World} {p : Addr} {v : Value} (h : Below w.heap.size w W) (hc : w.cell? p = some v) : W.cell? p = some v := (h.cell (block_lt_of_cell hc)).trans hc
theorem alloc_size (w : World) (o : Obj) : (w.alloc o).heap.size = w.heap.size + 1 := by show (w.heap.push o).size = _; simp
theorem alloc_cell {w : World} {p : Addr} {v : Value} (hc : w.cell? p = some v) (o : Obj) : (w.alloc o).cell? p = some v := bel_cell (Below.alloc (Below.refl _ _) (Nat.le_refl _) o) hc
/-- what was there is there, but for what lies in S -/
structure Chg (w w' : World) (S : Nat → Prop) : Prop where
  os : w'.os = w.os
  tape : w'.tape = w.tape
  output : w'.output = w.output
  size : w.heap.size ≤ w'.heap.size
  block : ∀ k, k < w.heap.size → ¬ S k → w'.heap[k]? = w.heap[k]?
theorem Chg.refl (w : World) (S : Nat → Prop) : Chg w w S := ⟨rfl, rfl, rfl, Nat.le_refl _, fun _ _ _ => rfl⟩
theorem Chg.trans {a b c : World} {S : Nat → Prop} (h : Chg a b S) (k : Chg b c S) : Chg a c S :=
  ⟨k.os.trans h.os, k.tape.trans h.tape, k.output.trans h.output, Nat.le_trans h.size k.size, fun i hi hn => (k.block i (Nat.lt_of_lt_of_le hi h.size) hn).trans (h.block i hi hn)⟩
theorem Chg.drew {a b : World} {S : Nat → Prop} (h : Chg a b S) : Chg a b.drew S := ⟨h.os, h.tape, h.output, h.size, h.block⟩
theorem Chg.alloc {a b : World} {S : Nat → Prop} (h : Chg a b S) (o : Obj) : Chg a (b.alloc o) S :=
  h.trans ⟨rfl, rfl, rfl, by show b.heap.size ≤ (b.heap.push o).size; simp, fun k hk _ => heap_alloc_old b o hk⟩
theorem Chg.of_below {a b : World} {S : Nat → Prop} (h : Below a.heap.size a b) : Chg a b S := ⟨h.os, h.tape, h.output, h.size, fun k hk _ => h.block k hk⟩
theorem Chg.turned {a b : World} {S : Nat → Prop} {r : Nat} (h : Mp.Turned a b r) (hr : S r) : Chg a b S :=
  ⟨h.os, h.tape, h.output, by rw [h.size]; exact Nat.le_refl _, fun k _ hn => h.block k (fun e => hn (e ▸ hr))⟩
theorem Chg.mono {a b : World} {S S' : Nat → Prop} (h : Chg a b S) (hs : ∀ k, S k → S' k) : Chg a b S' := ⟨h.os, h.tape, h.output, h.size, fun k hk hn => h.block k hk (fun e => hn (hs k e))⟩
theorem Chg.below {a b : World} {S : Nat → Prop} {base : Nat} (h : Chg a b S) (hb : base ≤ a.heap.size) (hs : ∀ k, S k → base ≤ k) : Below base a b :=
  ⟨h.os, h.tape, h.output, h.size, fun k hk => h.block k (by omega) (fun e => by have := hs k e; omega)⟩

/-- A disk whose map of kept sectors was turned. -/
theorem DK.turn {w w' : World} {base B M Bd : Nat} {vc : Value} {D D' : PD} (h : DK w base B M Bd vc D) (hc : Chg w w' (fun k => k = M)) (hk : Mp.Is (.int .i64) w' M (keptF D'.kept))
    (hs : ∀ a s, D'.kept a = some s → s.length = 64) (e : D' = { D with kept := D'.kept }) : DK w' base B M Bd vc D' := by
  have hB : B < w.heap.size := (Array.getElem?_eq_some_iff.1 h.blk).1
  have hb : DCells w' B M Bd vc D := (hc.block B hB (fun e => h.hne.2.1 e.symm)).trans h.blk
  rw [e]
  refine ⟨hb, hk, h.bad.same (hc.block Bd h.bad.lt (fun e => h.hne.1 e.symm)), Kd.R_step h.cache (fun k hk hl => hc.block k hl hk.2.1), h.hB, h.hM, h.hBd, h.hne, hs, h.hn, h.hl⟩

def newP (n : Int) : PD := { n := min (max n 0) 4096, kept := fun _ => none, cache := [], bad := fun _ => false, armed := false, left := 0, dead := false }
theorem new_calls (w : World) (base : Nat) (hb : base ≤ w.heap.size) (n : Int) :
    Calls Try.prog 15 #[.int .i64 n] w fun e w' => ∃ B M Bd, e = .returned (.pointer (some ⟨B, 0, none⟩)) ∧ DK w' base B M Bd (.slice none 0 0) (newP n) ∧ Below base w w' := by
  obtain ⟨m, hm⟩ : ∃ m, (if n < 0 then 0 else n) = m := ⟨_, rfl⟩
  obtain ⟨q, hq⟩ : ∃ q, (if 4096 < m then 4096 else m) = q := ⟨_, rfl⟩
  have HQ := Aside0.mk (show min (max n 0) 4096 = q by rw [← hq, ← hm]; split <;> split <;> omega)
  go_enter Try.func15, Try.ntmps15
  go_wp2
  go_ret
  have hs0 : (w.alloc (.map #[] 0)).heap.size = w.heap.size + 1 := alloc_size w _
  refine ⟨w.heap.size + 1 + 1, w.heap.size, w.heap.size + 1, rfl, ⟨?_, ?_, ?_, Kd.R_nil _ _ _ _ _, by omega, by omega, by omega, ⟨by omega, by omega, by omega⟩, fun a s h => by simp [newP] at h, by simp only [newP]; omega, by simp [newP]⟩, ?_⟩
  · show DCells _ _ _ _ _ _
    unfold DCells
    have := heap_alloc_new ((w.alloc (.map #[] 0)).alloc (.map #[] 0)) (.cells #[.int .i64 q, .map (some w.heap.size), .slice none 0 0, .map (some (w.heap.size + 1)), .bool false, .int .i64 0, .bool false] 96)
    rw [alloc_size, alloc_size] at this
    rw [this, show (newP n).n = q from HQ.out]
    rfl
  · have e : keptF (newP n).kept = fun _ => none := by funext v; unfold keptF newP; split <;> simp
    rw [e]
    refine (Mp.Is.empty (.int .i64) w).same ?_
    rw [heap_alloc_old _ _ (by rw [alloc_size, alloc_size]; omega), heap_alloc_old _ _ (by rw [alloc_size]; omega)]
  · have e : badF (newP n).bad = fun _ => none := by funext v; unfold badF newP; split <;> simp
    rw [e]
    have := Mp.Is.empty (.int .i64) (w.alloc (.map #[] 0))
    rw [alloc_size] at this
    refine this.same ?_
    rw [heap_alloc_old _ _ (by rw [alloc_size, alloc_size]; omega)]
  · exact (Chg.below (((Chg.refl w (fun _ => False)).alloc _).alloc _ |>.alloc _) hb (fun _ h => h.elim))

def zsec : List Int := List.replicate 64 0
def wrC (x : Int × List Int) : Array Value := (Value.int .i64 x.1 :: encs (Value.int .u8) x.2).toArray
def wrV (x : Int × List Int) : Value := .agg (wrC x)
noncomputable def keepP (D : PD) (x : Int × List Int) : PD := { D with kept := fun a => if a = x.1 then (if x.2 = zsec then none else some x.2) else D.kept a }
theorem keptF_del (D : PD) (x : Int × List Int) (hz : x.2 = zsec) : keptF (keepP D x).kept = Mp.del (keptF D.kept) (.int .i64 x.1) := by
  funext v
  unfold Mp.del keepP
  cases v with
  | int k a =>
    cases k with
    | i64 => by_cases ha : a = x.1 <;> simp [keptF, ha, hz]
    | _ => simp [keptF]
  | _ => simp [keptF]
theorem keptF_upd (D : PD) (x : Int × List Int) (hz : x.2 ≠ zsec) : keptF (keepP D x).kept = Mp.upd (keptF D.kept) (.int .i64 x.1) (secV x.2) := by
  funext v
  unfold Mp.upd keepP
  cases v with
  | int k a =>
    cases k with
    | i64 => by_cases ha : a = x.1 <;> simp [keptF, ha, hz]
    | _ => simp [keptF]
  | _ => simp [keptF]
theorem keepP_sec (D : PD) (x : Int × List Int) (hx : x.2.length = 64) (h : ∀ a s, D.kept a = some s → s.length = 64) : ∀ a s, (keepP D x).kept a = some s → s.length = 64 := by
  intro a s hs
  unfold keepP at hs
  simp only at hs
  split at hs
  · split at hs
    · cases hs
    · obtain rfl := Option.some.inj hs; exact hx
  · exact h a s hs
theorem wr_cell (w : World) (x : Int × List Int) : (w.alloc (.cells (wrC x) 101)).cell? ⟨w.heap.size, 0, none⟩ = some (.int .i64 x.1) := by
  unfold World.cell?
  rw [heap_alloc_new]
  rfl
theorem wr_cells (w : World) (x : Int × List Int) (j : Nat) (u : Value) (hu : (encs (Value.int .u8) x.2)[j]? = some u) : (w.alloc (.cells (wrC x) 101)).cell? ((⟨w.heap.size, 1, none⟩ : Addr).add j) = some u := by
  have e : (⟨w.heap.size, 1, none⟩ : Addr).add j = ⟨w.heap.size, j + 1, none⟩ := by unfold Addr.add; split <;> simp_all <;> omega
  rw [e]
  unfold World.cell?
  rw [heap_alloc_new]
  simpa [wrC] using hu
theorem keep_calls (w : World) (base B M Bd : Nat) (vc : Value) (D : PD) (x : Int × List Int) (hx : x.2.length = 64) (h : DK w base B M Bd vc D) :
    Calls Try.prog 66 #[.pointer (some ⟨B, 0, none⟩), wrV x] w fun e w' => e = .returned (.tuple #[]) ∧ DK w' base B M Bd vc (keepP D x) ∧ Chg w w' (fun k => k = M) := by
  show Calls Try.prog 66 #[.pointer (some ⟨B, 0, none⟩), .agg (wrC x)] w _
  have HX := Aside0.mk hx
  have HD := Aside0.mk h
  obtain ⟨z, hz⟩ : ∃ z, (x.2 == zsec) = z := ⟨_, rfl⟩
  have HZ := Aside0.mk hz
  have hw := wr_cell w x
  obtain ⟨⟨h0, h1, h2, h3, h4, h5, h6⟩, f2, f4, f5, f6⟩ := cells7 h.blk
  have HW := Aside0.mk (wr_cells w x)
  have HM : Aside0 (∀ o, Mp.Is (.int .i64) (w.alloc o).drew M (keptF D.kept)) := Aside0.mk fun o => h.kept.same (heap_alloc_old w o h.kept.lt)
  clear hx h hz
  cases z with
  | true =>
    have hh := Mp.run_delete (P := Try.prog) (t := 92) (kt := 3) (et := 99) (d := .int .i64) (r := M) (f := keptF D.kept) (w := (w.alloc (Obj.cells (wrC x) 101)).drew) (ty := 0) (HM.out (.cells (wrC x) 101)) Try.underlying92 Try.underlying3 (k := .int .i64 x.1) rfl
    rcases hh with ⟨w2, hr2, ht2, hi2⟩
    have HR2 := Aside0.mk hr2
    have HT2 := Aside0.mk ht2
    have HI2 := Aside0.mk hi2
    clear hr2 ht2 hi2
    go_enter Try.func66, Try.ntmps66
    go_wp2_with (first
      | ((with_reducible refine gate_ (.box 101 (.tmp 1)) rfl ?_); refine Kd.event_run rfl (w1 := w.alloc (.cells (wrC x) 101)) (v := .pointer (some ⟨w.heap.size, 0, none⟩)) (Arr.ex_box rfl) ?_; simp only [Act.put, List.setIfInBounds_toArray, List.set_cons_succ, List.set_cons_zero])
      | ((with_reducible refine gate_ (.load 99 (.tmp 4)) rfl ?_); refine Kd.event_run rfl (Arr.ex_load rfl (ad := ⟨w.heap.size, 1, none⟩) rfl (by kernel_rfl) (seg := encs (Value.int .u8) x.2) (by rw [encs_length, HX.out]; kernel_rfl) HW.out) ?_; simp only [Act.put, List.setIfInBounds_toArray, List.set_cons_succ, List.set_cons_zero])
      | ((with_reducible refine gate_ (.build 99 #[]) rfl ?_); refine Kd.event_run rfl (Arr.ex_build rfl (cells := (encs (Value.int .u8) (zsec)).toArray) (by kernel_rfl)) ?_; simp only [Act.put, List.setIfInBounds_toArray, List.set_cons_succ, List.set_cons_zero])
      | ((with_reducible refine gate_ (.binOp .eql 99 (.tmp 5) (.tmp 6) 99) rfl ?_); go_loud (refine Kd.event_run rfl (v := .bool true) (by rw [← HZ.out]; exact Arr.ex_eql_arr rfl Try.underlying99 Try.underlying5 (by kernel_rfl) (by kernel_rfl) (by kernel_rfl) rfl rfl HX.out rfl) ?_); simp only [Act.put, List.setIfInBounds_toArray, List.set_cons_succ, List.set_cons_zero]))
    have h1' := alloc_cell h1 (.cells (wrC x) 101)
    refine Calm.wp_calm [6] [(0, 0), (1, 0), (2, 0), (4, 0), (3, 1), (5, 1), (6, 2)] (by kernel_rfl) (by kernel_rfl) ?_
    generalize hops : List.toArray (_ : List Oper) = ops
    have ho0 := (congrArg (fun z : Array Oper => z[0]?) hops).symm
    have ho1 := (congrArg (fun z : Array Oper => z[1]?) hops).symm
    have ho2 := (congrArg (fun z : Array Oper => z[2]?) hops).symm
    have ho3 := (congrArg (fun z : Array Oper => z[3]?) hops).symm
    have ho4 := (congrArg (fun z : Array Oper => z[4]?) hops).symm
    have ho5 := (congrArg (fun z : Array Oper => z[5]?) hops).symm
    have ho6 := (congrArg (fun z : Array Oper => z[6]?) hops).symm
    simp only [List.getElem?_toArray, List.getElem?_cons_zero, List.getElem?_cons_succ] at ho0 ho1 ho2 ho3 ho4 ho5 ho6
    clear hops
    -- 0: some 8 := Op.move (Operand.tmp 0)
    refine Calm.plain ho0 _ rfl (fun W => by go_simp; exact rfl) ?_
    simp only [Act.put, List.setIfInBounds_toArray, List.set_cons_succ, List.set_cons_zero]
    -- 1: some 9 := Op.nilCheck (Operand.tmp 8)
    refine Calm.plain ho1 _ rfl (fun W => by go_simp; exact rfl) ?_
    simp only [Act.put, List.setIfInBounds_toArray, List.set_cons_succ, List.set_cons_zero]
    -- 2: some 10 := Op.fieldAddr 96 (Operand.tmp 9) 1
    refine Calm.plain ho2 _ rfl (fun W => by go_simp; exact rfl) ?_
    simp only [Act.put, List.setIfInBounds_toArray, List.set_cons_succ, List.set_cons_zero]
    -- 4: some 12 := Op.fieldAddr 101 (Operand.tmp 3) 0
    refine Calm.plain ho4 _ rfl (fun W => by go_simp; exact rfl) ?_
    simp only [Act.put, List.setIfInBounds_toArray, List.set_cons_succ, List.set_cons_zero]
    -- 3: some 11 := Op.load 92 (Operand.tmp 10)
    refine Calm.reads ho3 _ rfl (fun W hW => by have q := bel_cell hW h1'; go_simp; exact rfl) ?_
    simp only [Act.put, List.setIfInBounds_toArray, List.set_cons_succ, List.set_cons_zero]
    -- 5: some 13 := Op.load 3 (Operand.tmp 12)
    refine Calm.reads ho5 _ rfl (fun W hW => by have q := bel_cell hW hw; go_simp; exact rfl) ?_
    simp only [Act.put, List.setIfInBounds_toArray, List.set_cons_succ, List.set_cons_zero]
    -- 6: none := Op.call { callee := Callee.builtin Builtin.delete, args := #[Operand.tmp 11, Operand.tmp 13], argTypes := #[92, 3] }
    refine Calm.step ho6 (fun K hK => ?_)
    go_simp
    rw [HR2.out]
    refine hK _ _ (fun h => absurd h (by simp)) (Calm.done ?_)
    go_wp2
    ((try simp only [Exit.inBlock, Exit.then]); refine bodyPost_ret (results_none rfl _ _ _) rfl ?_)
    have hc : Chg w w2 (fun k => k = M) := ((Chg.refl w _).alloc _).drew.trans (.turned HT2.out rfl)
    exact ⟨rfl, HD.out.turn hc (by rw [keptF_del D x (by simpa using HZ.out)]; exact HI2.out) (keepP_sec D x HX.out HD.out.sec) rfl, hc⟩
  | false =>
    have hh := Mp.run_update (P := Try.prog) (t := 92) (kt := 3) (et := 99) (d := .int .i64) (r := M) (f := keptF D.kept) (w := (w.alloc (Obj.cells (wrC x) 101)).drew) (HM.out (.cells (wrC x) 101)) Try.underlying92 Try.underlying3 (k := .int .i64 x.1) rfl (.agg (encs (Value.int .u8) x.2).toArray)
    rcases hh with ⟨w2, hr2, ht2, hi2⟩
    have HR2 := Aside0.mk hr2
    have HT2 := Aside0.mk ht2
    have HI2 := Aside0.mk hi2
    clear hr2 ht2 hi2
    go_enter Try.func66, Try.ntmps66
    go_wp2_with (first
      | ((with_reducible refine gate_ (.box 101 (.tmp 1)) rfl ?_); refine Kd.event_run rfl (w1 := w.alloc (.cells (wrC x) 101)) (v := .pointer (some ⟨w.heap.size, 0, none⟩)) (Arr.ex_box rfl) ?_; simp only [Act.put, List.setIfInBounds_toArray, List.set_cons_succ, List.set_cons_zero])
      | ((with_reducible refine gate_ (.load 99 (.tmp 4)) rfl ?_); refine Kd.event_run rfl (Arr.ex_load rfl (ad := ⟨w.heap.size, 1, none⟩) rfl (by kernel_rfl) (seg := encs (Value.int .u8) x.2) (by rw [encs_length, HX.out]; kernel_rfl) HW.out) ?_; simp only [Act.put, List.setIfInBounds_toArray, List.set_cons_succ, List.set_cons_zero])
      | ((with_reducible refine gate_ (.build 99 #[]) rfl ?_); refine Kd.event_run rfl (Arr.ex_build rfl (cells := (encs (Value.int .u8) (zsec)).toArray) (by kernel_rfl)) ?_; simp only [Act.put, List.setIfInBounds_toArray, List.set_cons_succ, List.set_cons_zero])
      | ((with_reducible refine gate_ (.binOp .eql 99 (.tmp 5) (.tmp 6) 99) rfl ?_); go_loud (refine Kd.event_run rfl (v := .bool false) (by rw [← HZ.out]; exact Arr.ex_eql_arr rfl Try.underlying99 Try.underlying5 (by kernel_rfl) (by kernel_rfl) (by kernel_rfl) rfl rfl HX.out rfl) ?_); simp only [Act.put, List.setIfInBounds_toArray, List.set_cons_succ, List.set_cons_zero]))
    have h1' := alloc_cell h1 (.cells (wrC x) 101)
    refine Calm.wp_calm [8] [(0, 0), (1, 0), (2, 0), (4, 0), (6, 0), (3, 1), (5, 1), (7, 1), (8, 2)] (by kernel_rfl) (by kernel_rfl) ?_
    generalize hops : List.toArray (_ : List Oper) = ops
    have ho0 := (congrArg (fun z : Array Oper => z[0]?) hops).symm
    have ho1 := (congrArg (fun z : Array Oper => z[1]?) hops).symm
    have ho2 := (congrArg (fun z : Array Oper => z[2]?) hops).symm
    have ho3 := (congrArg (fun z : Array Oper => z[3]?) hops).symm
    have ho4 := (congrArg (fun z : Array Oper => z[4]?) hops).symm
    have ho5 := (congrArg (fun z : Array Oper => z[5]?) hops).symm
    have ho6 := (congrArg (fun z : Array Oper => z[6]?) hops).symm
    have ho7 := (congrArg (fun z : Array Oper => z[7]?) hops).symm
    have ho8 := (congrArg (fun z : Array Oper => z[8]?) hops).symm
    simp only [List.getElem?_toArray, List.getElem?_cons_zero, List.getElem?_cons_succ] at ho0 ho1 ho2 ho3 ho4 ho5 ho6 ho7 ho8
    clear hops
    -- 0: some 14 := Op.move (Operand.tmp 0)
    refine Calm.plain ho0 _ rfl (fun W => by go_simp; exact rfl) ?_
    simp only [Act.put, List.setIfInBounds_toArray, List.set_cons_succ, List.set_cons_zero]
    -- 1: some 15 := Op.nilCheck (Operand.tmp 14)
    refine Calm.plain ho1 _ rfl (fun W => by go_simp; exact rfl) ?_
    simp only [Act.put, List.setIfInBounds_toArray, List.set_cons_succ, List.set_cons_zero]
    -- 2: some 16 := Op.fieldAddr 96 (Operand.tmp 15) 1
    refine Calm.plain ho2 _ rfl (fun W => by go_simp; exact rfl) ?_
    simp only [Act.put, List.setIfInBounds_toArray, List.set_cons_succ, List.set_cons_zero]
    -- 4: some 18 := Op.fieldAddr 101 (Operand.tmp 3) 0
    refine Calm.plain ho4 _ rfl (fun W => by go_simp; exact rfl) ?_
    simp only [Act.put, List.setIfInBounds_toArray, List.set_cons_succ, List.set_cons_zero]
    -- 6: some 20 := Op.fieldAddr 101 (Operand.tmp 3) 1
    refine Calm.plain ho6 _ rfl (fun W => by go_simp; exact rfl) ?_
    simp only [Act.put, List.setIfInBounds_toArray, List.set_cons_succ, List.set_cons_zero]
    -- 3: some 17 := Op.load 92 (Operand.tmp 16)
    refine Calm.reads ho3 _ rfl (fun W hW => by have q := bel_cell hW h1'; go_simp; exact rfl) ?_
    simp only [Act.put, List.setIfInBounds_toArray, List.set_cons_succ, List.set_cons_zero]
    -- 5: some 19 := Op.load 3 (Operand.tmp 18)
    refine Calm.reads ho5 _ rfl (fun W hW => by have q := bel_cell hW hw; go_simp; exact rfl) ?_
    simp only [Act.put, List.setIfInBounds_toArray, List.set_cons_succ, List.set_cons_zero]
    refine Calm.reads ho7 (.agg (encs (Value.int .u8) x.2).toArray) rfl (fun W hW => Arr.ex_load rfl (ad := ⟨w.heap.size, 1, none⟩) rfl (by kernel_rfl) (seg := encs (Value.int .u8) x.2) (by rw [encs_length, HX.out]; kernel_rfl) (fun j u hu => bel_cell hW (HW.out j u hu))) ?_
    simp only [Act.put, List.setIfInBounds_toArray, List.set_cons_succ, List.set_cons_zero]
    -- 8: none := Op.mapUpdate 92 (Operand.tmp 17) (Operand.tmp 19) (Operand.tmp 21)
    refine Calm.step ho8 (fun K hK => ?_)
    go_simp
    rw [HR2.out]
    refine hK _ _ (fun h => absurd h (by simp)) (Calm.done ?_)
    go_wp2
    go_end0
    have hc : Chg w w2 (fun k => k = M) := ((Chg.refl w _).alloc _).drew.trans (.turned HT2.out rfl)
    exact ⟨rfl, HD.out.turn hc (by rw [keptF_upd D x (by simpa using HZ.out)]; exact HI2.out) (keepP_sec D x HX.out HD.out.sec) rfl, hc⟩
end Go.Proofs.Ytlepcmljmibdnaa
