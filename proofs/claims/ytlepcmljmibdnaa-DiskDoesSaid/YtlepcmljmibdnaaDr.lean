/- The disk's Write. Conditions: those of each statement. -/
import Derived.Test.YtlepcmljmibdnaaDf
namespace Go.Proofs.Ytlepcmljmibdnaa
open Go.RowKit Go.Proofs.YtlepcmljmibdnaaW.PrintWords Go.Proofs.YtlepcmljmibdnaaW.PrintLast Go.Proofs.YtlepcmljmibdnaaW.PrintMore
attribute [local go_sem] run_makeMap max2_int min2_int max_two min_two
set_option linter.unusedVariables false
set_option linter.unusedSimpArgs false

/-- the blocks of a disk -/
def FP (B M Bd : Nat) (vc : Value) (k : Nat) : Prop := k = B ∨ k = M ∨ k = Bd ∨ some k = vc.ownBlock
theorem DK.fp {w : World} {base B M Bd : Nat} {vc : Value} {D : PD} (h : DK w base B M Bd vc D) (k : Nat) (hk : FP B M Bd vc k) : base ≤ k ∧ k < w.heap.size := by
  rcases hk with rfl | rfl | rfl | hk
  · exact ⟨h.hB, (Array.getElem?_eq_some_iff.1 h.blk).1⟩
  · exact ⟨h.hM, h.kept.lt⟩
  · exact ⟨h.hBd, h.bad.lt⟩
  · have h1 := (Kd.R_base h.cache) k hk.symm
    have h2 := (Kd.R_lt h.cache) k hk.symm
    exact ⟨h1, h2⟩
/-- A disk whose blocks are as they were. -/
theorem DK.frame {w w' : World} {base B M Bd : Nat} {vc : Value} {D : PD} {S : Nat → Prop} (h : DK w base B M Bd vc D) (hc : Chg w w' S) (hd : ∀ k, FP B M Bd vc k → ¬ S k) : DK w' base B M Bd vc D := by
  have hb : ∀ k, FP B M Bd vc k → w'.heap[k]? = w.heap[k]? := fun k hk => hc.block k (h.fp k hk).2 (hd k hk)
  refine ⟨(hb B (.inl rfl)).trans h.blk, h.kept.same (hb M (.inr (.inl rfl))), h.bad.same (hb Bd (.inr (.inr (.inl rfl)))), ?_, h.hB, h.hM, h.hBd, h.hne, h.sec, h.hn, h.hl⟩
  have := Kd.R_step (Kd.R_tight rfl h.cache) (w1 := w') (fun k hk _ => hb k (.inr (.inr (.inr hk))))
  exact Kd.R_mono this (fun k hk => h.cache.1 k hk.symm)
def pad (b : List Int) : List Int := b ++ List.replicate (64 - b.length) 0
def writeP (D : PD) (at_ : Int) (b : List Int) : PD × Int :=
  if D.dead then (D, 50) else if inB at_ D.n = false then (D, 1) else if 64 < b.length then (D, 2) else if (actP D).2 ≠ 0 then actP D else ({ (actP D).1 with cache := (actP D).1.cache ++ [(at_, pad b)] }, 0)
theorem run_copy_into (W : World) (at_ : Int) (b : List Int) (hb : b.length ≤ 64) (A : Option Addr) (c : Nat) (ty : TypeId) (hC : (Kd.int .u8).C (W.alloc (.cells (wrC (at_, zsec)) 101)) A b.length b) :
    (Builtin.copy_ #[29, 29] ty #[.slice (some ⟨W.heap.size, 1, none⟩) 64 64, .slice A b.length c]).run Try.prog (W.alloc (.cells (wrC (at_, zsec)) 101)) = .ok (goInt b.length) (W.alloc (.cells (wrC (at_, pad b)) 101)) := by
  have hR := Kd.reads_of_C (enc := Value.int .u8) (d := (0 : Int)) (h1 := fun _ => rfl) hC
  by_cases h0 : b.length = 0
  · obtain rfl : b = [] := List.eq_nil_of_length_eq_zero h0
    exact run_copy_none (P := Try.prog) _ 29 29 ty 5 _ A 64 64 0 c Try.underlying29 (by kernel_rfl) rfl
  · obtain ⟨ad, rfl, hc⟩ := hR.2.2 (by omega)
    have hl : (encs (Value.int .u8) b).length = b.length := encs_length _
    have h := run_copy_row (P := Try.prog) (W.alloc (.cells (wrC (at_, zsec)) 101)) 29 29 ty 5 W.heap.size 1 64 64 ad b.length c (wrC (at_, zsec)) 101 (encs (Value.int .u8) b) Try.underlying29 (by kernel_rfl) (heap_alloc_new W _)
      (by rw [hl]; exact (Nat.min_eq_left hb).symm) (by
        intro j v hj
        have hj' : j < b.length := by have := (List.getElem?_eq_some_iff.1 hj).1; omega
        rw [encs_get (d := 0) b j hj'] at hj
        obtain rfl := Option.some.inj hj
        exact hc j hj') (by rw [hl, wr_size _ (by rfl)]; omega) (by intro v hv; simp only [encs, List.mem_map] at hv; obtain ⟨a, _, rfl⟩ := hv; rfl)
    rw [h, Arr.setRow_alloc, hl]
    have e : ((wrC (at_, zsec)).toList.take 1 ++ encs (Value.int .u8) b ++ (wrC (at_, zsec)).toList.drop (1 + b.length)).toArray = wrC (at_, pad b) := by
      unfold wrC pad
      rw [Nat.add_comm 1 b.length]
      simp only [List.take_succ_cons, List.take_zero, List.drop_succ_cons, encs_append, List.singleton_append, List.cons_append, List.nil_append]
      rw [show (encs (Value.int .u8) zsec).drop b.length = encs (Value.int .u8) (List.replicate (64 - b.length) 0) by unfold encs zsec; rw [List.map_replicate, List.drop_replicate, List.map_replicate]]
    rw [e]
theorem wr_M {w : World} {base : Nat} {ok : Nat → Prop} (q : Int × List Int) (hq : q.2.length = 64) : wrK.M w base ok q (wrC q).toList :=
  ⟨[.int .i64 q.1], encs (Value.int .u8) q.2, rfl, rfl, Kd.arr_of_cells hq⟩
theorem pad_length (b : List Int) (hb : b.length ≤ 64) : (pad b).length = 64 := by simp [pad]; omega
theorem info101 : (Try.prog.info? 101).map (fun i => (i.zero, i.size, i.bytes)) = some (some (.agg (wrC (0, zsec))), wrK.sz, 72) := by kernel_rfl
theorem ex_row1_wr (W : World) {o : Oper} {ρ : Operand → Value} {x : Operand} (ho : o.op = .buildSlice 94 1 #[(0, x)]) {q : Int × List Int} (hq : q.2.length = 64) (hx : ρ x = .agg (wrC q)) :
    (execOp ρ o).run Try.prog W = .ok (.value (.slice (some ⟨W.heap.size, 0, none⟩) 1 1)) (W.alloc (.cells (wrC q) 101)) := by
  obtain ⟨i, h1, h2⟩ := Option.map_eq_some_iff.1 info101
  simp only [Prod.mk.injEq] at h2
  obtain ⟨hz, hs, _⟩ := h2
  have hs' : i.size = 65 := hs
  have h := Arr.ex_row1 (P := Try.prog) (W := W) (ρ := ρ) ho Try.underlying94 h1 hz (by omega) (by omega) (by rw [hx, hs']; exact wr_size q hq)
  rw [hx] at h
  exact h
theorem chg_grown {w w' : World} {r : Option Nat} {S : Nat → Prop} (h : w.grownBy w' r) (hs : ∀ k, some k = r → S k) : Chg w w' S :=
  ⟨h.os, h.tape, h.output, h.size, fun k hk hn => h.block k hk (fun e => hn (hs k e))⟩
/-- A disk whose cache's row was changed. -/
theorem DK.recache {w w' : World} {base B M Bd : Nat} {vc v1 : Value} {D : PD} {l : List (Int × List Int)} (h : DK w base B M Bd vc D) (hc : Chg w w' (fun k => some k = vc.ownBlock))
    (ho : Kd.R wrK 101 w' base (fun k => k ≠ B ∧ k ≠ M ∧ k ≠ Bd) v1 l) : DK (w'.setCell ⟨B, 2, none⟩ v1) base B M Bd v1 { D with cache := l } := by
  have hok := h.cache.1
  have hB := hc.block B (Array.getElem?_eq_some_iff.1 h.blk).1 (fun e => (hok B e.symm).1 rfl)
  have hM := hc.block M h.kept.lt (fun e => (hok M e.symm).2.1 rfl)
  have hBd := hc.block Bd h.bad.lt (fun e => (hok Bd e.symm).2.2 rfl)
  have hb : w'.heap[B]? = _ := hB.trans h.blk
  refine ⟨set7 hb 2 v1, (h.kept.same hM).same (Below.heap_setCell w' ⟨B, 2, none⟩ v1 M h.hne.2.1), (h.bad.same hBd).same (Below.heap_setCell w' ⟨B, 2, none⟩ v1 Bd h.hne.2.2), Kd.R_step ho (fun k hk _ => Below.heap_setCell w' ⟨B, 2, none⟩ v1 k hk.1), h.hB, h.hM, h.hBd, h.hne, h.sec, h.hn, h.hl⟩
theorem write_calls (w : World) (base B M Bd : Nat) (vc : Value) (D : PD) (at_ : Int) (A : Option Addr) (c : Nat) (b : List Int) (hl : D.cache.length ≤ 1000) (hbw : base ≤ w.heap.size) (h : DK w base B M Bd vc D)
    (hb : ∀ w', Chg w w' (FP B M Bd vc) → (Kd.int .u8).C w' A b.length b) :
    Calls Try.prog 17 #[.pointer (some ⟨B, 0, none⟩), .int .i64 at_, .slice A b.length c] w fun e w' => e = .returned (.int .i64 (writeP D at_ b).2) ∧
      ∃ vc', DK w' base B M Bd vc' (writeP D at_ b).1 ∧ (vc'.ownBlock = vc.ownBlock ∨ ∃ k, vc'.ownBlock = some k ∧ w.heap.size ≤ k) ∧ Chg w w' (FP B M Bd vc) := by
  have HL := Aside0.mk hl
  have HD := Aside0.mk h
  have HB := Aside0.mk hb
  obtain ⟨⟨g0, g1, g2, g3, g4, g5, g6⟩, k2, k4, k5, k6⟩ := cells7 h.blk
  clear hl h hb k2 k4 k5 k6 g2 g3 g4 g5
  by_cases hd : D.dead = true
  · rw [hd] at g6
    have hf : writeP D at_ b = (D, 50) := by unfold writeP; rw [if_pos hd]
    rw [hf]
    clear hf hd
    go_enter Try.func17, Try.ntmps17
    go_wp2_with (first | (go_at_call 19; refine (dead_calls _ B M _ g1 g6).mono ?_; rintro e w' ⟨rfl, rfl⟩))
    go_ret
    exact ⟨rfl, vc, HD.out, .inl rfl, Chg.refl _ _⟩
  have hd0 : D.dead = false := by simpa using hd
  rw [hd0] at g6
  have HD0 := Aside0.mk hd0
  clear hd hd0
  by_cases hi : inB at_ D.n = false
  · have HI := Aside0.mk hi
    clear hi
    have hf : writeP D at_ b = (D, 1) := by unfold writeP; rw [HD0.out, if_neg (by simp), if_pos HI.out]
    rw [hf]
    clear hf
    go_enter Try.func17, Try.ntmps17
    go_wp2_with (first | (go_at_call 19; refine (dead_calls _ B M _ g1 g6).mono ?_; rintro e w' ⟨rfl, rfl⟩) | (go_at_call 64; refine (has_calls _ B M _ at_ g0 g1).mono ?_; rw [HI.out]; rintro e w' ⟨rfl, rfl⟩))
    go_ret
    exact ⟨rfl, vc, HD.out, .inl rfl, Chg.refl _ _⟩
  have hi0 : inB at_ D.n = true := by simpa using hi
  have HI := Aside0.mk hi0
  clear hi hi0
  by_cases h64 : 64 < b.length
  · have hf : writeP D at_ b = (D, 2) := by unfold writeP; rw [HD0.out, if_neg (by simp), HI.out, if_neg (by simp), if_pos h64]
    rw [hf]
    clear hf
    have h64' : (64 : Int) < (b.length : Int) := by omega
    go_enter Try.func17, Try.ntmps17
    go_wp2_with (first | (go_at_call 19; refine (dead_calls _ B M _ g1 g6).mono ?_; rintro e w' ⟨rfl, rfl⟩) | (go_at_call 64; refine (has_calls _ B M _ at_ g0 g1).mono ?_; rw [HI.out]; rintro e w' ⟨rfl, rfl⟩))
    go_ret
    exact ⟨rfl, vc, HD.out, .inl rfl, Chg.refl _ _⟩
  have h64' : ¬ (64 : Int) < (b.length : Int) := by omega
  obtain ⟨e, he⟩ : ∃ e, (actP D).2 = e := ⟨_, rfl⟩
  obtain ⟨D1, hD1⟩ : ∃ D1, (actP D).1 = D1 := ⟨_, rfl⟩
  have hf : writeP D at_ b = if e ≠ 0 then (D1, e) else ({ D1 with cache := D1.cache ++ [(at_, pad b)] }, 0) := by
    unfold writeP; rw [HD0.out, if_neg (by simp), HI.out, if_neg (by simp), if_neg h64, he, hD1, ← he, ← hD1]
  have HF := Aside0.mk hf
  have HE := Aside0.mk he
  have HD1 := Aside0.mk hD1
  clear he hD1 hf
  by_cases hz : e = 0
  · subst hz
    have hf : writeP D at_ b = ({ D1 with cache := D1.cache ++ [(at_, pad b)] }, 0) := by rw [HF.out]; simp
    rw [hf]
    clear hf
    have hc1 : D1.cache = D.cache := by rw [← HD1.out]; exact actP_cache D
    have HC1 := Aside0.mk hc1
    obtain ⟨An, cn, hvc⟩ := Kd.R_slice HD.out.cache
    have HVC := Aside0.mk hvc
    clear hvc hc1
    have hb64 : b.length ≤ 64 := by omega
    go_enter Try.func17, Try.ntmps17
    go_wp2_with (first | (go_at_call 19; refine (dead_calls _ B M _ g1 g6).mono ?_; rintro e w' ⟨rfl, rfl⟩) | (go_at_call 64; refine (has_calls _ B M _ at_ g0 g1).mono ?_; rw [HI.out]; rintro e w' ⟨rfl, rfl⟩) | (go_at_call 65; refine (act_calls _ base B M Bd vc D HD.out).mono ?_; rw [HE.out, HD1.out]; rintro e w1 ⟨rfl, hd, ho⟩; obtain ⟨⟨q0, q1, q2, q3, q4, q5, q6⟩, j2, j4, j5, j6⟩ := cells7 hd.blk; clear q0 q1 q3 q4 q5 q6 j2 j4 j5 j6 g0 g1 g6; have HDK1 := Aside0.mk hd; have HO := Aside0.mk ho; have HBC := Aside0.mk (HB.out (w1.alloc (.cells (wrC (at_, zsec)) 101)) ((ho.chg (fun _ h => .inl h)).alloc _)); clear hd ho) | ((with_reducible refine gate_ (.build 101 #[(0, .tmp 26)]) rfl ?_); refine Kd.event_run rfl (Arr.ex_build rfl (cells := wrC (at_, zsec)) (by kernel_rfl)) ?_; simp only [Act.put, List.setIfInBounds_toArray, List.set_cons_succ, List.set_cons_zero]) | ((with_reducible refine gate_ (.alloc 101) rfl ?_); refine Kd.event_run rfl (ex_alloc_wr w1 rfl) ?_; simp only [Act.put, List.setIfInBounds_toArray, List.set_cons_succ, List.set_cons_zero]) | ((with_reducible refine gate_ (.store 101 (.tmp 8) (.tmp 27)) rfl ?_); refine Arr.skip_run rfl (ex_store_wr w1 (0, zsec) (at_, zsec) (by decide) (show zsec.length = 64 by decide) rfl rfl rfl) ?_; simp only [Act.put, List.setIfInBounds_toArray, List.set_cons_succ, List.set_cons_zero]) | ((with_reducible refine gate_builtin (b := .copy) (xs := #[.tmp 29, .tmp 30]) rfl ?_); refine Kd.event_run rfl (Arr.ex_copy rfl (run_copy_into w1 at_ b hb64 A c _ HBC.out)) ?_; simp only [Act.put, List.setIfInBounds_toArray, List.set_cons_succ, List.set_cons_zero]))
    have HP := Aside0.mk (pad_length b hb64)
    have HNEW := Aside0.mk (new_wr_cells w1 (at_, pad b))
    have q2' := alloc_cell q2 (.cells (wrC (at_, pad b)) 101)
    have hB1 : B < w1.heap.size := (Array.getElem?_eq_some_iff.1 HDK1.out.blk).1
    have h4 : (w1.alloc (Obj.cells (wrC (at_, pad b)) 101)).drew.heap.size = w1.heap.size + 1 := alloc_size w1 _
    have HB1 := Aside0.mk hB1
    have HBL := Aside0.mk (show B < (w1.alloc (Obj.cells (wrC (at_, pad b)) 101)).drew.heap.size by omega)
    have HBN := Aside0.mk (show some B ≠ vc.ownBlock from fun e => (HDK1.out.cache.1 B e.symm).1 rfl)
    have HBS := Aside0.mk (show base ≤ (w1.alloc (Obj.cells (wrC (at_, pad b)) 101)).drew.heap.size by have := HDK1.out.hB; omega)
    have HFR : Aside0 (∀ k, (w1.alloc (Obj.cells (wrC (at_, pad b)) 101)).drew.heap.size ≤ k → k ≠ B ∧ k ≠ M ∧ k ≠ Bd) := Aside0.mk fun k hk => by
      have h5 := HDK1.out.kept.lt
      have h6 := HDK1.out.bad.lt
      omega
    have HLN := Aside0.mk (show (D1.cache.length + 1) * 72 ≤ 140737488355328 by rw [HC1.out]; have := HL.out; omega)
    clear hB1 h4
    refine Calm.wp_calm [7, 10] [(0, 0), (1, 0), (2, 0), (3, 0), (4, 1), (5, 1), (6, 2), (7, 2), (8, 0), (9, 0), (10, 2)] (by kernel_rfl) (by kernel_rfl) ?_
    generalize hops : List.toArray (_ : List Oper) = ops
    have ho0 := (congrArg (fun z : Array Oper => z[0]?) hops).symm
    have ho1 := (congrArg (fun z : Array Oper => z[1]?) hops).symm
    have ho2 := (congrArg (fun z : Array Oper => z[2]?) hops).symm
    have ho3 := (congrArg (fun z : Array Oper => z[3]?) hops).symm
    have ho4 := (congrArg (fun z : Array Oper => z[4]?) hops).symm
    have ho5 := (congrArg (fun z : Array Oper => z[5]?) hops).symm
    have ho6 := (congrArg (fun z : Array Oper => z[6]?) hops).symm
    have ho7 := (congrArg (fun z : Array Oper => z[7]?) hops).symm
    have ho8 := (congrArg (fun z : Array Oper => z[8]?) hops).symm
    have ho9 := (congrArg (fun z : Array Oper => z[9]?) hops).symm
    have ho10 := (congrArg (fun z : Array Oper => z[10]?) hops).symm
    simp only [List.getElem?_toArray, List.getElem?_cons_zero, List.getElem?_cons_succ] at ho0 ho1 ho2 ho3 ho4 ho5 ho6 ho7 ho8 ho9 ho10
    clear hops
    -- 0: some 32 := Op.move (Operand.tmp 0)
    refine Calm.plain ho0 _ rfl (fun W => by go_simp; exact rfl) ?_
    simp only [Act.put, List.setIfInBounds_toArray, List.set_cons_succ, List.set_cons_zero]
    -- 1: some 33 := Op.move (Operand.tmp 0)
    refine Calm.plain ho1 _ rfl (fun W => by go_simp; exact rfl) ?_
    simp only [Act.put, List.setIfInBounds_toArray, List.set_cons_succ, List.set_cons_zero]
    -- 2: some 34 := Op.nilCheck (Operand.tmp 33)
    refine Calm.plain ho2 _ rfl (fun W => by go_simp; exact rfl) ?_
    simp only [Act.put, List.setIfInBounds_toArray, List.set_cons_succ, List.set_cons_zero]
    -- 3: some 35 := Op.fieldAddr 96 (Operand.tmp 34) 2
    refine Calm.plain ho3 _ rfl (fun W => by go_simp; exact rfl) ?_
    simp only [Act.put, List.setIfInBounds_toArray, List.set_cons_succ, List.set_cons_zero]
    -- 4: x
    refine Calm.reads ho4 _ rfl (fun W hW => by have q := bel_cell hW q2'; go_simp; exact rfl) ?_
    simp only [Act.put, List.setIfInBounds_toArray, List.set_cons_succ, List.set_cons_zero]
    -- 5: x
    refine Calm.reads ho5 (.agg (wrC (at_, pad b))) rfl (fun W hW => ex_load_wr W rfl rfl HP.out (fun j u hu => bel_cell hW (HNEW.out j u hu))) ?_
    simp only [Act.put, List.setIfInBounds_toArray, List.set_cons_succ, List.set_cons_zero]
    -- 6: x
    refine Calm.acts ho6 rfl (fun K hK => ?_)
    unfold Oper.wp
    rw [ex_row1_wr (w1.alloc (Obj.cells (wrC (at_, pad b)) 101)).drew rfl HP.out rfl]
    refine hK _ _ (fun _ => Below.alloc (Below.refl _ _) (Nat.le_refl _) _) ?_
    clear hK K
    simp only [Act.put, List.setIfInBounds_toArray, List.set_cons_succ, List.set_cons_zero]
    -- 7: x
    refine Calm.step ho7 (fun K hK => ?_)
    refine Kd.R_append_step wrK (W := (w1.alloc (Obj.cells (wrC (at_, pad b)) 101)).drew) (w0 := (w1.alloc (Obj.cells (wrC (at_, pad b)) 101)).drew) base rfl (.tmp 36) (.tmp 38) 94 101 (.agg (wrC (0, zsec))) 72 rfl Try.underlying94 info101 rfl (by decide) (by decide) vc D1.cache (at_, pad b) (wrC (at_, pad b)).toList (fun k => k ≠ B ∧ k ≠ M ∧ k ≠ Bd) (fun _ => False) rfl rfl (wr_M _ HP.out) (fun _ h => h.elim) HFR.out (HDK1.out.grow _).drew.cache (Below.refl _ _) HBS.out HLN.out ?_
    intro v1 w4 ho hb4 hg hat
    refine hK _ _ (fun h => absurd h (by simp)) ?_
    clear hK K
    have hblk4 : w4.heap[B]? = w1.heap[B]? := (hg.block B HBL.out HBN.out).trans (heap_alloc_old w1 _ HB1.out)
    obtain ⟨⟨r0, r1, r2, r3, r4, r5, r6⟩, j2, j4, j5, j6⟩ := cells7 (hblk4.trans HDK1.out.blk)
    clear r0 r1 r3 r4 r5 r6 j4 j5 j6
    obtain ⟨A1, c1, hv1⟩ := Kd.R_slice ho
    generalize (D1.cache ++ [(at_, pad b)]).length = n1 at hv1
    subst hv1
    have HR := Aside0.mk ho
    have HG := Aside0.mk hg
    have HAT := Aside0.mk hat
    clear ho hb4 hg hat hblk4
    simp only [Act.put, List.setIfInBounds_toArray, List.set_cons_succ, List.set_cons_zero]
    -- 8: some 40 := Op.nilCheck (Operand.tmp 32)
    refine Calm.plain ho8 _ rfl (fun W => by go_simp; exact rfl) ?_
    simp only [Act.put, List.setIfInBounds_toArray, List.set_cons_succ, List.set_cons_zero]
    -- 9: some 41 := Op.fieldAddr 96 (Operand.tmp 40) 2
    refine Calm.plain ho9 _ rfl (fun W => by go_simp; exact rfl) ?_
    simp only [Act.put, List.setIfInBounds_toArray, List.set_cons_succ, List.set_cons_zero]
    -- 10: x
    refine Calm.step ho10 (fun K hK => ?_)
    go_simp
    refine hK _ _ (fun h => absurd h (by simp)) ?_
    clear hK K
    refine Calm.done ?_
    go_wp2
    go_ret
    have hcg : Chg w1 w4 (fun k => some k = vc.ownBlock) := (((Chg.refl w1 _).alloc _).drew).trans (chg_grown HG.out (fun _ h => h))
    have hce := HC1.out
    have hd4 := HDK1.out.recache hcg HR.out
    refine ⟨rfl, _, hd4, ?_, ?_⟩
    · rcases HAT.out with h | ⟨k, h1, h2⟩
      · exact .inl h
      · refine .inr ⟨k, h1, ?_⟩
        have h3 : w.heap.size ≤ w1.heap.size := HO.out.2.2.2.1
        have h4 : (w1.alloc (Obj.cells (wrC (at_, pad b)) 101)).drew.heap.size = w1.heap.size + 1 := alloc_size w1 _
        omega
    · refine (HO.out.chg (fun _ h => .inl h)).trans ((hcg.mono fun k h => .inr (.inr (.inr h))).trans ((Only.refl w4 B).set (i := 2) _ |>.chg fun _ h => .inl h))
  · have hz' : (e == 0) = false := by simpa using hz
    have hf : writeP D at_ b = (D1, e) := by rw [HF.out, if_pos hz]
    rw [hf]
    clear hz hf
    go_enter Try.func17, Try.ntmps17
    go_wp2_with (first | (go_at_call 19; refine (dead_calls _ B M _ g1 g6).mono ?_; rintro e w' ⟨rfl, rfl⟩) | (go_at_call 64; refine (has_calls _ B M _ at_ g0 g1).mono ?_; rw [HI.out]; rintro e w' ⟨rfl, rfl⟩) | (go_at_call 65; refine (act_calls _ base B M Bd vc D HD.out).mono ?_; rw [HE.out, HD1.out]; rintro e w1 ⟨rfl, hd, ho⟩; have HDK1 := Aside0.mk hd; have HO := Aside0.mk ho; clear hd ho))
    go_ret
    exact ⟨rfl, vc, HDK1.out, .inl rfl, HO.out.chg (fun _ h => .inl h)⟩
end Go.Proofs.Ytlepcmljmibdnaa
