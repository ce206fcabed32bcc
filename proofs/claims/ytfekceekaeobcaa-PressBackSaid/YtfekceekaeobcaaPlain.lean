/- The contract of press.plain: a run of bytes that stand for themselves. Conditions: those of the statement. -/
import Derived.Test.YtfekceekaeobcaaAwake
import Derived.Test.YtfekceekaeobcaaCalm
import Derived.Test.YtfekceekaeobcaaPureA
namespace Go.Proofs.Ytfekceekaeobcaa
open Go.RowKit Go.Proofs.YtfekceekaeobcaaW.PrintWords Go.Proofs.YtfekceekaeobcaaW.PrintLast Go.Proofs.YtfekceekaeobcaaW.PrintMore
open PPressPacks
attribute [local go_sem] max2_int min2_int max_two min_two
set_option linter.unusedVariables false
set_option linter.unusedSimpArgs false

/-- what a part comes to: the bytes, what is left, the error -/
def plainP (xs bs : List Int) (most : Int) : List Int × List Int × Int :=
  let n := (bs.getD 0 0).toNat + 1
  let h := min n (bs.length - 1)
  if most - xs.length < h then ([], [], 2) else if h < n then ([], [], 20) else (xs ++ (bs.drop 1).take n, bs.drop (1 + n), 0)

/-- what the two inner functions answer -/
def PartPost (w0 : World) (base : Nat) (p : List Int × List Int × Int) (e : Ending) (w' : World) : Prop :=
  ∃ vo A c, e = .returned (.tuple #[vo, .slice A p.2.1.length c, .int .i64 p.2.2]) ∧ Kd.R (Kd.int .u8) 5 w' base (fun _ => True) vo p.1 ∧ (Kd.int .u8).C w0 A p.2.1.length p.2.1 ∧ p.2.1.length ≤ c ∧ Below base w0 w'
theorem part_none (w0 w : World) (base : Nat) (er : Int) (hb : Below base w0 w) : PartPost w0 base ([], [], er) (.returned (.tuple #[.slice none 0 0, .slice none 0 0, .int .i64 er])) w :=
  ⟨_, none, 0, rfl, Kd.R_nil _ _ _ _ _, Kd.C_nil _ _, Nat.le_refl _, hb⟩

theorem part_some (w0 w : World) (base : Nat) (vo : Value) (A : Option Addr) (n c : Nat) (xs bs : List Int) (er : Int) (hn : n = bs.length) (hr : Kd.R (Kd.int .u8) 5 w base (fun _ => True) vo xs) (hc : (Kd.int .u8).C w0 A n bs) (hnc : n ≤ c) (hb : Below base w0 w) :
    PartPost w0 base (xs, bs, er) (.returned (.tuple #[vo, .slice A n c, .int .i64 er])) w := by
  subst hn
  exact ⟨vo, A, c, rfl, hr, hc, hnc, hb⟩
theorem cutm {w : World} {i5 : TypeInfo} (hi : Try.prog.info? 5 = some i5) (hz : i5.size = 1) {A : Option Addr} {bs : List Int} {c : Nat} (hc : (Kd.int .u8).C w A bs.length bs) (hcap : bs.length ≤ c) (i j : Nat) (hij : i ≤ j) (hj : j ≤ bs.length) :
    ∃ A', (∀ W : World, (Instr.slice 22 (.slice A bs.length c) (some (.int .i64 (i : Int))) (some (.int .i64 (j : Int))) none).run Try.prog W = .ok (.slice A' (j - i) (c - i)) W) ∧ (Kd.int .u8).C w A' (j - i) ((bs.drop i).take (j - i)) := by
  have h1 := cut_mid (P := Try.prog) 22 5 .i64 .i64 Try.underlying22 hi 1 hz A bs.length c (i : Int) (j : Int) (by omega) (by omega) (by omega) hcap
  have h2 := Kd.C_mid hc hij hj hcap
  simp only [Int.toNat_natCast] at h1
  have e : (bs.take j).drop i = (bs.drop i).take (j - i) := by rw [List.drop_take]
  have el : ((bs.drop i).take (j - i)).length = j - i := by simp; omega
  rw [e, el] at h2
  exact ⟨_, h1, h2⟩
theorem cutt {w : World} {i5 : TypeInfo} (hi : Try.prog.info? 5 = some i5) (hz : i5.size = 1) {A : Option Addr} {bs : List Int} {c : Nat} (hc : (Kd.int .u8).C w A bs.length bs) (hcap : bs.length ≤ c) (i : Nat) (hj : i ≤ bs.length) :
    ∃ A', (∀ W : World, (Instr.slice 22 (.slice A bs.length c) (some (.int .i64 (i : Int))) none none).run Try.prog W = .ok (.slice A' (bs.length - i) (c - i)) W) ∧ (Kd.int .u8).C w A' (bs.length - i) (bs.drop i) := by
  have h1 := cut_from (P := Try.prog) 22 5 .i64 Try.underlying22 hi 1 hz A bs.length c (i : Int) (by omega) (by omega)
  have h2 := Kd.C_drop hc hj hcap
  simp only [Int.toNat_natCast] at h1
  rw [List.length_drop] at h2
  exact ⟨_, h1, h2⟩
set_option maxHeartbeats 1000000 in
theorem plain_calls (w0 w : World) (base : Nat) (hbase : base = w0.heap.size) (vo : Value) (xs bs : List Int) (A : Option Addr) (c : Nat) (most : Int) (hro : Kd.R (Kd.int .u8) 5 w base (fun _ => True) vo xs) (hc : (Kd.int .u8).C w0 A bs.length bs) (hcap : bs.length ≤ c)
    (hb : Below base w0 w) (h0 : 0 < bs.length) (h8 : 0 ≤ bs.getD 0 0 ∧ bs.getD 0 0 ≤ 255) (hl : xs.length ≤ 1000000) (hbl : bs.length ≤ 1000000) (hm : 0 ≤ most ∧ most ≤ 1000000) :
    Calls Try.prog 13 #[vo, .slice A bs.length c, .int .i64 most] w (PartPost w0 base (plainP xs bs most)) := by
  subst hbase
  obtain ⟨Ao, co, rfl⟩ := Kd.R_slice hro
  obtain ⟨ad, e, hcell⟩ := Kd.at_int (Kd.C_below hc hb) 0 (by omega) (by omega)
  subst e
  obtain ⟨m, hm0⟩ : ∃ m : Nat, bs.getD 0 0 = (m : Int) := ⟨(bs.getD 0 0).toNat, by omega⟩
  have hcell' : w.cell? ad = some (.int .u8 (m : Int)) := by rw [← hm0, ← Addr.add_zero' ad]; exact hcell
  obtain ⟨p, hp⟩ : ∃ p, p = plainP xs bs most := ⟨_, rfl⟩
  rw [← hp]
  unfold plainP at hp
  rw [hm0] at hp
  simp only [Int.toNat_natCast] at hp
  have hmm : m ≤ 255 := by omega
  have HC := Aside0.mk hc
  have HO := Aside0.mk hro
  have HB := Aside0.mk hb
  have HCap := Aside0.mk hcap
  clear hc hro hb hcap hcell
  obtain ⟨j, hj⟩ : ∃ j : Nat, (if (bs.length : Int) - 1 < (m : Int) + 1 then (bs.length : Int) - 1 else (m : Int) + 1) = (j : Int) ∧ j = min (m + 1) (bs.length - 1) := by
    by_cases h : (bs.length : Int) - 1 < (m : Int) + 1
    · exact ⟨bs.length - 1, by rw [if_pos h]; omega, by omega⟩
    · exact ⟨m + 1, by rw [if_neg h]; omega, by omega⟩
  obtain ⟨hj, hj'⟩ := hj
  rw [← hj'] at hp
  have HJ := Aside0.mk hj'
  have hja : j ≤ m + 1 := by omega
  have hjb : j ≤ bs.length - 1 := by omega
  clear hj'
  by_cases c1 : most - (xs.length : Int) < (j : Int)
  · rw [if_pos c1] at hp
    have HP := Aside0.mk hp
    have hd : decide (most - (xs.length : Int) < (j : Int)) = true := by simp; omega
    clear hp hm0
    go_enter Try.func13, Try.ntmps13
    go_wp2
    go_ret3
    rw [HP.out]
    exact part_none _ _ _ _ HB.out
  rw [if_neg c1] at hp
  have hd : decide (most - (xs.length : Int) < (j : Int)) = false := by simp; omega
  by_cases c2 : j < m + 1
  · rw [if_pos c2] at hp
    have HP := Aside0.mk hp
    have hd2 : decide ((j : Int) < (m : Int) + 1) = true := by simp; omega
    clear hp hm0 c1 c2
    go_enter Try.func13, Try.ntmps13
    go_wp2
    go_ret3
    rw [HP.out]
    exact part_none _ _ _ _ HB.out
  rw [if_neg c2] at hp
  have HP := Aside0.mk hp
  have hd2 : decide ((j : Int) < (m : Int) + 1) = false := by simp; omega
  have HJm := Aside0.mk (show j = m + 1 by omega)
  have HL := Aside0.mk (show (xs.length + (m + 1)) * 1 ≤ 140737488355328 by omega)
  clear hp hm0 c1 c2
  obtain ⟨i5, hi5, hz5⟩ := Option.map_eq_some_iff.1 info5
  simp only [Prod.mk.injEq] at hz5
  have HZ := Aside0.mk hz5.2.1
  clear hz5
  go_enter Try.func13, Try.ntmps13
  go_wp2
  have hnb : m + 1 ≤ bs.length - 1 := by have := HJm.out; have := HJ.out; omega
  obtain ⟨q, hq⟩ : ∃ q : Nat, q = m + 2 := ⟨_, rfl⟩
  have hwq : IntKind.i64.wrap (1 + ((m : Int) + 1)) = (q : Int) := by rw [(i64_w _), w64 (by omega)]; omega
  obtain ⟨A2, hcutA, hC2⟩ := cutm (A := some ad) (c := c) hi5 HZ.out HC.out HCap.out 1 q (by omega) (by omega)
  obtain ⟨A3, hcutB, hC3⟩ := cutt (A := some ad) (c := c) hi5 HZ.out HC.out HCap.out q (by omega)
  have HQ := Aside0.mk hq
  have HL2 := Aside0.mk (show (xs.length + (q - 1)) * 1 ≤ 140737488355328 by omega)
  have hq1 : q ≤ bs.length := by omega
  replace hcutA : ∀ W : World, (Instr.slice 22 (.slice (some ad) bs.length c) (some (.int .i64 1)) (some (.int .i64 (q : Int))) none).run Try.prog W = .ok (.slice A2 (q - 1) (c - 1)) W := hcutA
  clear hq
  have HC2 := Aside0.mk hC2
  have HC3 := Aside0.mk hC3
  clear hC2 hC3
  refine Calm.wp_calm [5] [(0, 0), (1, 0), (2, 0), (3, 0), (4, 0), (6, 0), (7, 0), (8, 0), (9, 0), (5, 2), (10, 0), (11, 0), (12, 0)] (by kernel_rfl) (by kernel_rfl) ?_
  generalize hops : List.toArray (_ : List Oper) = ops
  have ho0 := (congrArg (fun z : Array Oper => z[0]?) hops).symm
  have ho1 := (congrArg (fun z : Array Oper => z[1]?) hops).symm
  have ho2 := (congrArg (fun z : Array Oper => z[2]?) hops).symm
  have ho3 := (congrArg (fun z : Array Oper => z[3]?) hops).symm
  have ho4 := (congrArg (fun z : Array Oper => z[4]?) hops).symm
  have ho5 := (congrArg (fun z : Array Oper => z[5]?) hops).symm
  have ho6 := (congrArg (fun z : Array Oper => z[6]?) hops).symm
  have ho7 := (congrArg (fun z : Array Oper => z[7]?) hops).symm
  have ho8 := (congrArg (fun z : Array Oper => z[8]?) hops).symm
  have ho9 := (congrArg (fun z : Array Oper => z[9]?) hops).symm
  have ho10 := (congrArg (fun z : Array Oper => z[10]?) hops).symm
  have ho11 := (congrArg (fun z : Array Oper => z[11]?) hops).symm
  have ho12 := (congrArg (fun z : Array Oper => z[12]?) hops).symm
  simp only [List.getElem?_toArray, List.getElem?_cons_zero, List.getElem?_cons_succ] at ho0 ho1 ho2 ho3 ho4 ho5 ho6 ho7 ho8 ho9 ho10 ho11 ho12
  clear hops
  -- 0: some 30 := Op.move (Operand.tmp 0)
  refine Calm.plain ho0 _ rfl (fun W => by go_simp; exact rfl) ?_
  simp only [Act.put, List.setIfInBounds_toArray, List.set_cons_succ, List.set_cons_zero]
  -- 1: some 31 := Op.move (Operand.tmp 1)
  refine Calm.plain ho1 _ rfl (fun W => by go_simp; exact rfl) ?_
  simp only [Act.put, List.setIfInBounds_toArray, List.set_cons_succ, List.set_cons_zero]
  -- 2: some 32 := Op.move (Operand.tmp 9)
  refine Calm.plain ho2 _ rfl (fun W => by go_simp; exact rfl) ?_
  simp only [Act.put, List.setIfInBounds_toArray, List.set_cons_succ, List.set_cons_zero]
  -- 3: some 33 := Op.binOp BinOp.add 3 (Operand.const (Value.int IntKind.i64 1)) (Operand.tmp 32) 3
  refine Calm.plain ho3 _ rfl (fun W => by go_simp; exact rfl) ?_
  simp only [Act.put, List.setIfInBounds_toArray, List.set_cons_succ, List.set_cons_zero]
  -- 4: some 34 := Op.slice 22 (Operand.tmp 31) (some (Operand.const (Value.int IntKind.i64 1))) (some (Operand.tmp 33)) none
  refine Calm.plain ho4 _ rfl (fun W => by go_simp; exact rfl) ?_
  simp only [Act.put, List.setIfInBounds_toArray, List.set_cons_succ, List.set_cons_zero]
  -- 6: some 36 := Op.move (Operand.tmp 1)
  refine Calm.plain ho6 _ rfl (fun W => by go_simp; exact rfl) ?_
  simp only [Act.put, List.setIfInBounds_toArray, List.set_cons_succ, List.set_cons_zero]
  -- 7: some 37 := Op.move (Operand.tmp 9)
  refine Calm.plain ho7 _ rfl (fun W => by go_simp; exact rfl) ?_
  simp only [Act.put, List.setIfInBounds_toArray, List.set_cons_succ, List.set_cons_zero]
  -- 8: some 38 := Op.binOp BinOp.add 3 (Operand.const (Value.int IntKind.i64 1)) (Operand.tmp 37) 3
  refine Calm.plain ho8 _ rfl (fun W => by go_simp; exact rfl) ?_
  simp only [Act.put, List.setIfInBounds_toArray, List.set_cons_succ, List.set_cons_zero]
  -- 9: some 39 := Op.slice 22 (Operand.tmp 36) (some (Operand.tmp 38)) none none
  refine Calm.plain ho9 _ rfl (fun W => by go_simp; exact rfl) ?_
  simp only [Act.put, List.setIfInBounds_toArray, List.set_cons_succ, List.set_cons_zero]
  -- 5: some 35 := Op.call { callee := Callee.builtin Builtin.append, args := #[Operand.tmp 30, Operand.tmp 34], argTypes := #[22, 22] }
  refine Calm.step ho5 (fun K hK => ?_)
  refine Kd.R_append_rows_step (Kd.int .u8) (w0 := w0) w0.heap.size rfl (.tmp 30) (.tmp 34) 22 5 (.int .u8 0) 1 rfl Try.underlying22 info5 rfl (by decide) (by decide) _ xs ((bs.drop 1).take (q - 1)) A2 (q - 1) _ _ (fun _ => False) rfl rfl (Kd.R_drew HO.out) (Kd.C_drew (Kd.C_below HC2.out HB.out)) (fun _ _ h => h) (fun _ h => h.elim) (fun k_ hk => trivial) HB.out.drew (HB.out.drew.size) HL2.out ?_
  intro v1 w1 ho hb hg hat
  obtain ⟨A1, c1, hv1⟩ := Kd.R_slice ho
  rw [show (xs ++ List.take (q - 1) (List.drop 1 bs)).length = xs.length + min (q - 1) (bs.length - 1) by simp] at hv1
  subst hv1
  refine hK _ _ (fun h => absurd h (by simp)) ?_
  clear hK K
  -- 10: some 6 := Op.assign (Operand.tmp 35)
  refine Calm.plain ho10 _ rfl (fun W => by go_simp; exact rfl) ?_
  simp only [Act.put, List.setIfInBounds_toArray, List.set_cons_succ, List.set_cons_zero]
  -- 11: some 7 := Op.assign (Operand.tmp 39)
  refine Calm.plain ho11 _ rfl (fun W => by go_simp; exact rfl) ?_
  simp only [Act.put, List.setIfInBounds_toArray, List.set_cons_succ, List.set_cons_zero]
  -- 12: some 8 := Op.assign (Operand.const (Value.int IntKind.i64 0))
  refine Calm.plain ho12 _ rfl (fun W => by go_simp; exact rfl) ?_
  simp only [Act.put, List.setIfInBounds_toArray, List.set_cons_succ, List.set_cons_zero]
  refine Calm.done ?_

  go_wp2
  go_ret3
  rw [HP.out]
  have e1 : m + 1 = q - 1 := by have := HQ.out; omega
  have e2 : 1 + (q - 1) = q := by have := HQ.out; omega
  have e3 : 1 + (m + 1) = q := by omega
  rw [e3, e1]
  exact part_some w0 w1 _ (.slice A1 (xs.length + min (q - 1) (bs.length - 1)) c1) A3 (bs.length - q) (c - q) _ _ 0 (by simp) ho HC3.out (by have := HCap.out; omega) hb
end Go.Proofs.Ytfekceekaeobcaa
