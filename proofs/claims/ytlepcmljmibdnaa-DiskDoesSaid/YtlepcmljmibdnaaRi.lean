/- The reference's disk: Write. Conditions: those of each statement. -/
import Derived.Test.YtlepcmljmibdnaaRh
import Derived.ArgAppend
namespace Go.Kd2
open Go.RowKit Go.Proofs.YtlepcmljmibdnaaW.PrintWords
/-- one element appended to a row that is cut at its end: always a new row -/
theorem R_append_full {α : Type} (d : Kd α) {P : Program} {ops : Array Oper} {Q : Exit → Act → World → Prop} {Kc : Act → World → Prop} {o : Oper} {a : Act} {W : World} (base : Nat) (hw : Region.wanted o (yielded ops a.tmps) = true) (s x : Operand) (t e : TypeId) (z : Value) (bytes : Nat)
    (ho : o.op = .call { callee := .builtin .append, args := #[s, x], argTypes := #[t, t] })
    (ht : P.underlying t = some (.slice e)) (hinfo : (P.info? e).map (fun i => (i.zero, i.size, i.bytes)) = some (some z, d.sz, bytes)) (hz : z.cells.size = d.sz) (hs0 : 0 < d.sz) (hb0 : 0 < bytes)
    (A : Option Addr) (n c : Nat) (xs : List α) (p : α) (cs : List Value) (okp : Nat → Prop) (hs : a.eval s = .slice A n n) (hx : a.eval x = .slice (some ⟨W.heap.size, 0, none⟩) 1 1) (hp : d.M W base okp p cs) (hokp : ∀ k, okp k → some k ≠ (Value.slice A n c).ownBlock)
    (HO : d.R e W base (fun _ => True) (.slice A n c) xs) (hbase : base ≤ W.heap.size) (hl : (xs.length + 1) * bytes ≤ 140737488355328)
    (h : ∀ v1 w1, d.R e w1 base (fun _ => True) v1 (xs ++ [p]) → Below W.heap.size W w1 → W.heap.size < w1.heap.size → Below (W.heap.size + 1) (W.alloc (.cells cs.toArray e)) w1 → Kc (a.put o.dst v1) w1) :
    if Region.wanted o (yielded ops a.tmps) = true then Oper.wp P o a (W.alloc (.cells cs.toArray e)) Kc Q else Kc (a.put o.dst undef) (W.alloc (.cells cs.toArray e)) := by
  obtain ⟨h0, inner, hown, hr⟩ := HO
  obtain ⟨i0, hi, hzz⟩ := Option.map_eq_some_iff.1 hinfo
  simp only [Prod.mk.injEq] at hzz
  obtain ⟨hz0, hz1, hz2⟩ := hzz
  have hn : n = xs.length := by
    rcases hown.2 with ⟨he, h0⟩ | ⟨g, cap, cur, he, _⟩
    · injection he with _ h1 _; omega
    · injection he with _ h1 _
  subst hn
  have hlen : xs.length + 1 ≤ 140737488355328 := Nat.le_trans (Nat.le_mul_of_pos_right _ hb0) hl
  have hcl : cs.length = d.sz := d.K_len (d.K_of_M hp)
  have hsz1 : (W.alloc (.cells cs.toArray e)).heap.size = W.heap.size + 1 := by show (W.heap.push _).size = _; simp
  have hnews : ∀ j u, cs[j]? = some u → (W.alloc (.cells cs.toArray e)).cell? ((⟨W.heap.size, 0, none⟩ : Addr).add j) = some u := by
    intro j u hj
    have e1 : (⟨W.heap.size, 0, none⟩ : Addr).add j = ⟨W.heap.size, j, none⟩ := by unfold Addr.add; split <;> simp_all
    rw [e1]
    unfold World.cell?
    rw [heap_alloc_new]
    simpa using hj
  have key : ∃ v1 w1, (Builtin.append_ #[t, t] o.type #[.slice A xs.length xs.length, .slice (some ⟨W.heap.size, 0, none⟩) 1 1]).run P (W.alloc (.cells cs.toArray e)) = .ok v1 w1 ∧
      w1.ownsRow (W.heap.size + 1) e d.sz v1 (xs.length + 1) (inner ++ cs) ∧ Below (W.heap.size + 1) (W.alloc (.cells cs.toArray e)) w1 := by
    cases A with
    | none =>
      have hx0 : xs.length = 0 ∧ inner = [] := by
        rcases hown.2 with ⟨_, h0⟩ | ⟨g, cap, cur, he, _⟩
        · refine ⟨h0, List.eq_nil_of_length_eq_zero ?_⟩
          rw [hown.1, h0, Nat.zero_mul]
        · cases he
      obtain ⟨h1, h2⟩ := hx0
      rw [h1, h2]
      obtain ⟨v', w', hrun, r1, r2, r3⟩ := run_append_own (P := P) (W.alloc (.cells cs.toArray e)) (W.heap.size + 1) t o.type e i0 z d.sz bytes ht hi hz0 hz1 hz2 hz hs0 (.slice none 0 0) 0 [] (World.ownsRow_nil _ _ e d.sz) ⟨W.heap.size, 0, none⟩ 1 1 cs (by simpa using hcl) hnews (d.K_one (d.K_of_M hp)) (by simp [maxLen]) (by rw [h1] at hl; exact hl) (by rw [hsz1]; exact Nat.le_refl _)
      refine ⟨v', w', hrun, by simpa using r1, ⟨r2.os, r2.tape, r2.output, r2.size, fun k hk => r2.block k (by rw [hsz1]; exact hk) (by simp [Value.ownBlock])⟩⟩
    | some ad =>
      rcases hown.2 with ⟨he, _⟩ | ⟨g, cap, cur, he, hg, hh, h1, h2, h3, h4⟩
      · cases he
      · injection he with e1 _ _
        obtain rfl := Option.some.inj e1
        have holds : ∀ j u, inner[j]? = some u → (W.alloc (.cells cs.toArray e)).cell? ((⟨g, 0, none⟩ : Addr).add j) = some u := by
          intro j u hj
          have e1 : (⟨g, 0, none⟩ : Addr).add j = ⟨g, j, none⟩ := by unfold Addr.add; split <;> simp_all
          rw [e1]
          have hgl : g < W.heap.size := (Array.getElem?_eq_some_iff.1 hh).1
          unfold World.cell?
          rw [heap_alloc_old W _ hgl, hh]
          rw [← h4] at hj
          show cur[j]? = some u
          rw [← Array.getElem?_toList]
          rw [List.getElem?_take] at hj
          split at hj
          · exact hj
          · cases hj
        obtain ⟨v', w', hrun, r1, r2⟩ := run_append_arg_grows (P := P) (W.alloc (.cells cs.toArray e)) t o.type e i0 z d.sz bytes ht hi hz0 hz1 hz2 hz hs0 ⟨g, 0, none⟩ xs.length xs.length inner hown.1 holds ⟨W.heap.size, 0, none⟩ 1 1 cs (by simpa using hcl) hnews (by omega) (by unfold maxLen; omega) hl
        rw [hsz1] at r1
        exact ⟨v', w', hrun, r1, ⟨r2.os, r2.tape, r2.output, r2.size, fun k hk => r2.block k (by rw [hsz1]; exact hk) (by simp)⟩⟩
  obtain ⟨v1, w1, hrun, hown1, hb1⟩ := key
  rw [if_pos hw]
  unfold Oper.wp execOp
  simp only [ho, resolve, invoke, builtin, Sem.run_bind, Sem.run_pure, Result.andThen_ok, List.map_toArray, List.map_cons, List.map_nil, hs, hx, hrun]
  have hb2 : Below W.heap.size W w1 := (Below.alloc (Below.refl _ _) (Nat.le_refl _) _).trans (hb1.mono (Nat.le_succ _))
  have hsz2 : W.heap.size < w1.heap.size := by have := hb1.size; omega
  refine h v1 w1 (Kd.R_appended (okp := okp) (ok := fun _ => True) (W := W) (v := .slice A xs.length c) h0 hr hp (fun k hk => ⟨trivial, hokp k hk⟩) (fun _ _ => trivial) (own_weaken hown1 (by omega)) ⟨hb2.os, hb2.tape, hb2.output, hb2.size, fun k hk _ => hb2.block k hk⟩ (.inr ?_)) hb2 hsz2 hb1
  rcases hown1.2 with ⟨_, h0⟩ | ⟨g, cap, cur, rfl, hg, _⟩
  · omega
  · exact ⟨g, rfl, by omega⟩
end Go.Kd2
namespace Go.Proofs.Ytlepcmljmibdnaa
open Go.RowKit Go.Proofs.YtlepcmljmibdnaaW.PrintWords Go.Proofs.YtlepcmljmibdnaaW.PrintLast Go.Proofs.YtlepcmljmibdnaaW.PrintMore PDiskArms
set_option linter.unusedVariables false
set_option linter.unusedSimpArgs false
def rwriteX (X : RX) (at_ : Int) (b : List Int) : RX × Int :=
  if X.dead then (X, 50) else if inB at_ X.S.length = false then (X, 1) else if 64 < b.length then (X, 2) else
    if (ractX X).2 ≠ 0 then ractX X else ({ (ractX X).1 with cache := (ractX X).1.cache ++ [(at_, pad b)] }, 0)
/-- the cache's row was made anew -/
theorem RM.reC {w w' : World} {base B : Nat} {vS vC vB v1 : Value} {X : RX} {l : List (Int × List Int)} (h : RM w base B vS vC vB X) (hc : Below w.heap.size w w') (ho : Kd.R rwrK 106 w' base (fun _ => True) v1 l) :
    RM (w'.setCell ⟨B, 1, none⟩ v1) base B vS v1 vB { X with cache := l } ∧ TC base isRef w (w'.setCell ⟨B, 1, none⟩ v1) := by
  have h' := h.fresh hc
  exact ⟨⟨set7 h'.blk 1 v1, Kd.R_set h'.S h'.blk (fun q hq => by rcases q29 q hq with h | h <;> simp [h]) 1 _, Kd.R_set ho h'.blk (fun q hq => by rcases q106 q hq with h | h <;> simp [h]) 1 _, Kd.R_set h'.bad h'.blk (fun q hq => by simp [q4 q hq]) 1 _, h.hB⟩, (TC.of_below hc h.base_le).trans (.set h'.blk (isRef53 _) h.hB _)⟩
theorem rwr_M {w : World} {b base : Nat} {A : Option Addr} {c : Nat} {at_ : Int} {s : List Int} (h : Kd.R (Kd.int .u8) 5 w b (fun _ => True) (.slice A s.length c) s) (hb : base ≤ b) : rwrK.M w base (fun k => b ≤ k) (at_, s) [.int .i64 at_, .slice A s.length c] :=
  ⟨[.int .i64 at_], [.slice A s.length c], rfl, rfl, _, rfl, Kd.R_lower (Kd.R_mono (Kd.R_bound h) (fun k hk => hk.2.1)) hb⟩
theorem ex_row1_rwr (W : World) {o : Oper} {ρ : Operand → Value} {x : Operand} {u v : Value} (ho : o.op = .buildSlice 51 1 #[(0, x)]) (hx : ρ x = .agg #[u, v]) :
    (execOp ρ o).run Try.prog W = .ok (.value (.slice (some ⟨W.heap.size, 0, none⟩) 1 1)) (W.alloc (.cells #[u, v] 106)) := by
  obtain ⟨i, h1, h2⟩ := Option.map_eq_some_iff.1 info106e
  simp only [Prod.mk.injEq] at h2
  obtain ⟨hz, hs, _⟩ := h2
  have hs' : i.size = 2 := hs
  have h := Arr.ex_row1 (P := Try.prog) (W := W) (ρ := ρ) ho Try.underlying51 h1 hz (by omega) (by omega) (by rw [hx, hs']; rfl)
  rw [hx] at h
  exact h
set_option maxHeartbeats 2000000 in
theorem rwrite_calls (w : World) (base B : Nat) (vS vC vB : Value) (X X' : RX) (at_ r : Int) (A : Option Addr) (c : Nat) (b : List Int) (hx : rwriteX X at_ b = (X', r)) (h : RK w base B vS vC vB X) (hl : X.cache.length ≤ 1000)
    (hb : ∀ w', TC base isRef w w' → (Kd.int .u8).C w' A b.length b) :
    Calls Try.prog 26 #[.pointer (some ⟨B, 0, none⟩), .int .i64 at_, .slice A b.length c] w fun e w' => e = .returned (.int .i64 r) ∧ TC base isRef w w' ∧ ∃ vC', RK w' base B vS vC' vB X' := by
  have HR := Aside0.mk h
  have HB := Aside0.mk hb
  obtain ⟨⟨q0, q1, q2, q3, q4⟩, _⟩ := cells5 h.blk
  clear hb q0 q1 q2 q3
  by_cases hd : X.dead = true
  · rw [hd] at q4
    have hf : rwriteX X at_ b = (X, 50) := by unfold rwriteX; rw [if_pos hd]
    obtain ⟨rfl, rfl⟩ := Prod.mk.inj (hf.symm.trans hx)
    clear hf hx hd h
    go_enter Try.func26, Try.ntmps26
    go_wp2
    go_ret
    exact ⟨rfl, TC.refl _ _ _, vC, HR.out⟩
  have hd0 : X.dead = false := by simpa using hd
  rw [hd0] at q4
  by_cases hi : inB at_ X.S.length = false
  · have HI := Aside0.mk hi
    have hf : rwriteX X at_ b = (X, 1) := by unfold rwriteX; rw [if_neg hd, if_pos hi]
    obtain ⟨rfl, rfl⟩ := Prod.mk.inj (hf.symm.trans hx)
    clear hf hx hd h hi hd0
    go_enter Try.func26, Try.ntmps26
    go_wp2_with (first | (go_at_call 70; with_reducible refine (rhas_calls w base B vS vC vB X at_ false HI.out HR.out).mono ?_; rintro e w' ⟨rfl, rfl⟩))
    go_ret
    exact ⟨rfl, TC.refl _ _ _, vC, HR.out⟩
  have hi0 : inB at_ X.S.length = true := by simpa using hi
  have HI := Aside0.mk hi0
  by_cases h64 : 64 < b.length
  · have hf : rwriteX X at_ b = (X, 2) := by unfold rwriteX; rw [if_neg hd, if_neg hi, if_pos h64]
    obtain ⟨rfl, rfl⟩ := Prod.mk.inj (hf.symm.trans hx)
    have h64' : (64 : Int) < (b.length : Int) := by omega
    clear hf hx hd h hi hd0 hi0 h64
    go_enter Try.func26, Try.ntmps26
    go_wp2_with (first | (go_at_call 70; with_reducible refine (rhas_calls w base B vS vC vB X at_ true HI.out HR.out).mono ?_; rintro e w' ⟨rfl, rfl⟩))
    go_ret
    exact ⟨rfl, TC.refl _ _ _, vC, HR.out⟩
  have h64' : ¬ (64 : Int) < (b.length : Int) := by omega
  have h64n : (b.length : Int) ≤ 64 := by omega
  obtain ⟨X1, e, hact⟩ : ∃ X1 e, ractX X = (X1, e) := ⟨_, _, rfl⟩
  have hf : rwriteX X at_ b = if e ≠ 0 then (X1, e) else ({ X1 with cache := X1.cache ++ [(at_, pad b)] }, 0) := by unfold rwriteX; rw [if_neg hd, if_neg hi, if_neg h64, hact]
  have HX := Aside0.mk (hf.symm.trans hx)
  have HA := Aside0.mk hact
  have hsm := ract_same X
  rw [hact] at hsm
  have HSM := Aside0.mk hsm
  have hrng : 0 ≤ at_ ∧ at_ < X.S.length := by unfold inB at hi0; exact of_decide_eq_true hi0
  have HRG := Aside0.mk hrng
  have HH64 := Aside0.mk (show b.length ≤ 64 by omega)
  clear hf hx hd h hi hd0 hi0 h64 hact hsm hrng
  by_cases hz : e = 0
  · subst hz
    have HX' : Aside0 ({ X1 with cache := X1.cache ++ [(at_, pad b)] } = X' ∧ 0 = r) := ⟨by have := HX.out; rw [if_neg (by simp)] at this; exact Prod.mk.inj this⟩
    obtain rfl := HX'.out.2
    have HLC := Aside0.mk (show (X1.cache.length + 1) * 32 ≤ 140737488355328 by rw [HSM.out.2.1]; omega)
    go_enter Try.func26, Try.ntmps26
    go_wp2_with (first | (go_at_call 70; with_reducible refine (rhas_calls w base B vS vC vB X at_ true HI.out HR.out).mono ?_; rintro e w' ⟨rfl, rfl⟩) | (go_at_call 71; with_reducible refine (ract_calls w base B vS vC vB X X1 0 HA.out HR.out).mono ?_; rintro e w1 ⟨rfl, hr, ht, _⟩; have HR1 := Aside0.mk hr; have HT1 := Aside0.mk ht; have HBC := Aside0.mk (HB.out w1 ht); have q1 := (cells5 hr.blk).1.2.1; have hcf := Kd.R_reads hr.C; clear hr ht q4))
    obtain ⟨A0, c0, hvC, hnc, _⟩ := hcf
    subst hvC
    have q1' : w1.drew.cell? ⟨B, 1, none⟩ = some (.slice A0 X1.cache.length c0) := q1
    have hnci : (X1.cache.length : Int) ≤ (c0 : Int) := by omega
    have HBW := Aside0.mk HR1.out.base_le
    have HRD := Aside0.mk (HR1.out.toRM.fresh (Below.refl w1.heap.size w1).drew)
    refine Fork.wp_fork (Fork.Lo.rel (w1.drew.heap.size)) [22, 28] [28] (.one 0 0 (.one 1 0 (.one 2 0 (.one 3 0 (.one 5 0 (.one 6 0 (.one 7 0 (.one 10 0 (.one 11 0 (.one 12 0 (.one 16 0 (.one 17 0 (.one 19 0 (.one 20 0 (.one 21 0 (.one 4 3 (.one 8 3 (.one 9 0 (.one 13 3 (.one 14 0 (.one 15 0 (.one 18 2 (.one 22 2 (.one 23 0 (.one 24 2 (.one 25 2 (.one 26 0 (.one 27 0 (.one 28 2 .nil))))))))))))))))))))))))))))) (by kernel_rfl) (by kernel_rfl) ?_
    generalize hops : List.toArray (_ : List Oper) = ops
    have HO := Aside0.mk hops
    clear hops
    iterate 14 ((refine Fork.plain (Fork.at_ HO.out rfl) _ rfl (fun W => by go_simp; exact rfl) ?_); simp only [Act.put, List.setIfInBounds_toArray, List.set_cons_succ, List.set_cons_zero])
    refine Fork.plain (Fork.at_ HO.out rfl) _ rfl (fun W => by have q := IntWalk.i64_in (64 - (b.length : Int)) (by omega); go_simp; exact rfl) ?_
    simp only [Act.put, List.setIfInBounds_toArray, List.set_cons_succ, List.set_cons_zero]
    refine Fork.olds (Fork.at_ HO.out rfl) _ rfl (fun W hW => Arr.ex_load1 rfl rfl (by kernel_rfl) (Fork.bel_cell hW.below (by assumption))) ?_
    simp only [Act.put, List.setIfInBounds_toArray, List.set_cons_succ, List.set_cons_zero]
    refine Fork.olds (Fork.at_ HO.out rfl) _ rfl (fun W hW => Arr.ex_load1 rfl rfl (by kernel_rfl) (Fork.bel_cell hW.below (by assumption))) ?_
    simp only [Act.put, List.setIfInBounds_toArray, List.set_cons_succ, List.set_cons_zero]
    ((refine Fork.plain (Fork.at_ HO.out rfl) _ rfl (fun W => by go_simp; exact rfl) ?_); simp only [Act.put, List.setIfInBounds_toArray, List.set_cons_succ, List.set_cons_zero])
    refine Fork.olds (Fork.at_ HO.out rfl) _ rfl (fun W hW => Arr.ex_load1 rfl rfl (by kernel_rfl) (Fork.bel_cell hW.below (by assumption))) ?_
    simp only [Act.put, List.setIfInBounds_toArray, List.set_cons_succ, List.set_cons_zero]
    iterate 2 ((refine Fork.plain (Fork.at_ HO.out rfl) _ rfl (fun W => by go_simp; exact rfl) ?_); simp only [Act.put, List.setIfInBounds_toArray, List.set_cons_succ, List.set_cons_zero])
    refine Fork.step (Fork.at_ HO.out rfl) (fun K hK => ?_)
    refine Kd.R_append_rows_step (Kd.int .u8) (w0 := w1.drew) w1.drew.heap.size rfl (.const (.slice none 0 0)) (.tmp 41) 29 5 (.int .u8 0) 1 rfl Try.underlying29 info5e rfl (by decide) (by decide) (.slice none 0 0) [] b A b.length c (fun _ => True) (fun _ => False) rfl rfl (Kd.R_nil _ _ _ _ _) HBC.out (fun _ _ h => h) (fun _ h => h.elim) (fun _ _ => trivial) (Below.refl _ _) (Nat.le_refl _) (by simp; omega) ?_
    intro v1 w10 ho hb hg hat
    refine hK _ _ (.of_new hb (Nat.le_refl _)) ?_
    clear hK K
    have HR10 := Aside0.mk ho
    have HB10 := Aside0.mk hb
    obtain ⟨A10, c10, hv10⟩ := Kd.R_slice ho
    clear ho hb hg hat
    try simp only [Act.put, List.setIfInBounds_toArray, List.set_cons_succ, List.set_cons_zero]
    refine Fork.step (Fork.at_ HO.out rfl) (fun K hK => ?_)
    refine Kd.R_append_zeros_step (Kd.int .u8) (w0 := w1.drew) w1.drew.heap.size rfl (.tmp 42) (.tmp 45) 29 3 5 (.int .u8 0) 1 rfl Try.underlying29 Try.underlying3 info5e rfl (by decide) (by decide) v1 ([] ++ b) 0 (64 - (b.length : Int)) (fun _ => True) rfl rfl rfl (fun _ _ => trivial) HR10.out (by omega) HB10.out HB10.out.size (by simp; omega) ?_
    intro v2 w11 ho hb hg hat
    refine hK _ _ (.of_old (.of_below (below_after HB10.out hb hg.size)) rfl) ?_
    clear hK K
    have e64 : (64 - (b.length : Int)).toNat = 64 - b.length := by omega
    rw [List.nil_append, e64] at ho
    have hpl : (b ++ List.replicate (64 - b.length) 0) = pad b := rfl
    rw [hpl] at ho
    have HR11 := Aside0.mk ho
    have HB11 := Aside0.mk hb
    obtain ⟨A11, c11, hv11⟩ := Kd.R_slice ho
    subst hv11
    clear ho hb hg hat e64 hpl
    try simp only [Act.put, List.setIfInBounds_toArray, List.set_cons_succ, List.set_cons_zero]
    ((refine Fork.plain (Fork.at_ HO.out rfl) _ rfl (fun W => by go_simp; exact rfl) ?_); simp only [Act.put, List.setIfInBounds_toArray, List.set_cons_succ, List.set_cons_zero])
    refine Fork.step (Fork.at_ HO.out rfl) (fun K hK => ?_)
    unfold Oper.wp
    rw [ex_row1_rwr w11 rfl rfl]
    refine hK _ _ (.of_new (Below.alloc (Below.refl _ _) (Nat.le_refl _) _) HB11.out.size) ?_
    clear hK K
    try simp only [Act.put, List.setIfInBounds_toArray, List.set_cons_succ, List.set_cons_zero]
    refine Fork.step (Fork.at_ HO.out rfl) (fun K hK => ?_)
    refine Kd2.R_append_full rwrK (W := w11) base rfl (.tmp 39) (.tmp 48) 51 106 (.agg #[.int .i64 0, .slice none 0 0]) 32 rfl Try.underlying51 info106e rfl (by decide) (by decide) A0 X1.cache.length c0 X1.cache (at_, pad b) [.int .i64 at_, .slice A11 (pad b).length c11] (fun k => w1.heap.size ≤ k) rfl rfl (rwr_M HR11.out HBW.out) (fun k hk => Kd.fresh_ok HR1.out.C k hk) (HRD.out.fresh HB11.out).C (Nat.le_trans HBW.out HB11.out.size) HLC.out ?_
    intro v3 w12 ho hb hs hb1
    refine hK _ _ (.of_new ?_ (Nat.le_trans HB11.out.size (by rw [alloc_size]; exact Nat.le_succ _))) ?_
    · rw [alloc_size]; exact hb1
    clear hK K
    have hbb := HB11.out.trans (hb.mono HB11.out.size)
    have hblk := (HRD.out.fresh hbb).blk
    obtain ⟨⟨r0, r1, r2, r3, r4⟩, g0, g1, g2, g3, g4⟩ := cells5 hblk
    clear r0 r2 r3 r4 g0 g2 g3 g4 hblk
    have HR12 := Aside0.mk ho
    have HB12 := Aside0.mk hbb
    obtain ⟨A12, c12, hv12⟩ := Kd.R_slice ho
    generalize (X1.cache ++ [(at_, pad b)]).length = n12 at hv12
    subst hv12
    clear ho hb hs hb1 hbb
    try simp only [Act.put, List.setIfInBounds_toArray, List.set_cons_succ, List.set_cons_zero]
    iterate 2 ((refine Fork.plain (Fork.at_ HO.out rfl) _ rfl (fun W => by go_simp; exact rfl) ?_); simp only [Act.put, List.setIfInBounds_toArray, List.set_cons_succ, List.set_cons_zero])
    refine Fork.step (Fork.at_ HO.out rfl) (fun K hK => ?_)
    go_simp
    refine hK _ _ (.of_any rfl rfl) ?_
    clear hK K
    try simp only [Act.put, List.setIfInBounds_toArray, List.set_cons_succ, List.set_cons_zero]
    refine Fork.done ?_
    go_wp2
    go_ret
    obtain ⟨k1, k2⟩ := HRD.out.reC HB12.out HR12.out
    rw [← HX'.out.1]
    refine ⟨rfl, HT1.out.drew.trans k2, _, k1, ⟨HR1.out.ok.s64, fun p hp => ?_, HR1.out.ok.hb, HR1.out.ok.hl, HR1.out.ok.hn⟩⟩
    simp only [List.mem_append, List.mem_singleton] at hp
    rcases hp with hp | rfl
    · exact HR1.out.ok.c64 p hp
    · have := HRG.out
      rw [← HSM.out.1] at this
      exact ⟨pad_length b HH64.out, this.1, this.2⟩
  · have hz' : (e == 0) = false := by simpa using hz
    have HX' : Aside0 (X1 = X' ∧ e = r) := ⟨by have := HX.out; rw [if_pos hz] at this; exact Prod.mk.inj this⟩
    obtain ⟨rfl, rfl⟩ := HX'.out
    clear hz
    go_enter Try.func26, Try.ntmps26
    go_wp2_with (first | (go_at_call 70; with_reducible refine (rhas_calls w base B vS vC vB X at_ true HI.out HR.out).mono ?_; rintro e w' ⟨rfl, rfl⟩) | (go_at_call 71; with_reducible refine (ract_calls w base B vS vC vB X X1 e HA.out HR.out).mono ?_; rintro e' w1 ⟨rfl, hr, ht, _⟩; have HR1 := Aside0.mk hr; have HT1 := Aside0.mk ht; clear hr ht))
    go_ret
    exact ⟨rfl, HT1.out, vC, HR1.out⟩
end Go.Proofs.Ytlepcmljmibdnaa
