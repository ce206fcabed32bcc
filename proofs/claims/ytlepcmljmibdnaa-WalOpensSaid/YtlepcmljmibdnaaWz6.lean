/- Parts of one proof, joined: Ri, Rj, Cr, Bt, Sr, Fo. Conditions: those of each statement. -/
import Derived.Test.YtlepcmljmibdnaaWz5
import Derived.ArgAppend
namespace Go.Kd2
open Go.RowKit Go.Proofs.YtlepcmljmibdnaaW.PrintWords
/-- one element appended to a row that is cut at its end: always a new row -/
theorem R_append_full {α : Type} (d : Kd α) {P : Program} {ops : Array Oper} {Q : Exit → Act → World → Prop} {Kc : Act → World → Prop} {o : Oper} {a : Act} {W : World} (base : Nat) (hw : Region.wanted o (yielded ops a.tmps) = true) (s x : Operand) (t e : TypeId) (z : Value) (bytes : Nat)
    (ho : o.op = .call { callee := .builtin .append, args := #[s, x], argTypes := #[t, t] })
    (ht : P.underlying t = some (.slice e)) (hinfo : (P.info? e).map (fun i => (i.zero, i.size, i.bytes)) = some (some z, d.sz, bytes)) (hz : z.cells.size = d.sz) (hs0 : 0 < d.sz) (hb0 : 0 < bytes)
    (A : Option Addr) (n c : Nat) (xs : List α) (p : α) (cs : List Value) (okp : Nat → Prop) (hs : a.eval s = .slice A n n) (hx : a.eval x = .slice (some ⟨W.heap.size, 0, none⟩) 1 1) (hp : d.M W base okp p cs) (hokp : ∀ k, okp k → some k ≠ (Value.slice A n c).ownBlock)
    (HO : d.R e W base (fun _ => True) (.slice A n c) xs) (hbase : base ≤ W.heap.size) (hl : (xs.length + 1) * bytes ≤ 140737488355328)
    (h : ∀ v1 w1, d.R e w1 base (fun _ => True) v1 (xs ++ [p]) → Below W.heap.size W w1 → W.heap.size < w1.heap.size → Below (W.heap.size + 1) (W.alloc (.cells cs.toArray e)) w1 → Kc (a.put o.dst v1) w1) :
    if Region.wanted o (yielded ops a.tmps) = true then Oper.wp P o a (W.alloc (.cells cs.toArray e)) Kc Q else Kc (a.put o.dst undef) (W.alloc (.cells cs.toArray e)) := by
  obtain ⟨h0, inner, hown, hr⟩ := HO
  obtain ⟨i0, hi, hzz⟩ := Option.map_eq_some_iff.1 hinfo
  simp only [Prod.mk.injEq] at hzz
  obtain ⟨hz0, hz1, hz2⟩ := hzz
  have hn : n = xs.length := by
    rcases hown.2 with ⟨he, h0⟩ | ⟨g, cap, cur, he, _⟩
    · injection he with _ h1 _; omega
    · injection he with _ h1 _
  subst hn
  have hlen : xs.length + 1 ≤ 140737488355328 := Nat.le_trans (Nat.le_mul_of_pos_right _ hb0) hl
  have hcl : cs.length = d.sz := d.K_len (d.K_of_M hp)
  have hsz1 : (W.alloc (.cells cs.toArray e)).heap.size = W.heap.size + 1 := by show (W.heap.push _).size = _; simp
  have hnews : ∀ j u, cs[j]? = some u → (W.alloc (.cells cs.toArray e)).cell? ((⟨W.heap.size, 0, none⟩ : Addr).add j) = some u := by
    intro j u hj
    have e1 : (⟨W.heap.size, 0, none⟩ : Addr).add j = ⟨W.heap.size, j, none⟩ := by unfold Addr.add; split <;> simp_all
    rw [e1]
    unfold World.cell?
    rw [heap_alloc_new]
    simpa using hj
  have key : ∃ v1 w1, (Builtin.append_ #[t, t] o.type #[.slice A xs.length xs.length, .slice (some ⟨W.heap.size, 0, none⟩) 1 1]).run P (W.alloc (.cells cs.toArray e)) = .ok v1 w1 ∧
      w1.ownsRow (W.heap.size + 1) e d.sz v1 (xs.length + 1) (inner ++ cs) ∧ Below (W.heap.size + 1) (W.alloc (.cells cs.toArray e)) w1 := by
    cases A with
    | none =>
      have hx0 : xs.length = 0 ∧ inner = [] := by
        rcases hown.2 with ⟨_, h0⟩ | ⟨g, cap, cur, he, _⟩
        · refine ⟨h0, List.eq_nil_of_length_eq_zero ?_⟩
          rw [hown.1, h0, Nat.zero_mul]
        · cases he
      obtain ⟨h1, h2⟩ := hx0
      rw [h1, h2]
      obtain ⟨v', w', hrun, r1, r2, r3⟩ := run_append_own (P := P) (W.alloc (.cells cs.toArray e)) (W.heap.size + 1) t o.type e i0 z d.sz bytes ht hi hz0 hz1 hz2 hz hs0 (.slice none 0 0) 0 [] (World.ownsRow_nil _ _ e d.sz) ⟨W.heap.size, 0, none⟩ 1 1 cs (by simpa using hcl) hnews (d.K_one (d.K_of_M hp)) (by simp [maxLen]) (by rw [h1] at hl; exact hl) (by rw [hsz1]; exact Nat.le_refl _)
      refine ⟨v', w', hrun, by simpa using r1, ⟨r2.os, r2.tape, r2.output, r2.size, fun k hk => r2.block k (by rw [hsz1]; exact hk) (by simp [Value.ownBlock])⟩⟩
    | some ad =>
      rcases hown.2 with ⟨he, _⟩ | ⟨g, cap, cur, he, hg, hh, h1, h2, h3, h4⟩
      · cases he
      · injection he with e1 _ _
        obtain rfl := Option.some.inj e1
        have holds : ∀ j u, inner[j]? = some u → (W.alloc (.cells cs.toArray e)).cell? ((⟨g, 0, none⟩ : Addr).add j) = some u := by
          intro j u hj
          have e1 : (⟨g, 0, none⟩ : Addr).add j = ⟨g, j, none⟩ := by unfold Addr.add; split <;> simp_all
          rw [e1]
          have hgl : g < W.heap.size := (Array.getElem?_eq_some_iff.1 hh).1
          unfold World.cell?
          rw [heap_alloc_old W _ hgl, hh]
          rw [← h4] at hj
          show cur[j]? = some u
          rw [← Array.getElem?_toList]
          rw [List.getElem?_take] at hj
          split at hj
          · exact hj
          · cases hj
        obtain ⟨v', w', hrun, r1, r2⟩ := run_append_arg_grows (P := P) (W.alloc (.cells cs.toArray e)) t o.type e i0 z d.sz bytes ht hi hz0 hz1 hz2 hz hs0 ⟨g, 0, none⟩ xs.length xs.length inner hown.1 holds ⟨W.heap.size, 0, none⟩ 1 1 cs (by simpa using hcl) hnews (by omega) (by unfold maxLen; omega) hl
        rw [hsz1] at r1
        exact ⟨v', w', hrun, r1, ⟨r2.os, r2.tape, r2.output, r2.size, fun k hk => r2.block k (by rw [hsz1]; exact hk) (by simp)⟩⟩
  obtain ⟨v1, w1, hrun, hown1, hb1⟩ := key
  rw [if_pos hw]
  unfold Oper.wp execOp
  simp only [ho, resolve, invoke, builtin, Sem.run_bind, Sem.run_pure, Result.andThen_ok, List.map_toArray, List.map_cons, List.map_nil, hs, hx, hrun]
  have hb2 : Below W.heap.size W w1 := (Below.alloc (Below.refl _ _) (Nat.le_refl _) _).trans (hb1.mono (Nat.le_succ _))
  have hsz2 : W.heap.size < w1.heap.size := by have := hb1.size; omega
  refine h v1 w1 (Kd.R_appended (okp := okp) (ok := fun _ => True) (W := W) (v := .slice A xs.length c) h0 hr hp (fun k hk => ⟨trivial, hokp k hk⟩) (fun _ _ => trivial) (own_weaken hown1 (by omega)) ⟨hb2.os, hb2.tape, hb2.output, hb2.size, fun k hk _ => hb2.block k hk⟩ (.inr ?_)) hb2 hsz2 hb1
  rcases hown1.2 with ⟨_, h0⟩ | ⟨g, cap, cur, rfl, hg, _⟩
  · omega
  · exact ⟨g, rfl, by omega⟩
end Go.Kd2
namespace Go.Proofs.Ytlepcmljmibdnaa
open Go.RowKit Go.Proofs.YtlepcmljmibdnaaW.PrintWords Go.Proofs.YtlepcmljmibdnaaW.PrintLast Go.Proofs.YtlepcmljmibdnaaW.PrintMore PDiskArms
set_option linter.unusedVariables false
set_option linter.unusedSimpArgs false
def rwriteX (X : RX) (at_ : Int) (b : List Int) : RX × Int :=
  if X.dead then (X, 50) else if inB at_ X.S.length = false then (X, 1) else if 64 < b.length then (X, 2) else
    if (ractX X).2 ≠ 0 then ractX X else ({ (ractX X).1 with cache := (ractX X).1.cache ++ [(at_, pad b)] }, 0)
/-- the cache's row was made anew -/
theorem RM.reC {w w' : World} {base B : Nat} {vS vC vB v1 : Value} {X : RX} {l : List (Int × List Int)} (h : RM w base B vS vC vB X) (hc : Below w.heap.size w w') (ho : Kd.R rwrK 106 w' base (fun _ => True) v1 l) :
    RM (w'.setCell ⟨B, 1, none⟩ v1) base B vS v1 vB { X with cache := l } ∧ TC base isRef w (w'.setCell ⟨B, 1, none⟩ v1) := by
  have h' := h.fresh hc
  exact ⟨⟨set7 h'.blk 1 v1, Kd.R_set h'.S h'.blk (fun q hq => by rcases q29 q hq with h | h <;> simp [h]) 1 _, Kd.R_set ho h'.blk (fun q hq => by rcases q106 q hq with h | h <;> simp [h]) 1 _, Kd.R_set h'.bad h'.blk (fun q hq => by simp [q4 q hq]) 1 _, h.hB⟩, (TC.of_below hc h.base_le).trans (.set h'.blk (isRef53 _) h.hB _)⟩
theorem rwr_M {w : World} {b base : Nat} {A : Option Addr} {c : Nat} {at_ : Int} {s : List Int} (h : Kd.R (Kd.int .u8) 5 w b (fun _ => True) (.slice A s.length c) s) (hb : base ≤ b) : rwrK.M w base (fun k => b ≤ k) (at_, s) [.int .i64 at_, .slice A s.length c] :=
  ⟨[.int .i64 at_], [.slice A s.length c], rfl, rfl, _, rfl, Kd.R_lower (Kd.R_mono (Kd.R_bound h) (fun k hk => hk.2.1)) hb⟩
theorem ex_row1_rwr (W : World) {o : Oper} {ρ : Operand → Value} {x : Operand} {u v : Value} (ho : o.op = .buildSlice 51 1 #[(0, x)]) (hx : ρ x = .agg #[u, v]) :
    (execOp ρ o).run Try.prog W = .ok (.value (.slice (some ⟨W.heap.size, 0, none⟩) 1 1)) (W.alloc (.cells #[u, v] 106)) := by
  obtain ⟨i, h1, h2⟩ := Option.map_eq_some_iff.1 info106e
  simp only [Prod.mk.injEq] at h2
  obtain ⟨hz, hs, _⟩ := h2
  have hs' : i.size = 2 := hs
  have h := Arr.ex_row1 (P := Try.prog) (W := W) (ρ := ρ) ho Try.underlying51 h1 hz (by omega) (by omega) (by rw [hx, hs']; rfl)
  rw [hx] at h
  exact h
set_option maxHeartbeats 2000000 in
theorem rwrite_calls (w : World) (base B : Nat) (vS vC vB : Value) (X X' : RX) (at_ r : Int) (A : Option Addr) (c : Nat) (b : List Int) (hx : rwriteX X at_ b = (X', r)) (h : RK w base B vS vC vB X) (hl : X.cache.length ≤ 1000)
    (hb : ∀ w', TC base isRef w w' → (Kd.int .u8).C w' A b.length b) :
    Calls Try.prog 26 #[.pointer (some ⟨B, 0, none⟩), .int .i64 at_, .slice A b.length c] w fun e w' => e = .returned (.int .i64 r) ∧ TC base isRef w w' ∧ ∃ vC', RK w' base B vS vC' vB X' := by
  have HR := Aside0.mk h
  have HB := Aside0.mk hb
  obtain ⟨⟨q0, q1, q2, q3, q4⟩, _⟩ := cells5 h.blk
  clear hb q0 q1 q2 q3
  by_cases hd : X.dead = true
  · rw [hd] at q4
    have hf : rwriteX X at_ b = (X, 50) := by unfold rwriteX; rw [if_pos hd]
    obtain ⟨rfl, rfl⟩ := Prod.mk.inj (hf.symm.trans hx)
    clear hf hx hd h
    go_enter Try.func26, Try.ntmps26
    go_wp2
    go_ret
    exact ⟨rfl, TC.refl _ _ _, vC, HR.out⟩
  have hd0 : X.dead = false := by simpa using hd
  rw [hd0] at q4
  by_cases hi : inB at_ X.S.length = false
  · have HI := Aside0.mk hi
    have hf : rwriteX X at_ b = (X, 1) := by unfold rwriteX; rw [if_neg hd, if_pos hi]
    obtain ⟨rfl, rfl⟩ := Prod.mk.inj (hf.symm.trans hx)
    clear hf hx hd h hi hd0
    go_enter Try.func26, Try.ntmps26
    go_wp2_with (first | (go_at_call 70; with_reducible refine (rhas_calls w base B vS vC vB X at_ false HI.out HR.out).mono ?_; rintro e w' ⟨rfl, rfl⟩))
    go_ret
    exact ⟨rfl, TC.refl _ _ _, vC, HR.out⟩
  have hi0 : inB at_ X.S.length = true := by simpa using hi
  have HI := Aside0.mk hi0
  by_cases h64 : 64 < b.length
  · have hf : rwriteX X at_ b = (X, 2) := by unfold rwriteX; rw [if_neg hd, if_neg hi, if_pos h64]
    obtain ⟨rfl, rfl⟩ := Prod.mk.inj (hf.symm.trans hx)
    have h64' : (64 : Int) < (b.length : Int) := by omega
    clear hf hx hd h hi hd0 hi0 h64
    go_enter Try.func26, Try.ntmps26
    go_wp2_with (first | (go_at_call 70; with_reducible refine (rhas_calls w base B vS vC vB X at_ true HI.out HR.out).mono ?_; rintro e w' ⟨rfl, rfl⟩))
    go_ret
    exact ⟨rfl, TC.refl _ _ _, vC, HR.out⟩
  have h64' : ¬ (64 : Int) < (b.length : Int) := by omega
  have h64n : (b.length : Int) ≤ 64 := by omega
  obtain ⟨X1, e, hact⟩ : ∃ X1 e, ractX X = (X1, e) := ⟨_, _, rfl⟩
  have hf : rwriteX X at_ b = if e ≠ 0 then (X1, e) else ({ X1 with cache := X1.cache ++ [(at_, pad b)] }, 0) := by unfold rwriteX; rw [if_neg hd, if_neg hi, if_neg h64, hact]
  have HX := Aside0.mk (hf.symm.trans hx)
  have HA := Aside0.mk hact
  have hsm := ract_same X
  rw [hact] at hsm
  have HSM := Aside0.mk hsm
  have hrng : 0 ≤ at_ ∧ at_ < X.S.length := by unfold inB at hi0; exact of_decide_eq_true hi0
  have HRG := Aside0.mk hrng
  have HH64 := Aside0.mk (show b.length ≤ 64 by omega)
  clear hf hx hd h hi hd0 hi0 h64 hact hsm hrng
  by_cases hz : e = 0
  · subst hz
    have HX' : Aside0 ({ X1 with cache := X1.cache ++ [(at_, pad b)] } = X' ∧ 0 = r) := ⟨by have := HX.out; rw [if_neg (by simp)] at this; exact Prod.mk.inj this⟩
    obtain rfl := HX'.out.2
    have HLC := Aside0.mk (show (X1.cache.length + 1) * 32 ≤ 140737488355328 by rw [HSM.out.2.1]; omega)
    go_enter Try.func26, Try.ntmps26
    go_wp2_with (first | (go_at_call 70; with_reducible refine (rhas_calls w base B vS vC vB X at_ true HI.out HR.out).mono ?_; rintro e w' ⟨rfl, rfl⟩) | (go_at_call 71; with_reducible refine (ract_calls w base B vS vC vB X X1 0 HA.out HR.out).mono ?_; rintro e w1 ⟨rfl, hr, ht, _⟩; have HR1 := Aside0.mk hr; have HT1 := Aside0.mk ht; have HBC := Aside0.mk (HB.out w1 ht); have q1 := (cells5 hr.blk).1.2.1; have hcf := Kd.R_reads hr.C; clear hr ht q4))
    obtain ⟨A0, c0, hvC, hnc, _⟩ := hcf
    subst hvC
    have q1' : w1.drew.cell? ⟨B, 1, none⟩ = some (.slice A0 X1.cache.length c0) := q1
    have hnci : (X1.cache.length : Int) ≤ (c0 : Int) := by omega
    have HBW := Aside0.mk HR1.out.base_le
    have HRD := Aside0.mk (HR1.out.toRM.fresh (Below.refl w1.heap.size w1).drew)
    refine Fork.wp_fork (Fork.Lo.rel (w1.drew.heap.size)) [22, 28] [28] (.one 0 0 (.one 1 0 (.one 2 0 (.one 3 0 (.one 5 0 (.one 6 0 (.one 7 0 (.one 10 0 (.one 11 0 (.one 12 0 (.one 16 0 (.one 17 0 (.one 19 0 (.one 20 0 (.one 21 0 (.one 4 3 (.one 8 3 (.one 9 0 (.one 13 3 (.one 14 0 (.one 15 0 (.one 18 2 (.one 22 2 (.one 23 0 (.one 24 2 (.one 25 2 (.one 26 0 (.one 27 0 (.one 28 2 .nil))))))))))))))))))))))))))))) (by kernel_rfl) (by kernel_rfl) ?_
    generalize hops : List.toArray (_ : List Oper) = ops
    have HO := Aside0.mk hops
    clear hops
    iterate 14 ((refine Fork.plain (Fork.at_ HO.out rfl) _ rfl (fun W => by go_simp; exact rfl) ?_); simp only [Act.put, List.setIfInBounds_toArray, List.set_cons_succ, List.set_cons_zero])
    refine Fork.plain (Fork.at_ HO.out rfl) _ rfl (fun W => by have q := IntWalk.i64_in (64 - (b.length : Int)) (by omega); go_simp; exact rfl) ?_
    simp only [Act.put, List.setIfInBounds_toArray, List.set_cons_succ, List.set_cons_zero]
    refine Fork.olds (Fork.at_ HO.out rfl) _ rfl (fun W hW => Arr.ex_load1 rfl rfl (by kernel_rfl) (Fork.bel_cell hW.below (by assumption))) ?_
    simp only [Act.put, List.setIfInBounds_toArray, List.set_cons_succ, List.set_cons_zero]
    refine Fork.olds (Fork.at_ HO.out rfl) _ rfl (fun W hW => Arr.ex_load1 rfl rfl (by kernel_rfl) (Fork.bel_cell hW.below (by assumption))) ?_
    simp only [Act.put, List.setIfInBounds_toArray, List.set_cons_succ, List.set_cons_zero]
    ((refine Fork.plain (Fork.at_ HO.out rfl) _ rfl (fun W => by go_simp; exact rfl) ?_); simp only [Act.put, List.setIfInBounds_toArray, List.set_cons_succ, List.set_cons_zero])
    refine Fork.olds (Fork.at_ HO.out rfl) _ rfl (fun W hW => Arr.ex_load1 rfl rfl (by kernel_rfl) (Fork.bel_cell hW.below (by assumption))) ?_
    simp only [Act.put, List.setIfInBounds_toArray, List.set_cons_succ, List.set_cons_zero]
    iterate 2 ((refine Fork.plain (Fork.at_ HO.out rfl) _ rfl (fun W => by go_simp; exact rfl) ?_); simp only [Act.put, List.setIfInBounds_toArray, List.set_cons_succ, List.set_cons_zero])
    refine Fork.step (Fork.at_ HO.out rfl) (fun K hK => ?_)
    refine Kd.R_append_rows_step (Kd.int .u8) (w0 := w1.drew) w1.drew.heap.size rfl (.const (.slice none 0 0)) (.tmp 41) 29 5 (.int .u8 0) 1 rfl Try.underlying29 info5e rfl (by decide) (by decide) (.slice none 0 0) [] b A b.length c (fun _ => True) (fun _ => False) rfl rfl (Kd.R_nil _ _ _ _ _) HBC.out (fun _ _ h => h) (fun _ h => h.elim) (fun _ _ => trivial) (Below.refl _ _) (Nat.le_refl _) (by simp; omega) ?_
    intro v1 w10 ho hb hg hat
    refine hK _ _ (.of_new hb (Nat.le_refl _)) ?_
    clear hK K
    have HR10 := Aside0.mk ho
    have HB10 := Aside0.mk hb
    obtain ⟨A10, c10, hv10⟩ := Kd.R_slice ho
    clear ho hb hg hat
    try simp only [Act.put, List.setIfInBounds_toArray, List.set_cons_succ, List.set_cons_zero]
    refine Fork.step (Fork.at_ HO.out rfl) (fun K hK => ?_)
    refine Kd.R_append_zeros_step (Kd.int .u8) (w0 := w1.drew) w1.drew.heap.size rfl (.tmp 42) (.tmp 45) 29 3 5 (.int .u8 0) 1 rfl Try.underlying29 Try.underlying3 info5e rfl (by decide) (by decide) v1 ([] ++ b) 0 (64 - (b.length : Int)) (fun _ => True) rfl rfl rfl (fun _ _ => trivial) HR10.out (by omega) HB10.out HB10.out.size (by simp; omega) ?_
    intro v2 w11 ho hb hg hat
    refine hK _ _ (.of_old (.of_below (below_after HB10.out hb hg.size)) rfl) ?_
    clear hK K
    have e64 : (64 - (b.length : Int)).toNat = 64 - b.length := by omega
    rw [List.nil_append, e64] at ho
    have hpl : (b ++ List.replicate (64 - b.length) 0) = pad b := rfl
    rw [hpl] at ho
    have HR11 := Aside0.mk ho
    have HB11 := Aside0.mk hb
    obtain ⟨A11, c11, hv11⟩ := Kd.R_slice ho
    subst hv11
    clear ho hb hg hat e64 hpl
    try simp only [Act.put, List.setIfInBounds_toArray, List.set_cons_succ, List.set_cons_zero]
    ((refine Fork.plain (Fork.at_ HO.out rfl) _ rfl (fun W => by go_simp; exact rfl) ?_); simp only [Act.put, List.setIfInBounds_toArray, List.set_cons_succ, List.set_cons_zero])
    refine Fork.step (Fork.at_ HO.out rfl) (fun K hK => ?_)
    unfold Oper.wp
    rw [ex_row1_rwr w11 rfl rfl]
    refine hK _ _ (.of_new (Below.alloc (Below.refl _ _) (Nat.le_refl _) _) HB11.out.size) ?_
    clear hK K
    try simp only [Act.put, List.setIfInBounds_toArray, List.set_cons_succ, List.set_cons_zero]
    refine Fork.step (Fork.at_ HO.out rfl) (fun K hK => ?_)
    refine Kd2.R_append_full rwrK (W := w11) base rfl (.tmp 39) (.tmp 48) 51 106 (.agg #[.int .i64 0, .slice none 0 0]) 32 rfl Try.underlying51 info106e rfl (by decide) (by decide) A0 X1.cache.length c0 X1.cache (at_, pad b) [.int .i64 at_, .slice A11 (pad b).length c11] (fun k => w1.heap.size ≤ k) rfl rfl (rwr_M HR11.out HBW.out) (fun k hk => Kd.fresh_ok HR1.out.C k hk) (HRD.out.fresh HB11.out).C (Nat.le_trans HBW.out HB11.out.size) HLC.out ?_
    intro v3 w12 ho hb hs hb1
    refine hK _ _ (.of_new ?_ (Nat.le_trans HB11.out.size (by rw [alloc_size]; exact Nat.le_succ _))) ?_
    · rw [alloc_size]; exact hb1
    clear hK K
    have hbb := HB11.out.trans (hb.mono HB11.out.size)
    have hblk := (HRD.out.fresh hbb).blk
    obtain ⟨⟨r0, r1, r2, r3, r4⟩, g0, g1, g2, g3, g4⟩ := cells5 hblk
    clear r0 r2 r3 r4 g0 g2 g3 g4 hblk
    have HR12 := Aside0.mk ho
    have HB12 := Aside0.mk hbb
    obtain ⟨A12, c12, hv12⟩ := Kd.R_slice ho
    generalize (X1.cache ++ [(at_, pad b)]).length = n12 at hv12
    subst hv12
    clear ho hb hs hb1 hbb
    try simp only [Act.put, List.setIfInBounds_toArray, List.set_cons_succ, List.set_cons_zero]
    iterate 2 ((refine Fork.plain (Fork.at_ HO.out rfl) _ rfl (fun W => by go_simp; exact rfl) ?_); simp only [Act.put, List.setIfInBounds_toArray, List.set_cons_succ, List.set_cons_zero])
    refine Fork.step (Fork.at_ HO.out rfl) (fun K hK => ?_)
    go_simp
    refine hK _ _ (.of_any rfl rfl) ?_
    clear hK K
    try simp only [Act.put, List.setIfInBounds_toArray, List.set_cons_succ, List.set_cons_zero]
    refine Fork.done ?_
    go_wp2
    go_ret
    obtain ⟨k1, k2⟩ := HRD.out.reC HB12.out HR12.out
    rw [← HX'.out.1]
    refine ⟨rfl, HT1.out.drew.trans k2, _, k1, ⟨HR1.out.ok.s64, fun p hp => ?_, HR1.out.ok.hb, HR1.out.ok.hl, HR1.out.ok.hn⟩⟩
    simp only [List.mem_append, List.mem_singleton] at hp
    rcases hp with hp | rfl
    · exact HR1.out.ok.c64 p hp
    · have := HRG.out
      rw [← HSM.out.1] at this
      exact ⟨pad_length b HH64.out, this.1, this.2⟩
  · have hz' : (e == 0) = false := by simpa using hz
    have HX' : Aside0 (X1 = X' ∧ e = r) := ⟨by have := HX.out; rw [if_pos hz] at this; exact Prod.mk.inj this⟩
    obtain ⟨rfl, rfl⟩ := HX'.out
    clear hz
    go_enter Try.func26, Try.ntmps26
    go_wp2_with (first | (go_at_call 70; with_reducible refine (rhas_calls w base B vS vC vB X at_ true HI.out HR.out).mono ?_; rintro e w' ⟨rfl, rfl⟩) | (go_at_call 71; with_reducible refine (ract_calls w base B vS vC vB X X1 e HA.out HR.out).mono ?_; rintro e' w1 ⟨rfl, hr, ht, _⟩; have HR1 := Aside0.mk hr; have HT1 := Aside0.mk ht; clear hr ht))
    go_ret
    exact ⟨rfl, HT1.out, vC, HR1.out⟩
end Go.Proofs.Ytlepcmljmibdnaa
namespace Go.Proofs.Ytlepcmljmibdnaa
open Go.RowKit Go.Proofs.YtlepcmljmibdnaaW.PrintWords Go.Proofs.YtlepcmljmibdnaaW.PrintLast Go.Proofs.YtlepcmljmibdnaaW.PrintMore PDiskArms
set_option linter.unusedVariables false
set_option linter.unusedSimpArgs false
def rwipeX (X : RX) : RX := rnewX X.S.length
def rcloneX (X : RX) : RX := { rnewX X.S.length with S := X.S }
def RCloneP (w : World) (X : RX) (e : Ending) (w' : World) : Prop := ∃ B' vS' vB', e = .returned (.pointer (some ⟨B', 0, none⟩)) ∧ RK w' w.heap.size B' vS' (.slice none 0 0) vB' (rcloneX X) ∧ Below w.heap.size w w'
def half (S : List (List Int)) (i : Nat) : List (List Int) := S.take i ++ List.replicate (S.length - i) zsec
end Go.Proofs.Ytlepcmljmibdnaa
namespace Go.Proofs.Ytlepcmljmibdnaa
open Go.RowKit Go.Proofs.YtlepcmljmibdnaaW.PrintWords Go.Proofs.YtlepcmljmibdnaaW.PrintLast Go.Proofs.YtlepcmljmibdnaaW.PrintMore PDiskArms
set_option linter.unusedVariables false
set_option linter.unusedSimpArgs false
structure Corr (D : PD) (X : RX) : Prop where
  n : D.n = X.S.length
  cache : D.cache = X.cache
  dead : D.dead = X.dead
  armed : D.armed = decide (0 ≤ X.left)
  left : 0 ≤ X.left → D.left = X.left
  S : ∀ (i : Nat) s, X.S[i]? = some s → (D.kept i).getD zsec = s
  bad : ∀ (i : Nat) b, X.bad[i]? = some b → D.bad i = b
theorem corr_new (n : Int) : Corr (newP n) (rnewX (rnewN n)) := by
  refine ⟨?_, rfl, rfl, rfl, fun h => ?_, fun i s hs => ?_, fun i b hb => ?_⟩
  · simp only [newP, rnewX, List.length_replicate, rnewN]; omega
  · simp [rnewX] at h
  · simp only [rnewX, List.getElem?_replicate] at hs
    split at hs
    · exact Option.some.inj hs
    · cases hs
  · simp only [rnewX, List.getElem?_replicate] at hb
    split at hb
    · exact Option.some.inj hb
    · cases hb
theorem corr_act {D : PD} {X : RX} (h : Corr D X) : (actP D).2 = (ractX X).2 ∧ Corr (actP D).1 (ractX X).1 := by
  obtain ⟨n, kept, cache, bad, armed, left, dead⟩ := D
  obtain ⟨S, c, b, l, d⟩ := X
  obtain ⟨h1, h2, h3, h4, h5, h6, h7⟩ := h
  simp only at h1 h2 h3 h4 h5 h6 h7
  subst h3
  cases dead with
  | true => simp only [actP, ractX, Bool.true_or, if_true]; exact ⟨by simp, ⟨h1, h2, rfl, h4, h5, h6, h7⟩⟩
  | false =>
    by_cases hl : 0 ≤ l
    · have ha : armed = true := by rw [h4]; simpa using hl
      have := h5 hl
      subst this
      subst ha
      by_cases hz : left = 0
      · subst hz
        simp only [actP, ractX]
        exact ⟨by simp, ⟨h1, h2, rfl, rfl, h5, h6, h7⟩⟩
      · have e1 : actP { n := n, kept := kept, cache := cache, bad := bad, armed := true, left := left, dead := false } = ({ n := n, kept := kept, cache := cache, bad := bad, armed := true, left := left - 1, dead := false }, 0) := by simp [actP, hz]
        have e2 : ractX { S := S, cache := c, bad := b, left := left, dead := false } = ({ S := S, cache := c, bad := b, left := left - 1, dead := false }, 0) := by simp [ractX, hz]; omega
        rw [e1, e2]
        exact ⟨rfl, ⟨h1, h2, rfl, by simp; omega, fun _ => rfl, h6, h7⟩⟩
    · have ha : armed = false := by rw [h4]; simpa using hl
      subst ha
      have e1 : actP { n := n, kept := kept, cache := cache, bad := bad, armed := false, left := left, dead := false } = ({ n := n, kept := kept, cache := cache, bad := bad, armed := false, left := left, dead := false }, 0) := by simp [actP]
      have e2 : ractX { S := S, cache := c, bad := b, left := l, dead := false } = ({ S := S, cache := c, bad := b, left := l, dead := false }, 0) := by
        have : ¬ 0 < l := by omega
        have h0 : ¬ l = 0 := by omega
        simp [ractX, this, h0]
      rw [e1, e2]
      exact ⟨rfl, ⟨h1, h2, rfl, h4, h5, h6, h7⟩⟩
theorem corr_write {D : PD} {X : RX} (h : Corr D X) (at_ : Int) (b : List Int) : (writeP D at_ b).2 = (rwriteX X at_ b).2 ∧ Corr (writeP D at_ b).1 (rwriteX X at_ b).1 := by
  unfold writeP rwriteX
  rw [h.dead, h.n]
  by_cases h1 : X.dead = true
  · rw [if_pos h1, if_pos h1]; exact ⟨rfl, h⟩
  rw [if_neg h1, if_neg h1]
  by_cases h2 : inB at_ X.S.length = false
  · rw [if_pos h2, if_pos h2]; exact ⟨rfl, h⟩
  rw [if_neg h2, if_neg h2]
  by_cases h3 : 64 < b.length
  · rw [if_pos h3, if_pos h3]; exact ⟨rfl, h⟩
  rw [if_neg h3, if_neg h3]
  obtain ⟨k1, k2⟩ := corr_act h
  rw [k1]
  by_cases h4 : (ractX X).2 ≠ 0
  · rw [if_pos h4, if_pos h4]; exact ⟨k1, k2⟩
  · rw [if_neg h4, if_neg h4]
    exact ⟨rfl, ⟨k2.n, by simp only []; rw [k2.cache], k2.dead, k2.armed, k2.left, k2.S, k2.bad⟩⟩
theorem corr_put {D : PD} {S : List (List Int)} (h : ∀ (i : Nat) s, S[i]? = some s → (D.kept i).getD zsec = s) (p : Int × List Int) (hp : 0 ≤ p.1) :
    ∀ (i : Nat) s, (S.set p.1.toNat p.2)[i]? = some s → ((keepP D p).kept i).getD zsec = s := by
  intro i s hs
  rw [keepP_at]
  rw [List.getElem?_set] at hs
  by_cases hi : p.1.toNat = i
  · rw [if_pos hi] at hs
    rw [if_pos (by omega)]
    split at hs
    · exact Option.some.inj hs
    · cases hs
  · rw [if_neg hi] at hs
    rw [if_neg (by omega)]
    exact h i s hs
theorem corr_puts {D : PD} {S : List (List Int)} (l : List (Int × List Int)) (h : ∀ (i : Nat) s, S[i]? = some s → (D.kept i).getD zsec = s) (hl : ∀ p ∈ l, 0 ≤ p.1) :
    ∀ (i : Nat) s, (rputs S l)[i]? = some s → ((keepAll D l).kept i).getD zsec = s := by
  induction l generalizing D S with
  | nil => exact h
  | cons p l ih => exact ih (corr_put h p (hl p (by simp))) (fun q hq => hl q (by simp [hq]))
theorem corr_flush {D : PD} {X : RX} (h : Corr D X) (hx : XOk X) : (flushP D).2 = (rflushX X).2 ∧ Corr (flushP D).1 (rflushX X).1 := by
  unfold flushP rflushX
  obtain ⟨k1, k2⟩ := corr_act h
  rw [k1]
  by_cases h4 : (ractX X).2 ≠ 0
  · rw [if_pos h4, if_pos h4]; exact ⟨k1, k2⟩
  · rw [if_neg h4, if_neg h4]
    have hs := ract_same X
    refine ⟨rfl, ⟨?_, rfl, ?_, ?_, ?_, ?_, ?_⟩⟩
    · simp only []; rw [(keepAll_more _ _).1, k2.n, rputs_len, hs.1]
    · simp only []; rw [(keepAll_same _ _).1]; exact k2.dead
    · simp only []; rw [(keepAll_same _ _).2.1]; exact k2.armed
    · simp only []; rw [(keepAll_same _ _).2.2]; exact k2.left
    · simp only []
      rw [k2.cache, hs.2.1]
      refine corr_puts X.cache (fun i s hs' => k2.S i s (by rw [hs.1]; exact hs')) (fun p hp => (hx.c64 p hp).2.1)
    · simp only []; rw [(keepAll_more _ _).2]; exact k2.bad
theorem corr_fault {D : PD} {X : RX} (h : Corr D X) (at_ : Int) (on : Bool) : Corr (faultP D at_ on) (rfaultX X at_ on) := by
  unfold faultP rfaultX
  rw [h.n]
  by_cases h2 : inB at_ X.S.length = false
  · rw [if_pos h2, if_pos h2]; exact h
  rw [if_neg h2, if_neg h2]
  have hr : 0 ≤ at_ ∧ at_ < X.S.length := by
    have : inB at_ X.S.length = true := by simpa using h2
    exact of_decide_eq_true this
  refine ⟨rfl, h.cache, h.dead, h.armed, h.left, h.S, fun i b hb => ?_⟩
  simp only [] at hb ⊢
  rw [List.getElem?_set] at hb
  by_cases hi : at_.toNat = i
  · rw [if_pos hi] at hb
    rw [if_pos (by omega)]
    split at hb
    · exact Option.some.inj hb
    · cases hb
  · rw [if_neg hi] at hb
    rw [if_neg (by omega)]
    exact h.bad i b hb
theorem corr_read {D : PD} {X : RX} (h : Corr D X) (hx : XOk X) (at_ : Int) : readP D at_ = rreadX X at_ := by
  unfold readP rreadX
  rw [h.dead, h.n]
  by_cases h1 : X.dead = true
  · rw [if_pos h1, if_pos h1]
  rw [if_neg h1, if_neg h1]
  by_cases h2 : inB at_ X.S.length = false
  · rw [if_pos h2, if_pos h2]
  rw [if_neg h2, if_neg h2]
  have hr : 0 ≤ at_ ∧ at_ < X.S.length := by
    have : inB at_ X.S.length = true := by simpa using h2
    exact of_decide_eq_true this
  obtain ⟨a, rfl⟩ : ∃ a : Nat, at_ = (a : Int) := ⟨at_.toNat, by omega⟩
  have hb : X.bad[a]? = some (X.bad.getD a false) := by
    have : a < X.bad.length := by rw [hx.hb]; omega
    simp [List.getD, List.getElem?_eq_getElem this]
  have hs : X.S[a]? = some (X.S.getD a []) := by
    have : a < X.S.length := by omega
    simp [List.getD, List.getElem?_eq_getElem this]
  rw [Int.toNat_natCast, h.bad a _ hb, h.cache, h.S a _ hs]
end Go.Proofs.Ytlepcmljmibdnaa
namespace Go.Proofs.Ytlepcmljmibdnaa
open Go.RowKit Go.Proofs.YtlepcmljmibdnaaW.PrintWords Go.Proofs.YtlepcmljmibdnaaW.PrintLast Go.Proofs.YtlepcmljmibdnaaW.PrintMore PDiskArms
set_option linter.unusedVariables false
set_option linter.unusedSimpArgs false
def isDR (o : Obj) : Prop := isDisk o ∨ isRef o
structure Both (w0 w : World) (B M Bd : Nat) (vc : Value) (D : PD) (R : Nat) (vS vC vB : Value) (X : RX) : Prop where
  dk : DK w w0.heap.size B M Bd vc D
  rk : RK w w0.heap.size R vS vC vB X
  low : Below w0.heap.size w0 w
section
variable {w0 w w' : World} {B M Bd R : Nat} {vc vS vC vB : Value} {D D' : PD} {X X' : RX}
theorem Both.fresh (h : Both w0 w B M Bd vc D R vS vC vB X) (hb : Below w.heap.size w w') : Both w0 w' B M Bd vc D R vS vC vB X :=
  ⟨h.dk.chg (.of_below hb), h.rk.fresh hb, h.low.trans (hb.mono h.low.size)⟩
theorem Both.disk {vc' : Value} {D' : PD} (h : Both w0 w B M Bd vc D R vS vC vB X) (hd : DK w' w0.heap.size B M Bd vc' D') (hc : Chg w w' (FP B M Bd vc)) : Both w0 w' B M Bd vc' D' R vS vC vB X ∧ TC w0.heap.size isDR w w' := by
  have ht := h.dk.tc hc
  exact ⟨⟨hd, h.rk.disk ht, h.low.trans ht.low⟩, ht.mono fun _ h => .inl h⟩
theorem Both.ref {vS' vC' vB' : Value} {X' : RX} (h : Both w0 w B M Bd vc D R vS vC vB X) (hr : RK w' w0.heap.size R vS' vC' vB' X') (ht : TC w0.heap.size isRef w w') : Both w0 w' B M Bd vc D R vS' vC' vB' X' ∧ TC w0.heap.size isDR w w' :=
  ⟨⟨h.dk.ref ht, hr, h.low.trans ht.low⟩, ht.mono fun _ h => .inr h⟩
theorem bo_write (at_ e : Int) (A : Option Addr) (c : Nat) (b : List Int) (hw : writeP D at_ b = (D', e)) (hl : D.cache.length ≤ 1000) (hb : (Kd.int .u8).C w0 A b.length b) (h : Both w0 w B M Bd vc D R vS vC vB X) :
    Calls Try.prog 17 #[.pointer (some ⟨B, 0, none⟩), .int .i64 at_, .slice A b.length c] w fun r w' => r = .returned (.int .i64 e) ∧ TC w0.heap.size isDR w w' ∧ ∃ vc', Both w0 w' B M Bd vc' D' R vS vC vB X := by
  refine (write_calls w w0.heap.size B M Bd vc D at_ A c b hl h.dk.base_le h.dk (fun w' hc => Kd.C_below hb (h.low.trans (h.dk.tc hc).low))).mono ?_
  rw [hw]
  rintro r w' ⟨rfl, vc', hd, _, hc⟩
  obtain ⟨k1, k2⟩ := h.disk hd hc
  exact ⟨rfl, k2, vc', k1⟩
theorem bo_rwrite (at_ e : Int) (A : Option Addr) (c : Nat) (b : List Int) (hw : rwriteX X at_ b = (X', e)) (hl : X.cache.length ≤ 1000) (hb : (Kd.int .u8).C w0 A b.length b) (h : Both w0 w B M Bd vc D R vS vC vB X) :
    Calls Try.prog 26 #[.pointer (some ⟨R, 0, none⟩), .int .i64 at_, .slice A b.length c] w fun r w' => r = .returned (.int .i64 e) ∧ TC w0.heap.size isDR w w' ∧ ∃ vC', Both w0 w' B M Bd vc D R vS vC' vB X' := by
  refine (rwrite_calls w w0.heap.size R vS vC vB X X' at_ e A c b hw h.rk hl (fun w' hc => Kd.C_below hb (h.low.trans hc.low))).mono ?_
  rintro r w' ⟨rfl, ht, vC', hr⟩
  obtain ⟨k1, k2⟩ := h.ref hr ht
  exact ⟨rfl, k2, vC', k1⟩
theorem bo_fault (at_ : Int) (on : Bool) (hw : faultP D at_ on = D') (h : Both w0 w B M Bd vc D R vS vC vB X) :
    Calls Try.prog 31 #[.pointer (some ⟨B, 0, none⟩), .int .i64 at_, .bool on] w fun r w' => r = .returned (.tuple #[]) ∧ TC w0.heap.size isDR w w' ∧ Both w0 w' B M Bd vc D' R vS vC vB X := by
  subst hw
  refine (fault_calls w w0.heap.size B M Bd vc D at_ on h.dk).mono ?_
  rintro r w' ⟨rfl, hd, hc⟩
  obtain ⟨k1, k2⟩ := h.disk hd (hc.mono fun k hk => .inr (.inr (.inl hk)))
  exact ⟨rfl, k2, k1⟩
theorem bo_rfault (at_ : Int) (on : Bool) (hw : rfaultX X at_ on = X') (h : Both w0 w B M Bd vc D R vS vC vB X) :
    Calls Try.prog 32 #[.pointer (some ⟨R, 0, none⟩), .int .i64 at_, .bool on] w fun r w' => r = .returned (.tuple #[]) ∧ TC w0.heap.size isDR w w' ∧ Both w0 w' B M Bd vc D R vS vC vB X' := by
  subst hw
  refine (rfault_calls w w0.heap.size R vS vC vB X at_ on h.rk).mono ?_
  rintro r w' ⟨rfl, hr, ht⟩
  obtain ⟨k1, k2⟩ := h.ref hr ht
  exact ⟨rfl, k2, k1⟩
theorem bo_new (n : Int) (hb : Below w0.heap.size w0 w) :
    Calls Try.prog 15 #[.int .i64 n] w fun e w' => ∃ B M Bd, e = .returned (.pointer (some ⟨B, 0, none⟩)) ∧ DK w' w0.heap.size B M Bd (.slice none 0 0) (newP n) ∧ Below w0.heap.size w0 w' := by
  refine (new_calls w w0.heap.size hb.size n).mono ?_
  rintro e w' ⟨B, M, Bd, rfl, hd, hb'⟩
  exact ⟨B, M, Bd, rfl, hd, hb.trans hb'⟩
theorem bo_rnew (n : Int) (hb : Below w0.heap.size w0 w) (hd : DK w w0.heap.size B M Bd vc D) :
    Calls Try.prog 25 #[.int .i64 n] w fun e w' => ∃ R vS vB, e = .returned (.pointer (some ⟨R, 0, none⟩)) ∧ Both w0 w' B M Bd vc D R vS (.slice none 0 0) vB (rnewX (rnewN n)) := by
  refine (rnew_calls w n).mono ?_
  rintro e w' ⟨R, vS, vB, rfl, hr, hb'⟩
  exact ⟨R, vS, vB, rfl, hd.chg (.of_below hb'), ⟨hr.low hb.size, rnew_ok _ (by unfold rnewN; omega)⟩, hb.trans (hb'.mono hb.size)⟩
end
end Go.Proofs.Ytlepcmljmibdnaa
namespace Go.Proofs.Ytlepcmljmibdnaa
open Go.RowKit Go.Proofs.YtlepcmljmibdnaaW.PrintWords Go.Proofs.YtlepcmljmibdnaaW.PrintLast Go.Proofs.YtlepcmljmibdnaaW.PrintMore PWalOpens
set_option linter.unusedVariables false
set_option linter.unusedSimpArgs false
theorem rwriteX_cache (X : RX) (at_ : Int) (b : List Int) : (rwriteX X at_ b).1.cache.length ≤ X.cache.length + 1 := by
  have h : (ractX X).1.cache = X.cache := (ract_same X).2.1
  unfold rwriteX
  repeat' split
  all_goals simp only [h, List.length_append, List.length_cons, List.length_nil]; omega
theorem rflushX_cache (X : RX) : (rflushX X).1.cache.length ≤ X.cache.length := by
  have h : (ractX X).1.cache = X.cache := (ract_same X).2.1
  unfold rflushX
  split
  · rw [h]; omega
  · simp
def rsaveX (X : RX) (g : Int) (l : List Int) : RX × Int :=
  if 4 < l.length then (X, 2) else if (rflushX X).2 ≠ 0 then rflushX X else
    if (rwriteX (rflushX X).1 (g % 2) (slotB g l)).2 ≠ 0 then rwriteX (rflushX X).1 (g % 2) (slotB g l) else rflushX (rwriteX (rflushX X).1 (g % 2) (slotB g l)).1
def RvQ (w : World) (base R : Nat) (vS vB : Value) (X' : RX) (e : Int) (r : Ending) (w' : World) : Prop := r = .returned (.int .i64 e) ∧ TC base isRef w w' ∧ ∃ vC', RK w' base R vS vC' vB X'
theorem OwnB.tc {w w' : World} {base base' : Nat} {v : Value} {xs : List Int} (h : OwnB w base v xs) (hc : TC base' isRef w w') : OwnB w' base v xs :=
  Kd.R_mono (Kd.R_bound (R_tc h hc (fun q hq cells ht => by
    have e : (5 : Nat) :: (Kd.int .u8).E = [5] := rfl
    rw [e] at hq
    have : q = 5 := by simpa using hq
    subst this
    rcases ht with h | h | h <;> cases h))) (fun k hk => hk.2.1)
theorem OwnB.C {w : World} {b n c : Nat} {A : Option Addr} {xs : List Int} (h : OwnB w b (.slice A n c) xs) : (Kd.int .u8).C w A xs.length xs := (Kd.R_reads' h).2.2
section
variable {w : World} {base R : Nat} {vS vC vB : Value} {X X1 X2 X3 : RX} {g : Int} {l : List Int} {A : Option Addr} {c : Nat} {e : Int}
theorem rsave_long (hl : 4 < l.length) (h : RK w base R vS vC vB X) : Calls Try.prog 43 #[.pointer (some ⟨R, 0, none⟩), .int .u64 g, .slice A l.length c] w (RvQ w base R vS vB X 2) := by
  have HD := Aside0.mk h
  have HS := Aside0.mk (rslot_long w g l A c hl)
  clear h hl
  go_enter Try.func43, Try.ntmps43
  go_wp2_with (first
    | (go_at_call 38; (with_reducible refine HS.out.mono ?_); rintro e w2 ⟨rfl, rfl⟩))
  go_ret
  exact ⟨rfl, TC.refl _ _ _, vC, HD.out⟩
theorem rsave_f1 (he : e ≠ 0) (hf : rflushX X = (X1, e)) (hg : 0 ≤ g ∧ g < 18446744073709551616) (hn : ∀ n ∈ l, 0 ≤ n ∧ n < 18446744073709551616) (hl : l.length ≤ 4) (hC : (Kd.int .u64).C w A l.length l) (hc : X.cache.length ≤ 1000) (h : RK w base R vS vC vB X) : Calls Try.prog 43 #[.pointer (some ⟨R, 0, none⟩), .int .u64 g, .slice A l.length c] w (RvQ w base R vS vB X1 e) := by
  have HD := Aside0.mk h
  have HBB := Aside0.mk h.base_le
  have HS := Aside0.mk (rslot_calls w g l A c hg hn hl hC)
  have HC := Aside0.mk hc
  have HF := Aside0.mk hf
  have hb : (e != 0) = true := by simpa using he
  clear h hl hg hn hC hc hf
  go_enter Try.func43, Try.ntmps43
  go_wp2_with (first
    | (go_at_call 38; (with_reducible refine HS.out.mono ?_); rintro e w2 ⟨A2, c2, rfl, hr, hb⟩; have HR2 := Aside0.mk hr; have HD2 := Aside0.mk (HD.out.fresh hb); have HT2 := Aside0.mk (TC.of_below (T := isRef) hb HBB.out); clear hr hb)
    | (go_at_call 28; (with_reducible refine (rflush_calls w2 base R vS vC vB X X1 e HF.out HD2.out HC.out).mono ?_); rintro e w3 ⟨rfl, ht, vc3, hd⟩; have HD3 := Aside0.mk hd; have HT3 := Aside0.mk (HT2.out.trans ht); clear hd ht))
  go_ret
  exact ⟨rfl, HT3.out, vc3, HD3.out⟩
theorem rsave_go (hf : rflushX X = (X1, 0)) (hw : rwriteX X1 (g % 2) (slotB g l) = (X2, 0)) (hf3 : rflushX X2 = (X3, e)) (hg : 0 ≤ g ∧ g < 18446744073709551616) (hn : ∀ n ∈ l, 0 ≤ n ∧ n < 18446744073709551616) (hl : l.length ≤ 4) (hC : (Kd.int .u64).C w A l.length l) (hc : X.cache.length ≤ 1000) (hc3 : X1.cache.length ≤ 1000 ∧ X2.cache.length ≤ 1000) (h : RK w base R vS vC vB X) : Calls Try.prog 43 #[.pointer (some ⟨R, 0, none⟩), .int .u64 g, .slice A l.length c] w (RvQ w base R vS vB X3 e) := by
  have HD := Aside0.mk h
  have HBB := Aside0.mk h.base_le
  have HS := Aside0.mk (rslot_calls w g l A c hg hn hl hC)
  have HC := Aside0.mk hc
  have HF := Aside0.mk hf
  have HC3 := Aside0.mk hc3
  have HW := Aside0.mk hw
  have HF3 := Aside0.mk hf3
  obtain ⟨want, hwant⟩ : ∃ want, slotB g l = want := ⟨_, rfl⟩
  rw [hwant] at HS HW
  obtain ⟨hg0, hg1⟩ := hg
  clear h hl hn hC hc hf hc3 hw hf3 hwant
  go_enter Try.func43, Try.ntmps43
  go_wp2_with (first
    | (go_at_call 38; (with_reducible refine HS.out.mono ?_); rintro e w2 ⟨A2, c2, rfl, hr, hb⟩; have HR2 := Aside0.mk hr; have HD2 := Aside0.mk (HD.out.fresh hb); have HT2 := Aside0.mk (TC.of_below (T := isRef) hb HBB.out); clear hr hb)
    | (go_at_call 28; (with_reducible refine (rflush_calls w2 base R vS vC vB X X1 0 HF.out HD2.out HC.out).mono ?_); rintro e w3 ⟨rfl, ht, vc3, hd⟩; have HD3 := Aside0.mk hd; have HT3 := Aside0.mk (HT2.out.trans ht); have HR3 := Aside0.mk (HR2.out.tc ht); clear hd ht)
    | (go_at_call 26; (with_reducible refine (rwrite_calls w3 base R vS vc3 vB X1 X2 (g % 2) 0 A2 c2 want HW.out HD3.out HC3.out.1 (fun w' hc => (HR3.out.tc hc).C)).mono ?_); rintro e w4 ⟨rfl, ht, vc4, hd⟩; have HD4 := Aside0.mk hd; have HT4 := Aside0.mk (HT3.out.trans ht); clear hd ht)
    | (go_at_call 28; (with_reducible refine (rflush_calls w4 base R vS vc4 vB X2 X3 e HF3.out HD4.out HC3.out.2).mono ?_); rintro e w5 ⟨rfl, ht, vc5, hd⟩; have HD5 := Aside0.mk hd; have HT5 := Aside0.mk (HT4.out.trans ht); clear hd ht))
  go_ret
  exact ⟨rfl, HT5.out, vc5, HD5.out⟩
theorem rsave_w (he : e ≠ 0) (hf : rflushX X = (X1, 0)) (hw : rwriteX X1 (g % 2) (slotB g l) = (X2, e)) (hg : 0 ≤ g ∧ g < 18446744073709551616) (hn : ∀ n ∈ l, 0 ≤ n ∧ n < 18446744073709551616) (hl : l.length ≤ 4) (hC : (Kd.int .u64).C w A l.length l) (hc : X.cache.length ≤ 1000) (hc3 : X1.cache.length ≤ 1000) (h : RK w base R vS vC vB X) : Calls Try.prog 43 #[.pointer (some ⟨R, 0, none⟩), .int .u64 g, .slice A l.length c] w (RvQ w base R vS vB X2 e) := by
  have HD := Aside0.mk h
  have HBB := Aside0.mk h.base_le
  have HS := Aside0.mk (rslot_calls w g l A c hg hn hl hC)
  have HC := Aside0.mk hc
  have HF := Aside0.mk hf
  have HC3 := Aside0.mk hc3
  have HW := Aside0.mk hw
  have hbe : (e != 0) = true := by simpa using he
  obtain ⟨want, hwant⟩ : ∃ want, slotB g l = want := ⟨_, rfl⟩
  rw [hwant] at HS HW
  obtain ⟨hg0, hg1⟩ := hg
  clear h hl hn hC hc hf hc3 hw hwant
  go_enter Try.func43, Try.ntmps43
  go_wp2_with (first
    | (go_at_call 38; (with_reducible refine HS.out.mono ?_); rintro e w2 ⟨A2, c2, rfl, hr, hb⟩; have HR2 := Aside0.mk hr; have HD2 := Aside0.mk (HD.out.fresh hb); have HT2 := Aside0.mk (TC.of_below (T := isRef) hb HBB.out); clear hr hb)
    | (go_at_call 28; (with_reducible refine (rflush_calls w2 base R vS vC vB X X1 0 HF.out HD2.out HC.out).mono ?_); rintro e w3 ⟨rfl, ht, vc3, hd⟩; have HD3 := Aside0.mk hd; have HT3 := Aside0.mk (HT2.out.trans ht); have HR3 := Aside0.mk (HR2.out.tc ht); clear hd ht)
    | (go_at_call 26; (with_reducible refine (rwrite_calls w3 base R vS vc3 vB X1 X2 (g % 2) e A2 c2 want HW.out HD3.out HC3.out (fun w' hc => (HR3.out.tc hc).C)).mono ?_); rintro e w4 ⟨rfl, ht, vc4, hd⟩; have HD4 := Aside0.mk hd; have HT4 := Aside0.mk (HT3.out.trans ht); clear hd ht))
  go_ret
  exact ⟨rfl, HT4.out, vc4, HD4.out⟩
theorem rsave_calls (hsv : rsaveX X g l = (X1, e)) (hg : 0 ≤ g ∧ g < 18446744073709551616) (hn : ∀ n ∈ l, 0 ≤ n ∧ n < 18446744073709551616) (hC : (Kd.int .u64).C w A l.length l) (hc : X.cache.length ≤ 900) (h : RK w base R vS vC vB X) :
    Calls Try.prog 43 #[.pointer (some ⟨R, 0, none⟩), .int .u64 g, .slice A l.length c] w (RvQ w base R vS vB X1 e) := by
  unfold rsaveX at hsv
  split at hsv
  · cases hsv
    exact rsave_long (by assumption) h
  · rename_i hl
    have q1 := rflushX_cache X
    have q2 := rwriteX_cache (rflushX X).1 (g % 2) (slotB g l)
    obtain ⟨Da, ea, hf⟩ : ∃ Da ea, rflushX X = (Da, ea) := ⟨_, _, rfl⟩
    rw [hf] at hsv q1 q2
    simp only at hsv q1 q2
    obtain ⟨Db, eb, hw⟩ : ∃ Db eb, rwriteX Da (g % 2) (slotB g l) = (Db, eb) := ⟨_, _, rfl⟩
    rw [hw] at hsv q2
    simp only at hsv q2
    split at hsv
    · cases hsv
      exact rsave_f1 (by assumption) hf hg hn (by omega) hC (by omega) h
    · rename_i he
      obtain rfl : ea = 0 := by simpa using he
      split at hsv
      · cases hsv
        exact rsave_w (by assumption) hf hw hg hn (by omega) hC (by omega) (by omega) h
      · rename_i he
        obtain rfl : eb = 0 := by simpa using he
        exact rsave_go hf hw hsv hg hn (by omega) hC (by omega) ⟨by omega, by omega⟩ h
end
end Go.Proofs.Ytlepcmljmibdnaa
namespace Go.Proofs.Ytlepcmljmibdnaa
open Go.RowKit Go.Proofs.YtlepcmljmibdnaaW.PrintWords Go.Proofs.YtlepcmljmibdnaaW.PrintLast Go.Proofs.YtlepcmljmibdnaaW.PrintMore PWalOpens
set_option linter.unusedVariables false
set_option linter.unusedSimpArgs false
noncomputable def formatP (D : PD) (l : List Int) : PD × Int :=
  if (writeP D 0 []).2 ≠ 0 then writeP D 0 [] else if (writeP (writeP D 0 []).1 1 []).2 ≠ 0 then writeP (writeP D 0 []).1 1 [] else saveP (writeP (writeP D 0 []).1 1 []).1 0 l
def rformatX (X : RX) (l : List Int) : RX × Int :=
  if (rwriteX X 0 []).2 ≠ 0 then rwriteX X 0 [] else if (rwriteX (rwriteX X 0 []).1 1 []).2 ≠ 0 then rwriteX (rwriteX X 0 []).1 1 [] else rsaveX (rwriteX (rwriteX X 0 []).1 1 []).1 0 l
section
variable {w : World} {base B M Bd : Nat} {vc : Value} {D D' : PD} {l : List Int} {A : Option Addr} {c : Nat} {e : Int}
theorem format_go (Df : Nat → PD) (Er : Nat → Int) (h0 : Df 0 = D) (hs : ∀ i, i < 2 → writeP (Df i) (i : Int) [] = (Df (i + 1), Er i)) (hcl : ∀ i, i ≤ 2 → (Df i).cache.length ≤ 900)
    (hE : ∀ i, i < 2 → (∀ j, j < i → Er j = 0) → Er i ≠ 0 → D' = Df (i + 1) ∧ e = Er i) (hO : (∀ j, j < 2 → Er j = 0) → saveP (Df 2) 0 l = (D', e))
    (hn : ∀ n ∈ l, 0 ≤ n ∧ n < 18446744073709551616) (hC : ∀ w', Chg w w' (FP B M Bd vc) → (Kd.int .u64).C w' A l.length l) (h : DK w base B M Bd vc D) :
    Calls Try.prog 46 #[.pointer (some ⟨B, 0, none⟩), .slice A l.length c] w (SvQ w B M Bd vc D' e) := by
  have HD := Aside0.mk (At.refl h)
  have HC := Aside0.mk hC
  have HN := Aside0.mk hn
  have HS := Aside0.mk hs
  have HL := Aside0.mk hcl
  have HE := Aside0.mk hE
  have HO := Aside0.mk hO
  have H0 := Aside0.mk h0
  clear h hn hC hs hcl hE hO h0
  go_enter Try.func46, Try.ntmps46
  go_wp2
  go_loopg [7] 2 (fun kq v7 w' => ∃ (i : Nat) (vc' : Value), v7 = .int .i64 (i : Int) ∧ Aside0 (i + kq = 2) ∧ Aside0 (∀ j, j < i → Er j = 0) ∧ Aside0 (At w (FP B M Bd vc) w' B M Bd vc' (Df i)))
  case atStart => exact ⟨0, vc, rfl, ⟨by omega⟩, ⟨fun j hj => by omega⟩, ⟨by rw [H0.out]; exact HD.out⟩⟩
  case round =>
    obtain ⟨i, vc', rfl, HI, HZ, HA⟩ := hrel
    by_cases hi : i < 2
    · have hi' : (i : Int) < 2 := by omega
      obtain ⟨er, her⟩ : ∃ er, Er i = er := ⟨_, rfl⟩
      have HW := Aside0.mk (HS.out i hi)
      have HLi := Aside0.mk (HL.out i (by omega))
      have HEi := Aside0.mk (HE.out i hi HZ.out)
      rw [her] at HW HEi
      by_cases hz : er = 0
      · subst hz
        have HER := Aside0.mk her
        clear her
        go_wp2_with (go_at_call 17; go_loud (refine (at_write (i : Int) 0 none 0 [] HW.out (Nat.le_trans HLi.out (by omega)) (fun w' hc => Kd.C_nil _ _) (At.refl HA.out.dk)).mono ?_); rintro e w5 ⟨rfl, vc5, hd⟩; have HD5 := Aside0.mk (HA.out.then_ hd); clear hd)
        have hk1 := HI.out
        obtain ⟨gq, rfl⟩ : ∃ gq, gk = gq + 1 := ⟨gk - 1, by omega⟩
        go_roundg gq
        case rel => exact ⟨i + 1, vc5, by go_num, ⟨by omega⟩, ⟨fun j hj => by
          by_cases hji : j = i
          · subst hji; exact HER.out
          · exact HZ.out j (by omega)⟩, HD5⟩
        case measure => omega
      · have hzb : (er != 0) = true := by simpa using hz
        obtain ⟨hD, he⟩ := HEi.out hz
        have HQ := Aside0.mk (And.intro hD he)
        clear her hz hD he
        go_wp2_with (go_at_call 17; go_loud (refine (at_write (i : Int) er none 0 [] HW.out (Nat.le_trans HLi.out (by omega)) (fun w' hc => Kd.C_nil _ _) (At.refl HA.out.dk)).mono ?_); rintro e w5 ⟨rfl, vc5, hd⟩; have HD5 := Aside0.mk (HA.out.then_ hd); clear hd)
        go_ret
        obtain ⟨rfl, rfl⟩ := HQ.out
        exact ⟨rfl, vc5, HD5.out⟩
    · have hi0 := HI.out
      obtain rfl : gk = 0 := by omega
      obtain rfl : i = 2 := by omega
      clear hi0 hi
      have HSV := Aside0.mk (save_calls (HO.out HZ.out) (by omega) HN.out (HC.out wr HA.out.chg) (HL.out 2 (by omega)) HA.out.dk (c := c))
      go_wp2_with (go_at_call 42; (with_reducible refine HSV.out.mono ?_); rintro e w6 ⟨rfl, vc6, hd⟩; have HD6 := Aside0.mk (HA.out.then_ hd); clear hd)
      go_ret
      exact ⟨rfl, vc6, HD6.out⟩
theorem format_calls (hf : formatP D l = (D', e)) (hc : D.cache.length ≤ 800) (hn : ∀ n ∈ l, 0 ≤ n ∧ n < 18446744073709551616) (hC : ∀ w', Chg w w' (FP B M Bd vc) → (Kd.int .u64).C w' A l.length l) (h : DK w base B M Bd vc D) :
    Calls Try.prog 46 #[.pointer (some ⟨B, 0, none⟩), .slice A l.length c] w (SvQ w B M Bd vc D' e) := by
  have q1 := writeP_cache D 0 []
  have q2 := writeP_cache (writeP D 0 []).1 1 []
  unfold formatP at hf
  refine format_go (D := D) (fun i => match i with | 0 => D | 1 => (writeP D 0 []).1 | _ => (writeP (writeP D 0 []).1 1 []).1) (fun i => match i with | 0 => (writeP D 0 []).2 | _ => (writeP (writeP D 0 []).1 1 []).2) rfl (fun i hi => ?_) (fun i hi => ?_) (fun i hi hz hne => ?_) (fun hz => ?_) hn hC h
  · have : i = 0 ∨ i = 1 := by omega
    rcases this with rfl | rfl <;> rfl
  · have : i = 0 ∨ i = 1 ∨ i = 2 := by omega
    rcases this with rfl | rfl | rfl <;> simp only <;> omega
  · have : i = 0 ∨ i = 1 := by omega
    rcases this with rfl | rfl
    · have hne' : (writeP D 0 []).2 ≠ 0 := hne
      rw [if_pos hne'] at hf
      exact ⟨(congrArg Prod.fst hf).symm, (congrArg Prod.snd hf).symm⟩
    · have h0 : (writeP D 0 []).2 = 0 := hz 0 (by omega)
      have hne' : (writeP (writeP D 0 []).1 1 []).2 ≠ 0 := hne
      rw [if_neg (fun hh => hh h0), if_pos hne'] at hf
      exact ⟨(congrArg Prod.fst hf).symm, (congrArg Prod.snd hf).symm⟩
  · have h0 : (writeP D 0 []).2 = 0 := hz 0 (by omega)
    have h1 : (writeP (writeP D 0 []).1 1 []).2 = 0 := hz 1 (by omega)
    rw [if_neg (fun hh => hh h0), if_neg (fun hh => hh h1)] at hf
    exact hf
end
section
variable {w : World} {base R : Nat} {vS vC vB : Value} {X X1 X2 X' : RX} {l : List Int} {A : Option Addr} {c : Nat} {e : Int}
theorem rwrite_nil (w : World) (base B : Nat) (vS vC vB : Value) (X X' : RX) (at_ r : Int) (hx : rwriteX X at_ [] = (X', r)) (h : RK w base B vS vC vB X) (hl : X.cache.length ≤ 1000) :
    Calls Try.prog 26 #[.pointer (some ⟨B, 0, none⟩), .int .i64 at_, .slice none 0 0] w fun e w' => e = .returned (.int .i64 r) ∧ TC base isRef w w' ∧ ∃ vC', RK w' base B vS vC' vB X' :=
  rwrite_calls w base B vS vC vB X X' at_ r none 0 [] hx h hl (fun w' hc => Kd.C_nil _ _)
theorem rformat_calls (hf : rformatX X l = (X', e)) (hc : X.cache.length ≤ 800) (hn : ∀ n ∈ l, 0 ≤ n ∧ n < 18446744073709551616) (hC : ∀ w', TC base isRef w w' → (Kd.int .u64).C w' A l.length l) (h : RK w base R vS vC vB X) :
    Calls Try.prog 86 #[.pointer (some ⟨R, 0, none⟩), .slice A l.length c] w (RvQ w base R vS vB X' e) := by
  have q1 := rwriteX_cache X 0 []
  have q2 := rwriteX_cache (rwriteX X 0 []).1 1 []
  have HD := Aside0.mk h
  have HC := Aside0.mk hC
  have HN := Aside0.mk hn
  have HL := Aside0.mk (show X.cache.length ≤ 1000 by omega)
  obtain ⟨Xa, ea, hw⟩ : ∃ Xa ea, rwriteX X 0 [] = (Xa, ea) := ⟨_, _, rfl⟩
  unfold rformatX at hf
  rw [hw] at hf q1 q2
  simp only at hf q1 q2
  have HW := Aside0.mk hw
  have HLa := Aside0.mk (show Xa.cache.length ≤ 1000 by omega)
  obtain ⟨Xb, eb, hw2⟩ : ∃ Xb eb, rwriteX Xa 1 [] = (Xb, eb) := ⟨_, _, rfl⟩
  rw [hw2] at hf q2
  simp only at hf q2
  have HW2 := Aside0.mk hw2
  have HLb := Aside0.mk (show Xb.cache.length ≤ 900 by omega)
  clear h hC hn hw hw2 q1 q2 hc
  by_cases h0 : ea = 0
  · rw [if_neg (fun hh => hh h0)] at hf
    subst h0
    by_cases h1 : eb = 0
    · rw [if_neg (fun hh => hh h1)] at hf
      subst h1
      have HF := Aside0.mk hf
      clear hf
      go_enter Try.func86, Try.ntmps86
      go_wp2_with (first
        | (go_at_call 26; (with_reducible refine (rwrite_nil w base R vS vC vB X Xa 0 0 HW.out HD.out HL.out).mono ?_); rintro e w4 ⟨rfl, ht, vc4, hd⟩; have HD4 := Aside0.mk hd; have HT4 := Aside0.mk ht; clear hd ht)
        | (go_at_call 26; (with_reducible refine (rwrite_nil w4 base R vS vc4 vB Xa Xb 1 0 HW2.out HD4.out HLa.out).mono ?_); rintro e w5 ⟨rfl, ht, vc5, hd⟩; have HD5 := Aside0.mk hd; have HT5 := Aside0.mk (HT4.out.trans ht); clear hd ht)
        | (go_at_call 43; (with_reducible refine (rsave_calls HF.out (by decide) HN.out (HC.out w5 HT5.out) HLb.out HD5.out).mono ?_); rintro e w6 ⟨rfl, ht, vc6, hd⟩; have HD6 := Aside0.mk hd; have HT6 := Aside0.mk (HT5.out.trans ht); clear hd ht))
      go_ret
      exact ⟨rfl, HT6.out, vc6, HD6.out⟩
    · rw [if_pos h1] at hf
      cases hf
      have hb : (e != 0) = true := by simpa using h1
      clear h1
      go_enter Try.func86, Try.ntmps86
      go_wp2_with (first
        | (go_at_call 26; (with_reducible refine (rwrite_nil w base R vS vC vB X Xa 0 0 HW.out HD.out HL.out).mono ?_); rintro e w4 ⟨rfl, ht, vc4, hd⟩; have HD4 := Aside0.mk hd; have HT4 := Aside0.mk ht; clear hd ht)
        | (go_at_call 26; (with_reducible refine (rwrite_nil w4 base R vS vc4 vB Xa X' 1 e HW2.out HD4.out HLa.out).mono ?_); rintro e w5 ⟨rfl, ht, vc5, hd⟩; have HD5 := Aside0.mk hd; have HT5 := Aside0.mk (HT4.out.trans ht); clear hd ht))
      go_ret
      exact ⟨rfl, HT5.out, vc5, HD5.out⟩
  · rw [if_pos h0] at hf
    cases hf
    have hb : (e != 0) = true := by simpa using h0
    clear h0
    go_enter Try.func86, Try.ntmps86
    go_wp2_with (first
      | (go_at_call 26; (with_reducible refine (rwrite_nil w base R vS vC vB X X' 0 e HW.out HD.out HL.out).mono ?_); rintro e w4 ⟨rfl, ht, vc4, hd⟩; have HD4 := Aside0.mk hd; have HT4 := Aside0.mk ht; clear hd ht))
    go_ret
    exact ⟨rfl, HT4.out, vc4, HD4.out⟩
end
end Go.Proofs.Ytlepcmljmibdnaa
