/- The reference's disk: Flush. Conditions: those of each statement. -/
import Derived.Test.YtlepcmljmibdnaaRn
namespace Go.Proofs.Ytlepcmljmibdnaa
open Go.RowKit Go.Proofs.YtlepcmljmibdnaaW.PrintWords Go.Proofs.YtlepcmljmibdnaaW.PrintLast Go.Proofs.YtlepcmljmibdnaaW.PrintMore PDiskArms
set_option linter.unusedVariables false
set_option linter.unusedSimpArgs false
theorem R_put1 {α : Type} {d : Kd α} {e g n cap base : Nat} {W : World} {ok okp : Nat → Prop} {xs : List α} (hsz : d.sz = 1) (h : d.R e W base ok (.slice (some ⟨g, 0, none⟩) n cap) xs) (i : Nat) (hi : i < n) (x' : α) (u : Value)
    (hM : d.M W base okp x' [u]) (hokp : ∀ k, okp k → ok k ∧ k ≠ g) : d.R e (W.setCell ⟨g, i, none⟩ u) base ok (.slice (some ⟨g, 0, none⟩) n cap) (xs.set i x') ∧ W.grownBy (W.setCell ⟨g, i, none⟩ u) (some g) := by
  obtain ⟨y, hy⟩ : ∃ y, xs[i]? = some y := by
    obtain ⟨hn, _⟩ := Kd.R_reads' h
    exact ⟨_, List.getElem?_eq_getElem (by omega)⟩
  obtain ⟨c, hcl, _, hcc, _⟩ := Kd.R_elem h y (i : Int) (by omega) (by omega)
  have := Kd.R_seg (okp := okp) (seg := [u]) (j := 0) h (i : Int) (by omega) (by omega) hcl hcc (by rw [hsz]; exact Nat.le_refl 1) (x' := x') (by
    rw [List.take_zero, List.drop_eq_nil_of_le (by rw [hcl, hsz]; exact Nat.le_refl 1)]
    exact hM) hokp
  rw [hsz] at this
  simp only [Int.toNat_natCast, Nat.mul_one, Nat.add_zero] at this
  exact this
section
variable {w : World} {base B : Nat} {vS vC vB : Value} {X : RX}
theorem rs_at (h : RM w base B vS vC vB X) (k : Nat) (s : List Int) (hk : X.S[k]? = some s) :
    ∃ g c A ci, vS = .slice (some ⟨g, 0, none⟩) X.S.length c ∧ w.cell? ⟨g, k, none⟩ = some (.slice A s.length ci) ∧ w.frozen? ⟨g, k, none⟩ = false ∧ bytesK.M w base (fun k => k ≠ g) s [.slice A s.length ci] := by
  have hl : k < X.S.length := (List.getElem?_eq_some_iff.1 hk).1
  obtain ⟨g, c, hv⟩ := R_addr h.S (by omega)
  have hS := h.S
  rw [hv] at hS
  obtain ⟨c', hcl, hM, hcc, hf⟩ := Kd.R_elem hS s (k : Int) (by omega) (by omega)
  have e : X.S.getD (k : Int).toNat s = s := by simp [List.getD, hk]
  rw [e] at hM
  obtain ⟨v, rfl, hR⟩ := hM
  obtain ⟨A, ci, rfl⟩ := Kd.R_slice hR
  have h1 := hcc 0 _ rfl
  have h2 := hf 0
  rw [Int.toNat_natCast, show bytesK.sz = 1 from rfl, Nat.mul_one, Nat.add_zero] at h1 h2
  exact ⟨g, c, A, ci, hv, h1, h2, ⟨_, rfl, Kd.R_mono hR fun k hk => hk.2⟩⟩
theorem rc_at (h : RM w base B vS vC vB X) (k : Nat) (p : Int × List Int) (hk : X.cache[k]? = some p) :
    ∃ g c A ci, vC = .slice (some ⟨g, 0, none⟩) X.cache.length c ∧ w.cell? ⟨g, k * 2, none⟩ = some (.int .i64 p.1) ∧ w.cell? ⟨g, k * 2 + 1, none⟩ = some (.slice A p.2.length ci) ∧ bytesK.M w base (fun _ => True) p.2 [.slice A p.2.length ci] := by
  have hl : k < X.cache.length := (List.getElem?_eq_some_iff.1 hk).1
  obtain ⟨g, c, hv⟩ := R_addr h.C (by omega)
  have hC := h.C
  rw [hv] at hC
  obtain ⟨c', hcl, hM, hcc, hf⟩ := Kd.R_elem hC p (k : Int) (by omega) (by omega)
  have e : X.cache.getD (k : Int).toNat p = p := by simp [List.getD, hk]
  rw [e] at hM
  obtain ⟨c0, c1, rfl, hM0, v, rfl, hR⟩ := hM
  have hM0' : c0 = [.int .i64 p.1] := hM0
  subst hM0'
  obtain ⟨A, ci, rfl⟩ := Kd.R_slice hR
  have h1 := hcc 0 _ rfl
  have h2 := hcc 1 _ rfl
  rw [Int.toNat_natCast, show rwrK.sz = 2 from rfl] at h1 h2
  rw [Nat.add_zero] at h1
  exact ⟨g, c, A, ci, hv, h1, h2, ⟨_, rfl, Kd.R_mono hR fun k hk => trivial⟩⟩
theorem RM.putS {g n c : Nat} (h : RM w base B (.slice (some ⟨g, 0, none⟩) n c) vC vB X) (a : Nat) (ha : a < n) (s : List Int) (u : Value) (hM : bytesK.M w base (fun k => k ≠ g) s [u]) :
    RM (w.setCell ⟨g, a, none⟩ u) base B (.slice (some ⟨g, 0, none⟩) n c) vC vB { X with S := X.S.set a s } ∧ TC base isRef w (w.setCell ⟨g, a, none⟩ u) := by
  obtain ⟨k1, hg⟩ := R_put1 rfl h.S a ha s u hM (fun k hk => ⟨trivial, hk⟩)
  obtain ⟨hb, cells, hcl⟩ := own_cells h.S g rfl
  have hc : Chg w (w.setCell ⟨g, a, none⟩ u) (fun k => some k = some g) := chg_grown hg fun _ h => h
  have hs : ∀ k, some k = some g → k < w.heap.size → ∃ t cells, w.heap[k]? = some (.cells cells t (0, 0)) ∧ t = 29 := fun k hk _ => by
    obtain rfl := Option.some.inj hk
    exact ⟨_, cells, hcl, rfl⟩
  have hne : ¬ some B = some g := fun e => by
    obtain rfl := Option.some.inj e
    rw [h.blk] at hcl
    simp at hcl
  refine ⟨⟨(hc.block B h.lt hne).trans h.blk, k1, R_types_chg h.C hc fun k hk hl => ?_, R_types_chg h.bad hc fun k hk hl => ?_, h.hB⟩, .of_chg hc h.base_le fun k hk _ => ?_⟩
  · obtain ⟨t, c, h1, rfl⟩ := hs k hk hl
    exact ⟨_, c, h1, fun q hq => by rcases q106 q hq with h | h <;> simp [h]⟩
  · obtain ⟨t, c, h1, rfl⟩ := hs k hk hl
    exact ⟨_, c, h1, fun q hq => by simp [q4 q hq]⟩
  · obtain rfl := Option.some.inj hk
    exact ⟨hb, _, hcl, .inr (.inl rfl)⟩
end
def rputs (S : List (List Int)) (l : List (Int × List Int)) : List (List Int) := l.foldl (fun S p => S.set p.1.toNat p.2) S
theorem rputs_succ (S : List (List Int)) (l : List (Int × List Int)) (i : Nat) (p : Int × List Int) (h : l[i]? = some p) : rputs S (l.take (i + 1)) = (rputs S (l.take i)).set p.1.toNat p.2 := by
  unfold rputs
  rw [List.take_add_one, h, List.foldl_append]
  rfl
theorem rputs_len (S : List (List Int)) (l : List (Int × List Int)) : (rputs S l).length = S.length := by
  induction l generalizing S with
  | nil => rfl
  | cons p l ih => exact (ih (S.set p.1.toNat p.2)).trans (by simp)
theorem rputs_64 (S : List (List Int)) (l : List (Int × List Int)) (hS : ∀ s ∈ S, s.length = 64) (hl : ∀ p ∈ l, p.2.length = 64) : ∀ s ∈ rputs S l, s.length = 64 := by
  induction l generalizing S with
  | nil => exact hS
  | cons p l ih =>
    refine ih (S.set p.1.toNat p.2) (fun s hs => ?_) (fun q hq => hl q (by simp [hq]))
    rcases List.mem_or_eq_of_mem_set hs with h | h
    · exact hS s h
    · rw [h]; exact hl p (by simp)
theorem ract_same (X : RX) : (ractX X).1.S = X.S ∧ (ractX X).1.cache = X.cache ∧ (ractX X).1.bad = X.bad := by
  unfold ractX
  split
  · exact ⟨rfl, rfl, rfl⟩
  · split <;> exact ⟨rfl, rfl, rfl⟩
theorem write2_cells (w : World) (a0 a1 : Value) (t : Nat) : (w.alloc (.cells #[a0, a1] t)).drew.cell? ⟨w.heap.size, 0, none⟩ = some a0 ∧ (w.alloc (.cells #[a0, a1] t)).drew.cell? ⟨w.heap.size, 1, none⟩ = some a1 := by
  have h : (w.alloc (.cells #[a0, a1] t)).drew.heap[w.heap.size]? = some (.cells #[a0, a1] t (0, 0)) := heap_alloc_new w _
  constructor <;> (unfold World.cell?; rw [h]; rfl)
def rflushX (X : RX) : RX × Int := if (ractX X).2 ≠ 0 then ractX X else ({ (ractX X).1 with S := rputs X.S X.cache, cache := [] }, 0)
/-- the cache was let go -/
theorem RM.nocache {w : World} {base B : Nat} {vS vC vB : Value} {X : RX} (h : RM w base B vS vC vB X) : RM (w.setCell ⟨B, 1, none⟩ (.slice none 0 0)) base B vS (.slice none 0 0) vB { X with cache := [] } ∧ TC base isRef w (w.setCell ⟨B, 1, none⟩ (.slice none 0 0)) :=
  ⟨⟨set7 h.blk 1 _, Kd.R_set h.S h.blk (fun q hq => by rcases q29 q hq with h | h <;> simp [h]) 1 _, Kd.R_nil _ _ _ _ _, Kd.R_set h.bad h.blk (fun q hq => by simp [q4 q hq]) 1 _, h.hB⟩, .set h.blk (isRef53 _) h.hB _⟩
set_option maxHeartbeats 1000000 in
theorem rflush_calls (w : World) (base B : Nat) (vS vC vB : Value) (X X' : RX) (r : Int) (hx : rflushX X = (X', r)) (h : RK w base B vS vC vB X) (hl : X.cache.length ≤ 1000) :
    Calls Try.prog 28 #[.pointer (some ⟨B, 0, none⟩)] w fun e w' => e = .returned (.int .i64 r) ∧ TC base isRef w w' ∧ ∃ vC', RK w' base B vS vC' vB X' := by
  obtain ⟨X1, e, hact⟩ : ∃ X1 e, ractX X = (X1, e) := ⟨_, _, rfl⟩
  have HA := Aside0.mk hact
  have HR := Aside0.mk h
  have HX := Aside0.mk hx
  have hsm := ract_same X
  rw [hact] at hsm
  have HSM := Aside0.mk hsm
  clear h hx hact hsm
  by_cases hz : e = 0
  · subst hz
    have HX' : Aside0 (X' = { X1 with S := rputs X1.S X1.cache, cache := [] } ∧ r = 0) := ⟨by
      have := HX.out
      unfold rflushX at this
      rw [HA.out, if_neg (by simp), ← HSM.out.1, ← HSM.out.2.1] at this
      obtain ⟨h1, h2⟩ := Prod.mk.inj this
      exact ⟨h1.symm, h2.symm⟩⟩
    obtain rfl := HX'.out.2
    have hl1 : X1.cache.length ≤ 1000 := by rw [HSM.out.2.1]; exact hl
    have HCO : Aside0 (∀ p ∈ X1.cache, p.2.length = 64 ∧ 0 ≤ p.1 ∧ p.1 < X1.S.length) := ⟨by rw [HSM.out.2.1, HSM.out.1]; exact HR.out.ok.c64⟩
    go_enter Try.func28, Try.ntmps28
    go_wp2_with (first | (go_at_call 71; with_reducible refine (ract_calls w base B vS vC vB X X1 0 HA.out HR.out).mono ?_; rintro e w1 ⟨rfl, hr, ht, _⟩; have HR1 := Aside0.mk hr; have HT1 := Aside0.mk ht; obtain ⟨A0, c0, hvC⟩ := Kd.R_slice hr.C; subst hvC; have q1 := (cells5 hr.blk).1.2.1; clear hr ht))
    clear q1
    go_loopg [16] X1.cache.length (fun kq v16 w' => ∃ (i : Nat), v16 = .int .i64 (i : Int) ∧ Aside0 (i + kq = X1.cache.length) ∧ Aside0 (RM w' base B vS (.slice A0 X1.cache.length c0) vB { X1 with S := rputs X1.S (X1.cache.take i) }) ∧ Aside0 (TC base isRef w w'))
    case atStart => exact ⟨0, rfl, ⟨by omega⟩, ⟨HR1.out.toRM⟩, HT1⟩
    case round =>
      obtain ⟨i, rfl, HI, HRi, HTi⟩ := hrel
      by_cases hi : i < X1.cache.length
      · obtain ⟨p, hp⟩ : ∃ p, X1.cache[i]? = some p := ⟨_, List.getElem?_eq_getElem hi⟩
        obtain ⟨h64, hp0, hpl⟩ := HCO.out p (List.mem_of_getElem? hp)
        obtain ⟨a, ha⟩ : ∃ a : Nat, p.1 = (a : Int) := ⟨p.1.toNat, by omega⟩
        obtain ⟨g, c, A, ci, hvc, x0, x1, hM⟩ := rc_at HRi.out i p hp
        injection hvc with hv1 hv2 hv3
        subst hv1
        subst hv3
        clear hv2
        rw [ha] at x0
        have hal : a < (rputs X1.S (X1.cache.take i)).length := by rw [rputs_len]; omega
        obtain ⟨sa, hsa⟩ : ∃ sa, (rputs X1.S (X1.cache.take i))[a]? = some sa := ⟨_, List.getElem?_eq_getElem hal⟩
        obtain ⟨gs, cs, As, cis, hvs, y0, yf, _⟩ := rs_at HRi.out a sa hsa
        subst hvs
        have hal' : (a : Int) < ((rputs X1.S (X1.cache.take i)).length : Int) := by omega
        have HP := Aside0.mk hp
        have HPA := Aside0.mk ha
        have HM := Aside0.mk hM
        have HAL := Aside0.mk hal
        have q0 := (cells5 HRi.out.blk).1.1
        have hz := write2_cells wr (.int .i64 (a : Int)) (.slice A p.2.length ci) 106
        obtain ⟨z0, z1⟩ := hz
        have hbw := (Below.alloc (Below.refl wr.heap.size wr) (Nat.le_refl _) (.cells #[.int .i64 (a : Int), .slice A p.2.length ci] 106)).drew
        have HBW := Aside0.mk hbw
        have q0' := Fork.bel_cell hbw q0
        have y0' := Fork.bel_cell hbw y0
        have yf' := (hbw.frozen (p := ⟨gs, a, none⟩) (block_lt_of_cell y0)).trans yf
        clear h64 hp0 hpl hp ha hM hal q0 y0 yf hbw hsa
        go_wp2
        refine Fork.wp_fork (Fork.Lo.rel 0) [9] [] (.one 0 0 (.one 1 0 (.one 2 0 (.one 4 0 (.one 6 0 (.one 3 1 (.one 5 1 (.one 7 1 (.one 8 0 (.one 9 2 .nil)))))))))) (by kernel_rfl) (by kernel_rfl) ?_
        generalize hops : List.toArray (_ : List Oper) = ops
        have HO := Aside0.mk hops
        clear hops
        iterate 5 ((refine Fork.plain (Fork.at_ HO.out rfl) _ rfl (fun W => by go_simp; exact rfl) ?_); simp only [Act.put, List.setIfInBounds_toArray, List.set_cons_succ, List.set_cons_zero])
        refine Fork.reads (Fork.at_ HO.out rfl) _ rfl (fun W hW => Arr.ex_load1 rfl rfl (by kernel_rfl) (Fork.bel_cell hW (by assumption))) ?_
        simp only [Act.put, List.setIfInBounds_toArray, List.set_cons_succ, List.set_cons_zero]
        refine Fork.reads (Fork.at_ HO.out rfl) _ rfl (fun W hW => Arr.ex_load1 rfl rfl (by kernel_rfl) (Fork.bel_cell hW (by assumption))) ?_
        simp only [Act.put, List.setIfInBounds_toArray, List.set_cons_succ, List.set_cons_zero]
        refine Fork.reads (Fork.at_ HO.out rfl) _ rfl (fun W hW => Arr.ex_load1 rfl rfl (by kernel_rfl) (Fork.bel_cell hW (by assumption))) ?_
        simp only [Act.put, List.setIfInBounds_toArray, List.set_cons_succ, List.set_cons_zero]
        ((refine Fork.plain (Fork.at_ HO.out rfl) _ rfl (fun W => by go_simp; exact rfl) ?_); simp only [Act.put, List.setIfInBounds_toArray, List.set_cons_succ, List.set_cons_zero])
        refine Fork.step (Fork.at_ HO.out rfl) (fun K hK => ?_)
        go_simp
        refine hK _ _ (.of_old (.zero rfl rfl rfl) rfl) ?_
        clear hK K
        try simp only [Act.put, List.setIfInBounds_toArray, List.set_cons_succ, List.set_cons_zero]
        refine Fork.done ?_
        have hr2 := HRi.out.fresh HBW.out
        obtain ⟨_, cells, hcl⟩ := own_cells hr2.S gs rfl
        have hM2 := bytesK.M_mono (ok' := fun k => k ≠ gs) (fun k hk => hk.2) (Kd.M_types (Kd.M_below HM.out HBW.out) hcl (fun q hq => by rw [show bytesK.E = [5] from rfl] at hq; simp at hq; simp [hq]))
        obtain ⟨k1, k2⟩ := hr2.putS a HAL.out p.2 _ hM2
        have hk1 := HI.out
        obtain ⟨gq, rfl⟩ : ∃ gq, gk = gq + 1 := ⟨gk - 1, by omega⟩
        go_wp2
        go_roundg gq
        case rel => exact ⟨i + 1, by go_num, ⟨by omega⟩, ⟨by rw [rputs_succ X1.S X1.cache i p HP.out, HPA.out]; exact k1⟩, ⟨HTi.out.trans ((TC.of_below HBW.out HRi.out.base_le).trans k2)⟩⟩
        case measure => omega
      · have hi0 := HI.out
        obtain rfl : gk = 0 := by omega
        obtain rfl : i = X1.cache.length := by omega
        clear hi0
        have hm : ¬ ((X1.cache.length : Int) < (X1.cache.length : Int)) := by omega
        have q1 := (cells5 HRi.out.blk).1.2.1
        have f1 := (cells5 HRi.out.blk).2.2.1
        go_wp2
        go_ret
        obtain ⟨k1, k2⟩ := HRi.out.nocache
        rw [HX'.out.1]
        rw [List.take_length] at k1
        refine ⟨rfl, HTi.out.trans k2, _, k1, ⟨?_, fun p hp => (by cases hp), ?_, HR1.out.ok.hl, ?_⟩⟩
        · exact rputs_64 X1.S X1.cache HR1.out.ok.s64 (fun p hp => (HCO.out p hp).1)
        · show X1.bad.length = (rputs X1.S X1.cache).length
          rw [rputs_len]; exact HR1.out.ok.hb
        · show (rputs X1.S X1.cache).length ≤ 4096
          rw [rputs_len]; exact HR1.out.ok.hn
  · have hz' : (e == 0) = false := by simpa using hz
    have HX' : Aside0 (X1 = X' ∧ e = r) := ⟨by
      have := HX.out
      unfold rflushX at this
      rw [HA.out, if_pos hz] at this
      exact Prod.mk.inj this⟩
    obtain ⟨rfl, rfl⟩ := HX'.out
    clear hz
    go_enter Try.func28, Try.ntmps28
    go_wp2_with (first | (go_at_call 71; with_reducible refine (ract_calls w base B vS vC vB X X1 e HA.out HR.out).mono ?_; rintro e' w1 ⟨rfl, hr, ht, _⟩; have HR1 := Aside0.mk hr; have HT1 := Aside0.mk ht; clear hr ht))
    go_ret
    exact ⟨rfl, HT1.out, vC, HR1.out⟩
end Go.Proofs.Ytlepcmljmibdnaa
