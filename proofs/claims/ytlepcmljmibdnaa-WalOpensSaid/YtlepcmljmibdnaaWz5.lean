/- Parts of one proof, joined: Sv, Dkp, Tc, Rn, Rf, Rg, Rh. Conditions: those of each statement. -/
import Derived.Test.YtlepcmljmibdnaaWz4
import Derived.Test.YtlepcmljmibdnaaWz2
namespace Go.Proofs.Ytlepcmljmibdnaa
open Go.RowKit Go.Proofs.YtlepcmljmibdnaaW.PrintWords Go.Proofs.YtlepcmljmibdnaaW.PrintLast Go.Proofs.YtlepcmljmibdnaaW.PrintMore PWalOpens
set_option linter.unusedVariables false
set_option linter.unusedSimpArgs false
theorem ex_copy {P : Program} {W w1 : World} {o : Oper} {ρ : Operand → Value} {d s : Operand} {t : TypeId} {v : Value} (ho : o.op = .call { callee := .builtin .copy, args := #[d, s], argTypes := #[t, t] }) {vd vs : Value} (hd : ρ d = vd) (hs : ρ s = vs)
    (hrun : (Builtin.copy_ #[t, t] o.type #[vd, vs]).run P W = .ok v w1) : (execOp ρ o).run P W = .ok (.value v) w1 := by
  subst hd; subst hs
  simp [execOp, ho, resolve, invoke, builtin, hrun, Result.andThen]
/-- bytes copied into sixty-four noughts -/
theorem run_copy_sec (W : World) (b : List Int) (hb : b.length ≤ 64) (A : Option Addr) (c : Nat) (ty : TypeId) (hC : (Kd.int .u8).C (W.alloc (.cells (secC zsec) 98)) A b.length b) :
    (Builtin.copy_ #[29, 29] ty #[.slice (some ⟨W.heap.size, 0, none⟩) 64 64, .slice A b.length c]).run Try.prog (W.alloc (.cells (secC zsec) 98)) = .ok (goInt b.length) (W.alloc (.cells (secC (pad b)) 98)) := by
  have hR := Kd.reads_of_C (enc := Value.int .u8) (d := (0 : Int)) (h1 := fun _ => rfl) hC
  by_cases h0 : b.length = 0
  · obtain rfl : b = [] := List.eq_nil_of_length_eq_zero h0
    exact run_copy_none (P := Try.prog) _ 29 29 ty 5 _ A 64 64 0 c Try.underlying29 (by kernel_rfl) rfl
  · obtain ⟨ad, rfl, hc⟩ := hR.2.2 (by omega)
    have hl : (encs (Value.int .u8) b).length = b.length := encs_length _
    have h := run_copy_row (P := Try.prog) (W.alloc (.cells (secC zsec) 98)) 29 29 ty 5 W.heap.size 0 64 64 ad b.length c (secC zsec) 98 (encs (Value.int .u8) b) Try.underlying29 (by kernel_rfl) (heap_alloc_new W _)
      (by rw [hl]; exact (Nat.min_eq_left hb).symm) (by
        intro j v hj
        have hj' : j < b.length := by have := (List.getElem?_eq_some_iff.1 hj).1; omega
        rw [encs_get (d := 0) b j hj'] at hj
        obtain rfl := Option.some.inj hj
        exact hc j hj') (by rw [hl, sec_size _ (by rfl)]; omega) (by intro v hv; simp only [encs, List.mem_map] at hv; obtain ⟨a, _, rfl⟩ := hv; rfl)
    rw [h, Arr.setRow_alloc, hl]
    have e : ((secC zsec).toList.take 0 ++ encs (Value.int .u8) b ++ (secC zsec).toList.drop (0 + b.length)).toArray = secC (pad b) := by
      unfold secC pad
      rw [Nat.zero_add]
      simp only [List.take_zero, List.nil_append, encs_append]
      rw [show (encs (Value.int .u8) zsec).drop b.length = encs (Value.int .u8) (List.replicate (64 - b.length) 0) by unfold encs zsec; rw [List.map_replicate, List.drop_replicate, List.map_replicate]]
    rw [e]
theorem pad_take (b : List Int) : (pad b).take b.length = b := by
  unfold pad
  rw [List.take_append_of_le_length (Nat.le_refl _), List.take_length]
theorem slotB_64 (g : Int) (l : List Int) (hl : l.length ≤ 4) : (slotB g l).length ≤ 64 := by
  have h1 := encNs_len l
  have h2 := encNs_len [g, (l.length : Int)]
  rw [slotB_len]
  unfold slotF
  simp only [List.length_append, List.length_cons, List.length_nil] at h2 ⊢
  omega
noncomputable def saveP (D : PD) (g : Int) (l : List Int) : PD × Int :=
  if 4 < l.length then (D, 2) else if (flushP D).2 ≠ 0 then flushP D else
    if (writeP (flushP D).1 (g % 2) (slotB g l)).2 ≠ 0 then writeP (flushP D).1 (g % 2) (slotB g l) else flushP (writeP (flushP D).1 (g % 2) (slotB g l)).1
def SvQ (w : World) (B M Bd : Nat) (vc : Value) (D' : PD) (e : Int) (r : Ending) (w' : World) : Prop := r = .returned (.int .i64 e) ∧ ∃ vc', At w (FP B M Bd vc) w' B M Bd vc' D'
section
variable {w : World} {base B M Bd : Nat} {vc : Value} {D D1 D2 D3 : PD} {g : Int} {l : List Int} {A : Option Addr} {c : Nat} {e : Int}
theorem save_long (hl : 4 < l.length) (h : DK w base B M Bd vc D) : Calls Try.prog 42 #[.pointer (some ⟨B, 0, none⟩), .int .u64 g, .slice A l.length c] w (SvQ w B M Bd vc D 2) := by
  have HD := Aside0.mk (At.refl h)
  have HS := Aside0.mk (slot_long w g l A c hl)
  clear h hl
  go_enter Try.func42, Try.ntmps42
  go_wp2_with (first
    | (go_at_call 37; (with_reducible refine HS.out.mono ?_); rintro e w2 ⟨rfl, rfl⟩))
  go_ret
  exact ⟨rfl, vc, HD.out⟩
theorem save_f1 (he : e ≠ 0) (hf : flushP D = (D1, e)) (hg : 0 ≤ g ∧ g < 18446744073709551616) (hn : ∀ n ∈ l, 0 ≤ n ∧ n < 18446744073709551616) (hl : l.length ≤ 4) (hC : (Kd.int .u64).C w A l.length l) (hc : D.cache.length ≤ 1000) (h : DK w base B M Bd vc D) : Calls Try.prog 42 #[.pointer (some ⟨B, 0, none⟩), .int .u64 g, .slice A l.length c] w (SvQ w B M Bd vc D1 e) := by
  have HD := Aside0.mk (At.refl h)
  have HS := Aside0.mk (slot_calls w g l A c hg hn hl hC)
  have HC := Aside0.mk hc
  have HF := Aside0.mk hf
  have hb : (e != 0) = true := by simpa using he
  clear h hl hg hn hC hc hf
  go_enter Try.func42, Try.ntmps42
  go_wp2_with (first
    | (go_at_call 37; (with_reducible refine HS.out.mono ?_); rintro e w2 ⟨A2, c2, rfl, hr, hb⟩; have HR2 := Aside0.mk hr; have HD2 := Aside0.mk (HD.out.grow (.of_below hb)); clear hr hb)
    | (go_at_call 18; (with_reducible refine (at_flush _ HF.out HC.out HD2.out).mono ?_); rintro e w3 ⟨rfl, vc3, hd⟩; have HD3 := Aside0.mk hd; clear hd))
  go_ret
  exact ⟨rfl, vc3, HD3.out⟩
theorem R_past {α : Type} {d : Kd α} {e : Nat} {w0 w w' : World} {v : Value} {xs : List α} {S : Nat → Prop} (h : d.R e w w0.heap.size (fun k => w0.heap.size ≤ k) v xs) (hc : Chg w w' S) (hs : ∀ k, S k → k < w0.heap.size) : d.R e w' w0.heap.size (fun k => w0.heap.size ≤ k) v xs :=
  Kd.R_step h (fun k hk hl => hc.block k hl (fun hf => absurd (hs k hf) (Nat.not_lt.2 hk)))
theorem sec_pad {w w' : World} {B M Bd : Nat} {vc : Value} {D : PD} {b : List Int} (hb : b.length ≤ 64) (h : DK w 0 B M Bd vc D) (hc : Chg (w.alloc (.cells (secC (pad b)) 98)) w' (FP B M Bd vc)) : (Kd.int .u8).C w' (some ⟨w.heap.size, 0, none⟩) b.length b := by
  have hl : (pad b).length = 64 := pad_length b hb
  have h1 : w'.heap[w.heap.size]? = some (.cells (secC (pad b)) 98 (0, 0)) := (hc.block _ (by rw [alloc_size]; exact Nat.lt_succ_self _) (fun hf => Nat.lt_irrefl _ (h.fp _ hf).2)).trans (heap_alloc_new w _)
  have h2 := Kd.C_take (m := b.length) (sec_C w' w.heap.size (pad b) 98 (0, 0) (by omega) h1) (by omega)
  rwa [pad_take] at h2
set_option maxRecDepth 100000 in
theorem save_go (hf : flushP D = (D1, 0)) (hw : writeP D1 (g % 2) (slotB g l) = (D2, 0)) (hf3 : flushP D2 = (D3, e)) (hg : 0 ≤ g ∧ g < 18446744073709551616) (hn : ∀ n ∈ l, 0 ≤ n ∧ n < 18446744073709551616) (hl : l.length ≤ 4) (hC : (Kd.int .u64).C w A l.length l) (hc : D.cache.length ≤ 1000) (hc3 : D1.cache.length ≤ 1000 ∧ D2.cache.length ≤ 1000) (h : DK w base B M Bd vc D) : Calls Try.prog 42 #[.pointer (some ⟨B, 0, none⟩), .int .u64 g, .slice A l.length c] w (SvQ w B M Bd vc D3 e) := by
  have HD := Aside0.mk (At.refl h)
  have HFP := Aside0.mk (fun k hk => (h.fp k hk).2)
  have HC3 := Aside0.mk hc3
  have HW := Aside0.mk hw
  have HF3 := Aside0.mk hf3
  have hw64 := slotB_64 g l hl
  obtain ⟨want, hwant⟩ : ∃ want, slotB g l = want := ⟨_, rfl⟩
  have HS := Aside0.mk (slot_calls w g l A c hg hn hl hC)
  rw [hwant] at HS HW hw64
  have HW64 := Aside0.mk hw64
  have hw64i : (want.length : Int) ≤ 64 := by omega
  have HC := Aside0.mk hc
  have HF := Aside0.mk hf
  obtain ⟨hg0, hg1⟩ := hg
  clear h hl hn hC hc hf hc3 hw hf3 hwant hw64
  go_enter Try.func42, Try.ntmps42
  go_wp2_with (first
    | (go_at_call 37; (with_reducible refine HS.out.mono ?_); rintro e w2 ⟨A2, c2, rfl, hr, hb⟩; have HR2 := Aside0.mk hr; have HD2 := Aside0.mk (HD.out.grow (.of_below hb)); clear hr hb)
    | (go_at_call 18; (with_reducible refine (at_flush _ HF.out HC.out (At.refl HD2.out.dk)).mono ?_); rintro e w3 ⟨rfl, vc3, hd⟩; have HD3 := Aside0.mk (HD2.out.then_ hd); have HR3 := Aside0.mk (R_past HR2.out hd.chg HFP.out); clear hd)
    | ((with_reducible refine gate_builtin (b := .copy) (xs := #[.tmp 28, .tmp 29]) rfl ?_); go_loud (refine Kd.event_run rfl (ex_copy rfl rfl rfl (run_copy_sec w3 want HW64.out A2 c2 3 (Kd.C_below (Kd.R_reads' HR3.out).2.2 (Below.alloc (Below.refl _ _) (Nat.le_refl _) _)))) ?_); simp only [Act.put, List.setIfInBounds_toArray, List.set_cons_succ, List.set_cons_zero]; have HD4 := Aside0.mk (HD3.out.grow (.of_below (Below.alloc (Below.refl _ _) (Nat.le_refl _) (.cells (secC (pad want)) 98)))); have HK4 := Aside0.mk (At.refl HD4.out.dk); have HB4 := Aside0.mk (fun (w' : World) (hc : Chg (w3.alloc (.cells (secC (pad want)) 98)) w' (FP B M Bd vc3)) => sec_pad HW64.out HD3.out.dk hc))
    | (go_at_call 17; go_loud (refine (at_write (g % 2) 0 (some ⟨w3.heap.size, 0, none⟩) 64 want HW.out HC3.out.1 HB4.out HK4.out).mono ?_); rintro e w5 ⟨rfl, vc5, hd⟩; have HD5 := Aside0.mk (HD4.out.then_ hd); clear hd)
    | (go_at_call 18; (with_reducible refine (at_flush _ HF3.out HC3.out.2 HD5.out).mono ?_); rintro e w6 ⟨rfl, vc6, hd⟩; have HD6 := Aside0.mk hd; clear hd))
  go_ret
  exact ⟨rfl, vc6, HD6.out⟩
set_option maxRecDepth 100000 in
theorem save_w (he : e ≠ 0) (hf : flushP D = (D1, 0)) (hw : writeP D1 (g % 2) (slotB g l) = (D2, e)) (hg : 0 ≤ g ∧ g < 18446744073709551616) (hn : ∀ n ∈ l, 0 ≤ n ∧ n < 18446744073709551616) (hl : l.length ≤ 4) (hC : (Kd.int .u64).C w A l.length l) (hc : D.cache.length ≤ 1000) (hc3 : D1.cache.length ≤ 1000 ∧ D2.cache.length ≤ 1000) (h : DK w base B M Bd vc D) : Calls Try.prog 42 #[.pointer (some ⟨B, 0, none⟩), .int .u64 g, .slice A l.length c] w (SvQ w B M Bd vc D2 e) := by
  have HD := Aside0.mk (At.refl h)
  have HFP := Aside0.mk (fun k hk => (h.fp k hk).2)
  have HC3 := Aside0.mk hc3
  have HW := Aside0.mk hw
  have hbe : (e != 0) = true := by simpa using he
  have hw64 := slotB_64 g l hl
  obtain ⟨want, hwant⟩ : ∃ want, slotB g l = want := ⟨_, rfl⟩
  have HS := Aside0.mk (slot_calls w g l A c hg hn hl hC)
  rw [hwant] at HS HW hw64
  have HW64 := Aside0.mk hw64
  have hw64i : (want.length : Int) ≤ 64 := by omega
  have HC := Aside0.mk hc
  have HF := Aside0.mk hf
  obtain ⟨hg0, hg1⟩ := hg
  clear h hl hn hC hc hf hc3 hw hwant hw64
  go_enter Try.func42, Try.ntmps42
  go_wp2_with (first
    | (go_at_call 37; (with_reducible refine HS.out.mono ?_); rintro e w2 ⟨A2, c2, rfl, hr, hb⟩; have HR2 := Aside0.mk hr; have HD2 := Aside0.mk (HD.out.grow (.of_below hb)); clear hr hb)
    | (go_at_call 18; (with_reducible refine (at_flush _ HF.out HC.out (At.refl HD2.out.dk)).mono ?_); rintro e w3 ⟨rfl, vc3, hd⟩; have HD3 := Aside0.mk (HD2.out.then_ hd); have HR3 := Aside0.mk (R_past HR2.out hd.chg HFP.out); clear hd)
    | ((with_reducible refine gate_builtin (b := .copy) (xs := #[.tmp 28, .tmp 29]) rfl ?_); go_loud (refine Kd.event_run rfl (ex_copy rfl rfl rfl (run_copy_sec w3 want HW64.out A2 c2 3 (Kd.C_below (Kd.R_reads' HR3.out).2.2 (Below.alloc (Below.refl _ _) (Nat.le_refl _) _)))) ?_); simp only [Act.put, List.setIfInBounds_toArray, List.set_cons_succ, List.set_cons_zero]; have HD4 := Aside0.mk (HD3.out.grow (.of_below (Below.alloc (Below.refl _ _) (Nat.le_refl _) (.cells (secC (pad want)) 98)))); have HK4 := Aside0.mk (At.refl HD4.out.dk); have HB4 := Aside0.mk (fun (w' : World) (hc : Chg (w3.alloc (.cells (secC (pad want)) 98)) w' (FP B M Bd vc3)) => sec_pad HW64.out HD3.out.dk hc))
    | (go_at_call 17; go_loud (refine (at_write (g % 2) e (some ⟨w3.heap.size, 0, none⟩) 64 want HW.out HC3.out.1 HB4.out HK4.out).mono ?_); rintro e' w5 ⟨rfl, vc5, hd⟩; have HD5 := Aside0.mk (HD4.out.then_ hd); clear hd))
  go_ret
  exact ⟨rfl, vc5, HD5.out⟩
theorem save_calls (hsv : saveP D g l = (D1, e)) (hg : 0 ≤ g ∧ g < 18446744073709551616) (hn : ∀ n ∈ l, 0 ≤ n ∧ n < 18446744073709551616) (hC : (Kd.int .u64).C w A l.length l) (hc : D.cache.length ≤ 900) (h : DK w base B M Bd vc D) :
    Calls Try.prog 42 #[.pointer (some ⟨B, 0, none⟩), .int .u64 g, .slice A l.length c] w (SvQ w B M Bd vc D1 e) := by
  unfold saveP at hsv
  split at hsv
  · cases hsv
    exact save_long (by assumption) h
  · rename_i hl
    have q1 := flushP_cache D
    have q2 := writeP_cache (flushP D).1 (g % 2) (slotB g l)
    obtain ⟨Da, ea, hf⟩ : ∃ Da ea, flushP D = (Da, ea) := ⟨_, _, rfl⟩
    rw [hf] at hsv q1 q2
    simp only at hsv q1 q2
    obtain ⟨Db, eb, hw⟩ : ∃ Db eb, writeP Da (g % 2) (slotB g l) = (Db, eb) := ⟨_, _, rfl⟩
    rw [hw] at hsv q2
    simp only at hsv q2
    split at hsv
    · cases hsv
      exact save_f1 (by assumption) hf hg hn (by omega) hC (by omega) h
    · rename_i he
      obtain rfl : ea = 0 := by simpa using he
      split at hsv
      · cases hsv
        exact save_w (by assumption) hf hw hg hn (by omega) hC (by omega) ⟨by omega, by omega⟩ h
      · rename_i he
        obtain rfl : eb = 0 := by simpa using he
        exact save_go hf hw hsv hg hn (by omega) hC (by omega) ⟨by omega, by omega⟩ h
end
end Go.Proofs.Ytlepcmljmibdnaa
namespace Go.Proofs.Ytlepcmljmibdnaa
open Go.RowKit Go.Proofs.YtlepcmljmibdnaaW.PrintWords Go.Proofs.YtlepcmljmibdnaaW.PrintLast Go.Proofs.YtlepcmljmibdnaaW.PrintMore PDiskArms
set_option linter.unusedVariables false
set_option linter.unusedSimpArgs false
def wrs (D : PD) (l : List S31) : PD := l.foldl (fun D x => (writeP D x.f1 x.f2).1) D
structure Quiet (D : PD) : Prop where
  dead : D.dead = false
  armed : D.armed = false
structure Wr (D0 D : PD) (l : List S31) : Prop where
  q : Quiet D
  kept : D.kept = D0.kept
  n : D.n = D0.n
  bad : D.bad = D0.bad
  len : D.cache.length ≤ D0.cache.length + l.length
  cache : ∀ p ∈ D.cache, p ∈ D0.cache ∨ ∃ x ∈ l, p.1 = x.f1 ∧ x.f2.length ≤ 64 ∧ p.2 = pad x.f2
theorem keepAll_more (D : PD) (l : List (Int × List Int)) : (keepAll D l).n = D.n ∧ (keepAll D l).bad = D.bad := by
  induction l generalizing D with
  | nil => exact ⟨rfl, rfl⟩
  | cons x l ih => exact ih (keepP D x)
theorem keepP_at (D : PD) (p : Int × List Int) (i : Int) : ((keepP D p).kept i).getD zsec = if i = p.1 then p.2 else (D.kept i).getD zsec := by
  unfold keepP
  simp only
  by_cases h : i = p.1
  · rw [if_pos h, if_pos h]
    by_cases hz : p.2 = zsec
    · rw [if_pos hz, hz]; rfl
    · rw [if_neg hz]; rfl
  · rw [if_neg h, if_neg h]
end Go.Proofs.Ytlepcmljmibdnaa
namespace Go.Proofs.Ytlepcmljmibdnaa
open Go.RowKit Go.Proofs.YtlepcmljmibdnaaW.PrintWords Go.Proofs.YtlepcmljmibdnaaW.PrintLast Go.Proofs.YtlepcmljmibdnaaW.PrintMore PDiskArms
set_option linter.unusedVariables false
set_option linter.unusedSimpArgs false
/-- nothing below base, and no block but those of kind T, has changed -/
structure TC (base : Nat) (T : Obj → Prop) (w w' : World) : Prop where
  low : Below base w w'
  blk : ∀ (k : Nat) (o : Obj), w.heap[k]? = some o → ¬ T o → w'.heap[k]? = some o
section
variable {base : Nat} {T T' : Obj → Prop} {a b c : World}
theorem TC.refl (base : Nat) (T : Obj → Prop) (w : World) : TC base T w w := ⟨Below.refl _ _, fun _ _ h _ => h⟩
theorem TC.trans (h : TC base T a b) (k : TC base T b c) : TC base T a c := ⟨h.low.trans k.low, fun i o ho hn => k.blk i o (h.blk i o ho hn) hn⟩
theorem TC.mono (h : TC base T a b) (ht : ∀ o, T o → T' o) : TC base T' a b := ⟨h.low, fun i o ho hn => h.blk i o ho (fun e => hn (ht o e))⟩
theorem TC.lower {base' : Nat} (h : TC base T a b) (hb : base' ≤ base) : TC base' T a b := ⟨h.low.mono hb, h.blk⟩
theorem TC.of_chg {S : Nat → Prop} (h : Chg a b S) (hb : base ≤ a.heap.size) (hs : ∀ k, S k → k < a.heap.size → base ≤ k ∧ ∃ o, a.heap[k]? = some o ∧ T o) : TC base T a b :=
  ⟨⟨h.os, h.tape, h.output, h.size, fun k hk => h.block k (by omega) (fun e => by have := (hs k e (by omega)).1; omega)⟩, fun k o ho hn => by
    have hk : k < a.heap.size := (Array.getElem?_eq_some_iff.1 ho).1
    rw [h.block k hk (fun e => by
      obtain ⟨_, o', ho', ht⟩ := hs k e hk
      rw [ho] at ho'
      obtain rfl := Option.some.inj ho'
      exact hn ht)]
    exact ho⟩
theorem TC.of_below (h : Below a.heap.size a b) (hb : base ≤ a.heap.size) : TC base T a b :=
  ⟨h.mono hb, fun k o ho _ => (h.block k (Array.getElem?_eq_some_iff.1 ho).1).trans ho⟩
theorem TC.drew (h : TC base T a b) : TC base T a b.drew := ⟨h.low.drew, h.blk⟩
theorem TC.alloc (h : TC base T a b) (o : Obj) (hb : base ≤ a.heap.size) : TC base T a (b.alloc o) :=
  h.trans (.of_below (Below.alloc (Below.refl _ _) (Nat.le_refl _) o) (Nat.le_trans hb h.low.size))
theorem TC.grown {row : Option Nat} (h : a.grownBy b row) (hs : ∀ k, some k = row → base ≤ k ∧ ∃ o, a.heap[k]? = some o ∧ T o) (hb : base ≤ a.heap.size) : TC base T a b :=
  .of_chg (chg_grown h (S := fun k => some k = row) (fun k hk => hk)) hb (fun k hk _ => hs k hk)
theorem TC.set {g j : Nat} {o : Obj} (hg : a.heap[g]? = some o) (ht : T o) (hb : base ≤ g) (u : Value) : TC base T a (a.setCell ⟨g, j, none⟩ u) :=
  .of_chg (((Only.refl a g).set (i := j) u).chg (S := fun k => k = g) fun _ h => h) (by have := (Array.getElem?_eq_some_iff.1 hg).1; omega) (fun k hk _ => by subst hk; exact ⟨hb, o, hg, ht⟩)
theorem R_tc {α : Type} {d : Kd α} {e : Nat} {ok : Nat → Prop} {v : Value} {xs : List α} (h : d.R e a base ok v xs) {base' : Nat} (hc : TC base' T a b) (ht : ∀ q, q ∈ e :: d.E → ∀ cells, ¬ T (.cells cells q (0, 0))) : d.R e b base ok v xs :=
  Kd.R_mono (Kd.R_move (Kd.R_bound h) (fun k hk => by
    obtain ⟨_, _, _, q, hq, cells, hce⟩ := hk
    rw [hce]
    exact hc.blk k _ hce (ht q hq cells))) (fun _ hk => hk.1)
end
theorem below_after {b : Nat} {w0 w w' : World} (h : Below b w0 w) (k : Below b w0 w') (hs : w.heap.size ≤ w'.heap.size) : Below b w w' :=
  ⟨k.os.trans h.os.symm, k.tape.trans h.tape.symm, k.output.trans h.output.symm, hs, fun i hi => (k.block i hi).trans (h.block i hi).symm⟩
/-- the blocks of a disk -/
def isDisk (o : Obj) : Prop := match o with
  | .cells _ t _ => t = 96 ∨ t = 101
  | .map _ _ => True
  | _ => False
theorem DK.tc {w w' : World} {base B M Bd : Nat} {vc : Value} {D : PD} (h : DK w base B M Bd vc D) (hc : Chg w w' (FP B M Bd vc)) : TC base isDisk w w' := by
  refine .of_chg hc h.base_le fun k hk hl => ⟨(h.fp k hk).1, ?_⟩
  rcases hk with rfl | rfl | rfl | hk
  · exact ⟨_, h.blk, .inl rfl⟩
  · obtain ⟨es, cl, he, _⟩ := h.kept
    exact ⟨_, he, trivial⟩
  · obtain ⟨es, cl, he, _⟩ := h.bad
    exact ⟨_, he, trivial⟩
  · obtain ⟨inner, ho⟩ := Kd.R_own h.cache
    obtain ⟨cells, hc⟩ := own_typed ho k hk.symm
    exact ⟨_, hc, .inr rfl⟩
theorem DK.tkeep {w w' : World} {base base' B M Bd : Nat} {vc : Value} {D : PD} {T : Obj → Prop} (h : DK w base B M Bd vc D) (hc : TC base' T w w') (ht : ∀ o, isDisk o → ¬ T o) : DK w' base B M Bd vc D := by
  obtain ⟨e1, c1, hk1, hr1⟩ := h.kept
  obtain ⟨e2, c2, hk2, hr2⟩ := h.bad
  refine ⟨hc.blk B _ h.blk (ht _ (.inl rfl)), ⟨e1, c1, hc.blk M _ hk1 (ht _ trivial), hr1⟩, ⟨e2, c2, hc.blk Bd _ hk2 (ht _ trivial), hr2⟩, R_tc h.cache hc ?_, h.hB, h.hM, h.hBd, h.hne, h.sec, h.hn, h.hl⟩
  intro q hq cells
  have : q = 101 := by
    have : (101 :: wrK.E) = [101] := by rfl
    rw [this] at hq
    simpa using hq
  subst this
  exact ht _ (.inr rfl)

/-! ### the reference's disk -/
structure RX where
  S : List (List Int)
  cache : List (Int × List Int)
  bad : List Bool
  left : Int
  dead : Bool
def bytesK : Kd (List Int) := Kd.slice 5 (Kd.int .u8)
def rwrK : Kd (Int × List Int) := Kd.pair (Kd.int .i64) bytesK
def isRef (o : Obj) : Prop := match o with
  | .cells _ t _ => t = 53 ∨ t = 29 ∨ t = 4
  | _ => False
theorem isRef53 (c : Array Value) : isRef (.cells c 53 (0, 0)) := .inl rfl
structure RM (w : World) (base B : Nat) (vS vC vB : Value) (X : RX) : Prop where
  blk : w.heap[B]? = some (.cells #[vS, vC, vB, .int .i64 X.left, .bool X.dead] 53 (0, 0))
  S : Kd.R bytesK 29 w base (fun _ => True) vS X.S
  C : Kd.R rwrK 106 w base (fun _ => True) vC X.cache
  bad : Kd.R Kd.bool 4 w base (fun _ => True) vB X.bad
  hB : base ≤ B
structure XOk (X : RX) : Prop where
  s64 : ∀ s ∈ X.S, s.length = 64
  c64 : ∀ p ∈ X.cache, p.2.length = 64 ∧ 0 ≤ p.1 ∧ p.1 < X.S.length
  hb : X.bad.length = X.S.length
  hl : -1 ≤ X.left ∧ X.left ≤ 9223372036854775807
  hn : X.S.length ≤ 4096
structure RK (w : World) (base B : Nat) (vS vC vB : Value) (X : RX) : Prop extends RM w base B vS vC vB X where
  ok : XOk X
theorem RM.lt {w : World} {base B : Nat} {vS vC vB : Value} {X : RX} (h : RM w base B vS vC vB X) : B < w.heap.size := (Array.getElem?_eq_some_iff.1 h.blk).1
theorem RM.base_le {w : World} {base B : Nat} {vS vC vB : Value} {X : RX} (h : RM w base B vS vC vB X) : base ≤ w.heap.size := by have := h.lt; have := h.hB; omega
theorem RM.tkeep {w w' : World} {base base' B : Nat} {vS vC vB : Value} {X : RX} {T : Obj → Prop} (h : RM w base B vS vC vB X) (hc : TC base' T w w') (ht : ∀ q, q = 53 ∨ q = 29 ∨ q = 5 ∨ q = 106 ∨ q = 4 → ∀ cells, ¬ T (.cells cells q (0, 0))) : RM w' base B vS vC vB X := by
  refine ⟨hc.blk B _ h.blk (ht 53 (.inl rfl) _), R_tc h.S hc ?_, R_tc h.C hc ?_, R_tc h.bad hc ?_, h.hB⟩
  · intro q hq
    rw [show 29 :: bytesK.E = [29, 5] from rfl] at hq
    simp only [List.mem_cons, List.not_mem_nil, or_false] at hq
    exact ht q (by rcases hq with h | h <;> simp [h])
  · intro q hq
    rw [show 106 :: rwrK.E = [106, 5] from rfl] at hq
    simp only [List.mem_cons, List.not_mem_nil, or_false] at hq
    exact ht q (by rcases hq with h | h <;> simp [h])
  · intro q hq
    rw [show 4 :: Kd.bool.E = [4] from rfl] at hq
    simp only [List.mem_cons, List.not_mem_nil, or_false] at hq
    exact ht q (by simp [hq])
theorem RM.disk {w w' : World} {base base' B : Nat} {vS vC vB : Value} {X : RX} (h : RM w base B vS vC vB X) (hc : TC base' isDisk w w') : RM w' base B vS vC vB X :=
  h.tkeep hc fun q hq cells ht => by
    simp only [isDisk] at ht
    rcases hq with h | h | h | h | h <;> simp [h] at ht
theorem RM.fresh {w w' : World} {base B : Nat} {vS vC vB : Value} {X : RX} (h : RM w base B vS vC vB X) (hc : Below w.heap.size w w') : RM w' base B vS vC vB X :=
  h.tkeep (T := fun _ => False) (.of_below hc h.base_le) fun q hq cells ht => ht
theorem RK.disk {w w' : World} {base base' B : Nat} {vS vC vB : Value} {X : RX} (h : RK w base B vS vC vB X) (hc : TC base' isDisk w w') : RK w' base B vS vC vB X := ⟨h.toRM.disk hc, h.ok⟩
theorem RK.fresh {w w' : World} {base B : Nat} {vS vC vB : Value} {X : RX} (h : RK w base B vS vC vB X) (hc : Below w.heap.size w w') : RK w' base B vS vC vB X := ⟨h.toRM.fresh hc, h.ok⟩
theorem RM.low {w : World} {base b B : Nat} {vS vC vB : Value} {X : RX} (h : RM w base B vS vC vB X) (hb : b ≤ base) : RM w b B vS vC vB X := ⟨h.blk, Kd.R_lower h.S hb, Kd.R_lower h.C hb, Kd.R_lower h.bad hb, Nat.le_trans hb h.hB⟩
theorem q29 : ∀ q, q ∈ 29 :: bytesK.E → q = 29 ∨ q = 5 := by
  intro q hq
  rw [show 29 :: bytesK.E = [29, 5] from rfl] at hq
  simpa using hq
theorem q106 : ∀ q, q ∈ 106 :: rwrK.E → q = 106 ∨ q = 5 := by
  intro q hq
  rw [show 106 :: rwrK.E = [106, 5] from rfl] at hq
  simpa using hq
theorem q4 : ∀ q, q ∈ 4 :: Kd.bool.E → q = 4 := by
  intro q hq
  rw [show 4 :: Kd.bool.E = [4] from rfl] at hq
  simpa using hq
/-- what a change of some of its blocks leaves -/
theorem R_types_chg {α : Type} {d : Kd α} {e : Nat} {w w' : World} {base : Nat} {v : Value} {xs : List α} {S : Nat → Prop} (hr : Kd.R d e w base (fun _ => True) v xs) (hc : Chg w w' S)
    (hs : ∀ k, S k → k < w.heap.size → ∃ t cells, w.heap[k]? = some (.cells cells t (0, 0)) ∧ ∀ q, q ∈ e :: d.E → q ≠ t) : Kd.R d e w' base (fun _ => True) v xs :=
  Kd.R_mono (Kd.R_move (Kd.R_bound hr) (fun k hk => hc.block k hk.2.2.1 (fun hS => by
    obtain ⟨t, cells, hcl, hq⟩ := hs k hS hk.2.2.1
    obtain ⟨_, _, _, q, hq', cells', hc'⟩ := hk
    rw [hcl] at hc'
    injection hc' with hc'
    injection hc' with _ hc'
    exact hq q hq' hc'.symm))) (fun _ _ => trivial)
theorem own_cells {α : Type} {d : Kd α} {e : Nat} {w : World} {base : Nat} {v : Value} {xs : List α} {ok : Nat → Prop} (hr : Kd.R d e w base ok v xs) (k : Nat) (hk : some k = v.ownBlock) : base ≤ k ∧ ∃ cells, w.heap[k]? = some (.cells cells e (0, 0)) := by
  obtain ⟨inner, ho⟩ := Kd.R_own hr
  exact ⟨own_base ho k hk.symm, own_typed ho k hk.symm⟩
/-- the row of sectors was turned, then its cell -/
theorem RM.reS {w w' : World} {base B : Nat} {vS vC vB v1 : Value} {X : RX} {S' : List (List Int)} (h : RM w base B vS vC vB X) (hc : Chg w w' (fun k => some k = vS.ownBlock)) (ho : Kd.R bytesK 29 w' base (fun _ => True) v1 S') :
    RM (w'.setCell ⟨B, 0, none⟩ v1) base B v1 vC vB { X with S := S' } ∧ TC base isRef w (w'.setCell ⟨B, 0, none⟩ v1) := by
  have hne : some B ≠ vS.ownBlock := fun e => by
    obtain ⟨_, cells, hc⟩ := own_cells h.S B e
    rw [h.blk] at hc
    simp at hc
  have hb : w'.heap[B]? = _ := (hc.block B h.lt hne).trans h.blk
  have hs : ∀ k, some k = vS.ownBlock → k < w.heap.size → base ≤ k ∧ ∃ o, w.heap[k]? = some o ∧ isRef o := fun k hk hl => by
    obtain ⟨h1, cells, h2⟩ := own_cells h.S k hk
    exact ⟨h1, _, h2, .inr (.inl rfl)⟩
  have hs' : ∀ k, some k = vS.ownBlock → k < w.heap.size → ∃ t cells, w.heap[k]? = some (.cells cells t (0, 0)) ∧ t = 29 := fun k hk hl => by
    obtain ⟨h1, cells, h2⟩ := own_cells h.S k hk
    exact ⟨29, cells, h2, rfl⟩
  refine ⟨⟨set7 hb 0 v1, Kd.R_set ho hb (fun q hq => by rcases q29 q hq with h | h <;> simp [h]) 0 v1, Kd.R_set (R_types_chg h.C hc fun k hk hl => by obtain ⟨t, c, h1, rfl⟩ := hs' k hk hl; exact ⟨_, c, h1, fun q hq => by rcases q106 q hq with h | h <;> simp [h]⟩) hb (fun q hq => by rcases q106 q hq with h | h <;> simp [h]) 0 v1,
    Kd.R_set (R_types_chg h.bad hc fun k hk hl => by obtain ⟨t, c, h1, rfl⟩ := hs' k hk hl; exact ⟨_, c, h1, fun q hq => by simp [q4 q hq]⟩) hb (fun q hq => by simp [q4 q hq]) 0 v1, h.hB⟩, ?_⟩
  exact (TC.of_chg hc h.base_le hs).trans (.set hb (isRef53 _) h.hB v1)
/-- the row of marks was turned, then its cell -/
theorem RM.reB {w w' : World} {base B : Nat} {vS vC vB v1 : Value} {X : RX} {S' : List Bool} (h : RM w base B vS vC vB X) (hc : Chg w w' (fun k => some k = vB.ownBlock)) (ho : Kd.R Kd.bool 4 w' base (fun _ => True) v1 S') :
    RM (w'.setCell ⟨B, 2, none⟩ v1) base B vS vC v1 { X with bad := S' } ∧ TC base isRef w (w'.setCell ⟨B, 2, none⟩ v1) := by
  have hne : some B ≠ vB.ownBlock := fun e => by
    obtain ⟨_, cells, hc⟩ := own_cells h.bad B e
    rw [h.blk] at hc
    simp at hc
  have hb : w'.heap[B]? = _ := (hc.block B h.lt hne).trans h.blk
  have hs : ∀ k, some k = vB.ownBlock → k < w.heap.size → base ≤ k ∧ ∃ o, w.heap[k]? = some o ∧ isRef o := fun k hk hl => by
    obtain ⟨h1, cells, h2⟩ := own_cells h.bad k hk
    exact ⟨h1, _, h2, .inr (.inr rfl)⟩
  have hs' : ∀ k, some k = vB.ownBlock → k < w.heap.size → ∃ t cells, w.heap[k]? = some (.cells cells t (0, 0)) ∧ t = 4 := fun k hk hl => by
    obtain ⟨h1, cells, h2⟩ := own_cells h.bad k hk
    exact ⟨4, cells, h2, rfl⟩
  refine ⟨⟨set7 hb 2 v1, Kd.R_set (R_types_chg h.S hc fun k hk hl => by obtain ⟨t, c, h1, rfl⟩ := hs' k hk hl; exact ⟨_, c, h1, fun q hq => by rcases q29 q hq with h | h <;> simp [h]⟩) hb (fun q hq => by rcases q29 q hq with h | h <;> simp [h]) 2 v1,
    Kd.R_set (R_types_chg h.C hc fun k hk hl => by obtain ⟨t, c, h1, rfl⟩ := hs' k hk hl; exact ⟨_, c, h1, fun q hq => by rcases q106 q hq with h | h <;> simp [h]⟩) hb (fun q hq => by rcases q106 q hq with h | h <;> simp [h]) 2 v1,
    Kd.R_set ho hb (fun q hq => by simp [q4 q hq]) 2 v1, h.hB⟩, ?_⟩
  exact (TC.of_chg hc h.base_le hs).trans (.set hb (isRef53 _) h.hB v1)
theorem DK.ref {w w' : World} {base base' B M Bd : Nat} {vc : Value} {D : PD} (h : DK w base B M Bd vc D) (hc : TC base' isRef w w') : DK w' base B M Bd vc D :=
  h.tkeep hc fun o ho ht => by
    cases o with
    | cells c t f => simp only [isDisk, isRef] at ho ht; rcases ho with h | h <;> simp [h] at ht
    | _ => exact ht
theorem cells5 {w : World} {B : Nat} {a b c d e : Value} {t : Nat} (h : w.heap[B]? = some (.cells #[a, b, c, d, e] t (0, 0))) :
    (w.cell? ⟨B, 0, none⟩ = some a ∧ w.cell? ⟨B, 1, none⟩ = some b ∧ w.cell? ⟨B, 2, none⟩ = some c ∧ w.cell? ⟨B, 3, none⟩ = some d ∧ w.cell? ⟨B, 4, none⟩ = some e) ∧
    (w.frozen? ⟨B, 0, none⟩ = false ∧ w.frozen? ⟨B, 1, none⟩ = false ∧ w.frozen? ⟨B, 2, none⟩ = false ∧ w.frozen? ⟨B, 3, none⟩ = false ∧ w.frozen? ⟨B, 4, none⟩ = false) := by
  refine ⟨⟨?_, ?_, ?_, ?_, ?_⟩, ?_, ?_, ?_, ?_, ?_⟩ <;> simp [World.cell?, World.frozen?, h]
/-- only the numbers of the reference's disk were turned -/
theorem RK.num {w : World} {base B : Nat} {vS vC vB : Value} {X : RX} (h : RK w base B vS vC vB X) (l : Int) (d : Bool) (hl : -1 ≤ l ∧ l ≤ 9223372036854775807) {w' : World} (ho : Only w w' B) (hb : w'.heap[B]? = some (.cells #[vS, vC, vB, .int .i64 l, .bool d] 53 (0, 0))) :
    RK w' base B vS vC vB { X with left := l, dead := d } ∧ TC base isRef w w' := by
  have hc : Chg w w' (fun k => k = B) := ho.chg fun _ h => h
  have htc : TC base isRef w w' := .of_chg hc h.base_le fun k hk _ => by subst hk; exact ⟨h.hB, _, h.blk, isRef53 _⟩
  have hm : ∀ {α : Type} {d : Kd α} {e : Nat} {v : Value} {xs : List α}, Kd.R d e w base (fun _ => True) v xs → (∀ q, q ∈ e :: d.E → q ≠ 53) → Kd.R d e w' base (fun _ => True) v xs := fun hr hq => by
    have h1 := Kd.R_types hr h.blk hq
    exact Kd.R_mono (Kd.R_step h1 (fun k hk hl => hc.block k hl hk.2)) (fun _ _ => trivial)
  refine ⟨⟨⟨hb, hm h.S ?_, hm h.C ?_, hm h.bad ?_, h.hB⟩, ⟨h.ok.s64, h.ok.c64, h.ok.hb, hl, h.ok.hn⟩⟩, htc⟩
  · intro q hq
    rw [show 29 :: bytesK.E = [29, 5] from rfl] at hq
    simp only [List.mem_cons, List.not_mem_nil, or_false] at hq
    rintro rfl
    simp at hq
  · intro q hq
    rw [show 106 :: rwrK.E = [106, 5] from rfl] at hq
    simp only [List.mem_cons, List.not_mem_nil, or_false] at hq
    rintro rfl
    simp at hq
  · intro q hq
    rw [show 4 :: Kd.bool.E = [4] from rfl] at hq
    simp only [List.mem_cons, List.not_mem_nil, or_false] at hq
    rintro rfl
    simp at hq
theorem rhas_calls (w : World) (base B : Nat) (vS vC vB : Value) (X : RX) (at_ : Int) (b : Bool) (hb : inB at_ X.S.length = b) (h : RK w base B vS vC vB X) :
    Calls Try.prog 70 #[.pointer (some ⟨B, 0, none⟩), .int .i64 at_] w fun e w' => e = .returned (.bool b) ∧ w = w' := by
  subst hb
  obtain ⟨⟨h0, h1, h2, h3, h4⟩, _⟩ := cells5 h.blk
  obtain ⟨A, c, rfl⟩ := Kd.R_slice h.S
  clear h h1 h2 h3 h4
  by_cases h : 0 ≤ at_
  · by_cases h' : at_ < X.S.length
    · rw [show inB at_ X.S.length = true by simp [inB]; omega]
      go_enter Try.func70, Try.ntmps70
      go_wp2
      go_ret
      exact ⟨rfl, rfl⟩
    · rw [show inB at_ X.S.length = false by simp [inB]; omega]
      have h2 : decide (at_ < (X.S.length : Int)) = false := by simp; omega
      go_enter Try.func70, Try.ntmps70
      go_wp2
      go_ret
      exact ⟨rfl, rfl⟩
  · rw [show inB at_ X.S.length = false by simp [inB]; omega]
    go_enter Try.func70, Try.ntmps70
    go_wp2
    go_ret
    exact ⟨rfl, rfl⟩
def ractX (X : RX) : RX × Int := if X.dead || X.left == 0 then ({ X with dead := true }, 50) else if 0 < X.left then ({ X with left := X.left - 1 }, 0) else (X, 0)
theorem ract_calls (w : World) (base B : Nat) (vS vC vB : Value) (X X' : RX) (r : Int) (hx : ractX X = (X', r)) (h : RK w base B vS vC vB X) :
    Calls Try.prog 71 #[.pointer (some ⟨B, 0, none⟩)] w fun e w' => e = .returned (.int .i64 r) ∧ RK w' base B vS vC vB X' ∧ TC base isRef w w' ∧ Chg w w' (fun k => k = B) := by
  obtain ⟨⟨h0, h1, h2, h3, h4⟩, f0, f1, f2, f3, f4⟩ := cells5 h.blk
  have HR := Aside0.mk h
  obtain ⟨S, cache, bad, left, dead⟩ := X
  simp only at h3 h4
  have hl := h.ok.hl
  simp only at hl
  obtain ⟨hl1, hl2⟩ := hl
  clear h
  cases dead with
  | true =>
    have e : ractX { S := S, cache := cache, bad := bad, left := left, dead := true } = ({ S := S, cache := cache, bad := bad, left := left, dead := true }, 50) := by simp [ractX]
    obtain ⟨rfl, rfl⟩ := Prod.mk.inj (e.symm.trans hx)
    clear e hx
    go_enter Try.func71, Try.ntmps71
    go_wp2
    go_ret
    have ho := (Only.refl w B).set (i := 4) (.bool true)
    obtain ⟨k1, k2⟩ := HR.out.num left true ⟨hl1, hl2⟩ ho (set7 HR.out.blk 4 (.bool true))
    exact ⟨rfl, k1, k2, ho.chg fun _ h => h⟩
  | false =>
    by_cases hz : left = 0
    · subst hz
      have e : ractX { S := S, cache := cache, bad := bad, left := 0, dead := false } = ({ S := S, cache := cache, bad := bad, left := 0, dead := true }, 50) := by simp [ractX]
      obtain ⟨rfl, rfl⟩ := Prod.mk.inj (e.symm.trans hx)
      clear e hx
      go_enter Try.func71, Try.ntmps71
      go_wp2
      go_ret
      have ho := (Only.refl w B).set (i := 4) (.bool true)
      obtain ⟨k1, k2⟩ := HR.out.num 0 true ⟨by omega, by omega⟩ ho (set7 HR.out.blk 4 (.bool true))
      exact ⟨rfl, k1, k2, ho.chg fun _ h => h⟩
    · have hz0 : (left == 0) = false := by simpa using hz
      by_cases hp : 0 < left
      · have e : ractX { S := S, cache := cache, bad := bad, left := left, dead := false } = ({ S := S, cache := cache, bad := bad, left := left - 1, dead := false }, 0) := by simp [ractX, hz, hp]
        obtain ⟨rfl, rfl⟩ := Prod.mk.inj (e.symm.trans hx)
        clear e hx hz
        go_enter Try.func71, Try.ntmps71
        go_wp2
        go_ret
        have ho := (Only.refl w B).set (i := 3) (.int .i64 (left - 1))
        obtain ⟨k1, k2⟩ := HR.out.num (left - 1) false ⟨by omega, by omega⟩ ho (set7 HR.out.blk 3 (.int .i64 (left - 1)))
        exact ⟨rfl, k1, k2, ho.chg fun _ h => h⟩
      · have e : ractX { S := S, cache := cache, bad := bad, left := left, dead := false } = ({ S := S, cache := cache, bad := bad, left := left, dead := false }, 0) := by simp [ractX, hz, hp]
        obtain ⟨rfl, rfl⟩ := Prod.mk.inj (e.symm.trans hx)
        clear e hx hz
        go_enter Try.func71, Try.ntmps71
        go_wp2
        go_ret
        exact ⟨rfl, HR.out, TC.refl _ _ _, Chg.refl _ _⟩
def rarmX (X : RX) (n : Int) : RX := { X with left := if 0 ≤ n then n else -1 }
end Go.Proofs.Ytlepcmljmibdnaa
namespace Go.Proofs.Ytlepcmljmibdnaa
open Go.RowKit Go.Proofs.YtlepcmljmibdnaaW.PrintWords Go.Proofs.YtlepcmljmibdnaaW.PrintLast Go.Proofs.YtlepcmljmibdnaaW.PrintMore PDiskArms
set_option linter.unusedVariables false
set_option linter.unusedSimpArgs false
theorem info5e : (Try.prog.info? 5).map (fun i => (i.zero, i.size, i.bytes)) = some (some (.int .u8 0), (Kd.int .u8).sz, 1) := by kernel_rfl
theorem info29e : (Try.prog.info? 29).map (fun i => (i.zero, i.size, i.bytes)) = some (some (.slice none 0 0), bytesK.sz, 24) := by kernel_rfl
theorem info4e : (Try.prog.info? 4).map (fun i => (i.zero, i.size, i.bytes)) = some (some (.bool false), Kd.bool.sz, 1) := by kernel_rfl
theorem info106e : (Try.prog.info? 106).map (fun i => (i.zero, i.size, i.bytes)) = some (some (.agg #[.int .i64 0, .slice none 0 0]), rwrK.sz, 32) := by kernel_rfl
/-- a row of noughts, made -/
theorem make64 (W : World) : (Instr.makeSlice 29 (.int .i64 64) (.int .i64 64)).run Try.prog W = .ok (.slice (some ⟨W.heap.size, 0, none⟩) 64 64) (W.alloc (.cells (madeCells #[.int .u8 0] 64) 5)) :=
  print_make (P := Try.prog) 29 5 .u8 1 Try.underlying29 info5e (by decide) 64 (by decide) W
theorem made_R (W : World) (base : Nat) (hb : base ≤ W.heap.size) : Kd.R (Kd.int .u8) 5 (W.alloc (.cells (madeCells #[.int .u8 0] 64) 5)) base (fun k => W.heap.size ≤ k) (.slice (some ⟨W.heap.size, 0, none⟩) 64 64) zsec :=
  Kd.R_of_own (own_made W base 5 .u8 64 hb (by decide)) (fun k hk => by have : W.heap.size = k := by simpa [Value.ownBlock] using hk
                                                                        omega)
def rnewN (n : Int) : Nat := (min (max n 0) 4096).toNat
def rnewX (m : Nat) : RX := { S := List.replicate m zsec, cache := [], bad := List.replicate m false, left := -1, dead := false }
theorem rep_succ {α : Type} (m : Nat) (x : α) : List.replicate m x ++ [x] = List.replicate (m + 1) x := by rw [List.replicate_succ']
theorem make_M (W : World) (base : Nat) (hb : base ≤ W.heap.size) : bytesK.M (W.alloc (.cells (madeCells #[.int .u8 0] 64) 5)) base (fun k => W.heap.size ≤ k) zsec [.slice (some ⟨W.heap.size, 0, none⟩) 64 64] :=
  ⟨_, rfl, made_R W base hb⟩
def RNewP (w : World) (N : Nat) (e : Ending) (w' : World) : Prop := ∃ B vS vB, e = .returned (.pointer (some ⟨B, 0, none⟩)) ∧ RM w' w.heap.size B vS (.slice none 0 0) vB (rnewX N) ∧ Below w.heap.size w w'
set_option maxHeartbeats 1000000 in
theorem rnew_calls (w : World) (n : Int) :
    Calls Try.prog 25 #[.int .i64 n] w (RNewP w (rnewN n)) := by
  have hmk := make64
  have hN : Aside0 ((rnewN n : Int) = min (max n 0) 4096) := ⟨by unfold rnewN; omega⟩
  generalize rnewN n = N at hN
  have hN4 : N ≤ 4096 := by have := hN.out; omega
  have hblk := heap_alloc_new w (.cells #[.slice none 0 0, .slice none 0 0, .slice none 0 0, .int .i64 (-1), .bool false] 53)
  have H0 : Aside0 (RM (w.alloc (.cells #[.slice none 0 0, .slice none 0 0, .slice none 0 0, .int .i64 (-1), .bool false] 53)) w.heap.size w.heap.size (.slice none 0 0) (.slice none 0 0) (.slice none 0 0) (rnewX 0)) :=
    ⟨⟨hblk, Kd.R_nil _ _ _ _ _, Kd.R_nil _ _ _ _ _, Kd.R_nil _ _ _ _ _, Nat.le_refl _⟩⟩
  clear hblk
  go_enter Try.func25, Try.ntmps25
  go_wp2
  go_loopg [4] N (fun kq v4 w' => ∃ (i : Nat) (vS vB : Value), v4 = .int .i64 (i : Int) ∧ Aside0 (i + kq = N) ∧ Aside0 (RM w' w.heap.size w.heap.size vS (.slice none 0 0) vB (rnewX i)) ∧ Aside0 (Below w.heap.size w w'))
  case atStart => exact ⟨0, _, _, rfl, ⟨by omega⟩, H0, ⟨Below.alloc (Below.refl _ _) (Nat.le_refl _) _⟩⟩
  case round =>
    obtain ⟨i, vS, vB, rfl, HI, HRi, HBi⟩ := hrel
    by_cases hi : i < N
    · have h1 : (i : Int) < n := by have := hN.out; omega
      have h2 : (i : Int) < 4096 := by have := hN.out; omega
      have hcs := cells5 HRi.out.blk
      obtain ⟨⟨q0, q1, q2, q3, q4⟩, f0, f1, f2, f3, f4⟩ := hcs
      obtain ⟨A, c, hvS⟩ := Kd.R_slice HRi.out.S
      have HVS := Aside0.mk hvS
      have q0' : wr.drew.cell? ⟨w.heap.size, 0, none⟩ = some vS := q0
      have HBS := Aside0.mk (show w.heap.size ≤ wr.heap.size from HBi.out.size)
      clear q0 q1 q3 q4 hvS f1 f3 f4
      have HM : Aside0 (bytesK.M (wr.alloc (.cells (madeCells #[.int .u8 0] 64) 5)).drew w.heap.size (fun k => wr.heap.size ≤ k) zsec [.slice (some ⟨wr.heap.size, 0, none⟩) 64 64]) := ⟨Kd.M_step (make_M wr w.heap.size HBS.out) (fun _ _ _ => rfl)⟩
      have HSZ : Aside0 ((wr.alloc (.cells (madeCells #[.int .u8 0] 64) 5)).drew.heap.size = wr.heap.size + 1) := ⟨alloc_size wr _⟩
      have HOK : Aside0 (∀ k, wr.heap.size ≤ k → True ∧ some k ≠ vS.ownBlock) := ⟨fun k hk => ⟨trivial, Kd.fresh_ok HRi.out.S k hk⟩⟩
      have HS1 := Aside0.mk (HRi.out.fresh (Below.alloc (Below.refl wr.heap.size wr) (Nat.le_refl _) (.cells (madeCells #[.int .u8 0] 64) 5)).drew).S
      have HBW := Aside0.mk (show w.heap.size ≤ (wr.alloc (.cells (madeCells #[.int .u8 0] 64) 5)).drew.heap.size from Nat.le_trans HBS.out (Below.alloc (Below.refl wr.heap.size wr) (Nat.le_refl _) _).size)
      have HLL := Aside0.mk (show ((rnewX i).S.length + 1) * 24 ≤ 140737488355328 by rw [show (rnewX i).S.length = i from List.length_replicate]; omega)
      have HLT := Aside0.mk HRi.out.lt
      have HBLT := Aside0.mk (show w.heap.size < (wr.alloc (.cells (madeCells #[.int .u8 0] 64) 5)).drew.heap.size from Nat.lt_of_lt_of_le HLT.out (Below.alloc (Below.refl wr.heap.size wr) (Nat.le_refl _) _).size)
      have HBN := Aside0.mk (show some w.heap.size ≠ vS.ownBlock from fun e => by
        obtain ⟨_, cells, hc⟩ := own_cells HRi.out.S _ e
        rw [HRi.out.blk] at hc
        simp at hc)
      go_wp2
      refine Fork.wp_fork (Fork.Lo.rel 0) [7, 10] [] (.one 0 0 (.one 1 0 (.one 2 0 (.one 3 0 (.one 4 1 (.one 5 2 (.one 6 2 (.one 7 2 (.one 8 0 (.one 9 0 (.one 10 2 .nil))))))))))) (by kernel_rfl) (by kernel_rfl) ?_
      generalize hops : List.toArray (_ : List Oper) = ops
      have HO := Aside0.mk hops
      clear hops
      iterate 4 ((refine Fork.plain (Fork.at_ HO.out rfl) _ rfl (fun W => by go_simp; exact rfl) ?_); simp only [Act.put, List.setIfInBounds_toArray, List.set_cons_succ, List.set_cons_zero])
      refine Fork.reads (Fork.at_ HO.out rfl) _ rfl (fun W hW => Arr.ex_load1 rfl rfl (by kernel_rfl) (Fork.bel_cell hW (by assumption))) ?_
      simp only [Act.put, List.setIfInBounds_toArray, List.set_cons_succ, List.set_cons_zero]
      refine Fork.step (Fork.at_ HO.out rfl) (fun K hK => ?_)
      go_simp
      refine hK _ _ (.of_new (Below.alloc (Below.refl _ _) (Nat.le_refl _) _) (Nat.zero_le _)) ?_
      clear hK K
      try simp only [Act.put, List.setIfInBounds_toArray, List.set_cons_succ, List.set_cons_zero]
      refine Fork.step (Fork.at_ HO.out rfl) (fun K hK => ?_)
      go_simp
      refine hK _ _ (.of_new (Below.alloc (Below.refl _ _) (Nat.le_refl _) _) (Nat.zero_le _)) ?_
      clear hK K
      try simp only [Act.put, List.setIfInBounds_toArray, List.set_cons_succ, List.set_cons_zero]
      refine Fork.step (Fork.at_ HO.out rfl) (fun K hK => ?_)
      refine Kd.R_append_step bytesK (W := (wr.alloc (.cells (madeCells #[.int .u8 0] 64) 5)).drew) (w0 := (wr.alloc (.cells (madeCells #[.int .u8 0] 64) 5)).drew) w.heap.size rfl (.tmp 20) (.tmp 22) 50 29 (.slice none 0 0) 24 rfl Try.underlying50 info29e rfl (by decide) (by decide) vS (rnewX i).S zsec [.slice (some ⟨wr.heap.size, 0, none⟩) 64 64] (fun _ => True) (fun k => wr.heap.size ≤ k) rfl (by rw [HSZ.out]; rfl) HM.out HOK.out (fun _ _ => trivial) HS1.out (Below.refl _ _) HBW.out HLL.out ?_
      intro v1 w4 ho hb hg hat
      refine hK _ _ (.of_old (.zero hg.os hg.tape hg.output) rfl) ?_
      clear hK K
      have hblk4 : w4.heap[w.heap.size]? = wr.heap[w.heap.size]? := (hg.block _ HBLT.out HBN.out).trans (heap_alloc_old wr _ HLT.out)
      obtain ⟨⟨r0, r1, r2, r3, r4⟩, g0, g1, g2, g3, g4⟩ := cells5 (hblk4.trans HRi.out.blk)
      clear r1 r2 r3 r4 g1 g2 g3 g4
      obtain ⟨A1, c1, hv1⟩ := Kd.R_slice ho
      generalize ((rnewX i).S ++ [zsec]).length = n1 at hv1
      subst hv1
      have HR1 := Aside0.mk ho
      have HG1 := Aside0.mk hg
      clear ho hb hg hat hblk4
      try simp only [Act.put, List.setIfInBounds_toArray, List.set_cons_succ, List.set_cons_zero]
      iterate 2 ((refine Fork.plain (Fork.at_ HO.out rfl) _ rfl (fun W => by go_simp; exact rfl) ?_); simp only [Act.put, List.setIfInBounds_toArray, List.set_cons_succ, List.set_cons_zero])
      refine Fork.step (Fork.at_ HO.out rfl) (fun K hK => ?_)
      go_simp
      refine hK _ _ (.of_old (.zero rfl rfl rfl) rfl) ?_
      clear hK K
      try simp only [Act.put, List.setIfInBounds_toArray, List.set_cons_succ, List.set_cons_zero]
      refine Fork.done ?_
      have hX1 : { rnewX i with S := (rnewX i).S ++ [zsec] } = { rnewX (i + 1) with bad := (rnewX i).bad } := by unfold rnewX; simp [rep_succ]
      have hc1 : Chg wr w4 (fun k => some k = vS.ownBlock) := ((Chg.refl wr _).alloc _).drew.trans (chg_grown HG1.out (fun _ h => h))
      obtain ⟨k1, k2⟩ := HRi.out.reS hc1 HR1.out
      rw [hX1] at k1
      have HK1 := Aside0.mk k1
      have HBk := Aside0.mk (HBi.out.trans k2.low)
      generalize w4.setCell ⟨w.heap.size, 0, none⟩ (Value.slice A1 n1 c1) = w5 at HK1 HBk ⊢
      clear q0' f0 f2 r0 g0 hX1 hc1 k1 k2
      obtain ⟨⟨q0, q1, q2, q3, q4⟩, f0, f1, f2, f3, f4⟩ := cells5 HK1.out.blk
      obtain ⟨Ab, cb, hvB⟩ := Kd.R_slice HK1.out.bad
      have HVB := Aside0.mk hvB
      have HLB := Aside0.mk (show (rnewX i).bad.length = i from List.length_replicate)
      have HNB := Aside0.mk (show some w.heap.size ≠ vB.ownBlock from fun e => by
        obtain ⟨_, cells, hc⟩ := own_cells HK1.out.bad _ e
        rw [HK1.out.blk] at hc
        simp at hc)
      clear q0 q1 q3 q4 hvB f0 f1 f3 f4
      go_wp2_with (first | ((with_reducible refine gate_builtin (b := .append) (xs := #[.tmp 30, .tmp 31]) rfl ?_); at_builtin; refine Kd.R_append Kd.bool (W := w5) (w0 := w5) w.heap.size rfl (.tmp 30) (.tmp 31) 23 4 (.bool false) 1 rfl Try.underlying23 info4e rfl (by decide) (by decide) vB (rnewX i).bad false [.bool false] (fun _ => True) (fun _ => False) rfl rfl rfl (fun _ h => h.elim) (fun _ _ => trivial) HK1.out.bad (Below.refl _ _) HBk.out.size (by rw [HLB.out]; omega) ?_; intro v2 w6 ho hb hg hat; have hblk6 := (hg.block _ HK1.out.lt HNB.out).trans HK1.out.blk; obtain ⟨⟨r0, r1, r2, r3, r4⟩, g0, g1, g2, g3, g4⟩ := cells5 hblk6; clear r0 r1 r3 r4 g0 g1 g3 g4 hblk6; obtain ⟨A2, c2, hv2⟩ := Kd.R_slice ho; generalize ((rnewX i).bad ++ [false]).length = n2 at hv2; subst hv2; have HR2 := Aside0.mk ho; have HG2 := Aside0.mk hg; clear ho hb hg hat))
      have hX2 : { { rnewX (i + 1) with bad := (rnewX i).bad } with bad := (rnewX i).bad ++ [false] } = rnewX (i + 1) := by unfold rnewX; simp [rep_succ]
      obtain ⟨k1, k2⟩ := HK1.out.reB (chg_grown HG2.out (fun _ h => h)) HR2.out
      rw [hX2] at k1
      have hk1 := HI.out
      obtain ⟨gq, rfl⟩ : ∃ gq, gk = gq + 1 := ⟨gk - 1, by omega⟩
      go_roundg gq
      case rel => exact ⟨i + 1, _, _, by go_num, ⟨by omega⟩, ⟨k1⟩, ⟨HBk.out.trans k2.low⟩⟩
      case measure => omega
    · have hi0 := HI.out
      obtain rfl : gk = 0 := by omega
      obtain rfl : i = N := by omega
      have hN0 := hN.out
      clear hi0
      by_cases h1 : (i : Int) < n
      · have h2 : decide ((i : Int) < 4096) = false := by simp; omega
        clear hN0
        go_wp2
        go_ret
        exact ⟨_, _, _, rfl, HRi.out, HBi.out⟩
      · clear hN0
        go_wp2
        go_ret
        exact ⟨_, _, _, rfl, HRi.out, HBi.out⟩
theorem rnew_ok (N : Nat) (h : N ≤ 4096) : XOk (rnewX N) := by
  refine ⟨fun s hs => ?_, fun p hp => ?_, ?_, ⟨?_, ?_⟩, ?_⟩
  · rw [List.eq_of_mem_replicate hs]; rfl
  · cases hp
  · simp [rnewX]
  · exact Int.le_refl _
  · show (-1 : Int) ≤ _; omega
  · simp [rnewX, h]
end Go.Proofs.Ytlepcmljmibdnaa
namespace Go.Proofs.Ytlepcmljmibdnaa
open Go.RowKit Go.Proofs.YtlepcmljmibdnaaW.PrintWords Go.Proofs.YtlepcmljmibdnaaW.PrintLast Go.Proofs.YtlepcmljmibdnaaW.PrintMore PDiskArms
set_option linter.unusedVariables false
set_option linter.unusedSimpArgs false
theorem R_put1 {α : Type} {d : Kd α} {e g n cap base : Nat} {W : World} {ok okp : Nat → Prop} {xs : List α} (hsz : d.sz = 1) (h : d.R e W base ok (.slice (some ⟨g, 0, none⟩) n cap) xs) (i : Nat) (hi : i < n) (x' : α) (u : Value)
    (hM : d.M W base okp x' [u]) (hokp : ∀ k, okp k → ok k ∧ k ≠ g) : d.R e (W.setCell ⟨g, i, none⟩ u) base ok (.slice (some ⟨g, 0, none⟩) n cap) (xs.set i x') ∧ W.grownBy (W.setCell ⟨g, i, none⟩ u) (some g) := by
  obtain ⟨y, hy⟩ : ∃ y, xs[i]? = some y := by
    obtain ⟨hn, _⟩ := Kd.R_reads' h
    exact ⟨_, List.getElem?_eq_getElem (by omega)⟩
  obtain ⟨c, hcl, _, hcc, _⟩ := Kd.R_elem h y (i : Int) (by omega) (by omega)
  have := Kd.R_seg (okp := okp) (seg := [u]) (j := 0) h (i : Int) (by omega) (by omega) hcl hcc (by rw [hsz]; exact Nat.le_refl 1) (x' := x') (by
    rw [List.take_zero, List.drop_eq_nil_of_le (by rw [hcl, hsz]; exact Nat.le_refl 1)]
    exact hM) hokp
  rw [hsz] at this
  simp only [Int.toNat_natCast, Nat.mul_one, Nat.add_zero] at this
  exact this
section
variable {w : World} {base B : Nat} {vS vC vB : Value} {X : RX}
theorem rs_at (h : RM w base B vS vC vB X) (k : Nat) (s : List Int) (hk : X.S[k]? = some s) :
    ∃ g c A ci, vS = .slice (some ⟨g, 0, none⟩) X.S.length c ∧ w.cell? ⟨g, k, none⟩ = some (.slice A s.length ci) ∧ w.frozen? ⟨g, k, none⟩ = false ∧ bytesK.M w base (fun k => k ≠ g) s [.slice A s.length ci] := by
  have hl : k < X.S.length := (List.getElem?_eq_some_iff.1 hk).1
  obtain ⟨g, c, hv⟩ := R_addr h.S (by omega)
  have hS := h.S
  rw [hv] at hS
  obtain ⟨c', hcl, hM, hcc, hf⟩ := Kd.R_elem hS s (k : Int) (by omega) (by omega)
  have e : X.S.getD (k : Int).toNat s = s := by simp [List.getD, hk]
  rw [e] at hM
  obtain ⟨v, rfl, hR⟩ := hM
  obtain ⟨A, ci, rfl⟩ := Kd.R_slice hR
  have h1 := hcc 0 _ rfl
  have h2 := hf 0
  rw [Int.toNat_natCast, show bytesK.sz = 1 from rfl, Nat.mul_one, Nat.add_zero] at h1 h2
  exact ⟨g, c, A, ci, hv, h1, h2, ⟨_, rfl, Kd.R_mono hR fun k hk => hk.2⟩⟩
theorem rc_at (h : RM w base B vS vC vB X) (k : Nat) (p : Int × List Int) (hk : X.cache[k]? = some p) :
    ∃ g c A ci, vC = .slice (some ⟨g, 0, none⟩) X.cache.length c ∧ w.cell? ⟨g, k * 2, none⟩ = some (.int .i64 p.1) ∧ w.cell? ⟨g, k * 2 + 1, none⟩ = some (.slice A p.2.length ci) ∧ bytesK.M w base (fun _ => True) p.2 [.slice A p.2.length ci] := by
  have hl : k < X.cache.length := (List.getElem?_eq_some_iff.1 hk).1
  obtain ⟨g, c, hv⟩ := R_addr h.C (by omega)
  have hC := h.C
  rw [hv] at hC
  obtain ⟨c', hcl, hM, hcc, hf⟩ := Kd.R_elem hC p (k : Int) (by omega) (by omega)
  have e : X.cache.getD (k : Int).toNat p = p := by simp [List.getD, hk]
  rw [e] at hM
  obtain ⟨c0, c1, rfl, hM0, v, rfl, hR⟩ := hM
  have hM0' : c0 = [.int .i64 p.1] := hM0
  subst hM0'
  obtain ⟨A, ci, rfl⟩ := Kd.R_slice hR
  have h1 := hcc 0 _ rfl
  have h2 := hcc 1 _ rfl
  rw [Int.toNat_natCast, show rwrK.sz = 2 from rfl] at h1 h2
  rw [Nat.add_zero] at h1
  exact ⟨g, c, A, ci, hv, h1, h2, ⟨_, rfl, Kd.R_mono hR fun k hk => trivial⟩⟩
theorem RM.putS {g n c : Nat} (h : RM w base B (.slice (some ⟨g, 0, none⟩) n c) vC vB X) (a : Nat) (ha : a < n) (s : List Int) (u : Value) (hM : bytesK.M w base (fun k => k ≠ g) s [u]) :
    RM (w.setCell ⟨g, a, none⟩ u) base B (.slice (some ⟨g, 0, none⟩) n c) vC vB { X with S := X.S.set a s } ∧ TC base isRef w (w.setCell ⟨g, a, none⟩ u) := by
  obtain ⟨k1, hg⟩ := R_put1 rfl h.S a ha s u hM (fun k hk => ⟨trivial, hk⟩)
  obtain ⟨hb, cells, hcl⟩ := own_cells h.S g rfl
  have hc : Chg w (w.setCell ⟨g, a, none⟩ u) (fun k => some k = some g) := chg_grown hg fun _ h => h
  have hs : ∀ k, some k = some g → k < w.heap.size → ∃ t cells, w.heap[k]? = some (.cells cells t (0, 0)) ∧ t = 29 := fun k hk _ => by
    obtain rfl := Option.some.inj hk
    exact ⟨_, cells, hcl, rfl⟩
  have hne : ¬ some B = some g := fun e => by
    obtain rfl := Option.some.inj e
    rw [h.blk] at hcl
    simp at hcl
  refine ⟨⟨(hc.block B h.lt hne).trans h.blk, k1, R_types_chg h.C hc fun k hk hl => ?_, R_types_chg h.bad hc fun k hk hl => ?_, h.hB⟩, .of_chg hc h.base_le fun k hk _ => ?_⟩
  · obtain ⟨t, c, h1, rfl⟩ := hs k hk hl
    exact ⟨_, c, h1, fun q hq => by rcases q106 q hq with h | h <;> simp [h]⟩
  · obtain ⟨t, c, h1, rfl⟩ := hs k hk hl
    exact ⟨_, c, h1, fun q hq => by simp [q4 q hq]⟩
  · obtain rfl := Option.some.inj hk
    exact ⟨hb, _, hcl, .inr (.inl rfl)⟩
end
def rputs (S : List (List Int)) (l : List (Int × List Int)) : List (List Int) := l.foldl (fun S p => S.set p.1.toNat p.2) S
theorem rputs_succ (S : List (List Int)) (l : List (Int × List Int)) (i : Nat) (p : Int × List Int) (h : l[i]? = some p) : rputs S (l.take (i + 1)) = (rputs S (l.take i)).set p.1.toNat p.2 := by
  unfold rputs
  rw [List.take_add_one, h, List.foldl_append]
  rfl
theorem rputs_len (S : List (List Int)) (l : List (Int × List Int)) : (rputs S l).length = S.length := by
  induction l generalizing S with
  | nil => rfl
  | cons p l ih => exact (ih (S.set p.1.toNat p.2)).trans (by simp)
theorem rputs_64 (S : List (List Int)) (l : List (Int × List Int)) (hS : ∀ s ∈ S, s.length = 64) (hl : ∀ p ∈ l, p.2.length = 64) : ∀ s ∈ rputs S l, s.length = 64 := by
  induction l generalizing S with
  | nil => exact hS
  | cons p l ih =>
    refine ih (S.set p.1.toNat p.2) (fun s hs => ?_) (fun q hq => hl q (by simp [hq]))
    rcases List.mem_or_eq_of_mem_set hs with h | h
    · exact hS s h
    · rw [h]; exact hl p (by simp)
theorem ract_same (X : RX) : (ractX X).1.S = X.S ∧ (ractX X).1.cache = X.cache ∧ (ractX X).1.bad = X.bad := by
  unfold ractX
  split
  · exact ⟨rfl, rfl, rfl⟩
  · split <;> exact ⟨rfl, rfl, rfl⟩
theorem write2_cells (w : World) (a0 a1 : Value) (t : Nat) : (w.alloc (.cells #[a0, a1] t)).drew.cell? ⟨w.heap.size, 0, none⟩ = some a0 ∧ (w.alloc (.cells #[a0, a1] t)).drew.cell? ⟨w.heap.size, 1, none⟩ = some a1 := by
  have h : (w.alloc (.cells #[a0, a1] t)).drew.heap[w.heap.size]? = some (.cells #[a0, a1] t (0, 0)) := heap_alloc_new w _
  constructor <;> (unfold World.cell?; rw [h]; rfl)
def rflushX (X : RX) : RX × Int := if (ractX X).2 ≠ 0 then ractX X else ({ (ractX X).1 with S := rputs X.S X.cache, cache := [] }, 0)
/-- the cache was let go -/
theorem RM.nocache {w : World} {base B : Nat} {vS vC vB : Value} {X : RX} (h : RM w base B vS vC vB X) : RM (w.setCell ⟨B, 1, none⟩ (.slice none 0 0)) base B vS (.slice none 0 0) vB { X with cache := [] } ∧ TC base isRef w (w.setCell ⟨B, 1, none⟩ (.slice none 0 0)) :=
  ⟨⟨set7 h.blk 1 _, Kd.R_set h.S h.blk (fun q hq => by rcases q29 q hq with h | h <;> simp [h]) 1 _, Kd.R_nil _ _ _ _ _, Kd.R_set h.bad h.blk (fun q hq => by simp [q4 q hq]) 1 _, h.hB⟩, .set h.blk (isRef53 _) h.hB _⟩
set_option maxHeartbeats 1000000 in
theorem rflush_calls (w : World) (base B : Nat) (vS vC vB : Value) (X X' : RX) (r : Int) (hx : rflushX X = (X', r)) (h : RK w base B vS vC vB X) (hl : X.cache.length ≤ 1000) :
    Calls Try.prog 28 #[.pointer (some ⟨B, 0, none⟩)] w fun e w' => e = .returned (.int .i64 r) ∧ TC base isRef w w' ∧ ∃ vC', RK w' base B vS vC' vB X' := by
  obtain ⟨X1, e, hact⟩ : ∃ X1 e, ractX X = (X1, e) := ⟨_, _, rfl⟩
  have HA := Aside0.mk hact
  have HR := Aside0.mk h
  have HX := Aside0.mk hx
  have hsm := ract_same X
  rw [hact] at hsm
  have HSM := Aside0.mk hsm
  clear h hx hact hsm
  by_cases hz : e = 0
  · subst hz
    have HX' : Aside0 (X' = { X1 with S := rputs X1.S X1.cache, cache := [] } ∧ r = 0) := ⟨by
      have := HX.out
      unfold rflushX at this
      rw [HA.out, if_neg (by simp), ← HSM.out.1, ← HSM.out.2.1] at this
      obtain ⟨h1, h2⟩ := Prod.mk.inj this
      exact ⟨h1.symm, h2.symm⟩⟩
    obtain rfl := HX'.out.2
    have hl1 : X1.cache.length ≤ 1000 := by rw [HSM.out.2.1]; exact hl
    have HCO : Aside0 (∀ p ∈ X1.cache, p.2.length = 64 ∧ 0 ≤ p.1 ∧ p.1 < X1.S.length) := ⟨by rw [HSM.out.2.1, HSM.out.1]; exact HR.out.ok.c64⟩
    go_enter Try.func28, Try.ntmps28
    go_wp2_with (first | (go_at_call 71; with_reducible refine (ract_calls w base B vS vC vB X X1 0 HA.out HR.out).mono ?_; rintro e w1 ⟨rfl, hr, ht, _⟩; have HR1 := Aside0.mk hr; have HT1 := Aside0.mk ht; obtain ⟨A0, c0, hvC⟩ := Kd.R_slice hr.C; subst hvC; have q1 := (cells5 hr.blk).1.2.1; clear hr ht))
    clear q1
    go_loopg [16] X1.cache.length (fun kq v16 w' => ∃ (i : Nat), v16 = .int .i64 (i : Int) ∧ Aside0 (i + kq = X1.cache.length) ∧ Aside0 (RM w' base B vS (.slice A0 X1.cache.length c0) vB { X1 with S := rputs X1.S (X1.cache.take i) }) ∧ Aside0 (TC base isRef w w'))
    case atStart => exact ⟨0, rfl, ⟨by omega⟩, ⟨HR1.out.toRM⟩, HT1⟩
    case round =>
      obtain ⟨i, rfl, HI, HRi, HTi⟩ := hrel
      by_cases hi : i < X1.cache.length
      · obtain ⟨p, hp⟩ : ∃ p, X1.cache[i]? = some p := ⟨_, List.getElem?_eq_getElem hi⟩
        obtain ⟨h64, hp0, hpl⟩ := HCO.out p (List.mem_of_getElem? hp)
        obtain ⟨a, ha⟩ : ∃ a : Nat, p.1 = (a : Int) := ⟨p.1.toNat, by omega⟩
        obtain ⟨g, c, A, ci, hvc, x0, x1, hM⟩ := rc_at HRi.out i p hp
        injection hvc with hv1 hv2 hv3
        subst hv1
        subst hv3
        clear hv2
        rw [ha] at x0
        have hal : a < (rputs X1.S (X1.cache.take i)).length := by rw [rputs_len]; omega
        obtain ⟨sa, hsa⟩ : ∃ sa, (rputs X1.S (X1.cache.take i))[a]? = some sa := ⟨_, List.getElem?_eq_getElem hal⟩
        obtain ⟨gs, cs, As, cis, hvs, y0, yf, _⟩ := rs_at HRi.out a sa hsa
        subst hvs
        have hal' : (a : Int) < ((rputs X1.S (X1.cache.take i)).length : Int) := by omega
        have HP := Aside0.mk hp
        have HPA := Aside0.mk ha
        have HM := Aside0.mk hM
        have HAL := Aside0.mk hal
        have q0 := (cells5 HRi.out.blk).1.1
        have hz := write2_cells wr (.int .i64 (a : Int)) (.slice A p.2.length ci) 106
        obtain ⟨z0, z1⟩ := hz
        have hbw := (Below.alloc (Below.refl wr.heap.size wr) (Nat.le_refl _) (.cells #[.int .i64 (a : Int), .slice A p.2.length ci] 106)).drew
        have HBW := Aside0.mk hbw
        have q0' := Fork.bel_cell hbw q0
        have y0' := Fork.bel_cell hbw y0
        have yf' := (hbw.frozen (p := ⟨gs, a, none⟩) (block_lt_of_cell y0)).trans yf
        clear h64 hp0 hpl hp ha hM hal q0 y0 yf hbw hsa
        go_wp2
        refine Fork.wp_fork (Fork.Lo.rel 0) [9] [] (.one 0 0 (.one 1 0 (.one 2 0 (.one 4 0 (.one 6 0 (.one 3 1 (.one 5 1 (.one 7 1 (.one 8 0 (.one 9 2 .nil)))))))))) (by kernel_rfl) (by kernel_rfl) ?_
        generalize hops : List.toArray (_ : List Oper) = ops
        have HO := Aside0.mk hops
        clear hops
        iterate 5 ((refine Fork.plain (Fork.at_ HO.out rfl) _ rfl (fun W => by go_simp; exact rfl) ?_); simp only [Act.put, List.setIfInBounds_toArray, List.set_cons_succ, List.set_cons_zero])
        refine Fork.reads (Fork.at_ HO.out rfl) _ rfl (fun W hW => Arr.ex_load1 rfl rfl (by kernel_rfl) (Fork.bel_cell hW (by assumption))) ?_
        simp only [Act.put, List.setIfInBounds_toArray, List.set_cons_succ, List.set_cons_zero]
        refine Fork.reads (Fork.at_ HO.out rfl) _ rfl (fun W hW => Arr.ex_load1 rfl rfl (by kernel_rfl) (Fork.bel_cell hW (by assumption))) ?_
        simp only [Act.put, List.setIfInBounds_toArray, List.set_cons_succ, List.set_cons_zero]
        refine Fork.reads (Fork.at_ HO.out rfl) _ rfl (fun W hW => Arr.ex_load1 rfl rfl (by kernel_rfl) (Fork.bel_cell hW (by assumption))) ?_
        simp only [Act.put, List.setIfInBounds_toArray, List.set_cons_succ, List.set_cons_zero]
        ((refine Fork.plain (Fork.at_ HO.out rfl) _ rfl (fun W => by go_simp; exact rfl) ?_); simp only [Act.put, List.setIfInBounds_toArray, List.set_cons_succ, List.set_cons_zero])
        refine Fork.step (Fork.at_ HO.out rfl) (fun K hK => ?_)
        go_simp
        refine hK _ _ (.of_old (.zero rfl rfl rfl) rfl) ?_
        clear hK K
        try simp only [Act.put, List.setIfInBounds_toArray, List.set_cons_succ, List.set_cons_zero]
        refine Fork.done ?_
        have hr2 := HRi.out.fresh HBW.out
        obtain ⟨_, cells, hcl⟩ := own_cells hr2.S gs rfl
        have hM2 := bytesK.M_mono (ok' := fun k => k ≠ gs) (fun k hk => hk.2) (Kd.M_types (Kd.M_below HM.out HBW.out) hcl (fun q hq => by rw [show bytesK.E = [5] from rfl] at hq; simp at hq; simp [hq]))
        obtain ⟨k1, k2⟩ := hr2.putS a HAL.out p.2 _ hM2
        have hk1 := HI.out
        obtain ⟨gq, rfl⟩ : ∃ gq, gk = gq + 1 := ⟨gk - 1, by omega⟩
        go_wp2
        go_roundg gq
        case rel => exact ⟨i + 1, by go_num, ⟨by omega⟩, ⟨by rw [rputs_succ X1.S X1.cache i p HP.out, HPA.out]; exact k1⟩, ⟨HTi.out.trans ((TC.of_below HBW.out HRi.out.base_le).trans k2)⟩⟩
        case measure => omega
      · have hi0 := HI.out
        obtain rfl : gk = 0 := by omega
        obtain rfl : i = X1.cache.length := by omega
        clear hi0
        have hm : ¬ ((X1.cache.length : Int) < (X1.cache.length : Int)) := by omega
        have q1 := (cells5 HRi.out.blk).1.2.1
        have f1 := (cells5 HRi.out.blk).2.2.1
        go_wp2
        go_ret
        obtain ⟨k1, k2⟩ := HRi.out.nocache
        rw [HX'.out.1]
        rw [List.take_length] at k1
        refine ⟨rfl, HTi.out.trans k2, _, k1, ⟨?_, fun p hp => (by cases hp), ?_, HR1.out.ok.hl, ?_⟩⟩
        · exact rputs_64 X1.S X1.cache HR1.out.ok.s64 (fun p hp => (HCO.out p hp).1)
        · show X1.bad.length = (rputs X1.S X1.cache).length
          rw [rputs_len]; exact HR1.out.ok.hb
        · show (rputs X1.S X1.cache).length ≤ 4096
          rw [rputs_len]; exact HR1.out.ok.hn
  · have hz' : (e == 0) = false := by simpa using hz
    have HX' : Aside0 (X1 = X' ∧ e = r) := ⟨by
      have := HX.out
      unfold rflushX at this
      rw [HA.out, if_pos hz] at this
      exact Prod.mk.inj this⟩
    obtain ⟨rfl, rfl⟩ := HX'.out
    clear hz
    go_enter Try.func28, Try.ntmps28
    go_wp2_with (first | (go_at_call 71; with_reducible refine (ract_calls w base B vS vC vB X X1 e HA.out HR.out).mono ?_; rintro e' w1 ⟨rfl, hr, ht, _⟩; have HR1 := Aside0.mk hr; have HT1 := Aside0.mk ht; clear hr ht))
    go_ret
    exact ⟨rfl, HT1.out, vC, HR1.out⟩
end Go.Proofs.Ytlepcmljmibdnaa
namespace Go.Proofs.Ytlepcmljmibdnaa
open Go.RowKit Go.Proofs.YtlepcmljmibdnaaW.PrintWords Go.Proofs.YtlepcmljmibdnaaW.PrintLast Go.Proofs.YtlepcmljmibdnaaW.PrintMore PDiskArms
set_option linter.unusedVariables false
set_option linter.unusedSimpArgs false
def rsel (S : List (List Int)) (l : List (Int × List Int)) (ks : List Bool) : Nat → List (List Int)
  | 0 => S
  | i + 1 => if ks.getD i false then (rsel S l ks i).set (l.getD i (0, [])).1.toNat (l.getD i (0, [])).2 else rsel S l ks i
def rcrashX (X : RX) (ks : List Bool) : RX := { S := rsel X.S X.cache ks X.cache.length, cache := [], bad := X.bad, left := -1, dead := false }
end Go.Proofs.Ytlepcmljmibdnaa
namespace Go.Proofs.Ytlepcmljmibdnaa
open Go.RowKit Go.Proofs.YtlepcmljmibdnaaW.PrintWords Go.Proofs.YtlepcmljmibdnaaW.PrintLast Go.Proofs.YtlepcmljmibdnaaW.PrintMore PDiskArms
set_option linter.unusedVariables false
set_option linter.unusedSimpArgs false
section
variable {w : World} {base B : Nat} {vS vC vB : Value} {X : RX}
theorem rb_at (h : RM w base B vS vC vB X) (k : Nat) (b : Bool) (hk : X.bad[k]? = some b) :
    ∃ g c, vB = .slice (some ⟨g, 0, none⟩) X.bad.length c ∧ w.cell? ⟨g, k, none⟩ = some (.bool b) ∧ w.frozen? ⟨g, k, none⟩ = false := by
  have hl : k < X.bad.length := (List.getElem?_eq_some_iff.1 hk).1
  obtain ⟨g, c, hv⟩ := R_addr h.bad (by omega)
  have hS := h.bad
  rw [hv] at hS
  obtain ⟨c', hcl, hM, hcc, hf⟩ := Kd.R_elem hS b (k : Int) (by omega) (by omega)
  have e : X.bad.getD (k : Int).toNat b = b := by simp [List.getD, hk]
  rw [e] at hM
  have hM' : c' = [.bool b] := hM
  subst hM'
  have h1 := hcc 0 _ rfl
  have h2 := hf 0
  rw [Int.toNat_natCast, show Kd.bool.sz = 1 from rfl, Nat.mul_one, Nat.add_zero] at h1 h2
  exact ⟨g, c, hv, h1, h2⟩
theorem RM.putB {g n c : Nat} (h : RM w base B vS vC (.slice (some ⟨g, 0, none⟩) n c) X) (a : Nat) (ha : a < n) (b : Bool) :
    RM (w.setCell ⟨g, a, none⟩ (.bool b)) base B vS vC (.slice (some ⟨g, 0, none⟩) n c) { X with bad := X.bad.set a b } ∧ TC base isRef w (w.setCell ⟨g, a, none⟩ (.bool b)) := by
  obtain ⟨k1, hg⟩ := R_put1 (okp := fun _ => False) rfl h.bad a ha b (.bool b) rfl (fun k hk => hk.elim)
  obtain ⟨hb, cells, hcl⟩ := own_cells h.bad g rfl
  have hc : Chg w (w.setCell ⟨g, a, none⟩ (.bool b)) (fun k => some k = some g) := chg_grown hg fun _ h => h
  have hs : ∀ k, some k = some g → k < w.heap.size → ∃ t cells, w.heap[k]? = some (.cells cells t (0, 0)) ∧ t = 4 := fun k hk _ => by
    obtain rfl := Option.some.inj hk
    exact ⟨_, cells, hcl, rfl⟩
  have hne : ¬ some B = some g := fun e => by
    obtain rfl := Option.some.inj e
    rw [h.blk] at hcl
    simp at hcl
  refine ⟨⟨(hc.block B h.lt hne).trans h.blk, R_types_chg h.S hc fun k hk hl => ?_, R_types_chg h.C hc fun k hk hl => ?_, k1, h.hB⟩, .of_chg hc h.base_le fun k hk _ => ?_⟩
  · obtain ⟨t, c, h1, rfl⟩ := hs k hk hl
    exact ⟨_, c, h1, fun q hq => by rcases q29 q hq with h | h <;> simp [h]⟩
  · obtain ⟨t, c, h1, rfl⟩ := hs k hk hl
    exact ⟨_, c, h1, fun q hq => by rcases q106 q hq with h | h <;> simp [h]⟩
  · obtain rfl := Option.some.inj hk
    exact ⟨hb, _, hcl, .inr (.inr rfl)⟩
end
def rfaultX (X : RX) (at_ : Int) (on : Bool) : RX := if inB at_ X.S.length = false then X else { X with bad := X.bad.set at_.toNat on }
theorem rfault_calls (w : World) (base B : Nat) (vS vC vB : Value) (X : RX) (at_ : Int) (on : Bool) (h : RK w base B vS vC vB X) :
    Calls Try.prog 32 #[.pointer (some ⟨B, 0, none⟩), .int .i64 at_, .bool on] w fun e w' => e = .returned (.tuple #[]) ∧ RK w' base B vS vC vB (rfaultX X at_ on) ∧ TC base isRef w w' := by
  have HR := Aside0.mk h
  have q2 := (cells5 h.blk).1.2.2.1
  by_cases hi : inB at_ X.S.length = false
  · have HI := Aside0.mk hi
    have hf : rfaultX X at_ on = X := by unfold rfaultX; rw [if_pos hi]
    rw [hf]
    clear hf hi h q2
    go_enter Try.func32, Try.ntmps32
    go_wp2_with (first | (go_at_call 70; with_reducible refine (rhas_calls w base B vS vC vB X at_ false HI.out HR.out).mono ?_; rintro e w' ⟨rfl, rfl⟩))
    go_end0
    exact ⟨rfl, HR.out, TC.refl _ _ _⟩
  · have hi0 : inB at_ X.S.length = true := by simpa using hi
    have HI := Aside0.mk hi0
    have hf : rfaultX X at_ on = { X with bad := X.bad.set at_.toNat on } := by unfold rfaultX; rw [if_neg hi]
    rw [hf]
    have hr : 0 ≤ at_ ∧ at_ < X.S.length := by unfold inB at hi0; exact of_decide_eq_true hi0
    obtain ⟨a, rfl⟩ : ∃ a : Nat, at_ = (a : Int) := ⟨at_.toNat, by omega⟩
    have hal : a < X.bad.length := by rw [h.ok.hb]; omega
    obtain ⟨b, hb⟩ : ∃ b, X.bad[a]? = some b := ⟨_, List.getElem?_eq_getElem hal⟩
    obtain ⟨g, c, rfl, y0, yf⟩ := rb_at h.toRM a b hb
    have HAL := Aside0.mk hal
    have hali : (a : Int) < (X.bad.length : Int) := by omega
    clear hf hi h hi0 hr hb hal
    go_enter Try.func32, Try.ntmps32
    go_wp2_with (first | (go_at_call 70; with_reducible refine (rhas_calls w base B vS vC _ X (a : Int) true HI.out HR.out).mono ?_; rintro e w' ⟨rfl, rfl⟩))
    go_end0
    obtain ⟨k1, k2⟩ := HR.out.toRM.putB a HAL.out on
    exact ⟨rfl, ⟨k1, ⟨HR.out.ok.s64, HR.out.ok.c64, by simp [HR.out.ok.hb], HR.out.ok.hl, HR.out.ok.hn⟩⟩, k2⟩
def rreadX (X : RX) (at_ : Int) : List Int × Int :=
  if X.dead then ([], 50) else if inB at_ X.S.length = false then ([], 1) else if X.bad.getD at_.toNat false then ([], 52) else (readL (X.S.getD at_.toNat []) X.cache at_, 0)
set_option maxHeartbeats 1000000 in
theorem rread_calls (w : World) (base B : Nat) (vS vC vB : Value) (X : RX) (at_ r : Int) (s : List Int) (hx : rreadX X at_ = (s, r)) (h : RK w base B vS vC vB X) (hl : X.cache.length ≤ 1000) :
    Calls Try.prog 27 #[.pointer (some ⟨B, 0, none⟩), .int .i64 at_] w fun e w' => ∃ A c, e = .returned (.tuple #[.slice A s.length c, .int .i64 r]) ∧ Kd.R (Kd.int .u8) 5 w' w.heap.size (fun k => w.heap.size ≤ k) (.slice A s.length c) s ∧ Below w.heap.size w w' := by
  have HR := Aside0.mk h
  obtain ⟨⟨q0, q1, q2, q3, q4⟩, _⟩ := cells5 h.blk
  by_cases hd : X.dead = true
  · rw [hd] at q4
    have hf : rreadX X at_ = ([], 50) := by unfold rreadX; rw [if_pos hd]
    obtain ⟨rfl, rfl⟩ := Prod.mk.inj (hf.symm.trans hx)
    clear hf hx hd h q0 q1 q2 q3
    go_enter Try.func27, Try.ntmps27
    go_wp2
    go_ret2
    exact ⟨none, 0, rfl, Kd.R_nil _ _ _ _ _, Below.refl _ _⟩
  have hd0 : X.dead = false := by simpa using hd
  rw [hd0] at q4
  by_cases hi : inB at_ X.S.length = false
  · have HI := Aside0.mk hi
    have hf : rreadX X at_ = ([], 1) := by unfold rreadX; rw [if_neg hd, if_pos hi]
    obtain ⟨rfl, rfl⟩ := Prod.mk.inj (hf.symm.trans hx)
    clear hf hx hd h q0 q1 q2 q3 hi hd0
    go_enter Try.func27, Try.ntmps27
    go_wp2_with (first | (go_at_call 70; with_reducible refine (rhas_calls w base B vS vC vB X at_ false HI.out HR.out).mono ?_; rintro e w' ⟨rfl, rfl⟩))
    go_ret2
    exact ⟨none, 0, rfl, Kd.R_nil _ _ _ _ _, Below.refl _ _⟩
  have hi0 : inB at_ X.S.length = true := by simpa using hi
  have HI := Aside0.mk hi0
  have hr : 0 ≤ at_ ∧ at_ < X.S.length := by unfold inB at hi0; exact of_decide_eq_true hi0
  obtain ⟨a, rfl⟩ : ∃ a : Nat, at_ = (a : Int) := ⟨at_.toNat, by omega⟩
  have hal : a < X.bad.length := by rw [h.ok.hb]; omega
  obtain ⟨b, hb⟩ : ∃ b, X.bad[a]? = some b := ⟨_, List.getElem?_eq_getElem hal⟩
  obtain ⟨gb, cb, rfl, y0, yf⟩ := rb_at h.toRM a b hb
  have hali : (a : Int) < (X.bad.length : Int) := by omega
  have hgb : X.bad.getD a false = b := by simp [List.getD, hb]
  cases b with
  | true =>
    have hf : rreadX X (a : Int) = ([], 52) := by unfold rreadX; rw [if_neg hd, if_neg hi, Int.toNat_natCast, if_pos hgb]
    obtain ⟨rfl, rfl⟩ := Prod.mk.inj (hf.symm.trans hx)
    clear hf hx hd h q0 q1 q3 hi hd0 hi0 hr hb hal yf hgb
    go_enter Try.func27, Try.ntmps27
    go_wp2_with (first | (go_at_call 70; with_reducible refine (rhas_calls w base B vS vC _ X (a : Int) true HI.out HR.out).mono ?_; rintro e w' ⟨rfl, rfl⟩))
    go_ret2
    exact ⟨none, 0, rfl, Kd.R_nil _ _ _ _ _, Below.refl _ _⟩
  | false =>
    obtain ⟨s0, hs0⟩ : ∃ s0, X.S[a]? = some s0 := ⟨_, List.getElem?_eq_getElem (by omega)⟩
    have hf : rreadX X (a : Int) = (readL s0 X.cache a, 0) := by unfold rreadX; rw [if_neg hd, if_neg hi, Int.toNat_natCast, if_neg (by rw [hgb]; simp)]; simp [List.getD, hs0]
    obtain ⟨hsr, rfl⟩ := Prod.mk.inj (hf.symm.trans hx)
    have HSR := Aside0.mk hsr
    obtain ⟨gs, cs, As, cis, rfl, z0, _, hM0⟩ := rs_at h.toRM a s0 hs0
    have HC0 : Aside0 ((Kd.int .u8).C w As s0.length s0) := ⟨by obtain ⟨v, hv, hR⟩ := hM0; obtain rfl := List.head_eq_of_cons_eq hv; exact (Kd.R_reads' hR).2.2⟩
    have hsl : (a : Int) < (X.S.length : Int) := by omega
    obtain ⟨Ac, cc, rfl⟩ := Kd.R_slice h.C
    have HS64 := Aside0.mk (h.ok.s64 s0 (List.mem_of_getElem? hs0))
    clear hf hx hd h q3 hi hd0 hi0 hr hb hal yf hgb hM0 hs0 hsr
    go_enter Try.func27, Try.ntmps27
    go_wp2_with (first | (go_at_call 70; with_reducible refine (rhas_calls w base B _ _ _ X (a : Int) true HI.out HR.out).mono ?_; rintro e w' ⟨rfl, rfl⟩))
    clear q0 q1 q2 q4 y0 z0 hali hsl
    go_loopg [6, 36] X.cache.length (fun kq v6 v36 w' => ∃ (i : Nat) (A : Option Addr) (c : Nat) (s : List Int), v36 = .int .i64 (i : Int) ∧ v6 = .slice A s.length c ∧ Aside0 (i + kq = X.cache.length) ∧ Aside0 ((Kd.int .u8).C w' A s.length s) ∧ Aside0 (readL s0 (X.cache.take i) a = s) ∧ Aside0 (Below w.heap.size w w') ∧ Aside0 (s.length = 64))
    case atStart => exact ⟨0, As, cis, s0, rfl, rfl, ⟨by omega⟩, HC0, ⟨rfl⟩, ⟨Below.refl _ _⟩, HS64⟩
    case round =>
      obtain ⟨i, A, c, s1, rfl, rfl, HIq, HC1, HRL, HBr, H64⟩ := hrel
      by_cases hi : i < X.cache.length
      · obtain ⟨p, hp⟩ : ∃ p, X.cache[i]? = some p := ⟨_, List.getElem?_eq_getElem hi⟩
        obtain ⟨g, c', A1, ci, hvc, x0, x1, hM⟩ := rc_at (HR.out.toRM.fresh HBr.out) i p hp
        injection hvc with hv1 hv2 hv3
        subst hv1
        subst hv3
        have HP := Aside0.mk hp
        have HP64 := Aside0.mk (HR.out.ok.c64 p (List.mem_of_getElem? hp)).1
        have HCp : Aside0 ((Kd.int .u8).C wr A1 p.2.length p.2) := ⟨by obtain ⟨v, hv, hR⟩ := hM; obtain rfl := List.head_eq_of_cons_eq hv; exact (Kd.R_reads' hR).2.2⟩
        clear hv2 hp hM
        have hbw := Below.alloc (Below.refl wr.heap.size wr) (Nat.le_refl _) (.cells #[.int .i64 p.1, .slice A1 p.2.length ci] 106)
        have HBW := Aside0.mk hbw
        clear hbw
        by_cases hpa : p.1 = (a : Int)
        · have HPA := Aside0.mk hpa
          have hpa' : (p.1 == (a : Int)) = true := by simpa using hpa
          clear hpa
          go_wp2
          have hk1 := HIq.out
          obtain ⟨gq, rfl⟩ : ∃ gq, gk = gq + 1 := ⟨gk - 1, by omega⟩
          go_roundg gq
          case rel => exact ⟨i + 1, A1, ci, p.2, by go_num, rfl, ⟨by omega⟩, ⟨Kd.C_below HCp.out HBW.out⟩, ⟨by rw [readL_succ s0 X.cache a i p HP.out, if_pos HPA.out]⟩, ⟨HBr.out.trans (HBW.out.mono HBr.out.size)⟩, HP64⟩
          case measure => omega
        · have HPA := Aside0.mk hpa
          have hpa' : (p.1 == (a : Int)) = false := by simpa using hpa
          clear hpa
          go_wp2
          have hk1 := HIq.out
          obtain ⟨gq, rfl⟩ : ∃ gq, gk = gq + 1 := ⟨gk - 1, by omega⟩
          go_roundg gq
          case rel => exact ⟨i + 1, A, c, s1, by go_num, rfl, ⟨by omega⟩, ⟨Kd.C_below HC1.out HBW.out⟩, ⟨by rw [readL_succ s0 X.cache a i p HP.out, if_neg HPA.out]; exact HRL.out⟩, ⟨HBr.out.trans (HBW.out.mono HBr.out.size)⟩, H64⟩
          case measure => omega
      · have hi0 := HIq.out
        obtain rfl : gk = 0 := by omega
        obtain rfl : i = X.cache.length := by omega
        clear hi0
        have hm : ¬ ((X.cache.length : Int) < (X.cache.length : Int)) := by omega
        obtain rfl : s1 = s := by have := HRL.out; rw [List.take_length, HSR.out] at this; exact this.symm
        go_wp2_with (first | ((with_reducible refine gate_builtin (b := .append) (xs := #[.const (.slice none 0 0), .tmp 47]) rfl ?_); at_builtin; refine Kd.R_append_rows (Kd.int .u8) (W := wr) (w0 := wr) wr.heap.size rfl (.const (.slice none 0 0)) (.tmp 47) 29 5 (.int .u8 0) 1 rfl Try.underlying29 info5e rfl (by decide) (by decide) (.slice none 0 0) [] s1 A s1.length c (fun _ => True) (fun _ => False) rfl rfl (Kd.R_nil _ _ _ _ _) HC1.out (fun _ _ h => h) (fun _ h => h.elim) (fun _ _ => trivial) (Below.refl _ _) (Nat.le_refl _) (by rw [H64.out]; decide) ?_; intro v2 w6 ho hb hg hat; rw [List.nil_append] at ho; obtain ⟨A2, c2, hv2⟩ := Kd.R_slice ho; subst hv2; have HR2 := Aside0.mk ho; have HB2 := Aside0.mk hb; clear ho hb hg hat))
        go_ret2
        exact ⟨_, _, rfl, Kd.R_mono (Kd.R_bound (Kd.R_lower HR2.out HBr.out.size)) (fun k hk => hk.2.1), HBr.out.trans (HB2.out.mono HBr.out.size)⟩
end Go.Proofs.Ytlepcmljmibdnaa
