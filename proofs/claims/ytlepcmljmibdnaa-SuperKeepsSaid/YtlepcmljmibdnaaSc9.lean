/- Parts of one proof, joined: Sv, Dkp, Tc, Rn. Conditions: those of each statement. -/
import Derived.Test.YtlepcmljmibdnaaSc8
import Derived.Test.YtlepcmljmibdnaaSc4
namespace Go.Proofs.Ytlepcmljmibdnaa
open Go.RowKit Go.Proofs.YtlepcmljmibdnaaW.PrintWords Go.Proofs.YtlepcmljmibdnaaW.PrintLast Go.Proofs.YtlepcmljmibdnaaW.PrintMore PWalOpens
set_option linter.unusedVariables false
set_option linter.unusedSimpArgs false
theorem ex_copy {P : Program} {W w1 : World} {o : Oper} {ρ : Operand → Value} {d s : Operand} {t : TypeId} {v : Value} (ho : o.op = .call { callee := .builtin .copy, args := #[d, s], argTypes := #[t, t] }) {vd vs : Value} (hd : ρ d = vd) (hs : ρ s = vs)
    (hrun : (Builtin.copy_ #[t, t] o.type #[vd, vs]).run P W = .ok v w1) : (execOp ρ o).run P W = .ok (.value v) w1 := by
  subst hd; subst hs
  simp [execOp, ho, resolve, invoke, builtin, hrun, Result.andThen]
/-- bytes copied into sixty-four noughts -/
theorem run_copy_sec (W : World) (b : List Int) (hb : b.length ≤ 64) (A : Option Addr) (c : Nat) (ty : TypeId) (hC : (Kd.int .u8).C (W.alloc (.cells (secC zsec) 98)) A b.length b) :
    (Builtin.copy_ #[29, 29] ty #[.slice (some ⟨W.heap.size, 0, none⟩) 64 64, .slice A b.length c]).run Try.prog (W.alloc (.cells (secC zsec) 98)) = .ok (goInt b.length) (W.alloc (.cells (secC (pad b)) 98)) := by
  have hR := Kd.reads_of_C (enc := Value.int .u8) (d := (0 : Int)) (h1 := fun _ => rfl) hC
  by_cases h0 : b.length = 0
  · obtain rfl : b = [] := List.eq_nil_of_length_eq_zero h0
    exact run_copy_none (P := Try.prog) _ 29 29 ty 5 _ A 64 64 0 c Try.underlying29 (by kernel_rfl) rfl
  · obtain ⟨ad, rfl, hc⟩ := hR.2.2 (by omega)
    have hl : (encs (Value.int .u8) b).length = b.length := encs_length _
    have h := run_copy_row (P := Try.prog) (W.alloc (.cells (secC zsec) 98)) 29 29 ty 5 W.heap.size 0 64 64 ad b.length c (secC zsec) 98 (encs (Value.int .u8) b) Try.underlying29 (by kernel_rfl) (heap_alloc_new W _)
      (by rw [hl]; exact (Nat.min_eq_left hb).symm) (by
        intro j v hj
        have hj' : j < b.length := by have := (List.getElem?_eq_some_iff.1 hj).1; omega
        rw [encs_get (d := 0) b j hj'] at hj
        obtain rfl := Option.some.inj hj
        exact hc j hj') (by rw [hl, sec_size _ (by rfl)]; omega) (by intro v hv; simp only [encs, List.mem_map] at hv; obtain ⟨a, _, rfl⟩ := hv; rfl)
    rw [h, Arr.setRow_alloc, hl]
    have e : ((secC zsec).toList.take 0 ++ encs (Value.int .u8) b ++ (secC zsec).toList.drop (0 + b.length)).toArray = secC (pad b) := by
      unfold secC pad
      rw [Nat.zero_add]
      simp only [List.take_zero, List.nil_append, encs_append]
      rw [show (encs (Value.int .u8) zsec).drop b.length = encs (Value.int .u8) (List.replicate (64 - b.length) 0) by unfold encs zsec; rw [List.map_replicate, List.drop_replicate, List.map_replicate]]
    rw [e]
theorem pad_take (b : List Int) : (pad b).take b.length = b := by
  unfold pad
  rw [List.take_append_of_le_length (Nat.le_refl _), List.take_length]
theorem slotB_64 (g : Int) (l : List Int) (hl : l.length ≤ 4) : (slotB g l).length ≤ 64 := by
  have h1 := encNs_len l
  have h2 := encNs_len [g, (l.length : Int)]
  rw [slotB_len]
  unfold slotF
  simp only [List.length_append, List.length_cons, List.length_nil] at h2 ⊢
  omega
noncomputable def saveP (D : PD) (g : Int) (l : List Int) : PD × Int :=
  if 4 < l.length then (D, 2) else if (flushP D).2 ≠ 0 then flushP D else
    if (writeP (flushP D).1 (g % 2) (slotB g l)).2 ≠ 0 then writeP (flushP D).1 (g % 2) (slotB g l) else flushP (writeP (flushP D).1 (g % 2) (slotB g l)).1
def SvQ (w : World) (B M Bd : Nat) (vc : Value) (D' : PD) (e : Int) (r : Ending) (w' : World) : Prop := r = .returned (.int .i64 e) ∧ ∃ vc', At w (FP B M Bd vc) w' B M Bd vc' D'
section
variable {w : World} {base B M Bd : Nat} {vc : Value} {D D1 D2 D3 : PD} {g : Int} {l : List Int} {A : Option Addr} {c : Nat} {e : Int}
theorem save_long (hl : 4 < l.length) (h : DK w base B M Bd vc D) : Calls Try.prog 42 #[.pointer (some ⟨B, 0, none⟩), .int .u64 g, .slice A l.length c] w (SvQ w B M Bd vc D 2) := by
  have HD := Aside0.mk (At.refl h)
  have HS := Aside0.mk (slot_long w g l A c hl)
  clear h hl
  go_enter Try.func42, Try.ntmps42
  go_wp2_with (first
    | (go_at_call 37; (with_reducible refine HS.out.mono ?_); rintro e w2 ⟨rfl, rfl⟩))
  go_ret
  exact ⟨rfl, vc, HD.out⟩
theorem save_f1 (he : e ≠ 0) (hf : flushP D = (D1, e)) (hg : 0 ≤ g ∧ g < 18446744073709551616) (hn : ∀ n ∈ l, 0 ≤ n ∧ n < 18446744073709551616) (hl : l.length ≤ 4) (hC : (Kd.int .u64).C w A l.length l) (hc : D.cache.length ≤ 1000) (h : DK w base B M Bd vc D) : Calls Try.prog 42 #[.pointer (some ⟨B, 0, none⟩), .int .u64 g, .slice A l.length c] w (SvQ w B M Bd vc D1 e) := by
  have HD := Aside0.mk (At.refl h)
  have HS := Aside0.mk (slot_calls w g l A c hg hn hl hC)
  have HC := Aside0.mk hc
  have HF := Aside0.mk hf
  have hb : (e != 0) = true := by simpa using he
  clear h hl hg hn hC hc hf
  go_enter Try.func42, Try.ntmps42
  go_wp2_with (first
    | (go_at_call 37; (with_reducible refine HS.out.mono ?_); rintro e w2 ⟨A2, c2, rfl, hr, hb⟩; have HR2 := Aside0.mk hr; have HD2 := Aside0.mk (HD.out.grow (.of_below hb)); clear hr hb)
    | (go_at_call 18; (with_reducible refine (at_flush _ HF.out HC.out HD2.out).mono ?_); rintro e w3 ⟨rfl, vc3, hd⟩; have HD3 := Aside0.mk hd; clear hd))
  go_ret
  exact ⟨rfl, vc3, HD3.out⟩
theorem R_past {α : Type} {d : Kd α} {e : Nat} {w0 w w' : World} {v : Value} {xs : List α} {S : Nat → Prop} (h : d.R e w w0.heap.size (fun k => w0.heap.size ≤ k) v xs) (hc : Chg w w' S) (hs : ∀ k, S k → k < w0.heap.size) : d.R e w' w0.heap.size (fun k => w0.heap.size ≤ k) v xs :=
  Kd.R_step h (fun k hk hl => hc.block k hl (fun hf => absurd (hs k hf) (Nat.not_lt.2 hk)))
theorem sec_pad {w w' : World} {B M Bd : Nat} {vc : Value} {D : PD} {b : List Int} (hb : b.length ≤ 64) (h : DK w 0 B M Bd vc D) (hc : Chg (w.alloc (.cells (secC (pad b)) 98)) w' (FP B M Bd vc)) : (Kd.int .u8).C w' (some ⟨w.heap.size, 0, none⟩) b.length b := by
  have hl : (pad b).length = 64 := pad_length b hb
  have h1 : w'.heap[w.heap.size]? = some (.cells (secC (pad b)) 98 (0, 0)) := (hc.block _ (by rw [alloc_size]; exact Nat.lt_succ_self _) (fun hf => Nat.lt_irrefl _ (h.fp _ hf).2)).trans (heap_alloc_new w _)
  have h2 := Kd.C_take (m := b.length) (sec_C w' w.heap.size (pad b) 98 (0, 0) (by omega) h1) (by omega)
  rwa [pad_take] at h2
set_option maxRecDepth 100000 in
theorem save_go (hf : flushP D = (D1, 0)) (hw : writeP D1 (g % 2) (slotB g l) = (D2, 0)) (hf3 : flushP D2 = (D3, e)) (hg : 0 ≤ g ∧ g < 18446744073709551616) (hn : ∀ n ∈ l, 0 ≤ n ∧ n < 18446744073709551616) (hl : l.length ≤ 4) (hC : (Kd.int .u64).C w A l.length l) (hc : D.cache.length ≤ 1000) (hc3 : D1.cache.length ≤ 1000 ∧ D2.cache.length ≤ 1000) (h : DK w base B M Bd vc D) : Calls Try.prog 42 #[.pointer (some ⟨B, 0, none⟩), .int .u64 g, .slice A l.length c] w (SvQ w B M Bd vc D3 e) := by
  have HD := Aside0.mk (At.refl h)
  have HFP := Aside0.mk (fun k hk => (h.fp k hk).2)
  have HC3 := Aside0.mk hc3
  have HW := Aside0.mk hw
  have HF3 := Aside0.mk hf3
  have hw64 := slotB_64 g l hl
  obtain ⟨want, hwant⟩ : ∃ want, slotB g l = want := ⟨_, rfl⟩
  have HS := Aside0.mk (slot_calls w g l A c hg hn hl hC)
  rw [hwant] at HS HW hw64
  have HW64 := Aside0.mk hw64
  have hw64i : (want.length : Int) ≤ 64 := by omega
  have HC := Aside0.mk hc
  have HF := Aside0.mk hf
  obtain ⟨hg0, hg1⟩ := hg
  clear h hl hn hC hc hf hc3 hw hf3 hwant hw64
  go_enter Try.func42, Try.ntmps42
  go_wp2_with (first
    | (go_at_call 37; (with_reducible refine HS.out.mono ?_); rintro e w2 ⟨A2, c2, rfl, hr, hb⟩; have HR2 := Aside0.mk hr; have HD2 := Aside0.mk (HD.out.grow (.of_below hb)); clear hr hb)
    | (go_at_call 18; (with_reducible refine (at_flush _ HF.out HC.out (At.refl HD2.out.dk)).mono ?_); rintro e w3 ⟨rfl, vc3, hd⟩; have HD3 := Aside0.mk (HD2.out.then_ hd); have HR3 := Aside0.mk (R_past HR2.out hd.chg HFP.out); clear hd)
    | ((with_reducible refine gate_builtin (b := .copy) (xs := #[.tmp 28, .tmp 29]) rfl ?_); go_loud (refine Kd.event_run rfl (ex_copy rfl rfl rfl (run_copy_sec w3 want HW64.out A2 c2 3 (Kd.C_below (Kd.R_reads' HR3.out).2.2 (Below.alloc (Below.refl _ _) (Nat.le_refl _) _)))) ?_); simp only [Act.put, List.setIfInBounds_toArray, List.set_cons_succ, List.set_cons_zero]; have HD4 := Aside0.mk (HD3.out.grow (.of_below (Below.alloc (Below.refl _ _) (Nat.le_refl _) (.cells (secC (pad want)) 98)))); have HK4 := Aside0.mk (At.refl HD4.out.dk); have HB4 := Aside0.mk (fun (w' : World) (hc : Chg (w3.alloc (.cells (secC (pad want)) 98)) w' (FP B M Bd vc3)) => sec_pad HW64.out HD3.out.dk hc))
    | (go_at_call 17; go_loud (refine (at_write (g % 2) 0 (some ⟨w3.heap.size, 0, none⟩) 64 want HW.out HC3.out.1 HB4.out HK4.out).mono ?_); rintro e w5 ⟨rfl, vc5, hd⟩; have HD5 := Aside0.mk (HD4.out.then_ hd); clear hd)
    | (go_at_call 18; (with_reducible refine (at_flush _ HF3.out HC3.out.2 HD5.out).mono ?_); rintro e w6 ⟨rfl, vc6, hd⟩; have HD6 := Aside0.mk hd; clear hd))
  go_ret
  exact ⟨rfl, vc6, HD6.out⟩
set_option maxRecDepth 100000 in
theorem save_w (he : e ≠ 0) (hf : flushP D = (D1, 0)) (hw : writeP D1 (g % 2) (slotB g l) = (D2, e)) (hg : 0 ≤ g ∧ g < 18446744073709551616) (hn : ∀ n ∈ l, 0 ≤ n ∧ n < 18446744073709551616) (hl : l.length ≤ 4) (hC : (Kd.int .u64).C w A l.length l) (hc : D.cache.length ≤ 1000) (hc3 : D1.cache.length ≤ 1000 ∧ D2.cache.length ≤ 1000) (h : DK w base B M Bd vc D) : Calls Try.prog 42 #[.pointer (some ⟨B, 0, none⟩), .int .u64 g, .slice A l.length c] w (SvQ w B M Bd vc D2 e) := by
  have HD := Aside0.mk (At.refl h)
  have HFP := Aside0.mk (fun k hk => (h.fp k hk).2)
  have HC3 := Aside0.mk hc3
  have HW := Aside0.mk hw
  have hbe : (e != 0) = true := by simpa using he
  have hw64 := slotB_64 g l hl
  obtain ⟨want, hwant⟩ : ∃ want, slotB g l = want := ⟨_, rfl⟩
  have HS := Aside0.mk (slot_calls w g l A c hg hn hl hC)
  rw [hwant] at HS HW hw64
  have HW64 := Aside0.mk hw64
  have hw64i : (want.length : Int) ≤ 64 := by omega
  have HC := Aside0.mk hc
  have HF := Aside0.mk hf
  obtain ⟨hg0, hg1⟩ := hg
  clear h hl hn hC hc hf hc3 hw hwant hw64
  go_enter Try.func42, Try.ntmps42
  go_wp2_with (first
    | (go_at_call 37; (with_reducible refine HS.out.mono ?_); rintro e w2 ⟨A2, c2, rfl, hr, hb⟩; have HR2 := Aside0.mk hr; have HD2 := Aside0.mk (HD.out.grow (.of_below hb)); clear hr hb)
    | (go_at_call 18; (with_reducible refine (at_flush _ HF.out HC.out (At.refl HD2.out.dk)).mono ?_); rintro e w3 ⟨rfl, vc3, hd⟩; have HD3 := Aside0.mk (HD2.out.then_ hd); have HR3 := Aside0.mk (R_past HR2.out hd.chg HFP.out); clear hd)
    | ((with_reducible refine gate_builtin (b := .copy) (xs := #[.tmp 28, .tmp 29]) rfl ?_); go_loud (refine Kd.event_run rfl (ex_copy rfl rfl rfl (run_copy_sec w3 want HW64.out A2 c2 3 (Kd.C_below (Kd.R_reads' HR3.out).2.2 (Below.alloc (Below.refl _ _) (Nat.le_refl _) _)))) ?_); simp only [Act.put, List.setIfInBounds_toArray, List.set_cons_succ, List.set_cons_zero]; have HD4 := Aside0.mk (HD3.out.grow (.of_below (Below.alloc (Below.refl _ _) (Nat.le_refl _) (.cells (secC (pad want)) 98)))); have HK4 := Aside0.mk (At.refl HD4.out.dk); have HB4 := Aside0.mk (fun (w' : World) (hc : Chg (w3.alloc (.cells (secC (pad want)) 98)) w' (FP B M Bd vc3)) => sec_pad HW64.out HD3.out.dk hc))
    | (go_at_call 17; go_loud (refine (at_write (g % 2) e (some ⟨w3.heap.size, 0, none⟩) 64 want HW.out HC3.out.1 HB4.out HK4.out).mono ?_); rintro e' w5 ⟨rfl, vc5, hd⟩; have HD5 := Aside0.mk (HD4.out.then_ hd); clear hd))
  go_ret
  exact ⟨rfl, vc5, HD5.out⟩
theorem save_calls (hsv : saveP D g l = (D1, e)) (hg : 0 ≤ g ∧ g < 18446744073709551616) (hn : ∀ n ∈ l, 0 ≤ n ∧ n < 18446744073709551616) (hC : (Kd.int .u64).C w A l.length l) (hc : D.cache.length ≤ 900) (h : DK w base B M Bd vc D) :
    Calls Try.prog 42 #[.pointer (some ⟨B, 0, none⟩), .int .u64 g, .slice A l.length c] w (SvQ w B M Bd vc D1 e) := by
  unfold saveP at hsv
  split at hsv
  · cases hsv
    exact save_long (by assumption) h
  · rename_i hl
    have q1 := flushP_cache D
    have q2 := writeP_cache (flushP D).1 (g % 2) (slotB g l)
    obtain ⟨Da, ea, hf⟩ : ∃ Da ea, flushP D = (Da, ea) := ⟨_, _, rfl⟩
    rw [hf] at hsv q1 q2
    simp only at hsv q1 q2
    obtain ⟨Db, eb, hw⟩ : ∃ Db eb, writeP Da (g % 2) (slotB g l) = (Db, eb) := ⟨_, _, rfl⟩
    rw [hw] at hsv q2
    simp only at hsv q2
    split at hsv
    · cases hsv
      exact save_f1 (by assumption) hf hg hn (by omega) hC (by omega) h
    · rename_i he
      obtain rfl : ea = 0 := by simpa using he
      split at hsv
      · cases hsv
        exact save_w (by assumption) hf hw hg hn (by omega) hC (by omega) ⟨by omega, by omega⟩ h
      · rename_i he
        obtain rfl : eb = 0 := by simpa using he
        exact save_go hf hw hsv hg hn (by omega) hC (by omega) ⟨by omega, by omega⟩ h
end
end Go.Proofs.Ytlepcmljmibdnaa
namespace Go.Proofs.Ytlepcmljmibdnaa
open Go.RowKit Go.Proofs.YtlepcmljmibdnaaW.PrintWords Go.Proofs.YtlepcmljmibdnaaW.PrintLast Go.Proofs.YtlepcmljmibdnaaW.PrintMore PDiskArms
set_option linter.unusedVariables false
set_option linter.unusedSimpArgs false
def wrs (D : PD) (l : List S31) : PD := l.foldl (fun D x => (writeP D x.f1 x.f2).1) D
theorem wrs_succ (D : PD) (l : List S31) (i : Nat) (x : S31) (h : l[i]? = some x) : wrs D (l.take (i + 1)) = (writeP (wrs D (l.take i)) x.f1 x.f2).1 := by
  unfold wrs
  rw [List.take_add_one, h, List.foldl_append]
  rfl
structure Quiet (D : PD) : Prop where
  dead : D.dead = false
  armed : D.armed = false
theorem act_quiet {D : PD} (h : Quiet D) : actP D = (D, 0) := by
  obtain ⟨n, kept, cache, bad, armed, left, dead⟩ := D
  obtain ⟨h1, h2⟩ := h
  simp only at h1 h2
  subst h1; subst h2
  simp [actP]
theorem write_quiet {D : PD} (h : Quiet D) (at_ : Int) (b : List Int) :
    (writeP D at_ b).1 = D ∨ (b.length ≤ 64 ∧ (writeP D at_ b).1 = { D with cache := D.cache ++ [(at_, pad b)] }) := by
  unfold writeP
  rw [h.dead, if_neg (by simp), act_quiet h]
  by_cases h1 : inB at_ D.n = false
  · rw [if_pos h1]; exact .inl rfl
  rw [if_neg h1]
  by_cases h2 : 64 < b.length
  · rw [if_pos h2]; exact .inl rfl
  rw [if_neg h2]
  exact .inr ⟨by omega, by simp [h.dead]⟩
structure Wr (D0 D : PD) (l : List S31) : Prop where
  q : Quiet D
  kept : D.kept = D0.kept
  n : D.n = D0.n
  bad : D.bad = D0.bad
  len : D.cache.length ≤ D0.cache.length + l.length
  cache : ∀ p ∈ D.cache, p ∈ D0.cache ∨ ∃ x ∈ l, p.1 = x.f1 ∧ x.f2.length ≤ 64 ∧ p.2 = pad x.f2
theorem wrs_wr (D0 : PD) (h : Quiet D0) (l : List S31) : ∀ i, i ≤ l.length → Wr D0 (wrs D0 (l.take i)) (l.take i)
  | 0, _ => by rw [List.take_zero]; exact ⟨h, rfl, rfl, rfl, by simp [wrs], fun p hp => .inl hp⟩
  | i + 1, hi => by
    have ih := wrs_wr D0 h l i (by omega)
    obtain ⟨x, hx⟩ : ∃ x, l[i]? = some x := ⟨_, List.getElem?_eq_getElem (by omega)⟩
    rw [wrs_succ D0 l i x hx]
    have ht : l.take (i + 1) = l.take i ++ [x] := by rw [List.take_add_one, hx]; rfl
    rw [ht]
    generalize wrs D0 (l.take i) = D at ih
    rcases write_quiet ih.q x.f1 x.f2 with e | ⟨h64, e⟩
    · rw [e]
      refine ⟨ih.q, ih.kept, ih.n, ih.bad, by have := ih.len; simp at this ⊢; omega, fun p hp => ?_⟩
      rcases ih.cache p hp with h1 | ⟨y, hy, h2⟩
      · exact .inl h1
      · exact .inr ⟨y, by simp [hy], h2⟩
    · rw [e]
      refine ⟨⟨ih.q.dead, ih.q.armed⟩, ih.kept, ih.n, ih.bad, by have := ih.len; simp at this ⊢; omega, fun p hp => ?_⟩
      simp only [List.mem_append, List.mem_singleton] at hp
      rcases hp with hp | hp
      · rcases ih.cache p hp with h1 | ⟨y, hy, h2⟩
        · exact .inl h1
        · exact .inr ⟨y, by simp [hy], h2⟩
      · exact .inr ⟨x, by simp, by rw [hp], h64, by rw [hp]⟩
theorem flush_quiet {D : PD} (h : Quiet D) : flushP D = ({ keepAll D D.cache with cache := [] }, 0) := by
  unfold flushP
  rw [act_quiet h]
  simp
theorem keepAll_more (D : PD) (l : List (Int × List Int)) : (keepAll D l).n = D.n ∧ (keepAll D l).bad = D.bad := by
  induction l generalizing D with
  | nil => exact ⟨rfl, rfl⟩
  | cons x l ih => exact ih (keepP D x)
theorem keepP_at (D : PD) (p : Int × List Int) (i : Int) : ((keepP D p).kept i).getD zsec = if i = p.1 then p.2 else (D.kept i).getD zsec := by
  unfold keepP
  simp only
  by_cases h : i = p.1
  · rw [if_pos h, if_pos h]
    by_cases hz : p.2 = zsec
    · rw [if_pos hz, hz]; rfl
    · rw [if_neg hz]; rfl
  · rw [if_neg h, if_neg h]
theorem sel_same (D : PD) (l : List (Int × List Int)) (ks : List Bool) (k : Nat) : (sel D l ks k).n = D.n ∧ (sel D l ks k).bad = D.bad := by
  induction k with
  | zero => exact ⟨rfl, rfl⟩
  | succ k ih => unfold sel; split <;> exact ih
theorem sel_at (D : PD) (l : List (Int × List Int)) (ks : List Bool) (i : Int) : ∀ k, k ≤ l.length → ((sel D l ks k).kept i).getD zsec = (D.kept i).getD zsec ∨ ∃ p ∈ l, p.1 = i ∧ p.2 = ((sel D l ks k).kept i).getD zsec
  | 0, _ => .inl rfl
  | k + 1, hk => by
    have ih := sel_at D l ks i k (by omega)
    unfold sel
    split
    · rw [keepP_at]
      split
      · rename_i h
        refine .inr ⟨l.getD k (0, []), ?_, h.symm, rfl⟩
        rw [show l.getD k (0, []) = l[k] by simp [List.getD, List.getElem?_eq_getElem (show k < l.length by omega)]]
        exact List.getElem_mem _
      · exact ih
    · exact ih
/-- what DiskKeeps says of a sector -/
theorem keeps_pure (n : Int) (l1 l2 : List S31) (ks : List Bool) (i : Int) (D1 D2 D3 D4 : PD) (h1 : wrs (newP n) l1 = D1) (h2 : flushP D1 = (D2, 0)) (h3 : wrs D2 l2 = D3) (h4 : crashP D3 ks = D4) (hi : inB i D2.n = true) :
    ∃ s t, readP D4 i = (s, 0) ∧ readP (cloneP D2) i = (t, 0) ∧ (s = t ∨ ∃ x ∈ l2, x.f1 = i ∧ x.f2.length ≤ 64 ∧ s = pad x.f2) := by
  have q0 : Quiet (newP n) := ⟨rfl, rfl⟩
  have w1 := wrs_wr (newP n) q0 l1 l1.length (Nat.le_refl _)
  rw [List.take_length, h1] at w1
  have e2 := flush_quiet w1.q
  rw [h2] at e2
  have e2 := (Prod.mk.inj e2).1
  have q2 : Quiet D2 := by rw [e2]; exact ⟨(keepAll_same D1 D1.cache).1.trans w1.q.dead, (keepAll_same D1 D1.cache).2.1.trans w1.q.armed⟩
  have b2 : D2.bad = fun _ => false := by rw [e2]; exact (keepAll_more D1 D1.cache).2.trans w1.bad
  have c2 : D2.cache = [] := by rw [e2]
  have w3 := wrs_wr D2 q2 l2 l2.length (Nat.le_refl _)
  rw [List.take_length, h3] at w3
  have r4 : readP D4 i = ((D4.kept i).getD zsec, 0) := by
    rw [← h4]
    unfold readP crashP restP
    rw [(sel_same D3 D3.cache ks _).1, (sel_same D3 D3.cache ks _).2, w3.n, w3.bad, b2]
    simp [hi, readL]
  have rc : readP (cloneP D2) i = ((D2.kept i).getD zsec, 0) := by
    unfold readP cloneP
    simp [hi, readL]
  refine ⟨_, _, r4, rc, ?_⟩
  have k4 : D4.kept = (sel D3 D3.cache ks D3.cache.length).kept := by rw [← h4]; rfl
  rw [k4]
  rcases sel_at D3 D3.cache ks i _ (Nat.le_refl _) with e | ⟨p, hp, e, e'⟩
  · left; rw [e, w3.kept]
  · right
    rcases w3.cache p hp with h | ⟨x, hx, a, b, c⟩
    · rw [c2] at h; cases h
    · exact ⟨x, hx, a.symm.trans e, b, by rw [← e', c]⟩
end Go.Proofs.Ytlepcmljmibdnaa
namespace Go.Proofs.Ytlepcmljmibdnaa
open Go.RowKit Go.Proofs.YtlepcmljmibdnaaW.PrintWords Go.Proofs.YtlepcmljmibdnaaW.PrintLast Go.Proofs.YtlepcmljmibdnaaW.PrintMore PDiskArms
set_option linter.unusedVariables false
set_option linter.unusedSimpArgs false
/-- nothing below base, and no block but those of kind T, has changed -/
structure TC (base : Nat) (T : Obj → Prop) (w w' : World) : Prop where
  low : Below base w w'
  blk : ∀ (k : Nat) (o : Obj), w.heap[k]? = some o → ¬ T o → w'.heap[k]? = some o
section
variable {base : Nat} {T T' : Obj → Prop} {a b c : World}
theorem TC.refl (base : Nat) (T : Obj → Prop) (w : World) : TC base T w w := ⟨Below.refl _ _, fun _ _ h _ => h⟩
theorem TC.trans (h : TC base T a b) (k : TC base T b c) : TC base T a c := ⟨h.low.trans k.low, fun i o ho hn => k.blk i o (h.blk i o ho hn) hn⟩
theorem TC.mono (h : TC base T a b) (ht : ∀ o, T o → T' o) : TC base T' a b := ⟨h.low, fun i o ho hn => h.blk i o ho (fun e => hn (ht o e))⟩
theorem TC.lower {base' : Nat} (h : TC base T a b) (hb : base' ≤ base) : TC base' T a b := ⟨h.low.mono hb, h.blk⟩
theorem TC.of_chg {S : Nat → Prop} (h : Chg a b S) (hb : base ≤ a.heap.size) (hs : ∀ k, S k → k < a.heap.size → base ≤ k ∧ ∃ o, a.heap[k]? = some o ∧ T o) : TC base T a b :=
  ⟨⟨h.os, h.tape, h.output, h.size, fun k hk => h.block k (by omega) (fun e => by have := (hs k e (by omega)).1; omega)⟩, fun k o ho hn => by
    have hk : k < a.heap.size := (Array.getElem?_eq_some_iff.1 ho).1
    rw [h.block k hk (fun e => by
      obtain ⟨_, o', ho', ht⟩ := hs k e hk
      rw [ho] at ho'
      obtain rfl := Option.some.inj ho'
      exact hn ht)]
    exact ho⟩
theorem TC.of_below (h : Below a.heap.size a b) (hb : base ≤ a.heap.size) : TC base T a b :=
  ⟨h.mono hb, fun k o ho _ => (h.block k (Array.getElem?_eq_some_iff.1 ho).1).trans ho⟩
theorem TC.drew (h : TC base T a b) : TC base T a b.drew := ⟨h.low.drew, h.blk⟩
theorem TC.alloc (h : TC base T a b) (o : Obj) (hb : base ≤ a.heap.size) : TC base T a (b.alloc o) :=
  h.trans (.of_below (Below.alloc (Below.refl _ _) (Nat.le_refl _) o) (Nat.le_trans hb h.low.size))
theorem TC.grown {row : Option Nat} (h : a.grownBy b row) (hs : ∀ k, some k = row → base ≤ k ∧ ∃ o, a.heap[k]? = some o ∧ T o) (hb : base ≤ a.heap.size) : TC base T a b :=
  .of_chg (chg_grown h (S := fun k => some k = row) (fun k hk => hk)) hb (fun k hk _ => hs k hk)
theorem TC.set {g j : Nat} {o : Obj} (hg : a.heap[g]? = some o) (ht : T o) (hb : base ≤ g) (u : Value) : TC base T a (a.setCell ⟨g, j, none⟩ u) :=
  .of_chg (((Only.refl a g).set (i := j) u).chg (S := fun k => k = g) fun _ h => h) (by have := (Array.getElem?_eq_some_iff.1 hg).1; omega) (fun k hk _ => by subst hk; exact ⟨hb, o, hg, ht⟩)
theorem R_tc {α : Type} {d : Kd α} {e : Nat} {ok : Nat → Prop} {v : Value} {xs : List α} (h : d.R e a base ok v xs) {base' : Nat} (hc : TC base' T a b) (ht : ∀ q, q ∈ e :: d.E → ∀ cells, ¬ T (.cells cells q (0, 0))) : d.R e b base ok v xs :=
  Kd.R_mono (Kd.R_move (Kd.R_bound h) (fun k hk => by
    obtain ⟨_, _, _, q, hq, cells, hce⟩ := hk
    rw [hce]
    exact hc.blk k _ hce (ht q hq cells))) (fun _ hk => hk.1)
end
theorem below_after {b : Nat} {w0 w w' : World} (h : Below b w0 w) (k : Below b w0 w') (hs : w.heap.size ≤ w'.heap.size) : Below b w w' :=
  ⟨k.os.trans h.os.symm, k.tape.trans h.tape.symm, k.output.trans h.output.symm, hs, fun i hi => (k.block i hi).trans (h.block i hi).symm⟩
/-- the blocks of a disk -/
def isDisk (o : Obj) : Prop := match o with
  | .cells _ t _ => t = 96 ∨ t = 101
  | .map _ _ => True
  | _ => False
theorem DK.tc {w w' : World} {base B M Bd : Nat} {vc : Value} {D : PD} (h : DK w base B M Bd vc D) (hc : Chg w w' (FP B M Bd vc)) : TC base isDisk w w' := by
  refine .of_chg hc h.base_le fun k hk hl => ⟨(h.fp k hk).1, ?_⟩
  rcases hk with rfl | rfl | rfl | hk
  · exact ⟨_, h.blk, .inl rfl⟩
  · obtain ⟨es, cl, he, _⟩ := h.kept
    exact ⟨_, he, trivial⟩
  · obtain ⟨es, cl, he, _⟩ := h.bad
    exact ⟨_, he, trivial⟩
  · obtain ⟨inner, ho⟩ := Kd.R_own h.cache
    obtain ⟨cells, hc⟩ := own_typed ho k hk.symm
    exact ⟨_, hc, .inr rfl⟩
theorem DK.tkeep {w w' : World} {base base' B M Bd : Nat} {vc : Value} {D : PD} {T : Obj → Prop} (h : DK w base B M Bd vc D) (hc : TC base' T w w') (ht : ∀ o, isDisk o → ¬ T o) : DK w' base B M Bd vc D := by
  obtain ⟨e1, c1, hk1, hr1⟩ := h.kept
  obtain ⟨e2, c2, hk2, hr2⟩ := h.bad
  refine ⟨hc.blk B _ h.blk (ht _ (.inl rfl)), ⟨e1, c1, hc.blk M _ hk1 (ht _ trivial), hr1⟩, ⟨e2, c2, hc.blk Bd _ hk2 (ht _ trivial), hr2⟩, R_tc h.cache hc ?_, h.hB, h.hM, h.hBd, h.hne, h.sec, h.hn, h.hl⟩
  intro q hq cells
  have : q = 101 := by
    have : (101 :: wrK.E) = [101] := by rfl
    rw [this] at hq
    simpa using hq
  subst this
  exact ht _ (.inr rfl)

/-! ### the reference's disk -/
structure RX where
  S : List (List Int)
  cache : List (Int × List Int)
  bad : List Bool
  left : Int
  dead : Bool
def bytesK : Kd (List Int) := Kd.slice 5 (Kd.int .u8)
def rwrK : Kd (Int × List Int) := Kd.pair (Kd.int .i64) bytesK
def isRef (o : Obj) : Prop := match o with
  | .cells _ t _ => t = 53 ∨ t = 29 ∨ t = 4
  | _ => False
theorem isRef53 (c : Array Value) : isRef (.cells c 53 (0, 0)) := .inl rfl
structure RM (w : World) (base B : Nat) (vS vC vB : Value) (X : RX) : Prop where
  blk : w.heap[B]? = some (.cells #[vS, vC, vB, .int .i64 X.left, .bool X.dead] 53 (0, 0))
  S : Kd.R bytesK 29 w base (fun _ => True) vS X.S
  C : Kd.R rwrK 106 w base (fun _ => True) vC X.cache
  bad : Kd.R Kd.bool 4 w base (fun _ => True) vB X.bad
  hB : base ≤ B
structure XOk (X : RX) : Prop where
  s64 : ∀ s ∈ X.S, s.length = 64
  c64 : ∀ p ∈ X.cache, p.2.length = 64 ∧ 0 ≤ p.1 ∧ p.1 < X.S.length
  hb : X.bad.length = X.S.length
  hl : -1 ≤ X.left ∧ X.left ≤ 9223372036854775807
  hn : X.S.length ≤ 4096
structure RK (w : World) (base B : Nat) (vS vC vB : Value) (X : RX) : Prop extends RM w base B vS vC vB X where
  ok : XOk X
theorem RM.lt {w : World} {base B : Nat} {vS vC vB : Value} {X : RX} (h : RM w base B vS vC vB X) : B < w.heap.size := (Array.getElem?_eq_some_iff.1 h.blk).1
theorem RM.base_le {w : World} {base B : Nat} {vS vC vB : Value} {X : RX} (h : RM w base B vS vC vB X) : base ≤ w.heap.size := by have := h.lt; have := h.hB; omega
theorem RM.tkeep {w w' : World} {base base' B : Nat} {vS vC vB : Value} {X : RX} {T : Obj → Prop} (h : RM w base B vS vC vB X) (hc : TC base' T w w') (ht : ∀ q, q = 53 ∨ q = 29 ∨ q = 5 ∨ q = 106 ∨ q = 4 → ∀ cells, ¬ T (.cells cells q (0, 0))) : RM w' base B vS vC vB X := by
  refine ⟨hc.blk B _ h.blk (ht 53 (.inl rfl) _), R_tc h.S hc ?_, R_tc h.C hc ?_, R_tc h.bad hc ?_, h.hB⟩
  · intro q hq
    rw [show 29 :: bytesK.E = [29, 5] from rfl] at hq
    simp only [List.mem_cons, List.not_mem_nil, or_false] at hq
    exact ht q (by rcases hq with h | h <;> simp [h])
  · intro q hq
    rw [show 106 :: rwrK.E = [106, 5] from rfl] at hq
    simp only [List.mem_cons, List.not_mem_nil, or_false] at hq
    exact ht q (by rcases hq with h | h <;> simp [h])
  · intro q hq
    rw [show 4 :: Kd.bool.E = [4] from rfl] at hq
    simp only [List.mem_cons, List.not_mem_nil, or_false] at hq
    exact ht q (by simp [hq])
theorem RM.disk {w w' : World} {base base' B : Nat} {vS vC vB : Value} {X : RX} (h : RM w base B vS vC vB X) (hc : TC base' isDisk w w') : RM w' base B vS vC vB X :=
  h.tkeep hc fun q hq cells ht => by
    simp only [isDisk] at ht
    rcases hq with h | h | h | h | h <;> simp [h] at ht
theorem RM.fresh {w w' : World} {base B : Nat} {vS vC vB : Value} {X : RX} (h : RM w base B vS vC vB X) (hc : Below w.heap.size w w') : RM w' base B vS vC vB X :=
  h.tkeep (T := fun _ => False) (.of_below hc h.base_le) fun q hq cells ht => ht
theorem RK.disk {w w' : World} {base base' B : Nat} {vS vC vB : Value} {X : RX} (h : RK w base B vS vC vB X) (hc : TC base' isDisk w w') : RK w' base B vS vC vB X := ⟨h.toRM.disk hc, h.ok⟩
theorem RK.fresh {w w' : World} {base B : Nat} {vS vC vB : Value} {X : RX} (h : RK w base B vS vC vB X) (hc : Below w.heap.size w w') : RK w' base B vS vC vB X := ⟨h.toRM.fresh hc, h.ok⟩
theorem RM.low {w : World} {base b B : Nat} {vS vC vB : Value} {X : RX} (h : RM w base B vS vC vB X) (hb : b ≤ base) : RM w b B vS vC vB X := ⟨h.blk, Kd.R_lower h.S hb, Kd.R_lower h.C hb, Kd.R_lower h.bad hb, Nat.le_trans hb h.hB⟩
theorem RM.away {w w' : World} {base B : Nat} {vS vC vB : Value} {X : RX} (h : RM w base B vS vC vB X) : B < w.heap.size := h.lt
theorem q29 : ∀ q, q ∈ 29 :: bytesK.E → q = 29 ∨ q = 5 := by
  intro q hq
  rw [show 29 :: bytesK.E = [29, 5] from rfl] at hq
  simpa using hq
theorem q106 : ∀ q, q ∈ 106 :: rwrK.E → q = 106 ∨ q = 5 := by
  intro q hq
  rw [show 106 :: rwrK.E = [106, 5] from rfl] at hq
  simpa using hq
theorem q4 : ∀ q, q ∈ 4 :: Kd.bool.E → q = 4 := by
  intro q hq
  rw [show 4 :: Kd.bool.E = [4] from rfl] at hq
  simpa using hq
/-- what a change of some of its blocks leaves -/
theorem R_types_chg {α : Type} {d : Kd α} {e : Nat} {w w' : World} {base : Nat} {v : Value} {xs : List α} {S : Nat → Prop} (hr : Kd.R d e w base (fun _ => True) v xs) (hc : Chg w w' S)
    (hs : ∀ k, S k → k < w.heap.size → ∃ t cells, w.heap[k]? = some (.cells cells t (0, 0)) ∧ ∀ q, q ∈ e :: d.E → q ≠ t) : Kd.R d e w' base (fun _ => True) v xs :=
  Kd.R_mono (Kd.R_move (Kd.R_bound hr) (fun k hk => hc.block k hk.2.2.1 (fun hS => by
    obtain ⟨t, cells, hcl, hq⟩ := hs k hS hk.2.2.1
    obtain ⟨_, _, _, q, hq', cells', hc'⟩ := hk
    rw [hcl] at hc'
    injection hc' with hc'
    injection hc' with _ hc'
    exact hq q hq' hc'.symm))) (fun _ _ => trivial)
theorem own_cells {α : Type} {d : Kd α} {e : Nat} {w : World} {base : Nat} {v : Value} {xs : List α} {ok : Nat → Prop} (hr : Kd.R d e w base ok v xs) (k : Nat) (hk : some k = v.ownBlock) : base ≤ k ∧ ∃ cells, w.heap[k]? = some (.cells cells e (0, 0)) := by
  obtain ⟨inner, ho⟩ := Kd.R_own hr
  exact ⟨own_base ho k hk.symm, own_typed ho k hk.symm⟩
/-- the row of sectors was turned, then its cell -/
theorem RM.reS {w w' : World} {base B : Nat} {vS vC vB v1 : Value} {X : RX} {S' : List (List Int)} (h : RM w base B vS vC vB X) (hc : Chg w w' (fun k => some k = vS.ownBlock)) (ho : Kd.R bytesK 29 w' base (fun _ => True) v1 S') :
    RM (w'.setCell ⟨B, 0, none⟩ v1) base B v1 vC vB { X with S := S' } ∧ TC base isRef w (w'.setCell ⟨B, 0, none⟩ v1) := by
  have hne : some B ≠ vS.ownBlock := fun e => by
    obtain ⟨_, cells, hc⟩ := own_cells h.S B e
    rw [h.blk] at hc
    simp at hc
  have hb : w'.heap[B]? = _ := (hc.block B h.lt hne).trans h.blk
  have hs : ∀ k, some k = vS.ownBlock → k < w.heap.size → base ≤ k ∧ ∃ o, w.heap[k]? = some o ∧ isRef o := fun k hk hl => by
    obtain ⟨h1, cells, h2⟩ := own_cells h.S k hk
    exact ⟨h1, _, h2, .inr (.inl rfl)⟩
  have hs' : ∀ k, some k = vS.ownBlock → k < w.heap.size → ∃ t cells, w.heap[k]? = some (.cells cells t (0, 0)) ∧ t = 29 := fun k hk hl => by
    obtain ⟨h1, cells, h2⟩ := own_cells h.S k hk
    exact ⟨29, cells, h2, rfl⟩
  refine ⟨⟨set7 hb 0 v1, Kd.R_set ho hb (fun q hq => by rcases q29 q hq with h | h <;> simp [h]) 0 v1, Kd.R_set (R_types_chg h.C hc fun k hk hl => by obtain ⟨t, c, h1, rfl⟩ := hs' k hk hl; exact ⟨_, c, h1, fun q hq => by rcases q106 q hq with h | h <;> simp [h]⟩) hb (fun q hq => by rcases q106 q hq with h | h <;> simp [h]) 0 v1,
    Kd.R_set (R_types_chg h.bad hc fun k hk hl => by obtain ⟨t, c, h1, rfl⟩ := hs' k hk hl; exact ⟨_, c, h1, fun q hq => by simp [q4 q hq]⟩) hb (fun q hq => by simp [q4 q hq]) 0 v1, h.hB⟩, ?_⟩
  exact (TC.of_chg hc h.base_le hs).trans (.set hb (isRef53 _) h.hB v1)
/-- the row of marks was turned, then its cell -/
theorem RM.reB {w w' : World} {base B : Nat} {vS vC vB v1 : Value} {X : RX} {S' : List Bool} (h : RM w base B vS vC vB X) (hc : Chg w w' (fun k => some k = vB.ownBlock)) (ho : Kd.R Kd.bool 4 w' base (fun _ => True) v1 S') :
    RM (w'.setCell ⟨B, 2, none⟩ v1) base B vS vC v1 { X with bad := S' } ∧ TC base isRef w (w'.setCell ⟨B, 2, none⟩ v1) := by
  have hne : some B ≠ vB.ownBlock := fun e => by
    obtain ⟨_, cells, hc⟩ := own_cells h.bad B e
    rw [h.blk] at hc
    simp at hc
  have hb : w'.heap[B]? = _ := (hc.block B h.lt hne).trans h.blk
  have hs : ∀ k, some k = vB.ownBlock → k < w.heap.size → base ≤ k ∧ ∃ o, w.heap[k]? = some o ∧ isRef o := fun k hk hl => by
    obtain ⟨h1, cells, h2⟩ := own_cells h.bad k hk
    exact ⟨h1, _, h2, .inr (.inr rfl)⟩
  have hs' : ∀ k, some k = vB.ownBlock → k < w.heap.size → ∃ t cells, w.heap[k]? = some (.cells cells t (0, 0)) ∧ t = 4 := fun k hk hl => by
    obtain ⟨h1, cells, h2⟩ := own_cells h.bad k hk
    exact ⟨4, cells, h2, rfl⟩
  refine ⟨⟨set7 hb 2 v1, Kd.R_set (R_types_chg h.S hc fun k hk hl => by obtain ⟨t, c, h1, rfl⟩ := hs' k hk hl; exact ⟨_, c, h1, fun q hq => by rcases q29 q hq with h | h <;> simp [h]⟩) hb (fun q hq => by rcases q29 q hq with h | h <;> simp [h]) 2 v1,
    Kd.R_set (R_types_chg h.C hc fun k hk hl => by obtain ⟨t, c, h1, rfl⟩ := hs' k hk hl; exact ⟨_, c, h1, fun q hq => by rcases q106 q hq with h | h <;> simp [h]⟩) hb (fun q hq => by rcases q106 q hq with h | h <;> simp [h]) 2 v1,
    Kd.R_set ho hb (fun q hq => by simp [q4 q hq]) 2 v1, h.hB⟩, ?_⟩
  exact (TC.of_chg hc h.base_le hs).trans (.set hb (isRef53 _) h.hB v1)
theorem DK.ref {w w' : World} {base base' B M Bd : Nat} {vc : Value} {D : PD} (h : DK w base B M Bd vc D) (hc : TC base' isRef w w') : DK w' base B M Bd vc D :=
  h.tkeep hc fun o ho ht => by
    cases o with
    | cells c t f => simp only [isDisk, isRef] at ho ht; rcases ho with h | h <;> simp [h] at ht
    | _ => exact ht
theorem cells5 {w : World} {B : Nat} {a b c d e : Value} {t : Nat} (h : w.heap[B]? = some (.cells #[a, b, c, d, e] t (0, 0))) :
    (w.cell? ⟨B, 0, none⟩ = some a ∧ w.cell? ⟨B, 1, none⟩ = some b ∧ w.cell? ⟨B, 2, none⟩ = some c ∧ w.cell? ⟨B, 3, none⟩ = some d ∧ w.cell? ⟨B, 4, none⟩ = some e) ∧
    (w.frozen? ⟨B, 0, none⟩ = false ∧ w.frozen? ⟨B, 1, none⟩ = false ∧ w.frozen? ⟨B, 2, none⟩ = false ∧ w.frozen? ⟨B, 3, none⟩ = false ∧ w.frozen? ⟨B, 4, none⟩ = false) := by
  refine ⟨⟨?_, ?_, ?_, ?_, ?_⟩, ?_, ?_, ?_, ?_, ?_⟩ <;> simp [World.cell?, World.frozen?, h]
theorem not_ref (q : Nat) (hq : q = 5 ∨ q = 106) (cells : Array Value) : ¬ isRef (.cells cells q (0, 0)) := by
  intro h
  simp only [isRef] at h
  rcases hq with e | e <;> simp [e] at h
/-- only the numbers of the reference's disk were turned -/
theorem RK.num {w : World} {base B : Nat} {vS vC vB : Value} {X : RX} (h : RK w base B vS vC vB X) (l : Int) (d : Bool) (hl : -1 ≤ l ∧ l ≤ 9223372036854775807) {w' : World} (ho : Only w w' B) (hb : w'.heap[B]? = some (.cells #[vS, vC, vB, .int .i64 l, .bool d] 53 (0, 0))) :
    RK w' base B vS vC vB { X with left := l, dead := d } ∧ TC base isRef w w' := by
  have hc : Chg w w' (fun k => k = B) := ho.chg fun _ h => h
  have htc : TC base isRef w w' := .of_chg hc h.base_le fun k hk _ => by subst hk; exact ⟨h.hB, _, h.blk, isRef53 _⟩
  have hm : ∀ {α : Type} {d : Kd α} {e : Nat} {v : Value} {xs : List α}, Kd.R d e w base (fun _ => True) v xs → (∀ q, q ∈ e :: d.E → q ≠ 53) → Kd.R d e w' base (fun _ => True) v xs := fun hr hq => by
    have h1 := Kd.R_types hr h.blk hq
    exact Kd.R_mono (Kd.R_step h1 (fun k hk hl => hc.block k hl hk.2)) (fun _ _ => trivial)
  refine ⟨⟨⟨hb, hm h.S ?_, hm h.C ?_, hm h.bad ?_, h.hB⟩, ⟨h.ok.s64, h.ok.c64, h.ok.hb, hl, h.ok.hn⟩⟩, htc⟩
  · intro q hq
    rw [show 29 :: bytesK.E = [29, 5] from rfl] at hq
    simp only [List.mem_cons, List.not_mem_nil, or_false] at hq
    rintro rfl
    simp at hq
  · intro q hq
    rw [show 106 :: rwrK.E = [106, 5] from rfl] at hq
    simp only [List.mem_cons, List.not_mem_nil, or_false] at hq
    rintro rfl
    simp at hq
  · intro q hq
    rw [show 4 :: Kd.bool.E = [4] from rfl] at hq
    simp only [List.mem_cons, List.not_mem_nil, or_false] at hq
    rintro rfl
    simp at hq
theorem rhas_calls (w : World) (base B : Nat) (vS vC vB : Value) (X : RX) (at_ : Int) (b : Bool) (hb : inB at_ X.S.length = b) (h : RK w base B vS vC vB X) :
    Calls Try.prog 70 #[.pointer (some ⟨B, 0, none⟩), .int .i64 at_] w fun e w' => e = .returned (.bool b) ∧ w = w' := by
  subst hb
  obtain ⟨⟨h0, h1, h2, h3, h4⟩, _⟩ := cells5 h.blk
  obtain ⟨A, c, rfl⟩ := Kd.R_slice h.S
  clear h h1 h2 h3 h4
  by_cases h : 0 ≤ at_
  · by_cases h' : at_ < X.S.length
    · rw [show inB at_ X.S.length = true by simp [inB]; omega]
      go_enter Try.func70, Try.ntmps70
      go_wp2
      go_ret
      exact ⟨rfl, rfl⟩
    · rw [show inB at_ X.S.length = false by simp [inB]; omega]
      have h2 : decide (at_ < (X.S.length : Int)) = false := by simp; omega
      go_enter Try.func70, Try.ntmps70
      go_wp2
      go_ret
      exact ⟨rfl, rfl⟩
  · rw [show inB at_ X.S.length = false by simp [inB]; omega]
    go_enter Try.func70, Try.ntmps70
    go_wp2
    go_ret
    exact ⟨rfl, rfl⟩
def ractX (X : RX) : RX × Int := if X.dead || X.left == 0 then ({ X with dead := true }, 50) else if 0 < X.left then ({ X with left := X.left - 1 }, 0) else (X, 0)
theorem ract_calls (w : World) (base B : Nat) (vS vC vB : Value) (X X' : RX) (r : Int) (hx : ractX X = (X', r)) (h : RK w base B vS vC vB X) :
    Calls Try.prog 71 #[.pointer (some ⟨B, 0, none⟩)] w fun e w' => e = .returned (.int .i64 r) ∧ RK w' base B vS vC vB X' ∧ TC base isRef w w' ∧ Chg w w' (fun k => k = B) := by
  obtain ⟨⟨h0, h1, h2, h3, h4⟩, f0, f1, f2, f3, f4⟩ := cells5 h.blk
  have HR := Aside0.mk h
  obtain ⟨S, cache, bad, left, dead⟩ := X
  simp only at h3 h4
  have hl := h.ok.hl
  simp only at hl
  obtain ⟨hl1, hl2⟩ := hl
  clear h
  cases dead with
  | true =>
    have e : ractX { S := S, cache := cache, bad := bad, left := left, dead := true } = ({ S := S, cache := cache, bad := bad, left := left, dead := true }, 50) := by simp [ractX]
    obtain ⟨rfl, rfl⟩ := Prod.mk.inj (e.symm.trans hx)
    clear e hx
    go_enter Try.func71, Try.ntmps71
    go_wp2
    go_ret
    have ho := (Only.refl w B).set (i := 4) (.bool true)
    obtain ⟨k1, k2⟩ := HR.out.num left true ⟨hl1, hl2⟩ ho (set7 HR.out.blk 4 (.bool true))
    exact ⟨rfl, k1, k2, ho.chg fun _ h => h⟩
  | false =>
    by_cases hz : left = 0
    · subst hz
      have e : ractX { S := S, cache := cache, bad := bad, left := 0, dead := false } = ({ S := S, cache := cache, bad := bad, left := 0, dead := true }, 50) := by simp [ractX]
      obtain ⟨rfl, rfl⟩ := Prod.mk.inj (e.symm.trans hx)
      clear e hx
      go_enter Try.func71, Try.ntmps71
      go_wp2
      go_ret
      have ho := (Only.refl w B).set (i := 4) (.bool true)
      obtain ⟨k1, k2⟩ := HR.out.num 0 true ⟨by omega, by omega⟩ ho (set7 HR.out.blk 4 (.bool true))
      exact ⟨rfl, k1, k2, ho.chg fun _ h => h⟩
    · have hz0 : (left == 0) = false := by simpa using hz
      by_cases hp : 0 < left
      · have e : ractX { S := S, cache := cache, bad := bad, left := left, dead := false } = ({ S := S, cache := cache, bad := bad, left := left - 1, dead := false }, 0) := by simp [ractX, hz, hp]
        obtain ⟨rfl, rfl⟩ := Prod.mk.inj (e.symm.trans hx)
        clear e hx hz
        go_enter Try.func71, Try.ntmps71
        go_wp2
        go_ret
        have ho := (Only.refl w B).set (i := 3) (.int .i64 (left - 1))
        obtain ⟨k1, k2⟩ := HR.out.num (left - 1) false ⟨by omega, by omega⟩ ho (set7 HR.out.blk 3 (.int .i64 (left - 1)))
        exact ⟨rfl, k1, k2, ho.chg fun _ h => h⟩
      · have e : ractX { S := S, cache := cache, bad := bad, left := left, dead := false } = ({ S := S, cache := cache, bad := bad, left := left, dead := false }, 0) := by simp [ractX, hz, hp]
        obtain ⟨rfl, rfl⟩ := Prod.mk.inj (e.symm.trans hx)
        clear e hx hz
        go_enter Try.func71, Try.ntmps71
        go_wp2
        go_ret
        exact ⟨rfl, HR.out, TC.refl _ _ _, Chg.refl _ _⟩
def rarmX (X : RX) (n : Int) : RX := { X with left := if 0 ≤ n then n else -1 }
theorem rarm_calls (w : World) (base B : Nat) (vS vC vB : Value) (X : RX) (n : Int) (hn : -9223372036854775808 ≤ n ∧ n ≤ 9223372036854775807) (h : RK w base B vS vC vB X) :
    Calls Try.prog 29 #[.pointer (some ⟨B, 0, none⟩), .int .i64 n] w fun e w' => e = .returned (.tuple #[]) ∧ RK w' base B vS vC vB (rarmX X n) ∧ TC base isRef w w' := by
  obtain ⟨⟨h0, h1, h2, h3, h4⟩, f0, f1, f2, f3, f4⟩ := cells5 h.blk
  have HR := Aside0.mk h
  clear h
  by_cases h0 : 0 ≤ n
  · have e : rarmX X n = { X with left := n, dead := X.dead } := by unfold rarmX; rw [if_pos h0]
    rw [e]
    clear e
    go_enter Try.func29, Try.ntmps29
    go_wp2
    go_end0
    have ho := ((Only.refl w B).set (i := 3) (.int .i64 (-1))).set (i := 3) (.int .i64 n)
    obtain ⟨k1, k2⟩ := HR.out.num n X.dead ⟨by omega, by omega⟩ ho (set7 (set7 HR.out.blk 3 (.int .i64 (-1))) 3 (.int .i64 n))
    exact ⟨rfl, k1, k2⟩
  · have e : rarmX X n = { X with left := -1, dead := X.dead } := by unfold rarmX; rw [if_neg h0]
    rw [e]
    clear e
    go_enter Try.func29, Try.ntmps29
    go_wp2
    go_end0
    have ho := ((Only.refl w B).set (i := 3) (.int .i64 (-1)))
    obtain ⟨k1, k2⟩ := HR.out.num (-1) X.dead ⟨by omega, by omega⟩ ho (set7 HR.out.blk 3 (.int .i64 (-1)))
    exact ⟨rfl, k1, k2⟩
end Go.Proofs.Ytlepcmljmibdnaa
namespace Go.Proofs.Ytlepcmljmibdnaa
open Go.RowKit Go.Proofs.YtlepcmljmibdnaaW.PrintWords Go.Proofs.YtlepcmljmibdnaaW.PrintLast Go.Proofs.YtlepcmljmibdnaaW.PrintMore PDiskArms
set_option linter.unusedVariables false
set_option linter.unusedSimpArgs false
theorem info5e : (Try.prog.info? 5).map (fun i => (i.zero, i.size, i.bytes)) = some (some (.int .u8 0), (Kd.int .u8).sz, 1) := by kernel_rfl
theorem info29e : (Try.prog.info? 29).map (fun i => (i.zero, i.size, i.bytes)) = some (some (.slice none 0 0), bytesK.sz, 24) := by kernel_rfl
theorem info4e : (Try.prog.info? 4).map (fun i => (i.zero, i.size, i.bytes)) = some (some (.bool false), Kd.bool.sz, 1) := by kernel_rfl
theorem info106e : (Try.prog.info? 106).map (fun i => (i.zero, i.size, i.bytes)) = some (some (.agg #[.int .i64 0, .slice none 0 0]), rwrK.sz, 32) := by kernel_rfl
/-- a row of noughts, made -/
theorem make64 (W : World) : (Instr.makeSlice 29 (.int .i64 64) (.int .i64 64)).run Try.prog W = .ok (.slice (some ⟨W.heap.size, 0, none⟩) 64 64) (W.alloc (.cells (madeCells #[.int .u8 0] 64) 5)) :=
  print_make (P := Try.prog) 29 5 .u8 1 Try.underlying29 info5e (by decide) 64 (by decide) W
theorem made_R (W : World) (base : Nat) (hb : base ≤ W.heap.size) : Kd.R (Kd.int .u8) 5 (W.alloc (.cells (madeCells #[.int .u8 0] 64) 5)) base (fun k => W.heap.size ≤ k) (.slice (some ⟨W.heap.size, 0, none⟩) 64 64) zsec :=
  Kd.R_of_own (own_made W base 5 .u8 64 hb (by decide)) (fun k hk => by have : W.heap.size = k := by simpa [Value.ownBlock] using hk
                                                                        omega)
def rnewN (n : Int) : Nat := (min (max n 0) 4096).toNat
def rnewX (m : Nat) : RX := { S := List.replicate m zsec, cache := [], bad := List.replicate m false, left := -1, dead := false }
theorem rep_succ {α : Type} (m : Nat) (x : α) : List.replicate m x ++ [x] = List.replicate (m + 1) x := by rw [List.replicate_succ']
theorem make_M (W : World) (base : Nat) (hb : base ≤ W.heap.size) : bytesK.M (W.alloc (.cells (madeCells #[.int .u8 0] 64) 5)) base (fun k => W.heap.size ≤ k) zsec [.slice (some ⟨W.heap.size, 0, none⟩) 64 64] :=
  ⟨_, rfl, made_R W base hb⟩
def RNewP (w : World) (N : Nat) (e : Ending) (w' : World) : Prop := ∃ B vS vB, e = .returned (.pointer (some ⟨B, 0, none⟩)) ∧ RM w' w.heap.size B vS (.slice none 0 0) vB (rnewX N) ∧ Below w.heap.size w w'
set_option maxHeartbeats 1000000 in
theorem rnew_calls (w : World) (n : Int) :
    Calls Try.prog 25 #[.int .i64 n] w (RNewP w (rnewN n)) := by
  have hmk := make64
  have hN : Aside0 ((rnewN n : Int) = min (max n 0) 4096) := ⟨by unfold rnewN; omega⟩
  generalize rnewN n = N at hN
  have hN4 : N ≤ 4096 := by have := hN.out; omega
  have hblk := heap_alloc_new w (.cells #[.slice none 0 0, .slice none 0 0, .slice none 0 0, .int .i64 (-1), .bool false] 53)
  have H0 : Aside0 (RM (w.alloc (.cells #[.slice none 0 0, .slice none 0 0, .slice none 0 0, .int .i64 (-1), .bool false] 53)) w.heap.size w.heap.size (.slice none 0 0) (.slice none 0 0) (.slice none 0 0) (rnewX 0)) :=
    ⟨⟨hblk, Kd.R_nil _ _ _ _ _, Kd.R_nil _ _ _ _ _, Kd.R_nil _ _ _ _ _, Nat.le_refl _⟩⟩
  clear hblk
  go_enter Try.func25, Try.ntmps25
  go_wp2
  go_loopg [4] N (fun kq v4 w' => ∃ (i : Nat) (vS vB : Value), v4 = .int .i64 (i : Int) ∧ Aside0 (i + kq = N) ∧ Aside0 (RM w' w.heap.size w.heap.size vS (.slice none 0 0) vB (rnewX i)) ∧ Aside0 (Below w.heap.size w w'))
  case atStart => exact ⟨0, _, _, rfl, ⟨by omega⟩, H0, ⟨Below.alloc (Below.refl _ _) (Nat.le_refl _) _⟩⟩
  case round =>
    obtain ⟨i, vS, vB, rfl, HI, HRi, HBi⟩ := hrel
    by_cases hi : i < N
    · have h1 : (i : Int) < n := by have := hN.out; omega
      have h2 : (i : Int) < 4096 := by have := hN.out; omega
      have hcs := cells5 HRi.out.blk
      obtain ⟨⟨q0, q1, q2, q3, q4⟩, f0, f1, f2, f3, f4⟩ := hcs
      obtain ⟨A, c, hvS⟩ := Kd.R_slice HRi.out.S
      have HVS := Aside0.mk hvS
      have q0' : wr.drew.cell? ⟨w.heap.size, 0, none⟩ = some vS := q0
      have HBS := Aside0.mk (show w.heap.size ≤ wr.heap.size from HBi.out.size)
      clear q0 q1 q3 q4 hvS f1 f3 f4
      have HM : Aside0 (bytesK.M (wr.alloc (.cells (madeCells #[.int .u8 0] 64) 5)).drew w.heap.size (fun k => wr.heap.size ≤ k) zsec [.slice (some ⟨wr.heap.size, 0, none⟩) 64 64]) := ⟨Kd.M_step (make_M wr w.heap.size HBS.out) (fun _ _ _ => rfl)⟩
      have HSZ : Aside0 ((wr.alloc (.cells (madeCells #[.int .u8 0] 64) 5)).drew.heap.size = wr.heap.size + 1) := ⟨alloc_size wr _⟩
      have HOK : Aside0 (∀ k, wr.heap.size ≤ k → True ∧ some k ≠ vS.ownBlock) := ⟨fun k hk => ⟨trivial, Kd.fresh_ok HRi.out.S k hk⟩⟩
      have HS1 := Aside0.mk (HRi.out.fresh (Below.alloc (Below.refl wr.heap.size wr) (Nat.le_refl _) (.cells (madeCells #[.int .u8 0] 64) 5)).drew).S
      have HBW := Aside0.mk (show w.heap.size ≤ (wr.alloc (.cells (madeCells #[.int .u8 0] 64) 5)).drew.heap.size from Nat.le_trans HBS.out (Below.alloc (Below.refl wr.heap.size wr) (Nat.le_refl _) _).size)
      have HLL := Aside0.mk (show ((rnewX i).S.length + 1) * 24 ≤ 140737488355328 by rw [show (rnewX i).S.length = i from List.length_replicate]; omega)
      have HLT := Aside0.mk HRi.out.lt
      have HBLT := Aside0.mk (show w.heap.size < (wr.alloc (.cells (madeCells #[.int .u8 0] 64) 5)).drew.heap.size from Nat.lt_of_lt_of_le HLT.out (Below.alloc (Below.refl wr.heap.size wr) (Nat.le_refl _) _).size)
      have HBN := Aside0.mk (show some w.heap.size ≠ vS.ownBlock from fun e => by
        obtain ⟨_, cells, hc⟩ := own_cells HRi.out.S _ e
        rw [HRi.out.blk] at hc
        simp at hc)
      go_wp2
      refine Fork.wp_fork (Fork.Lo.rel 0) [7, 10] [] (.one 0 0 (.one 1 0 (.one 2 0 (.one 3 0 (.one 4 1 (.one 5 2 (.one 6 2 (.one 7 2 (.one 8 0 (.one 9 0 (.one 10 2 .nil))))))))))) (by kernel_rfl) (by kernel_rfl) ?_
      generalize hops : List.toArray (_ : List Oper) = ops
      have HO := Aside0.mk hops
      clear hops
      iterate 4 ((refine Fork.plain (Fork.at_ HO.out rfl) _ rfl (fun W => by go_simp; exact rfl) ?_); simp only [Act.put, List.setIfInBounds_toArray, List.set_cons_succ, List.set_cons_zero])
      refine Fork.reads (Fork.at_ HO.out rfl) _ rfl (fun W hW => Arr.ex_load1 rfl rfl (by kernel_rfl) (Fork.bel_cell hW (by assumption))) ?_
      simp only [Act.put, List.setIfInBounds_toArray, List.set_cons_succ, List.set_cons_zero]
      refine Fork.step (Fork.at_ HO.out rfl) (fun K hK => ?_)
      go_simp
      refine hK _ _ (.of_new (Below.alloc (Below.refl _ _) (Nat.le_refl _) _) (Nat.zero_le _)) ?_
      clear hK K
      try simp only [Act.put, List.setIfInBounds_toArray, List.set_cons_succ, List.set_cons_zero]
      refine Fork.step (Fork.at_ HO.out rfl) (fun K hK => ?_)
      go_simp
      refine hK _ _ (.of_new (Below.alloc (Below.refl _ _) (Nat.le_refl _) _) (Nat.zero_le _)) ?_
      clear hK K
      try simp only [Act.put, List.setIfInBounds_toArray, List.set_cons_succ, List.set_cons_zero]
      refine Fork.step (Fork.at_ HO.out rfl) (fun K hK => ?_)
      refine Kd.R_append_step bytesK (W := (wr.alloc (.cells (madeCells #[.int .u8 0] 64) 5)).drew) (w0 := (wr.alloc (.cells (madeCells #[.int .u8 0] 64) 5)).drew) w.heap.size rfl (.tmp 20) (.tmp 22) 50 29 (.slice none 0 0) 24 rfl Try.underlying50 info29e rfl (by decide) (by decide) vS (rnewX i).S zsec [.slice (some ⟨wr.heap.size, 0, none⟩) 64 64] (fun _ => True) (fun k => wr.heap.size ≤ k) rfl (by rw [HSZ.out]; rfl) HM.out HOK.out (fun _ _ => trivial) HS1.out (Below.refl _ _) HBW.out HLL.out ?_
      intro v1 w4 ho hb hg hat
      refine hK _ _ (.of_old (.zero hg.os hg.tape hg.output) rfl) ?_
      clear hK K
      have hblk4 : w4.heap[w.heap.size]? = wr.heap[w.heap.size]? := (hg.block _ HBLT.out HBN.out).trans (heap_alloc_old wr _ HLT.out)
      obtain ⟨⟨r0, r1, r2, r3, r4⟩, g0, g1, g2, g3, g4⟩ := cells5 (hblk4.trans HRi.out.blk)
      clear r1 r2 r3 r4 g1 g2 g3 g4
      obtain ⟨A1, c1, hv1⟩ := Kd.R_slice ho
      generalize ((rnewX i).S ++ [zsec]).length = n1 at hv1
      subst hv1
      have HR1 := Aside0.mk ho
      have HG1 := Aside0.mk hg
      clear ho hb hg hat hblk4
      try simp only [Act.put, List.setIfInBounds_toArray, List.set_cons_succ, List.set_cons_zero]
      iterate 2 ((refine Fork.plain (Fork.at_ HO.out rfl) _ rfl (fun W => by go_simp; exact rfl) ?_); simp only [Act.put, List.setIfInBounds_toArray, List.set_cons_succ, List.set_cons_zero])
      refine Fork.step (Fork.at_ HO.out rfl) (fun K hK => ?_)
      go_simp
      refine hK _ _ (.of_old (.zero rfl rfl rfl) rfl) ?_
      clear hK K
      try simp only [Act.put, List.setIfInBounds_toArray, List.set_cons_succ, List.set_cons_zero]
      refine Fork.done ?_
      have hX1 : { rnewX i with S := (rnewX i).S ++ [zsec] } = { rnewX (i + 1) with bad := (rnewX i).bad } := by unfold rnewX; simp [rep_succ]
      have hc1 : Chg wr w4 (fun k => some k = vS.ownBlock) := ((Chg.refl wr _).alloc _).drew.trans (chg_grown HG1.out (fun _ h => h))
      obtain ⟨k1, k2⟩ := HRi.out.reS hc1 HR1.out
      rw [hX1] at k1
      have HK1 := Aside0.mk k1
      have HBk := Aside0.mk (HBi.out.trans k2.low)
      generalize w4.setCell ⟨w.heap.size, 0, none⟩ (Value.slice A1 n1 c1) = w5 at HK1 HBk ⊢
      clear q0' f0 f2 r0 g0 hX1 hc1 k1 k2
      obtain ⟨⟨q0, q1, q2, q3, q4⟩, f0, f1, f2, f3, f4⟩ := cells5 HK1.out.blk
      obtain ⟨Ab, cb, hvB⟩ := Kd.R_slice HK1.out.bad
      have HVB := Aside0.mk hvB
      have HLB := Aside0.mk (show (rnewX i).bad.length = i from List.length_replicate)
      have HNB := Aside0.mk (show some w.heap.size ≠ vB.ownBlock from fun e => by
        obtain ⟨_, cells, hc⟩ := own_cells HK1.out.bad _ e
        rw [HK1.out.blk] at hc
        simp at hc)
      clear q0 q1 q3 q4 hvB f0 f1 f3 f4
      go_wp2_with (first | ((with_reducible refine gate_builtin (b := .append) (xs := #[.tmp 30, .tmp 31]) rfl ?_); at_builtin; refine Kd.R_append Kd.bool (W := w5) (w0 := w5) w.heap.size rfl (.tmp 30) (.tmp 31) 23 4 (.bool false) 1 rfl Try.underlying23 info4e rfl (by decide) (by decide) vB (rnewX i).bad false [.bool false] (fun _ => True) (fun _ => False) rfl rfl rfl (fun _ h => h.elim) (fun _ _ => trivial) HK1.out.bad (Below.refl _ _) HBk.out.size (by rw [HLB.out]; omega) ?_; intro v2 w6 ho hb hg hat; have hblk6 := (hg.block _ HK1.out.lt HNB.out).trans HK1.out.blk; obtain ⟨⟨r0, r1, r2, r3, r4⟩, g0, g1, g2, g3, g4⟩ := cells5 hblk6; clear r0 r1 r3 r4 g0 g1 g3 g4 hblk6; obtain ⟨A2, c2, hv2⟩ := Kd.R_slice ho; generalize ((rnewX i).bad ++ [false]).length = n2 at hv2; subst hv2; have HR2 := Aside0.mk ho; have HG2 := Aside0.mk hg; clear ho hb hg hat))
      have hX2 : { { rnewX (i + 1) with bad := (rnewX i).bad } with bad := (rnewX i).bad ++ [false] } = rnewX (i + 1) := by unfold rnewX; simp [rep_succ]
      obtain ⟨k1, k2⟩ := HK1.out.reB (chg_grown HG2.out (fun _ h => h)) HR2.out
      rw [hX2] at k1
      have hk1 := HI.out
      obtain ⟨gq, rfl⟩ : ∃ gq, gk = gq + 1 := ⟨gk - 1, by omega⟩
      go_roundg gq
      case rel => exact ⟨i + 1, _, _, by go_num, ⟨by omega⟩, ⟨k1⟩, ⟨HBk.out.trans k2.low⟩⟩
      case measure => omega
    · have hi0 := HI.out
      obtain rfl : gk = 0 := by omega
      obtain rfl : i = N := by omega
      have hN0 := hN.out
      clear hi0
      by_cases h1 : (i : Int) < n
      · have h2 : decide ((i : Int) < 4096) = false := by simp; omega
        clear hN0
        go_wp2
        go_ret
        exact ⟨_, _, _, rfl, HRi.out, HBi.out⟩
      · clear hN0
        go_wp2
        go_ret
        exact ⟨_, _, _, rfl, HRi.out, HBi.out⟩
theorem rnew_ok (N : Nat) (h : N ≤ 4096) : XOk (rnewX N) := by
  refine ⟨fun s hs => ?_, fun p hp => ?_, ?_, ⟨?_, ?_⟩, ?_⟩
  · rw [List.eq_of_mem_replicate hs]; rfl
  · cases hp
  · simp [rnewX]
  · exact Int.le_refl _
  · show (-1 : Int) ≤ _; omega
  · simp [rnewX, h]
end Go.Proofs.Ytlepcmljmibdnaa
