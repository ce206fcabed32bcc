/- Parts of one proof, joined: Ur, Sv, Rn, Rf, Rg, Rh, Ri, Rj, Cr, Bt, Sr. Conditions: those of each statement. -/
import Derived.Test.YtlepcmljmibdnaaGreatZh3
import Derived.ArgAppend
namespace Go.Proofs.YtlepcmljmibdnaaGreat
open Go.RowKit Go.Proofs.YtlepcmljmibdnaaGreatW.PrintWords Go.Proofs.YtlepcmljmibdnaaGreatW.PrintLast Go.Proofs.YtlepcmljmibdnaaGreatW.PrintMore PWalOpens
set_option linter.unusedVariables false
set_option linter.unusedSimpArgs false
theorem be4_bytes (c : Int) : isBytes (be4 c) := by rw [← lowB4]; exact lowB_bytes c 4
theorem slotB_bytes (g : Int) (l : List Int) (hg : 0 ≤ g ∧ g < 18446744073709551616) (hn : ∀ n ∈ l, 0 ≤ n ∧ n < 18446744073709551616) (hl : l.length ≤ 4) : isBytes (slotB g l) := by
  intro x hx
  unfold slotB at hx
  rcases List.mem_append.1 hx with hx | hx
  · exact fs_bytes g l hg hn hl x hx
  · exact be4_bytes _ x hx
def UnQ (w : World) (b : List Int) (e : Ending) (w' : World) : Prop := ∃ A c, e = .returned (.tuple #[.int .u64 (unP b).1, .slice A (unP b).2.1.length c, .int .i64 (unP b).2.2]) ∧ Kd.R (Kd.int .u64) 52 w' w.heap.size (fun k => w.heap.size ≤ k) (.slice A (unP b).2.1.length c) (unP b).2.1 ∧ Below w.heap.size w w'
end Go.Proofs.YtlepcmljmibdnaaGreat
namespace Go.Proofs.YtlepcmljmibdnaaGreat
open Go.RowKit Go.Proofs.YtlepcmljmibdnaaGreatW.PrintWords Go.Proofs.YtlepcmljmibdnaaGreatW.PrintLast Go.Proofs.YtlepcmljmibdnaaGreatW.PrintMore PWalOpens
set_option linter.unusedVariables false
set_option linter.unusedSimpArgs false
theorem ex_copy {P : Program} {W w1 : World} {o : Oper} {ρ : Operand → Value} {d s : Operand} {t : TypeId} {v : Value} (ho : o.op = .call { callee := .builtin .copy, args := #[d, s], argTypes := #[t, t] }) {vd vs : Value} (hd : ρ d = vd) (hs : ρ s = vs)
    (hrun : (Builtin.copy_ #[t, t] o.type #[vd, vs]).run P W = .ok v w1) : (execOp ρ o).run P W = .ok (.value v) w1 := by
  subst hd; subst hs
  simp [execOp, ho, resolve, invoke, builtin, hrun, Result.andThen]
/-- bytes copied into sixty-four noughts -/
theorem run_copy_sec (W : World) (b : List Int) (hb : b.length ≤ 64) (A : Option Addr) (c : Nat) (ty : TypeId) (hC : (Kd.int .u8).C (W.alloc (.cells (secC zsec) 121)) A b.length b) :
    (Builtin.copy_ #[58, 58] ty #[.slice (some ⟨W.heap.size, 0, none⟩) 64 64, .slice A b.length c]).run Tryz.prog (W.alloc (.cells (secC zsec) 121)) = .ok (goInt b.length) (W.alloc (.cells (secC (pad b)) 121)) := by
  have hR := Kd.reads_of_C (enc := Value.int .u8) (d := (0 : Int)) (h1 := fun _ => rfl) hC
  by_cases h0 : b.length = 0
  · obtain rfl : b = [] := List.eq_nil_of_length_eq_zero h0
    exact run_copy_none (P := Tryz.prog) _ 58 58 ty 5 _ A 64 64 0 c Tryz.underlying58 (by kernel_rfl) rfl
  · obtain ⟨ad, rfl, hc⟩ := hR.2.2 (by omega)
    have hl : (encs (Value.int .u8) b).length = b.length := encs_length _
    have h := run_copy_row (P := Tryz.prog) (W.alloc (.cells (secC zsec) 121)) 58 58 ty 5 W.heap.size 0 64 64 ad b.length c (secC zsec) 121 (encs (Value.int .u8) b) Tryz.underlying58 (by kernel_rfl) (heap_alloc_new W _)
      (by rw [hl]; exact (Nat.min_eq_left hb).symm) (by
        intro j v hj
        have hj' : j < b.length := by have := (List.getElem?_eq_some_iff.1 hj).1; omega
        rw [encs_get (d := 0) b j hj'] at hj
        obtain rfl := Option.some.inj hj
        exact hc j hj') (by rw [hl, sec_size _ (by rfl)]; omega) (by intro v hv; simp only [encs, List.mem_map] at hv; obtain ⟨a, _, rfl⟩ := hv; rfl)
    rw [h, Arr.setRow_alloc, hl]
    have e : ((secC zsec).toList.take 0 ++ encs (Value.int .u8) b ++ (secC zsec).toList.drop (0 + b.length)).toArray = secC (pad b) := by
      unfold secC pad
      rw [Nat.zero_add]
      simp only [List.take_zero, List.nil_append, encs_append]
      rw [show (encs (Value.int .u8) zsec).drop b.length = encs (Value.int .u8) (List.replicate (64 - b.length) 0) by unfold encs zsec; rw [List.map_replicate, List.drop_replicate, List.map_replicate]]
    rw [e]
theorem pad_take (b : List Int) : (pad b).take b.length = b := by
  unfold pad
  rw [List.take_append_of_le_length (Nat.le_refl _), List.take_length]
theorem slotB_64 (g : Int) (l : List Int) (hl : l.length ≤ 4) : (slotB g l).length ≤ 64 := by
  have h1 := encNs_len l
  have h2 := encNs_len [g, (l.length : Int)]
  rw [slotB_len]
  unfold slotF
  simp only [List.length_append, List.length_cons, List.length_nil] at h2 ⊢
  omega
noncomputable def saveP (D : PD) (g : Int) (l : List Int) : PD × Int :=
  if 4 < l.length then (D, 2) else if (flushP D).2 ≠ 0 then flushP D else
    if (writeP (flushP D).1 (g % 2) (slotB g l)).2 ≠ 0 then writeP (flushP D).1 (g % 2) (slotB g l) else flushP (writeP (flushP D).1 (g % 2) (slotB g l)).1
def SvQ (w : World) (B M Bd : Nat) (vc : Value) (D' : PD) (e : Int) (r : Ending) (w' : World) : Prop := r = .returned (.int .i64 e) ∧ ∃ vc', At w (FP B M Bd vc) w' B M Bd vc' D'
section
variable {w : World} {base B M Bd : Nat} {vc : Value} {D D1 D2 D3 : PD} {g : Int} {l : List Int} {A : Option Addr} {c : Nat} {e : Int}
theorem save_long (hl : 4 < l.length) (h : DK w base B M Bd vc D) : Calls Tryz.prog 94 #[.pointer (some ⟨B, 0, none⟩), .int .u64 g, .slice A l.length c] w (SvQ w B M Bd vc D 2) := by
  have HD := Aside0.mk (At.refl h)
  have HS := Aside0.mk (slot_long w g l A c hl)
  clear h hl
  go_enter Tryz.func94, Tryz.ntmps94
  go_wp2_with (first
    | (go_at_call 128; (with_reducible refine HS.out.mono ?_); rintro e w2 ⟨rfl, rfl⟩))
  go_ret
  exact ⟨rfl, vc, HD.out⟩
theorem save_f1 (he : e ≠ 0) (hf : flushP D = (D1, e)) (hg : 0 ≤ g ∧ g < 18446744073709551616) (hn : ∀ n ∈ l, 0 ≤ n ∧ n < 18446744073709551616) (hl : l.length ≤ 4) (hC : (Kd.int .u64).C w A l.length l) (hc : D.cache.length ≤ 40000) (h : DK w base B M Bd vc D) : Calls Tryz.prog 94 #[.pointer (some ⟨B, 0, none⟩), .int .u64 g, .slice A l.length c] w (SvQ w B M Bd vc D1 e) := by
  have HD := Aside0.mk (At.refl h)
  have HS := Aside0.mk (slot_calls w g l A c hg hn hl hC)
  have HC := Aside0.mk hc
  have HF := Aside0.mk hf
  have hb : (e != 0) = true := by simpa using he
  clear h hl hg hn hC hc hf
  go_enter Tryz.func94, Tryz.ntmps94
  go_wp2_with (first
    | (go_at_call 128; (with_reducible refine HS.out.mono ?_); rintro e w2 ⟨A2, c2, rfl, hr, hb⟩; have HR2 := Aside0.mk hr; have HD2 := Aside0.mk (HD.out.grow (.of_below hb)); clear hr hb)
    | (go_at_call 129; (with_reducible refine (at_flush _ HF.out HC.out HD2.out).mono ?_); rintro e w3 ⟨rfl, vc3, hd⟩; have HD3 := Aside0.mk hd; clear hd))
  go_ret
  exact ⟨rfl, vc3, HD3.out⟩
theorem R_past {α : Type} {d : Kd α} {e : Nat} {w0 w w' : World} {v : Value} {xs : List α} {S : Nat → Prop} (h : d.R e w w0.heap.size (fun k => w0.heap.size ≤ k) v xs) (hc : Chg w w' S) (hs : ∀ k, S k → k < w0.heap.size) : d.R e w' w0.heap.size (fun k => w0.heap.size ≤ k) v xs :=
  Kd.R_step h (fun k hk hl => hc.block k hl (fun hf => absurd (hs k hf) (Nat.not_lt.2 hk)))
theorem sec_pad {w w' : World} {B M Bd : Nat} {vc : Value} {D : PD} {b : List Int} (hb : b.length ≤ 64) (h : DK w 0 B M Bd vc D) (hc : Chg (w.alloc (.cells (secC (pad b)) 121)) w' (FP B M Bd vc)) : (Kd.int .u8).C w' (some ⟨w.heap.size, 0, none⟩) b.length b := by
  have hl : (pad b).length = 64 := pad_length b hb
  have h1 : w'.heap[w.heap.size]? = some (.cells (secC (pad b)) 121 (0, 0)) := (hc.block _ (by rw [alloc_size]; exact Nat.lt_succ_self _) (fun hf => Nat.lt_irrefl _ (h.fp _ hf).2)).trans (heap_alloc_new w _)
  have h2 := Kd.C_take (m := b.length) (sec_C w' w.heap.size (pad b) 121 (0, 0) (by omega) h1) (by omega)
  rwa [pad_take] at h2
set_option maxRecDepth 100000 in
theorem save_go (hf : flushP D = (D1, 0)) (hw : writeP D1 (g % 2) (slotB g l) = (D2, 0)) (hf3 : flushP D2 = (D3, e)) (hg : 0 ≤ g ∧ g < 18446744073709551616) (hn : ∀ n ∈ l, 0 ≤ n ∧ n < 18446744073709551616) (hl : l.length ≤ 4) (hC : (Kd.int .u64).C w A l.length l) (hc : D.cache.length ≤ 40000) (hc3 : D1.cache.length ≤ 40000 ∧ D2.cache.length ≤ 40000) (h : DK w base B M Bd vc D) : Calls Tryz.prog 94 #[.pointer (some ⟨B, 0, none⟩), .int .u64 g, .slice A l.length c] w (SvQ w B M Bd vc D3 e) := by
  have HD := Aside0.mk (At.refl h)
  have HFP := Aside0.mk (fun k hk => (h.fp k hk).2)
  have HC3 := Aside0.mk hc3
  have HW := Aside0.mk hw
  have HF3 := Aside0.mk hf3
  have hw64 := slotB_64 g l hl
  obtain ⟨want, hwant⟩ : ∃ want, slotB g l = want := ⟨_, rfl⟩
  have HS := Aside0.mk (slot_calls w g l A c hg hn hl hC)
  rw [hwant] at HS HW hw64
  have HW64 := Aside0.mk hw64
  have hw64i : (want.length : Int) ≤ 64 := by omega
  have HC := Aside0.mk hc
  have HF := Aside0.mk hf
  obtain ⟨hg0, hg1⟩ := hg
  clear h hl hn hC hc hf hc3 hw hf3 hwant hw64
  go_enter Tryz.func94, Tryz.ntmps94
  go_wp2_with (first
    | (go_at_call 128; (with_reducible refine HS.out.mono ?_); rintro e w2 ⟨A2, c2, rfl, hr, hb⟩; have HR2 := Aside0.mk hr; have HD2 := Aside0.mk (HD.out.grow (.of_below hb)); clear hr hb)
    | (go_at_call 129; (with_reducible refine (at_flush _ HF.out HC.out (At.refl HD2.out.dk)).mono ?_); rintro e w3 ⟨rfl, vc3, hd⟩; have HD3 := Aside0.mk (HD2.out.then_ hd); have HR3 := Aside0.mk (R_past HR2.out hd.chg HFP.out); clear hd)
    | ((with_reducible refine gate_builtin (b := .copy) (xs := #[.tmp 28, .tmp 29]) rfl ?_); go_loud (refine Kd.event_run rfl (ex_copy rfl rfl rfl (run_copy_sec w3 want HW64.out A2 c2 3 (Kd.C_below (Kd.R_reads' HR3.out).2.2 (Below.alloc (Below.refl _ _) (Nat.le_refl _) _)))) ?_); simp only [Act.put, List.setIfInBounds_toArray, List.set_cons_succ, List.set_cons_zero]; have HD4 := Aside0.mk (HD3.out.grow (.of_below (Below.alloc (Below.refl _ _) (Nat.le_refl _) (.cells (secC (pad want)) 121)))); have HK4 := Aside0.mk (At.refl HD4.out.dk); have HB4 := Aside0.mk (fun (w' : World) (hc : Chg (w3.alloc (.cells (secC (pad want)) 121)) w' (FP B M Bd vc3)) => sec_pad HW64.out HD3.out.dk hc))
    | (go_at_call 93; go_loud (refine (at_write (g % 2) 0 (some ⟨w3.heap.size, 0, none⟩) 64 want HW.out HC3.out.1 HB4.out HK4.out).mono ?_); rintro e w5 ⟨rfl, vc5, hd⟩; have HD5 := Aside0.mk (HD4.out.then_ hd); clear hd)
    | (go_at_call 129; (with_reducible refine (at_flush _ HF3.out HC3.out.2 HD5.out).mono ?_); rintro e w6 ⟨rfl, vc6, hd⟩; have HD6 := Aside0.mk hd; clear hd))
  go_ret
  exact ⟨rfl, vc6, HD6.out⟩
set_option maxRecDepth 100000 in
theorem save_w (he : e ≠ 0) (hf : flushP D = (D1, 0)) (hw : writeP D1 (g % 2) (slotB g l) = (D2, e)) (hg : 0 ≤ g ∧ g < 18446744073709551616) (hn : ∀ n ∈ l, 0 ≤ n ∧ n < 18446744073709551616) (hl : l.length ≤ 4) (hC : (Kd.int .u64).C w A l.length l) (hc : D.cache.length ≤ 40000) (hc3 : D1.cache.length ≤ 40000 ∧ D2.cache.length ≤ 40000) (h : DK w base B M Bd vc D) : Calls Tryz.prog 94 #[.pointer (some ⟨B, 0, none⟩), .int .u64 g, .slice A l.length c] w (SvQ w B M Bd vc D2 e) := by
  have HD := Aside0.mk (At.refl h)
  have HFP := Aside0.mk (fun k hk => (h.fp k hk).2)
  have HC3 := Aside0.mk hc3
  have HW := Aside0.mk hw
  have hbe : (e != 0) = true := by simpa using he
  have hw64 := slotB_64 g l hl
  obtain ⟨want, hwant⟩ : ∃ want, slotB g l = want := ⟨_, rfl⟩
  have HS := Aside0.mk (slot_calls w g l A c hg hn hl hC)
  rw [hwant] at HS HW hw64
  have HW64 := Aside0.mk hw64
  have hw64i : (want.length : Int) ≤ 64 := by omega
  have HC := Aside0.mk hc
  have HF := Aside0.mk hf
  obtain ⟨hg0, hg1⟩ := hg
  clear h hl hn hC hc hf hc3 hw hwant hw64
  go_enter Tryz.func94, Tryz.ntmps94
  go_wp2_with (first
    | (go_at_call 128; (with_reducible refine HS.out.mono ?_); rintro e w2 ⟨A2, c2, rfl, hr, hb⟩; have HR2 := Aside0.mk hr; have HD2 := Aside0.mk (HD.out.grow (.of_below hb)); clear hr hb)
    | (go_at_call 129; (with_reducible refine (at_flush _ HF.out HC.out (At.refl HD2.out.dk)).mono ?_); rintro e w3 ⟨rfl, vc3, hd⟩; have HD3 := Aside0.mk (HD2.out.then_ hd); have HR3 := Aside0.mk (R_past HR2.out hd.chg HFP.out); clear hd)
    | ((with_reducible refine gate_builtin (b := .copy) (xs := #[.tmp 28, .tmp 29]) rfl ?_); go_loud (refine Kd.event_run rfl (ex_copy rfl rfl rfl (run_copy_sec w3 want HW64.out A2 c2 3 (Kd.C_below (Kd.R_reads' HR3.out).2.2 (Below.alloc (Below.refl _ _) (Nat.le_refl _) _)))) ?_); simp only [Act.put, List.setIfInBounds_toArray, List.set_cons_succ, List.set_cons_zero]; have HD4 := Aside0.mk (HD3.out.grow (.of_below (Below.alloc (Below.refl _ _) (Nat.le_refl _) (.cells (secC (pad want)) 121)))); have HK4 := Aside0.mk (At.refl HD4.out.dk); have HB4 := Aside0.mk (fun (w' : World) (hc : Chg (w3.alloc (.cells (secC (pad want)) 121)) w' (FP B M Bd vc3)) => sec_pad HW64.out HD3.out.dk hc))
    | (go_at_call 93; go_loud (refine (at_write (g % 2) e (some ⟨w3.heap.size, 0, none⟩) 64 want HW.out HC3.out.1 HB4.out HK4.out).mono ?_); rintro e' w5 ⟨rfl, vc5, hd⟩; have HD5 := Aside0.mk (HD4.out.then_ hd); clear hd))
  go_ret
  exact ⟨rfl, vc5, HD5.out⟩
theorem save_calls (hsv : saveP D g l = (D1, e)) (hg : 0 ≤ g ∧ g < 18446744073709551616) (hn : ∀ n ∈ l, 0 ≤ n ∧ n < 18446744073709551616) (hC : (Kd.int .u64).C w A l.length l) (hc : D.cache.length ≤ 30000) (h : DK w base B M Bd vc D) :
    Calls Tryz.prog 94 #[.pointer (some ⟨B, 0, none⟩), .int .u64 g, .slice A l.length c] w (SvQ w B M Bd vc D1 e) := by
  unfold saveP at hsv
  split at hsv
  · cases hsv
    exact save_long (by assumption) h
  · rename_i hl
    have q1 := flushP_cache D
    have q2 := writeP_cache (flushP D).1 (g % 2) (slotB g l)
    obtain ⟨Da, ea, hf⟩ : ∃ Da ea, flushP D = (Da, ea) := ⟨_, _, rfl⟩
    rw [hf] at hsv q1 q2
    simp only at hsv q1 q2
    obtain ⟨Db, eb, hw⟩ : ∃ Db eb, writeP Da (g % 2) (slotB g l) = (Db, eb) := ⟨_, _, rfl⟩
    rw [hw] at hsv q2
    simp only at hsv q2
    split at hsv
    · cases hsv
      exact save_f1 (by assumption) hf hg hn (by omega) hC (by omega) h
    · rename_i he
      obtain rfl : ea = 0 := by simpa using he
      split at hsv
      · cases hsv
        exact save_w (by assumption) hf hw hg hn (by omega) hC (by omega) ⟨by omega, by omega⟩ h
      · rename_i he
        obtain rfl : eb = 0 := by simpa using he
        exact save_go hf hw hsv hg hn (by omega) hC (by omega) ⟨by omega, by omega⟩ h
end
end Go.Proofs.YtlepcmljmibdnaaGreat
namespace Go.Proofs.YtlepcmljmibdnaaGreat
open Go.RowKit Go.Proofs.YtlepcmljmibdnaaGreatW.PrintWords Go.Proofs.YtlepcmljmibdnaaGreatW.PrintLast Go.Proofs.YtlepcmljmibdnaaGreatW.PrintMore PDiskArms
set_option linter.unusedVariables false
set_option linter.unusedSimpArgs false
theorem info29e : (Tryz.prog.info? 58).map (fun i => (i.zero, i.size, i.bytes)) = some (some (.slice none 0 0), bytesK.sz, 24) := by kernel_rfl
def rnewN (n : Int) : Nat := (min (max n 0) 4096).toNat
def rnewX (m : Nat) : RX := { S := List.replicate m zsec, cache := [], bad := List.replicate m false, left := -1, dead := false }
def RNewP (w : World) (N : Nat) (e : Ending) (w' : World) : Prop := ∃ B vS vB, e = .returned (.pointer (some ⟨B, 0, none⟩)) ∧ RM w' w.heap.size B vS (.slice none 0 0) vB (rnewX N) ∧ Below w.heap.size w w'
end Go.Proofs.YtlepcmljmibdnaaGreat
namespace Go.Proofs.YtlepcmljmibdnaaGreat
open Go.RowKit Go.Proofs.YtlepcmljmibdnaaGreatW.PrintWords Go.Proofs.YtlepcmljmibdnaaGreatW.PrintLast Go.Proofs.YtlepcmljmibdnaaGreatW.PrintMore PDiskArms
set_option linter.unusedVariables false
set_option linter.unusedSimpArgs false
section
variable {w : World} {base B : Nat} {vS vC vB : Value} {X : RX}
end
def rputs (S : List (List Int)) (l : List (Int × List Int)) : List (List Int) := l.foldl (fun S p => S.set p.1.toNat p.2) S
def rflushX (X : RX) : RX × Int := if (ractX X).2 ≠ 0 then ractX X else ({ (ractX X).1 with S := rputs X.S X.cache, cache := [] }, 0)
end Go.Proofs.YtlepcmljmibdnaaGreat
namespace Go.Proofs.YtlepcmljmibdnaaGreat
open Go.RowKit Go.Proofs.YtlepcmljmibdnaaGreatW.PrintWords Go.Proofs.YtlepcmljmibdnaaGreatW.PrintLast Go.Proofs.YtlepcmljmibdnaaGreatW.PrintMore PDiskArms
set_option linter.unusedVariables false
set_option linter.unusedSimpArgs false
def rsel (S : List (List Int)) (l : List (Int × List Int)) (ks : List Bool) : Nat → List (List Int)
  | 0 => S
  | i + 1 => if ks.getD i false then (rsel S l ks i).set (l.getD i (0, [])).1.toNat (l.getD i (0, [])).2 else rsel S l ks i
def rcrashX (X : RX) (ks : List Bool) : RX := { S := rsel X.S X.cache ks X.cache.length, cache := [], bad := X.bad, left := -1, dead := false }
end Go.Proofs.YtlepcmljmibdnaaGreat
namespace Go.Proofs.YtlepcmljmibdnaaGreat
open Go.RowKit Go.Proofs.YtlepcmljmibdnaaGreatW.PrintWords Go.Proofs.YtlepcmljmibdnaaGreatW.PrintLast Go.Proofs.YtlepcmljmibdnaaGreatW.PrintMore PDiskArms
set_option linter.unusedVariables false
set_option linter.unusedSimpArgs false
section
variable {w : World} {base B : Nat} {vS vC vB : Value} {X : RX}
end
def rfaultX (X : RX) (at_ : Int) (on : Bool) : RX := if inB at_ X.S.length = false then X else { X with bad := X.bad.set at_.toNat on }
def rreadX (X : RX) (at_ : Int) : List Int × Int :=
  if X.dead then ([], 50) else if inB at_ X.S.length = false then ([], 1) else if X.bad.getD at_.toNat false then ([], 52) else (readL (X.S.getD at_.toNat []) X.cache at_, 0)
end Go.Proofs.YtlepcmljmibdnaaGreat
namespace Go.Kd2
open Go.RowKit Go.Proofs.YtlepcmljmibdnaaGreatW.PrintWords
end Go.Kd2
namespace Go.Proofs.YtlepcmljmibdnaaGreat
open Go.RowKit Go.Proofs.YtlepcmljmibdnaaGreatW.PrintWords Go.Proofs.YtlepcmljmibdnaaGreatW.PrintLast Go.Proofs.YtlepcmljmibdnaaGreatW.PrintMore PDiskArms
set_option linter.unusedVariables false
set_option linter.unusedSimpArgs false
def rwriteX (X : RX) (at_ : Int) (b : List Int) : RX × Int :=
  if X.dead then (X, 50) else if inB at_ X.S.length = false then (X, 1) else if 64 < b.length then (X, 2) else
    if (ractX X).2 ≠ 0 then ractX X else ({ (ractX X).1 with cache := (ractX X).1.cache ++ [(at_, pad b)] }, 0)
end Go.Proofs.YtlepcmljmibdnaaGreat
namespace Go.Proofs.YtlepcmljmibdnaaGreat
open Go.RowKit Go.Proofs.YtlepcmljmibdnaaGreatW.PrintWords Go.Proofs.YtlepcmljmibdnaaGreatW.PrintLast Go.Proofs.YtlepcmljmibdnaaGreatW.PrintMore PDiskArms
set_option linter.unusedVariables false
set_option linter.unusedSimpArgs false
end Go.Proofs.YtlepcmljmibdnaaGreat
namespace Go.Proofs.YtlepcmljmibdnaaGreat
open Go.RowKit Go.Proofs.YtlepcmljmibdnaaGreatW.PrintWords Go.Proofs.YtlepcmljmibdnaaGreatW.PrintLast Go.Proofs.YtlepcmljmibdnaaGreatW.PrintMore PDiskArms
set_option linter.unusedVariables false
set_option linter.unusedSimpArgs false
structure Corr (D : PD) (X : RX) : Prop where
  n : D.n = X.S.length
  cache : D.cache = X.cache
  dead : D.dead = X.dead
  armed : D.armed = decide (0 ≤ X.left)
  left : 0 ≤ X.left → D.left = X.left
  S : ∀ (i : Nat) s, X.S[i]? = some s → (D.kept i).getD zsec = s
  bad : ∀ (i : Nat) b, X.bad[i]? = some b → D.bad i = b
end Go.Proofs.YtlepcmljmibdnaaGreat
namespace Go.Proofs.YtlepcmljmibdnaaGreat
open Go.RowKit Go.Proofs.YtlepcmljmibdnaaGreatW.PrintWords Go.Proofs.YtlepcmljmibdnaaGreatW.PrintLast Go.Proofs.YtlepcmljmibdnaaGreatW.PrintMore PDiskArms
set_option linter.unusedVariables false
set_option linter.unusedSimpArgs false
def isDR (M Bd : Nat) (k : Nat) (o : Obj) : Prop := isDisk M Bd k o ∨ isRef k o
structure Both (w0 w : World) (B M Bd : Nat) (vc : Value) (D : PD) (R : Nat) (vS vC vB : Value) (X : RX) : Prop where
  dk : DK w w0.heap.size B M Bd vc D
  rk : RK w w0.heap.size R vS vC vB X
  low : Below w0.heap.size w0 w
section
variable {w0 w w' : World} {B M Bd R : Nat} {vc vS vC vB : Value} {D D' : PD} {X X' : RX}
end
end Go.Proofs.YtlepcmljmibdnaaGreat
namespace Go.Proofs.YtlepcmljmibdnaaGreat
open Go.RowKit Go.Proofs.YtlepcmljmibdnaaGreatW.PrintWords Go.Proofs.YtlepcmljmibdnaaGreatW.PrintLast Go.Proofs.YtlepcmljmibdnaaGreatW.PrintMore PWalOpens
set_option linter.unusedVariables false
set_option linter.unusedSimpArgs false
def rsaveX (X : RX) (g : Int) (l : List Int) : RX × Int :=
  if 4 < l.length then (X, 2) else if (rflushX X).2 ≠ 0 then rflushX X else
    if (rwriteX (rflushX X).1 (g % 2) (slotB g l)).2 ≠ 0 then rwriteX (rflushX X).1 (g % 2) (slotB g l) else rflushX (rwriteX (rflushX X).1 (g % 2) (slotB g l)).1
def RvQ (w : World) (base R : Nat) (vS vB : Value) (X' : RX) (e : Int) (r : Ending) (w' : World) : Prop := r = .returned (.int .i64 e) ∧ TC base isRef w w' ∧ ∃ vC', RK w' base R vS vC' vB X'
section
variable {w : World} {base R : Nat} {vS vC vB : Value} {X X1 X2 X3 : RX} {g : Int} {l : List Int} {A : Option Addr} {c : Nat} {e : Int}
end
end Go.Proofs.YtlepcmljmibdnaaGreat
