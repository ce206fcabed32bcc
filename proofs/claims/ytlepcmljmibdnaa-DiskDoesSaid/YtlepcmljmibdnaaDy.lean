/- Two disks, one the other's clone; DiskOwn walked. Conditions: those of each statement. -/
import Derived.Test.YtlepcmljmibdnaaDx
import Derived.Test.YtlepcmljmibdnaaDa
namespace Go.Proofs.Ytlepcmljmibdnaa
open Go.RowKit Go.Proofs.YtlepcmljmibdnaaW.PrintWords Go.Proofs.YtlepcmljmibdnaaW.PrintLast Go.Proofs.YtlepcmljmibdnaaW.PrintMore PDiskArms
set_option linter.unusedVariables false
set_option linter.unusedSimpArgs false
theorem DK.low {w : World} {base B M Bd : Nat} {vc : Value} {D : PD} (h : DK w base B M Bd vc D) (b : Nat) (hb : b ≤ base) : DK w b B M Bd vc D :=
  ⟨h.blk, h.kept, h.bad, Kd.R_lower h.cache hb, Nat.le_trans hb h.hB, Nat.le_trans hb h.hM, Nat.le_trans hb h.hBd, h.hne, h.sec, h.hn, h.hl⟩
theorem DK.away0 {w w' : World} {base B M Bd : Nat} {D : PD} {S : Nat → Prop} (h : DK w base B M Bd (.slice none 0 0) D) (he : D.cache = []) (hc : Chg w w' S) (hd : ∀ k, (k = B ∨ k = M ∨ k = Bd) → ¬ S k) : DK w' base B M Bd (.slice none 0 0) D :=
  ⟨(hc.block B (Array.getElem?_eq_some_iff.1 h.blk).1 (hd B (.inl rfl))).trans h.blk, h.kept.same (hc.block M h.kept.lt (hd M (.inr (.inl rfl)))), h.bad.same (hc.block Bd h.bad.lt (hd Bd (.inr (.inr rfl)))), by rw [he]; exact Kd.R_nil _ _ _ _ _, h.hB, h.hM, h.hBd, h.hne, h.sec, h.hn, h.hl⟩
/-- a disk, seen from an elder world: nothing of it but F has changed -/
structure At (w0 : World) (F : Nat → Prop) (w : World) (B M Bd : Nat) (vc : Value) (D : PD) : Prop where
  dk : DK w 0 B M Bd vc D
  chg : Chg w0 w F
  fp : ∀ k, k < w0.heap.size → FP B M Bd vc k → F k
theorem At.refl {w : World} {base B M Bd : Nat} {vc : Value} {D : PD} (h : DK w base B M Bd vc D) : At w (FP B M Bd vc) w B M Bd vc D := ⟨h.low 0 (Nat.zero_le _), Chg.refl _ _, fun _ _ h => h⟩
section
variable {w0 w w' : World} {F : Nat → Prop} {B M Bd : Nat} {vc vc' : Value} {D D' : PD}
theorem At.reach (h : At w0 F w B M Bd vc D) (hc : Chg w w' (FP B M Bd vc)) : Chg w0 w' F :=
  ⟨hc.os.trans h.chg.os, hc.tape.trans h.chg.tape, hc.output.trans h.chg.output, Nat.le_trans h.chg.size hc.size, fun k hk hn => (hc.block k (Nat.lt_of_lt_of_le hk h.chg.size) (fun e => hn (h.fp k hk e))).trans (h.chg.block k hk hn)⟩
theorem At.next (h : At w0 F w B M Bd vc D) (hd : DK w' 0 B M Bd vc' D') (hc : Chg w w' (FP B M Bd vc)) (hf : ∀ k, k < w.heap.size → FP B M Bd vc' k → FP B M Bd vc k) : At w0 F w' B M Bd vc' D' :=
  ⟨hd, h.reach hc, fun k hk e => h.fp k hk (hf k (Nat.lt_of_lt_of_le hk h.chg.size) e)⟩
theorem At.then_ {w1 : World} (h : At w0 F w B M Bd vc D) (k : At w (FP B M Bd vc) w1 B M Bd vc' D') : At w0 F w1 B M Bd vc' D' := h.next k.dk k.chg k.fp
theorem At.grow (h : At w0 F w B M Bd vc D) (hc : Chg w w' (fun _ => False)) : At w0 F w' B M Bd vc D := h.next (h.dk.chg hc) (hc.mono fun _ h => h.elim) (fun _ _ h => h)
theorem fp_old {k : Nat} (ho : vc'.ownBlock = vc.ownBlock ∨ ∃ j, vc'.ownBlock = some j ∧ w.heap.size ≤ j) (hk : k < w.heap.size) (h : FP B M Bd vc' k) : FP B M Bd vc k := by
  rcases h with h | h | h | h
  · exact .inl h
  · exact .inr (.inl h)
  · exact .inr (.inr (.inl h))
  · rcases ho with ho | ⟨j, hj, hjl⟩
    · exact .inr (.inr (.inr (h.trans ho)))
    · rw [hj] at h
      have := Option.some.inj h
      omega
theorem fp_nil {k : Nat} (h : FP B M Bd (.slice none 0 0) k) : FP B M Bd vc k := by
  rcases h with h | h | h | h
  · exact .inl h
  · exact .inr (.inl h)
  · exact .inr (.inr (.inl h))
  · simp [Value.ownBlock] at h
theorem at_write (at_ e : Int) (A : Option Addr) (c : Nat) (b : List Int) (hw : writeP D at_ b = (D', e)) (hl : D.cache.length ≤ 1000) (hb : ∀ w', Chg w0 w' F → (Kd.int .u8).C w' A b.length b) (h : At w0 F w B M Bd vc D) :
    Calls Try.prog 17 #[.pointer (some ⟨B, 0, none⟩), .int .i64 at_, .slice A b.length c] w fun r w' => r = .returned (.int .i64 e) ∧ ∃ vc', At w0 F w' B M Bd vc' D' := by
  refine (write_calls w 0 B M Bd vc D at_ A c b hl (Nat.zero_le _) h.dk (fun w' hc => hb w' (h.reach hc))).mono ?_
  rw [hw]
  rintro r w' ⟨rfl, vc', hd, ho, hc⟩
  exact ⟨rfl, vc', h.next hd hc fun k hk => fp_old ho hk⟩
theorem at_flush (e : Int) (hw : flushP D = (D', e)) (hl : D.cache.length ≤ 1000) (h : At w0 F w B M Bd vc D) :
    Calls Try.prog 18 #[.pointer (some ⟨B, 0, none⟩)] w fun r w' => r = .returned (.int .i64 e) ∧ ∃ vc', At w0 F w' B M Bd vc' D' := by
  refine (flush_calls w 0 B M Bd vc D hl (Nat.zero_le _) h.dk).mono ?_
  rw [hw]
  rintro r w' ⟨rfl, vc', hd, ho, hc⟩
  refine ⟨rfl, vc', h.next hd (hc.mono fun k hk => hk.elim .inl (fun h => .inr (.inl h))) fun k hk hf => ?_⟩
  rcases ho with rfl | rfl
  · exact hf
  · exact fp_nil hf
theorem at_crash (A : Option Addr) (c : Nat) (ks : List Bool) (hw : crashP D ks = D') (hl : D.cache.length ≤ 1000) (hb : ∀ w', Chg w0 w' F → Kd.bool.C w' A ks.length ks) (h : At w0 F w B M Bd vc D) :
    Calls Try.prog 20 #[.pointer (some ⟨B, 0, none⟩), .slice A ks.length c] w fun r w' => r = .returned (.tuple #[]) ∧ At w0 F w' B M Bd (.slice none 0 0) D' := by
  have hm : ∀ w', Chg w w' (fun k => k = B ∨ k = M) → Chg w w' (FP B M Bd vc) := fun w' hc => hc.mono fun k hk => hk.elim .inl (fun h => .inr (.inl h))
  refine (crash_calls w 0 B M Bd vc D A c ks hl (Nat.zero_le _) h.dk (fun w' hc => hb w' (h.reach (hm w' hc)))).mono ?_
  rw [hw]
  rintro r w' ⟨rfl, hd, hc⟩
  exact ⟨rfl, h.next hd (hm w' hc) fun k hk => fp_nil⟩
theorem at_read (at_ r : Int) (s : List Int) (hr : readP D at_ = (s, r)) (hl : D.cache.length ≤ 1000) (h : At w0 F w B M Bd vc D) :
    Calls Try.prog 23 #[.pointer (some ⟨B, 0, none⟩), .int .i64 at_] w fun e w' => ∃ A c, e = .returned (.tuple #[.slice A s.length c, .int .i64 r]) ∧ Kd.R (Kd.int .u8) 5 w' w.heap.size (fun k => w.heap.size ≤ k) (.slice A s.length c) s ∧ At w0 F w' B M Bd vc D ∧ Below w.heap.size w w' := by
  refine (read_calls w 0 B M Bd vc D at_ hl h.dk).mono ?_
  rw [hr]
  rintro e w' ⟨v, rfl, hR, hb⟩
  obtain ⟨A, c, rfl⟩ := Kd.R_slice hR
  exact ⟨A, c, rfl, Kd.R_mono (Kd.R_bound hR) (fun k hk => hk.2.1), h.grow (.of_below hb), hb⟩
theorem at_dead (d : Bool) (hd : D.dead = d) (h : At w0 F w B M Bd vc D) : Calls Try.prog 19 #[.pointer (some ⟨B, 0, none⟩)] w fun e w' => e = .returned (.bool d) ∧ w = w' := dead_at w 0 B M Bd vc D d hd h.dk
theorem at_clone (h : At w0 F w B M Bd vc D) :
    Calls Try.prog 21 #[.pointer (some ⟨B, 0, none⟩)] w fun e w' => ∃ B' M' Bd', e = .returned (.pointer (some ⟨B', 0, none⟩)) ∧ At w0 F w' B M Bd vc D ∧ DK w' w.heap.size B' M' Bd' (.slice none 0 0) (cloneP D) ∧ Below w.heap.size w w' := by
  refine (dclone_calls w 0 w.heap.size B M Bd vc D (Nat.le_refl _) h.dk).mono ?_
  rintro e w' ⟨B', M', Bd', rfl, hd, hb, h1, h2, h3⟩
  exact ⟨B', M', Bd', rfl, h.grow (.of_below hb), hd, hb⟩
/-- what was made behind a world, where a disk of that world is turned -/
theorem keeps_new {w1 w2 : World} {B' M' Bd' : Nat} {D' : PD} (h : DK w 0 B M Bd vc D) (hd : DK w1 w.heap.size B' M' Bd' (.slice none 0 0) D') (he : D'.cache = []) (hc : Chg w1 w2 (FP B M Bd vc)) : DK w2 w.heap.size B' M' Bd' (.slice none 0 0) D' := by
  refine hd.away0 he hc fun k hk hf => ?_
  have h1 := (hd.fp k (hk.elim .inl fun h => .inr (h.elim .inl fun h => .inr (.inl h)))).1
  have h2 := (h.fp k hf).2
  omega
theorem keeps_row {w1 w2 : World} {b : Nat} {v : Value} {s : List Int} (h : DK w 0 B M Bd vc D) (hb : w.heap.size ≤ b) (hr : Kd.R (Kd.int .u8) 5 w1 b (fun k => b ≤ k) v s) (hc : Chg w1 w2 (FP B M Bd vc)) : Kd.R (Kd.int .u8) 5 w2 b (fun k => b ≤ k) v s :=
  Kd.R_step hr fun k hk hl => hc.block k hl fun hf => by
    have h2 := (h.fp k hf).2
    omega
end
def other : List Int := [111, 116, 104, 101, 114]
theorem at_other {w0 w : World} {F : Nat → Prop} {B M Bd : Nat} {vc : Value} {D D' : PD} (at_ e : Int) (hw : writeP D at_ other = (D', e)) (hl : D.cache.length ≤ 1000) (h : At w0 F w B M Bd vc D) :
    Calls Try.prog 17 #[.pointer (some ⟨B, 0, none⟩), .int .i64 at_, .slice (some ⟨w.heap.size, 0, none⟩) 5 5] (w.alloc (.cells #[.int .u8 111, .int .u8 116, .int .u8 104, .int .u8 101, .int .u8 114] 5 (5, 6))) fun r w' => r = .returned (.int .i64 e) ∧ ∃ vc', At w0 F w' B M Bd vc' D' := by
  have hS : ¬ FP B M Bd vc w.heap.size := fun hk => absurd (h.dk.fp _ hk).2 (Nat.lt_irrefl _)
  have h1 := (At.refl h.dk).grow ((Chg.refl w _).alloc (.cells #[.int .u8 111, .int .u8 116, .int .u8 104, .int .u8 101, .int .u8 114] 5 (5, 6)))
  have h2 : At (w.alloc (.cells (encs (Value.int .u8) other).toArray 5 (5, 6))) (FP B M Bd vc) (w.alloc (.cells (encs (Value.int .u8) other).toArray 5 (5, 6))) B M Bd vc D := At.refl h1.dk
  refine (at_write at_ e (some ⟨w.heap.size, 0, none⟩) 5 other hw hl (fun w' hc => lit_C w other (5, 6) _ (by decide) hS w' hc) h2).mono ?_
  rintro r w' ⟨rfl, vc', hd⟩
  exact ⟨rfl, vc', h.then_ (h1.then_ hd)⟩
theorem At.below {w0 w : World} {B M Bd : Nat} {vc : Value} {D : PD} (h : At w0 (fun _ => False) w B M Bd vc D) : Below w0.heap.size w0 w := h.chg.below (Nat.le_refl _) (fun _ h => h.elim)
theorem new_at (w0 w : World) (n : Int) (hb : Below w0.heap.size w0 w) :
    Calls Try.prog 15 #[.int .i64 n] w fun e w' => ∃ B M Bd, e = .returned (.pointer (some ⟨B, 0, none⟩)) ∧ At w0 (fun _ => False) w' B M Bd (.slice none 0 0) (newP n) := by
  refine (new_calls w w0.heap.size hb.size n).mono ?_
  rintro e w' ⟨B, M, Bd, rfl, hd, hb'⟩
  exact ⟨B, M, Bd, rfl, hd.low 0 (Nat.zero_le _), .of_below (hb.trans hb'), fun k hk hf => by have := (hd.fp k hf).1; omega⟩
theorem writeP_cache (D : PD) (at_ : Int) (b : List Int) : (writeP D at_ b).1.cache.length ≤ D.cache.length + 1 := by
  unfold writeP
  split
  · exact Nat.le_succ _
  · split
    · exact Nat.le_succ _
    · split
      · exact Nat.le_succ _
      · split
        · rw [actP_cache]; omega
        · rw [actP_cache]; simp
theorem flushP_cache (D : PD) : (flushP D).1.cache.length ≤ D.cache.length := by
  unfold flushP
  split
  · rw [actP_cache]; omega
  · simp
theorem write_none (w : World) (at_ : Int) (v : Value) : Calls Try.prog 17 #[.pointer none, .int .i64 at_, v] w fun e w' => e = .returned (.int .i64 1) ∧ w = w' := by
  go_enter Try.func17, Try.ntmps17
  go_wp2_with (first | (go_at_call 19; refine (dead_none _).mono ?_; rintro e w' ⟨rfl, rfl⟩) | (go_at_call 64; refine (has_none _ at_).mono ?_; rintro e w' ⟨rfl, rfl⟩))
  go_ret
  exact ⟨rfl, rfl⟩
theorem read_none (w : World) (at_ : Int) : Calls Try.prog 23 #[.pointer none, .int .i64 at_] w fun e w' => e = .returned (.tuple #[.slice none 0 0, .int .i64 1]) ∧ w = w' := by
  go_enter Try.func23, Try.ntmps23
  go_wp2_with (first | (go_at_call 19; refine (dead_none _).mono ?_; rintro e w' ⟨rfl, rfl⟩) | (go_at_call 64; refine (has_none _ at_).mono ?_; rintro e w' ⟨rfl, rfl⟩))
  go_ret2
  exact ⟨rfl, rfl⟩
theorem str_at {w : World} {b c : Nat} {A : Option Addr} {s : List Int} (o : Obj) (h : Kd.R (Kd.int .u8) 5 w b (fun k => b ≤ k) (.slice A s.length c) s) : (convert 29 9 (.slice A s.length c)).run Try.prog (w.alloc o) = .ok (.string (strOfNums s)) (w.alloc o) :=
  Kd.C_string Try.underlying29 Try.underlying5 Try.underlying9 (Kd.C_below (Kd.R_reads' h).2.2 (Below.alloc (Below.refl _ _) (Nat.le_refl _) o))
set_option maxRecDepth 100000 in
set_option maxHeartbeats 2000000 in
theorem own_walk (n : Int) (A1 : Option Addr) (c1 : Nat) (b : List Int) (at_ : Int) (w : World) (hC : (Kd.int .u8).C w A1 b.length b) :
    Calls Try.prog 6 #[.int .i64 n, .slice A1 b.length c1, .int .i64 at_] w fun e w' => e = .returned (.bool true) ∧ Below w.heap.size w w' := by
  have HC := Aside0.mk hC
  clear hC
  have hcv := fun (w : World) (C : Array Value) (n c : Nat) => Lib.run_convert_bytes_const (P := Try.prog) w 29 5 C n c Try.underlying29 Try.underlying5
  by_cases hn50 : 50 < n
  · go_enter Try.func6, Try.ntmps6
    go_wp2_with (first | (go_at_call 13; refine (awake_calls _).mono ?_; rintro e w1 ⟨rfl, hb⟩; have HB1 := Aside0.mk hb; clear hb))
    go_ret
    exact ⟨rfl, HB1.out⟩
  by_cases hb64 : 64 < b.length
  · have hb64' : (64 : Int) < (b.length : Int) := by omega
    clear hb64
    go_enter Try.func6, Try.ntmps6
    go_wp2_with (first | (go_at_call 13; refine (awake_calls _).mono ?_; rintro e w1 ⟨rfl, hb⟩; have HB1 := Aside0.mk hb; clear hb))
    go_ret
    exact ⟨rfl, HB1.out⟩
  have hb64' : ¬ (64 : Int) < (b.length : Int) := by omega
  clear hb64
  obtain ⟨D3, e3, h3⟩ : ∃ D3 e3, writeP (newP n) at_ b = (D3, e3) := ⟨_, _, rfl⟩
  obtain ⟨D4, e4, h4⟩ : ∃ D4 e4, flushP D3 = (D4, e4) := ⟨_, _, rfl⟩
  have hl3 : D3.cache.length ≤ 1 := by have := writeP_cache (newP n) at_ b; rw [h3] at this; exact this
  have hl4 : D4.cache.length ≤ 1 := by have := flushP_cache D3; rw [h4] at this; exact Nat.le_trans this hl3
  have hl7 : (writeP D4 at_ other).1.cache.length ≤ 1000 := by have := writeP_cache D4 at_ other; omega
  obtain ⟨D7, e7, h7⟩ : ∃ D7 e7, writeP D4 at_ other = (D7, e7) := ⟨_, _, rfl⟩
  obtain ⟨D8, e8, h8⟩ : ∃ D8 e8, flushP D7 = (D8, e8) := ⟨_, _, rfl⟩
  rw [h7] at hl7
  have H7 := Aside0.mk h7
  have H8 := Aside0.mk h8
  clear h7 h8
  have HCC : Aside0 (∀ w', Chg w w' (fun _ => False) → (Kd.int .u8).C w' A1 b.length b) := Aside0.mk fun w' hc => Kd.C_below HC.out (hc.below (Nat.le_refl _) (fun _ h => h.elim))
  have HLC := Aside0.mk (show (cloneP D4).cache.length ≤ 1000 from Nat.zero_le _)
  obtain ⟨s6, r6, h6⟩ : ∃ s r, readP (cloneP D4) at_ = (s, r) := ⟨_, _, rfl⟩
  have H6 := Aside0.mk h6
  clear h6
  have H3 := Aside0.mk h3
  have H4 := Aside0.mk h4
  have HL2 := Aside0.mk (show (newP n).cache.length ≤ 1000 from Nat.zero_le _)
  have HL3 := Aside0.mk (show D3.cache.length ≤ 1000 by omega)
  have HL4 := Aside0.mk (show D4.cache.length ≤ 1000 by omega)
  have HL7 := Aside0.mk hl7
  clear h3 h4 hl3 hl4 hl7
  go_enter Try.func6, Try.ntmps6
  go_wp2_with (first
    | (go_at_call 13; refine (awake_calls _).mono ?_; rintro e w1 ⟨rfl, hb⟩; have HB1 := Aside0.mk hb; clear hb)
    | (go_at_call 15; refine (new_at w w1 n HB1.out).mono ?_; rintro e w2 ⟨B, M, Bd, rfl, hd⟩; have HD2 := Aside0.mk hd; clear hd)
    | (go_at_call 17; with_reducible refine (at_write (w := w2) at_ e3 A1 c1 b H3.out HL2.out HCC.out HD2.out).mono ?_; rintro e w3 ⟨rfl, vc3, hd⟩; have HD3 := Aside0.mk hd; clear hd)
    | (go_at_call 18; with_reducible refine (at_flush (w := w3) e4 H4.out HL3.out HD3.out).mono ?_; rintro e w4 ⟨rfl, vc4, hd⟩; have HD4 := Aside0.mk hd; clear hd)
    | (go_at_call 21; with_reducible refine (at_clone (w := w4) HD4.out).mono ?_; rintro e w5 ⟨B', M', Bd', rfl, hd, hk, hb⟩; have HD5 := Aside0.mk hd; have HK5 := Aside0.mk hk; have HB5 := Aside0.mk hb; clear hd hk hb)
    | (go_at_call 23; with_reducible refine (at_read (w := w5) at_ r6 s6 H6.out HLC.out (At.refl HK5.out)).mono ?_; rintro e w6 ⟨A6, c6, rfl, hr, hk, hb⟩; have HR6 := Aside0.mk hr; have HK6 := Aside0.mk (HK5.out.chg (.of_below hb)); have HD6 := Aside0.mk (HD5.out.grow (.of_below hb)); have HA6 := Aside0.mk (At.refl HD6.out.dk); clear hr hk hb)
    | (go_at_call 17; with_reducible refine (at_other (w := w6) at_ e7 H7.out HL4.out HA6.out).mono ?_; rintro e w7 ⟨rfl, vc7, hd⟩; have HD7 := Aside0.mk hd; clear hd)
    | (go_at_call 18; with_reducible refine (at_flush (w := w7) e8 H8.out HL7.out HD7.out).mono ?_; rintro e w8 ⟨rfl, vc8, hd⟩; have HD8 := Aside0.mk hd; have HK8 := Aside0.mk (keeps_new HD4.out.dk HK6.out rfl hd.chg); clear hd)
    | (go_at_call 23; with_reducible refine (at_read (w := w8) at_ r6 s6 H6.out HLC.out (At.refl HK8.out)).mono ?_; rintro e w9 ⟨A9, c9, rfl, hr, hk, hb⟩; have HD9 := Aside0.mk (HD6.out.then_ (HD8.out.grow (.of_below hb))); have HR9 := Aside0.mk hr; have hc9 := (HD8.out.grow (.of_below hb)).chg; have HR69 := Aside0.mk (keeps_row HD4.out.dk HB5.out.size HR6.out hc9); clear hr hk hb hc9)
    | (go_at_call 16; with_reducible refine (arm_none _ _).mono ?_; rintro e w' ⟨rfl, rfl⟩)
    | (go_at_call 20; with_reducible refine (crash_none _ _).mono ?_; rintro e w' ⟨rfl, rfl⟩)
    | (go_at_call 31; with_reducible refine (fault_none _ _ _).mono ?_; rintro e w' ⟨rfl, rfl⟩)
    | (go_at_call 33; with_reducible refine (wipe_none _).mono ?_; rintro e w' ⟨rfl, rfl⟩)
    | (go_at_call 23; with_reducible refine (read_none _ _).mono ?_; rintro e w' ⟨rfl, rfl⟩; have hs6 := fun o => str_at o HR69.out; have hs9 := fun o => str_at o HR9.out)
    | (go_at_call 17; with_reducible refine (write_none _ _ _).mono ?_; rintro e w' ⟨rfl, rfl⟩)
    | (go_at_call 18; with_reducible refine (flush_none _).mono ?_; rintro e w' ⟨rfl, rfl⟩)
    | (go_at_call 22; with_reducible refine (size_none _).mono ?_; rintro e w' ⟨rfl, rfl⟩)
    | (go_at_call 24; with_reducible refine (cached_none _).mono ?_; rintro e w' ⟨rfl, rfl⟩)
    | (go_at_call 19; with_reducible refine (dead_none _).mono ?_; rintro e w' ⟨rfl, rfl⟩)
    | (go_at_call 21; with_reducible refine (dclone_none _).mono ?_; rintro e w' ⟨rfl, rfl⟩))
  go_ret
  exact ⟨rfl, HD9.out.below.trans (Below.alloc (Below.refl _ _) HD9.out.chg.size _)⟩
end Go.Proofs.Ytlepcmljmibdnaa
