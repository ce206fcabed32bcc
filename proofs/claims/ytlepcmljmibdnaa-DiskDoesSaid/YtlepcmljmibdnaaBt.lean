/- A disk and the reference's disk, side by side. Conditions: those of each statement. -/
import Derived.Test.YtlepcmljmibdnaaCr
namespace Go.Proofs.Ytlepcmljmibdnaa
open Go.RowKit Go.Proofs.YtlepcmljmibdnaaW.PrintWords Go.Proofs.YtlepcmljmibdnaaW.PrintLast Go.Proofs.YtlepcmljmibdnaaW.PrintMore PDiskArms
set_option linter.unusedVariables false
set_option linter.unusedSimpArgs false
def isDR (o : Obj) : Prop := isDisk o ∨ isRef o
structure Both (w0 w : World) (B M Bd : Nat) (vc : Value) (D : PD) (R : Nat) (vS vC vB : Value) (X : RX) : Prop where
  dk : DK w w0.heap.size B M Bd vc D
  rk : RK w w0.heap.size R vS vC vB X
  low : Below w0.heap.size w0 w
section
variable {w0 w w' : World} {B M Bd R : Nat} {vc vS vC vB : Value} {D D' : PD} {X X' : RX}
theorem Both.fresh (h : Both w0 w B M Bd vc D R vS vC vB X) (hb : Below w.heap.size w w') : Both w0 w' B M Bd vc D R vS vC vB X :=
  ⟨h.dk.chg (.of_below hb), h.rk.fresh hb, h.low.trans (hb.mono h.low.size)⟩
theorem Both.disk {vc' : Value} {D' : PD} (h : Both w0 w B M Bd vc D R vS vC vB X) (hd : DK w' w0.heap.size B M Bd vc' D') (hc : Chg w w' (FP B M Bd vc)) : Both w0 w' B M Bd vc' D' R vS vC vB X ∧ TC w0.heap.size isDR w w' := by
  have ht := h.dk.tc hc
  exact ⟨⟨hd, h.rk.disk ht, h.low.trans ht.low⟩, ht.mono fun _ h => .inl h⟩
theorem Both.ref {vS' vC' vB' : Value} {X' : RX} (h : Both w0 w B M Bd vc D R vS vC vB X) (hr : RK w' w0.heap.size R vS' vC' vB' X') (ht : TC w0.heap.size isRef w w') : Both w0 w' B M Bd vc D R vS' vC' vB' X' ∧ TC w0.heap.size isDR w w' :=
  ⟨⟨h.dk.ref ht, hr, h.low.trans ht.low⟩, ht.mono fun _ h => .inr h⟩
theorem bo_write (at_ e : Int) (A : Option Addr) (c : Nat) (b : List Int) (hw : writeP D at_ b = (D', e)) (hl : D.cache.length ≤ 1000) (hb : (Kd.int .u8).C w0 A b.length b) (h : Both w0 w B M Bd vc D R vS vC vB X) :
    Calls Try.prog 17 #[.pointer (some ⟨B, 0, none⟩), .int .i64 at_, .slice A b.length c] w fun r w' => r = .returned (.int .i64 e) ∧ TC w0.heap.size isDR w w' ∧ ∃ vc', Both w0 w' B M Bd vc' D' R vS vC vB X := by
  refine (write_calls w w0.heap.size B M Bd vc D at_ A c b hl h.dk.base_le h.dk (fun w' hc => Kd.C_below hb (h.low.trans (h.dk.tc hc).low))).mono ?_
  rw [hw]
  rintro r w' ⟨rfl, vc', hd, _, hc⟩
  obtain ⟨k1, k2⟩ := h.disk hd hc
  exact ⟨rfl, k2, vc', k1⟩
theorem bo_rwrite (at_ e : Int) (A : Option Addr) (c : Nat) (b : List Int) (hw : rwriteX X at_ b = (X', e)) (hl : X.cache.length ≤ 1000) (hb : (Kd.int .u8).C w0 A b.length b) (h : Both w0 w B M Bd vc D R vS vC vB X) :
    Calls Try.prog 26 #[.pointer (some ⟨R, 0, none⟩), .int .i64 at_, .slice A b.length c] w fun r w' => r = .returned (.int .i64 e) ∧ TC w0.heap.size isDR w w' ∧ ∃ vC', Both w0 w' B M Bd vc D R vS vC' vB X' := by
  refine (rwrite_calls w w0.heap.size R vS vC vB X X' at_ e A c b hw h.rk hl (fun w' hc => Kd.C_below hb (h.low.trans hc.low))).mono ?_
  rintro r w' ⟨rfl, ht, vC', hr⟩
  obtain ⟨k1, k2⟩ := h.ref hr ht
  exact ⟨rfl, k2, vC', k1⟩
theorem bo_flush (e : Int) (hw : flushP D = (D', e)) (hl : D.cache.length ≤ 1000) (h : Both w0 w B M Bd vc D R vS vC vB X) :
    Calls Try.prog 18 #[.pointer (some ⟨B, 0, none⟩)] w fun r w' => r = .returned (.int .i64 e) ∧ TC w0.heap.size isDR w w' ∧ ∃ vc', Both w0 w' B M Bd vc' D' R vS vC vB X := by
  refine (flush_calls w w0.heap.size B M Bd vc D hl h.dk.base_le h.dk).mono ?_
  rw [hw]
  rintro r w' ⟨rfl, vc', hd, _, hc⟩
  obtain ⟨k1, k2⟩ := h.disk hd (hc.mono fun k hk => hk.elim .inl fun h => .inr (.inl h))
  exact ⟨rfl, k2, vc', k1⟩
theorem bo_rflush (e : Int) (hw : rflushX X = (X', e)) (hl : X.cache.length ≤ 1000) (h : Both w0 w B M Bd vc D R vS vC vB X) :
    Calls Try.prog 28 #[.pointer (some ⟨R, 0, none⟩)] w fun r w' => r = .returned (.int .i64 e) ∧ TC w0.heap.size isDR w w' ∧ ∃ vC', Both w0 w' B M Bd vc D R vS vC' vB X' := by
  refine (rflush_calls w w0.heap.size R vS vC vB X X' e hw h.rk hl).mono ?_
  rintro r w' ⟨rfl, ht, vC', hr⟩
  obtain ⟨k1, k2⟩ := h.ref hr ht
  exact ⟨rfl, k2, vC', k1⟩
theorem bo_arm (n : Int) (hn : -9223372036854775808 ≤ n ∧ n ≤ 9223372036854775807) (hw : armP D n = D') (h : Both w0 w B M Bd vc D R vS vC vB X) :
    Calls Try.prog 16 #[.pointer (some ⟨B, 0, none⟩), .int .i64 n] w fun r w' => r = .returned (.tuple #[]) ∧ TC w0.heap.size isDR w w' ∧ Both w0 w' B M Bd vc D' R vS vC vB X := by
  subst hw
  refine (arm_calls w w0.heap.size B M Bd vc D n hn h.dk).mono ?_
  rintro r w' ⟨rfl, hd, ho⟩
  obtain ⟨k1, k2⟩ := h.disk hd (ho.chg fun k hk => .inl hk)
  exact ⟨rfl, k2, k1⟩
theorem bo_rarm (n : Int) (hn : -9223372036854775808 ≤ n ∧ n ≤ 9223372036854775807) (hw : rarmX X n = X') (h : Both w0 w B M Bd vc D R vS vC vB X) :
    Calls Try.prog 29 #[.pointer (some ⟨R, 0, none⟩), .int .i64 n] w fun r w' => r = .returned (.tuple #[]) ∧ TC w0.heap.size isDR w w' ∧ Both w0 w' B M Bd vc D R vS vC vB X' := by
  subst hw
  refine (rarm_calls w w0.heap.size R vS vC vB X n hn h.rk).mono ?_
  rintro r w' ⟨rfl, hr, ht⟩
  obtain ⟨k1, k2⟩ := h.ref hr ht
  exact ⟨rfl, k2, k1⟩
theorem bo_crash (A : Option Addr) (c : Nat) (ks : List Bool) (hw : crashP D ks = D') (hl : D.cache.length ≤ 1000) (hb : Kd.bool.C w0 A ks.length ks) (h : Both w0 w B M Bd vc D R vS vC vB X) :
    Calls Try.prog 20 #[.pointer (some ⟨B, 0, none⟩), .slice A ks.length c] w fun r w' => r = .returned (.tuple #[]) ∧ TC w0.heap.size isDR w w' ∧ Both w0 w' B M Bd (.slice none 0 0) D' R vS vC vB X := by
  subst hw
  have hm : ∀ w', Chg w w' (fun k => k = B ∨ k = M) → Chg w w' (FP B M Bd vc) := fun w' hc => hc.mono fun k hk => hk.elim .inl (fun h => .inr (.inl h))
  refine (crash_calls w w0.heap.size B M Bd vc D A c ks hl h.dk.base_le h.dk (fun w' hc => Kd.C_below hb (h.low.trans (h.dk.tc (hm w' hc)).low))).mono ?_
  rintro r w' ⟨rfl, hd, hc⟩
  obtain ⟨k1, k2⟩ := h.disk hd (hm w' hc)
  exact ⟨rfl, k2, k1⟩
theorem bo_rcrash (A : Option Addr) (c : Nat) (ks : List Bool) (hw : rcrashX X ks = X') (hl : X.cache.length ≤ 1000) (hb : Kd.bool.C w0 A ks.length ks) (h : Both w0 w B M Bd vc D R vS vC vB X) :
    Calls Try.prog 30 #[.pointer (some ⟨R, 0, none⟩), .slice A ks.length c] w fun r w' => r = .returned (.tuple #[]) ∧ TC w0.heap.size isDR w w' ∧ Both w0 w' B M Bd vc D R vS (.slice none 0 0) vB X' := by
  subst hw
  refine (rcrash_calls w w0.heap.size R vS vC vB X A c ks h.rk hl (fun w' hc => Kd.C_below hb (h.low.trans hc.low))).mono ?_
  rintro r w' ⟨rfl, hr, ht⟩
  obtain ⟨k1, k2⟩ := h.ref hr ht
  exact ⟨rfl, k2, k1⟩
theorem bo_fault (at_ : Int) (on : Bool) (hw : faultP D at_ on = D') (h : Both w0 w B M Bd vc D R vS vC vB X) :
    Calls Try.prog 31 #[.pointer (some ⟨B, 0, none⟩), .int .i64 at_, .bool on] w fun r w' => r = .returned (.tuple #[]) ∧ TC w0.heap.size isDR w w' ∧ Both w0 w' B M Bd vc D' R vS vC vB X := by
  subst hw
  refine (fault_calls w w0.heap.size B M Bd vc D at_ on h.dk).mono ?_
  rintro r w' ⟨rfl, hd, hc⟩
  obtain ⟨k1, k2⟩ := h.disk hd (hc.mono fun k hk => .inr (.inr (.inl hk)))
  exact ⟨rfl, k2, k1⟩
theorem bo_rfault (at_ : Int) (on : Bool) (hw : rfaultX X at_ on = X') (h : Both w0 w B M Bd vc D R vS vC vB X) :
    Calls Try.prog 32 #[.pointer (some ⟨R, 0, none⟩), .int .i64 at_, .bool on] w fun r w' => r = .returned (.tuple #[]) ∧ TC w0.heap.size isDR w w' ∧ Both w0 w' B M Bd vc D R vS vC vB X' := by
  subst hw
  refine (rfault_calls w w0.heap.size R vS vC vB X at_ on h.rk).mono ?_
  rintro r w' ⟨rfl, hr, ht⟩
  obtain ⟨k1, k2⟩ := h.ref hr ht
  exact ⟨rfl, k2, k1⟩
theorem bo_wipe (hw : wipeP D = D') (h : Both w0 w B M Bd vc D R vS vC vB X) :
    Calls Try.prog 33 #[.pointer (some ⟨B, 0, none⟩)] w fun r w' => r = .returned (.tuple #[]) ∧ TC w0.heap.size isDR w w' ∧ Both w0 w' B M Bd (.slice none 0 0) D' R vS vC vB X := by
  subst hw
  refine (wipe_calls w w0.heap.size B M Bd vc D h.dk).mono ?_
  rintro r w' ⟨rfl, hd, hc⟩
  obtain ⟨k1, k2⟩ := h.disk hd (hc.mono fun k hk => hk.elim .inl fun h => .inr (h.elim .inl fun h => .inr (.inl h)))
  exact ⟨rfl, k2, k1⟩
theorem bo_rwipe (hw : rwipeX X = X') (h : Both w0 w B M Bd vc D R vS vC vB X) :
    Calls Try.prog 34 #[.pointer (some ⟨R, 0, none⟩)] w fun r w' => r = .returned (.tuple #[]) ∧ TC w0.heap.size isDR w w' ∧ ∃ vS' vB', Both w0 w' B M Bd vc D R vS' (.slice none 0 0) vB' X' := by
  subst hw
  refine (rwipe_calls w w0.heap.size R vS vC vB X h.rk).mono ?_
  rintro r w' ⟨rfl, ht, vS', vB', hr⟩
  obtain ⟨k1, k2⟩ := h.ref hr ht
  exact ⟨rfl, k2, vS', vB', k1⟩
theorem bo_clone (hw : cloneP D = D') (h : Both w0 w B M Bd vc D R vS vC vB X) :
    Calls Try.prog 21 #[.pointer (some ⟨B, 0, none⟩)] w fun r w' => ∃ B' M' Bd', r = .returned (.pointer (some ⟨B', 0, none⟩)) ∧ Below w.heap.size w w' ∧ Both w0 w' B' M' Bd' (.slice none 0 0) D' R vS vC vB X := by
  subst hw
  refine (dclone_calls w w0.heap.size w0.heap.size B M Bd vc D h.dk.base_le h.dk).mono ?_
  rintro r w' ⟨B', M', Bd', rfl, hd, hb, _⟩
  exact ⟨B', M', Bd', rfl, hb, hd, (h.fresh hb).rk, (h.fresh hb).low⟩
theorem bo_rclone (hw : rcloneX X = X') (h : Both w0 w B M Bd vc D R vS vC vB X) :
    Calls Try.prog 35 #[.pointer (some ⟨R, 0, none⟩)] w fun r w' => ∃ R' vS' vB', r = .returned (.pointer (some ⟨R', 0, none⟩)) ∧ Below w.heap.size w w' ∧ Both w0 w' B M Bd vc D R' vS' (.slice none 0 0) vB' X' := by
  subst hw
  refine (rclone_calls w w0.heap.size R vS vC vB X h.rk).mono ?_
  rintro r w' ⟨R', vS', vB', rfl, hr, hb⟩
  exact ⟨R', vS', vB', rfl, hb, (h.fresh hb).dk, ⟨hr.toRM.low h.rk.toRM.base_le, hr.ok⟩, (h.fresh hb).low⟩
theorem bo_read (at_ r : Int) (s : List Int) (hr : readP D at_ = (s, r)) (hl : D.cache.length ≤ 1000) (h : Both w0 w B M Bd vc D R vS vC vB X) :
    Calls Try.prog 23 #[.pointer (some ⟨B, 0, none⟩), .int .i64 at_] w fun e w' => ∃ A c, e = .returned (.tuple #[.slice A s.length c, .int .i64 r]) ∧ Kd.R (Kd.int .u8) 5 w' w.heap.size (fun k => w.heap.size ≤ k) (.slice A s.length c) s ∧ Both w0 w' B M Bd vc D R vS vC vB X ∧ Below w.heap.size w w' := by
  refine (read_calls w w0.heap.size B M Bd vc D at_ hl h.dk).mono ?_
  rw [hr]
  rintro e w' ⟨v, rfl, hR, hb⟩
  obtain ⟨A, c, rfl⟩ := Kd.R_slice hR
  exact ⟨A, c, rfl, Kd.R_mono (Kd.R_bound hR) (fun k hk => hk.2.1), h.fresh hb, hb⟩
theorem bo_rread (at_ r : Int) (s : List Int) (hr : rreadX X at_ = (s, r)) (hl : X.cache.length ≤ 1000) (h : Both w0 w B M Bd vc D R vS vC vB X) :
    Calls Try.prog 27 #[.pointer (some ⟨R, 0, none⟩), .int .i64 at_] w fun e w' => ∃ A c, e = .returned (.tuple #[.slice A s.length c, .int .i64 r]) ∧ Kd.R (Kd.int .u8) 5 w' w.heap.size (fun k => w.heap.size ≤ k) (.slice A s.length c) s ∧ Both w0 w' B M Bd vc D R vS vC vB X ∧ Below w.heap.size w w' := by
  refine (rread_calls w w0.heap.size R vS vC vB X at_ r s hr h.rk hl).mono ?_
  rintro e w' ⟨A, c, rfl, hR, hb⟩
  exact ⟨A, c, rfl, hR, h.fresh hb, hb⟩
theorem bo_dead (d : Bool) (hd : D.dead = d) (h : Both w0 w B M Bd vc D R vS vC vB X) : Calls Try.prog 19 #[.pointer (some ⟨B, 0, none⟩)] w fun e w' => e = .returned (.bool d) ∧ w = w' := dead_at w _ B M Bd vc D d hd h.dk
theorem bo_size (n : Int) (hn : D.n = n) (h : Both w0 w B M Bd vc D R vS vC vB X) :
    Calls Try.prog 22 #[.pointer (some ⟨B, 0, none⟩)] w fun e w' => e = .returned (.int .i64 n) ∧ w = w' := by
  obtain ⟨⟨g0, g1, _⟩, _⟩ := cells7 h.dk.blk
  rw [hn] at g0
  exact size_calls w B M n g0 g1
theorem bo_cached (m : Nat) (hm : D.cache.length = m) (h : Both w0 w B M Bd vc D R vS vC vB X) :
    Calls Try.prog 24 #[.pointer (some ⟨B, 0, none⟩)] w fun e w' => e = .returned (.int .i64 m) ∧ w = w' := by
  have := cached_calls w _ B M Bd vc D h.dk
  rw [hm] at this
  exact this
theorem bo_new (n : Int) (hb : Below w0.heap.size w0 w) :
    Calls Try.prog 15 #[.int .i64 n] w fun e w' => ∃ B M Bd, e = .returned (.pointer (some ⟨B, 0, none⟩)) ∧ DK w' w0.heap.size B M Bd (.slice none 0 0) (newP n) ∧ Below w0.heap.size w0 w' := by
  refine (new_calls w w0.heap.size hb.size n).mono ?_
  rintro e w' ⟨B, M, Bd, rfl, hd, hb'⟩
  exact ⟨B, M, Bd, rfl, hd, hb.trans hb'⟩
theorem bo_rnew (n : Int) (hb : Below w0.heap.size w0 w) (hd : DK w w0.heap.size B M Bd vc D) :
    Calls Try.prog 25 #[.int .i64 n] w fun e w' => ∃ R vS vB, e = .returned (.pointer (some ⟨R, 0, none⟩)) ∧ Both w0 w' B M Bd vc D R vS (.slice none 0 0) vB (rnewX (rnewN n)) := by
  refine (rnew_calls w n).mono ?_
  rintro e w' ⟨R, vS, vB, rfl, hr, hb'⟩
  exact ⟨R, vS, vB, rfl, hd.chg (.of_below hb'), ⟨hr.low hb.size, rnew_ok _ (by unfold rnewN; omega)⟩, hb.trans (hb'.mono hb.size)⟩
end
end Go.Proofs.Ytlepcmljmibdnaa
