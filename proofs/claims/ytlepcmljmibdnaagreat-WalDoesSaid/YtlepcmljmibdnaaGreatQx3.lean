/- Parts of one proof, joined: Sl, Rc, Rt, Ru, Rv, Rw, Rx, Ry, Rp. Conditions: those of each statement. -/
import Derived.Test.YtlepcmljmibdnaaGreatQx2
import Derived.ArgAppend
import Derived.Lib.SlBytesConst
namespace Go.Proofs.YtlepcmljmibdnaaGreat
open Go.RowKit Go.Proofs.YtlepcmljmibdnaaGreatW.PrintWords Go.Proofs.YtlepcmljmibdnaaGreatW.PrintLast Go.Proofs.YtlepcmljmibdnaaGreatW.PrintMore PWalOpens
set_option linter.unusedVariables false
set_option linter.unusedSimpArgs false
def be4 (c : Int) : List Int := [c / 16777216 % 256, c / 65536 % 256, c / 256 % 256, c % 256]
def slotF (gen : Int) (l : List Int) : List Int := [70, 83] ++ (encNs [gen, (l.length : Int)] ++ encNs l)
def slotB (gen : Int) (l : List Int) : List Int := slotF gen l ++ be4 (crcB (slotF gen l))
theorem row_cells0 {w : World} {g t : Nat} {cs : Array Value} {fr : Nat × Nat} (h : w.heap[g]? = some (.cells cs t fr)) (j : Nat) (u : Value) (hu : cs.toList[j]? = some u) : w.cell? ((⟨g, 0, none⟩ : Addr).add j) = some u := by
  have e : (⟨g, 0, none⟩ : Addr).add j = ⟨g, j, none⟩ := by unfold Addr.add; split <;> simp_all
  rw [e]
  unfold World.cell?
  rw [h]
  simpa using hu
theorem lit_Cu (w : World) (xs : List Int) (S : Nat → Prop) (hx : xs.length ≤ 1000000) (hS : ¬ S w.heap.size) (w' : World) (hc : Chg (w.alloc (.cells (encs (Value.int .u64) xs).toArray 52)) w' S) :
    (Kd.int .u64).C w' (some ⟨w.heap.size, 0, none⟩) xs.length xs := by
  have h := (hc.block w.heap.size (by rw [alloc_size]; omega) hS).trans (heap_alloc_new w _)
  refine Kd.C_of_reads (d := (0 : Int)) (h1 := fun _ => rfl) (enc := Value.int .u64) ⟨rfl, by omega, fun _ => ⟨_, rfl, fun j hj => ?_⟩⟩
  have e : (⟨w.heap.size, 0, none⟩ : Addr).add j = ⟨w.heap.size, j, none⟩ := by unfold Addr.add; split <;> simp_all
  rw [e, cell_of_row w' w.heap.size j _ 52 (0, 0) h]
  have := encs_get (enc := Value.int .u64) (d := (0 : Int)) xs j hj
  simpa using this
theorem ex_append {P : Program} {W w1 : World} {o : Oper} {ρ : Operand → Value} {d s : Operand} {t : TypeId} {v : Value} (ho : o.op = .call { callee := .builtin .append, args := #[d, s], argTypes := #[t, t] }) {vd vs : Value} (hd : ρ d = vd) (hs : ρ s = vs)
    (hrun : (Builtin.append_ #[t, t] o.type #[vd, vs]).run P W = .ok v w1) : (execOp ρ o).run P W = .ok (.value v) w1 := by
  subst hd; subst hs
  simp [execOp, ho, resolve, invoke, builtin, hrun, Result.andThen]
/-- bytes appended to a literal that is full: a new row -/
theorem append_lit (W : World) (ty : TypeId) (g : Nat) (fr : Nat × Nat) (xs ys : List Int) (ad : Addr) (c : Nat) (hg : W.heap[g]? = some (.cells (encs (Value.int .u8) xs).toArray 5 fr)) (hC : (Kd.int .u8).C W (some ad) ys.length ys) (hy : 0 < ys.length) (hl : xs.length + ys.length ≤ 1000000) :
    ∃ v w', (Builtin.append_ #[58, 58] ty #[.slice (some ⟨g, 0, none⟩) xs.length xs.length, .slice (some ad) ys.length c]).run Tryz.prog W = .ok v w' ∧ Kd.R (Kd.int .u8) 5 w' W.heap.size (fun k => W.heap.size ≤ k) v (xs ++ ys) ∧ Below W.heap.size W w' := by
  obtain ⟨i0, hi, hzz⟩ := Option.map_eq_some_iff.1 info5w
  simp only [Prod.mk.injEq] at hzz
  obtain ⟨hz0, hz1, hz2⟩ := hzz
  have hr := Kd.reads_of_C (enc := Value.int .u8) (d := (0 : Int)) (h1 := fun _ => rfl) hC
  obtain ⟨_, _, hcell⟩ := hr
  obtain ⟨ad', e, hcell⟩ := hcell hy
  obtain rfl := Option.some.inj e
  obtain ⟨v, w', hrun, r1, r2⟩ := run_append_arg_grows (P := Tryz.prog) W 58 ty 5 i0 (.int .u8 0) 1 1 Tryz.underlying58 hi hz0 hz1 hz2 rfl (by decide) ⟨g, 0, none⟩ xs.length xs.length (encs (Value.int .u8) xs) (by simp [encs_length]) (fun j u hj => row_cells0 hg j u (by simpa using hj)) ad ys.length c (encs (Value.int .u8) ys) (by simp [encs_length]) (fun j u hj => by
    have hjl : j < ys.length := by have := (List.getElem?_eq_some_iff.1 hj).1; rwa [encs_length] at this
    rw [hcell j hjl, ← hj]
    exact (encs_get (enc := Value.int .u8) (d := (0 : Int)) ys j hjl).symm) (by omega) (by unfold maxLen; omega) (by omega)
  have hb : Below W.heap.size W w' := ⟨r2.os, r2.tape, r2.output, r2.size, fun k hk => r2.block k hk (by simp)⟩
  refine ⟨v, w', hrun, ?_, hb⟩
  have e2 : encs (Value.int .u8) xs ++ encs (Value.int .u8) ys = encs (Value.int .u8) (xs ++ ys) := by simp [encs]
  rw [e2] at r1
  have r3 : w'.ownsRow W.heap.size 5 1 v (xs ++ ys).length (encs (Value.int .u8) (xs ++ ys)) := by rw [List.length_append]; exact r1
  exact Kd.R_of_own r3 (fun k hk => own_base r3 k hk)
theorem encNs_pos (n : Int) (l : List Int) : 0 < (encNs (n :: l)).length := by
  unfold encNs encN
  rw [List.flatMap_cons, List.length_append]
  split <;> simp <;> omega
theorem lowB_bytes (n : Int) (k : Nat) : ∀ x ∈ lowB n k, 0 ≤ x ∧ x < 256 := by
  induction k with
  | zero => intro x hx; cases hx
  | succ k ih =>
    intro x hx
    rcases List.mem_cons.1 hx with rfl | hx
    · exact ⟨Int.emod_nonneg _ (by decide), Int.emod_lt_of_pos _ (by decide)⟩
    · exact ih x hx
theorem encN_bytes (n : Int) (h : 0 ≤ n) : ∀ x ∈ encN n, 0 ≤ x ∧ x < 256 := by
  intro x hx
  unfold encN at hx
  split at hx
  · rw [List.mem_singleton] at hx; omega
  · have := szN_le n
    rcases List.mem_cons.1 hx with rfl | hx
    · omega
    · exact lowB_bytes n _ x hx
theorem encNs_bytes (l : List Int) (h : ∀ n ∈ l, 0 ≤ n) : ∀ x ∈ encNs l, 0 ≤ x ∧ x < 256 := by
  intro x hx
  unfold encNs at hx
  obtain ⟨n, hn, hx⟩ := List.mem_flatMap.1 hx
  exact encN_bytes n (h n hn) x hx
theorem fs_bytes (gen : Int) (l : List Int) (hg : 0 ≤ gen ∧ gen < 18446744073709551616) (hn : ∀ n ∈ l, 0 ≤ n ∧ n < 18446744073709551616) (hl : l.length ≤ 4) : ∀ x ∈ [70, 83] ++ (encNs [gen, (l.length : Int)] ++ encNs l), 0 ≤ x ∧ x < 256 := by
  intro x hx
  simp only [List.mem_append, List.mem_cons, List.not_mem_nil, or_false] at hx
  rcases hx with (rfl | rfl) | hx | hx
  · decide
  · decide
  · refine encNs_bytes _ (fun n hn => ?_) x hx
    simp at hn
    rcases hn with rfl | rfl <;> omega
  · exact encNs_bytes l (fun n h => (hn n h).1) x hx
theorem WK_new (w : World) : WK (w.alloc (.cells #[.slice none 0 0] 138)) w.heap.size w.heap.size (.slice none 0 0) [] := ⟨heap_alloc_new w _, Kd.R_nil _ _ _ _ _, Nat.le_refl _⟩
theorem wN_two (w : World) (base B : Nat) (v : Value) (xs : List Int) (a b : Int) (ha : 0 ≤ a ∧ a < 18446744073709551616) (hb : 0 ≤ b ∧ b < 18446744073709551616) (hl : xs.length ≤ 100000) (h : WK w base B v xs) :
    Calls Tryz.prog 76 #[.pointer (some ⟨B, 0, none⟩), .slice (some ⟨w.heap.size, 0, none⟩) 2 2] (w.alloc (.cells #[.int .u64 a, .int .u64 b] 52)) fun e w' => e = .returned (.tuple #[]) ∧ ∃ v', WT w w' base B v v' (xs ++ encNs [a, b]) := by
  have hb1 := Below.alloc (Below.refl w.heap.size w) (Nat.le_refl _) (.cells #[.int .u64 a, .int .u64 b] 52)
  have hS : ¬ FW B v w.heap.size := fun hk => absurd (h.fp_lt _ hk).2 (Nat.lt_irrefl _)
  refine (wN_calls (w.alloc (.cells (encs (Value.int .u64) [a, b]).toArray 52)) base B v xs [a, b] (some ⟨w.heap.size, 0, none⟩) 2 (by simp; exact ⟨ha, hb⟩) (by simp; omega) (h.fresh hb1) (fun w' hc => lit_Cu w [a, b] _ (by simp) hS w' hc)).mono ?_
  rintro e w' ⟨rfl, v', ht⟩
  exact ⟨rfl, v', (⟨h.fresh hb1, .of_below hb1, fun _ _ h => h⟩ : WT w _ base B v v xs).trans ht⟩
theorem wN_first (w : World) (a b : Int) (ha : 0 ≤ a ∧ a < 18446744073709551616) (hb : 0 ≤ b ∧ b < 18446744073709551616) :
    Calls Tryz.prog 76 #[.pointer (some ⟨w.heap.size, 0, none⟩), .slice (some ⟨w.heap.size + 1, 0, none⟩) 2 2] ((w.alloc (.cells #[.slice none 0 0] 138)).alloc (.cells #[.int .u64 a, .int .u64 b] 52)) fun e w' => e = .returned (.tuple #[]) ∧ ∃ v', WK w' w.heap.size w.heap.size v' (encNs [a, b]) ∧ Below w.heap.size w w' := by
  have h := wN_two (w.alloc (.cells #[.slice none 0 0] 138)) w.heap.size w.heap.size (.slice none 0 0) [] a b ha hb (Nat.zero_le _) (WK_new w)
  rw [alloc_size] at h
  refine h.mono ?_
  rintro e w' ⟨rfl, v', ht⟩
  exact ⟨rfl, v', by have := ht.k; rwa [List.nil_append] at this, (Below.alloc (Below.refl _ _) (Nat.le_refl _) _).trans (ht.below (WK_new w))⟩
theorem wN_more (w0 w : World) (B : Nat) (v : Value) (xs l : List Int) (A : Option Addr) (c : Nat) (hn : ∀ n ∈ l, 0 ≤ n ∧ n < 18446744073709551616) (hl : xs.length + 9 * l.length ≤ 900000) (h : WK w w0.heap.size B v xs) (hb : Below w0.heap.size w0 w) (hC : (Kd.int .u64).C w0 A l.length l) (bs : List Int) (he : xs ++ encNs l = bs) :
    Calls Tryz.prog 76 #[.pointer (some ⟨B, 0, none⟩), .slice A l.length c] w fun e w' => e = .returned (.tuple #[]) ∧ ∃ v', WK w' w0.heap.size B v' bs ∧ Below w0.heap.size w0 w' := by
  subst he
  refine (wN_calls w w0.heap.size B v xs l A c hn hl h (fun w' hc => Kd.C_below hC (hb.trans (hc.below h.base_le fun k hf => (h.fp_lt k hf).1)))).mono ?_
  rintro e w' ⟨rfl, v', ht⟩
  exact ⟨rfl, v', ht.k, hb.trans (ht.below h)⟩
theorem wBytes_some (w : World) (base B : Nat) (v : Value) (xs : List Int) (hl : xs.length ≤ 1000000) (hp : 0 < xs.length) (h : WK w base B v xs) :
    Calls Tryz.prog 78 #[.pointer (some ⟨B, 0, none⟩)] w fun e w' => ∃ g c, e = .returned (.slice (some ⟨g, 0, none⟩) xs.length c) ∧ (Kd.int .u8).C w' (some ⟨g, 0, none⟩) xs.length xs ∧ Below w.heap.size w w' := by
  refine (wBytes_calls w base B v xs hl h).mono ?_
  rintro e w' ⟨A, c, rfl, hr, hb⟩
  obtain ⟨g, c', he⟩ := R_addr hr hp
  injection he with h1 h2 h3
  subst h1
  exact ⟨g, c, rfl, (Kd.R_reads' hr).2.2, hb⟩
set_option maxHeartbeats 1000000 in
theorem slot_calls (w : World) (gen : Int) (l : List Int) (A : Option Addr) (c : Nat) (hg : 0 ≤ gen ∧ gen < 18446744073709551616) (hn : ∀ n ∈ l, 0 ≤ n ∧ n < 18446744073709551616) (hl : l.length ≤ 4) (hC : (Kd.int .u64).C w A l.length l) :
    Calls Tryz.prog 128 #[.int .u64 gen, .slice A l.length c] w fun e w' => ∃ A' c', e = .returned (.tuple #[.slice A' (slotB gen l).length c', .int .i64 0]) ∧ Kd.R (Kd.int .u8) 5 w' w.heap.size (fun k => w.heap.size ≤ k) (.slice A' (slotB gen l).length c') (slotB gen l) ∧ Below w.heap.size w w' := by
  have hcv := fun (w : World) (C : Array Value) (n c : Nat) => Lib.run_convert_bytes_const (P := Tryz.prog) w 58 5 C n c Tryz.underlying58 Tryz.underlying5
  have HC := Aside0.mk hC
  have HN := Aside0.mk hn
  have HG := Aside0.mk hg
  have H0 := Aside0.mk (WK_new w)
  have hli : (l.length : Int) ≤ 4 := by omega
  have HLI := Aside0.mk (show (0 : Int) ≤ l.length ∧ (l.length : Int) < 18446744073709551616 by omega)
  have hne2 : (encNs [gen, (l.length : Int)]).length ≤ 18 := encNs_len _
  have hnel : (encNs l).length ≤ 36 := Nat.le_trans (encNs_len l) (by omega)
  have HLX := Aside0.mk (show (encNs [gen, (l.length : Int)]).length + 9 * l.length ≤ 900000 by omega)
  have HLY := Aside0.mk (show (encNs [gen, (l.length : Int)] ++ encNs l).length ≤ 1000000 by rw [List.length_append]; omega)
  obtain ⟨bs, hbs⟩ : ∃ bs, encNs [gen, (l.length : Int)] ++ encNs l = bs := ⟨_, rfl⟩
  obtain ⟨fs, hfs⟩ : ∃ fs, [70, 83] ++ bs = fs := ⟨_, rfl⟩
  rw [hbs] at HLY
  have HBS := Aside0.mk hbs
  have HFS := Aside0.mk hfs
  have HPOS := Aside0.mk (show 0 < bs.length by rw [← hbs, List.length_append]; have := encNs_pos gen [(l.length : Int)]; omega)
  have HLZ := Aside0.mk (show ([70, 83] : List Int).length + bs.length ≤ 1000000 by rw [← hbs, List.length_append]; simp only [List.length_cons, List.length_nil]; omega)
  have HCRC := Aside0.mk (crc_f fs (by rw [← hfs, ← hbs]; exact fs_bytes gen l hg hn hl) (by rw [← hfs]; have := HLZ.out; simp at *; omega))
  have HLL := Aside0.mk (show (fs.length + 4) * 1 ≤ 140737488355328 by rw [← hfs]; have := HLZ.out; simp at *; omega)
  clear hne2 hnel hbs hfs
  have HL := Aside0.mk hl
  have HB0 := Aside0.mk (Below.alloc (Below.refl w.heap.size w) (Nat.le_refl _) (.cells #[.slice none 0 0] 138))
  clear hC hn hg hl
  go_enter Tryz.func128, Tryz.ntmps128
  go_wp2_with (first
    | (go_at_call 76; with_reducible refine (wN_first w gen (l.length : Int) HG.out HLI.out).mono ?_; rintro e w3 ⟨rfl, v3, hk, hb⟩; have HK3 := Aside0.mk hk; have HB3 := Aside0.mk hb; clear hk hb)
    | (go_at_call 76; with_reducible refine (wN_more w w3 w.heap.size v3 (encNs [gen, (l.length : Int)]) l A c HN.out HLX.out HK3.out HB3.out HC.out bs HBS.out).mono ?_; rintro e w4 ⟨rfl, v4, hk, hb⟩; have HK4 := Aside0.mk hk; have HB4 := Aside0.mk hb; clear hk hb)
    | (go_at_call 78; refine (wBytes_some (w4.alloc (.cells #[.int .u8 70, .int .u8 83] 5 (2, 3))) w.heap.size w.heap.size v4 bs HLY.out HPOS.out (HK4.out.fresh (Below.alloc (Below.refl _ _) (Nat.le_refl _) _))).mono ?_; rintro e w5 ⟨g5, c5, rfl, hr, hb⟩; have HC5 := Aside0.mk hr; have HLIT := Aside0.mk ((hb.block w4.heap.size (by rw [alloc_size]; omega)).trans (heap_alloc_new w4 _)); have HB5 := Aside0.mk (HB4.out.trans ((Below.alloc (Below.refl w4.heap.size w4) (Nat.le_refl _) _).trans (hb.mono (by rw [alloc_size]; omega)) |>.mono HB4.out.size)); clear hr hb)
    | ((with_reducible refine gate_builtin (b := .append) (xs := #[.tmp 25, .tmp 27]) rfl ?_); obtain ⟨v6, w6, hrun, hR6, hB6⟩ := append_lit w5 58 w4.heap.size (2, 3) [70, 83] bs ⟨g5, 0, none⟩ c5 HLIT.out HC5.out HPOS.out HLZ.out; go_loud (refine Kd.event_run rfl (ex_append rfl rfl rfl hrun) ?_); simp only [Act.put, List.setIfInBounds_toArray, List.set_cons_succ, List.set_cons_zero]; rw [HFS.out] at hR6; obtain ⟨A6, c6, hv6, hcap, _⟩ := Kd.R_reads hR6; subst hv6; have HCAP := Aside0.mk hcap; clear hcap; have HR6 := Aside0.mk hR6; have HB6 := Aside0.mk (HB5.out.trans (hB6.mono HB5.out.size)); clear hrun hR6 hB6)
    | (go_at_call 135; go_loud (refine (crc_Sum.calls (fs.length + 10) A6 c6 fs (crcB fs) _ (Kd.R_reads' HR6.out).2.2 HCAP.out HCRC.out).mono ?_); rintro e w7 ⟨rfl, hd⟩; obtain ⟨nd, rfl⟩ := hd.out; go_loud (have HBW7 := Aside0.mk (show Below w6.heap.size w6 ((w6.drewN nd).alloc (.cells (encs (Value.int .u8) (be4 (crcB fs))).toArray 5)) from (show Below w6.heap.size w6 (w6.drewN nd) from ⟨rfl, rfl, rfl, Nat.le_refl _, fun _ _ => rfl⟩).trans (Below.alloc (Below.refl w6.heap.size (w6.drewN nd)) (Nat.le_refl _) _)); have HRW := Aside0.mk (Kd.R_below (Kd.R_mono (ok' := fun _ => True) (Kd.R_lower HR6.out HB5.out.size) (fun _ _ => trivial)) HBW7.out); have HCL := Aside0.mk (sec_C ((w6.drewN nd).alloc (.cells (encs (Value.int .u8) (be4 (crcB fs))).toArray 5)) w6.heap.size (be4 (crcB fs)) 5 (0, 0) (by simp [be4]) (heap_alloc_new (w6.drewN nd) _))))
    | ((with_reducible refine gate_builtin (b := .append) (xs := #[.tmp 31, .tmp 43]) rfl ?_); at_builtin; go_loud (refine Kd.R_append_rows (Kd.int .u8) (W := (w6.drewN nd).alloc (.cells (encs (Value.int .u8) (be4 (crcB fs))).toArray 5)) (w0 := (w6.drewN nd).alloc (.cells (encs (Value.int .u8) (be4 (crcB fs))).toArray 5)) w.heap.size rfl (.tmp 31) (.tmp 43) 58 5 (.int .u8 0) 1 rfl Tryz.underlying58 info5w rfl (by decide) (by decide) (.slice A6 fs.length c6) fs (be4 (crcB fs)) (some ⟨w6.heap.size, 0, none⟩) 4 4 (fun _ => True) (fun _ => False) rfl rfl HRW.out HCL.out (fun _ _ h => h) (fun _ h => h.elim) (fun _ _ => trivial) (Below.refl _ _) (Nat.le_trans HB6.out.size HBW7.out.size) HLL.out ?_); intro v8 w8 ho hb hg hat; have HR8 := Aside0.mk ho; have HB8 := Aside0.mk ((HB6.out.trans (HBW7.out.mono HB6.out.size)).trans hb); clear ho hb hg hat))
  obtain ⟨A8, c8, hv8⟩ := Kd.R_slice HR8.out
  subst hv8
  go_ret2
  have e : fs ++ be4 (crcB fs) = slotB gen l := by rw [← HFS.out, ← HBS.out]; rfl
  have hr := HR8.out
  rw [e] at hr ⊢
  exact ⟨A8, c8, rfl, Kd.R_mono (Kd.R_bound hr) (fun k hk => hk.2.1), HB8.out⟩
end Go.Proofs.YtlepcmljmibdnaaGreat
namespace Go.Proofs.YtlepcmljmibdnaaGreat
open Go.RowKit Go.Proofs.YtlepcmljmibdnaaGreatW.PrintWords Go.Proofs.YtlepcmljmibdnaaGreatW.PrintLast Go.Proofs.YtlepcmljmibdnaaGreatW.PrintMore PWalOpens
set_option linter.unusedVariables false
set_option linter.unusedSimpArgs false
/-- a reader at block B: what is left of its bytes (read, never written), whether it has failed -/
structure GK (w : World) (base B : Nat) (A : Option Addr) (c : Nat) (xs : List Int) (bad : Bool) : Prop where
  blk : w.heap[B]? = some (.cells #[.slice A xs.length c, .bool bad] 179 (0, 0))
  C : (Kd.int .u8).C w A xs.length xs
  cap : xs.length ≤ c
  away : ∀ ad, A = some ad → ad.block < B
  hB : base ≤ B
/-- a reader, wherever its bytes lie -/
def GX (w : World) (base B : Nat) (xs : List Int) (bad : Bool) : Prop := ∃ A c, GK w base B A c xs bad ∧ c ≤ 9223372036854775807 ∧ (A = none → xs = []) ∧ ∀ ad, A = some ad → ad.spot = none
theorem GX.keep {w w' : World} {base B : Nat} {xs : List Int} {bad : Bool} {S : Nat → Prop} (h : GX w base B xs bad) (hc : Chg w w' S) (hS : ∀ k, k ≤ B → ¬ S k) : GX w' base B xs bad := by
  obtain ⟨A, c, hk, hr⟩ := h
  have hl : B < w.heap.size := (Array.getElem?_eq_some_iff.1 hk.blk).1
  refine ⟨A, c, ⟨(hc.block B hl (hS B (Nat.le_refl _))).trans hk.blk, ?_, hk.cap, hk.away, hk.hB⟩, hr⟩
  exact Kd.C_foot_neS (fun h => h) hk.C (fun a e _ hb => hS _ (Nat.le_of_lt (hk.away a e)) hb) _ ⟨hc.size, fun i hi hn => hc.block i hi hn⟩
theorem GX.of_bad {w : World} {base B : Nat} (h : GK w base B none 0 [] true) : GX w base B [] true := ⟨none, 0, h, by omega, fun _ => rfl, fun ad e => by cases e⟩
theorem cells2 {w : World} {B t : Nat} {a b : Value} (h : w.heap[B]? = some (.cells #[a, b] t (0, 0))) : w.cell? ⟨B, 0, none⟩ = some a ∧ w.cell? ⟨B, 1, none⟩ = some b ∧ w.frozen? ⟨B, 0, none⟩ = false ∧ w.frozen? ⟨B, 1, none⟩ = false := by
  refine ⟨?_, ?_, ?_, ?_⟩ <;> simp [World.cell?, World.frozen?, h]
theorem gok_calls (w : World) (base B : Nat) (A : Option Addr) (c : Nat) (xs : List Int) (bad b : Bool) (hb : (!bad) = b) (h : GK w base B A c xs bad) :
    Calls Tryz.prog 112 #[.pointer (some ⟨B, 0, none⟩)] w fun e w' => e = .returned (.bool b) ∧ w = w' := by
  subst hb
  obtain ⟨q0, q1, f0, f1⟩ := cells2 h.blk
  cases bad with
  | true =>
    go_enter Tryz.func112, Tryz.ntmps112
    go_wp2
    go_ret
    exact ⟨rfl, rfl⟩
  | false =>
    go_enter Tryz.func112, Tryz.ntmps112
    go_wp2
    go_ret
    exact ⟨rfl, rfl⟩
theorem gleft_calls (w : World) (base B : Nat) (A : Option Addr) (c : Nat) (xs : List Int) (bad : Bool) (n : Nat) (hn : (if bad then 0 else xs.length) = n) (h : GK w base B A c xs bad) :
    Calls Tryz.prog 113 #[.pointer (some ⟨B, 0, none⟩)] w fun e w' => e = .returned (.int .i64 n) ∧ w = w' := by
  subst hn
  have HG := Aside0.mk h
  obtain ⟨q0, q1, f0, f1⟩ := cells2 h.blk
  clear h
  cases bad with
  | true =>
    go_enter Tryz.func113, Tryz.ntmps113
    go_wp2_with (go_at_call 112; with_reducible refine (gok_calls w base B A c xs true false rfl HG.out).mono ?_; rintro e w' ⟨rfl, rfl⟩)
    go_ret
    exact ⟨rfl, rfl⟩
  | false =>
    go_enter Tryz.func113, Tryz.ntmps113
    go_wp2_with (go_at_call 112; with_reducible refine (gok_calls w base B A c xs false true rfl HG.out).mono ?_; rintro e w' ⟨rfl, rfl⟩)
    go_ret
    exact ⟨rfl, rfl⟩
theorem gfail_calls (w : World) (base B : Nat) (A : Option Addr) (c : Nat) (xs : List Int) (bad : Bool) (h : GK w base B A c xs bad) :
    Calls Tryz.prog 110 #[.pointer (some ⟨B, 0, none⟩)] w fun e w' => e = .returned (.tuple #[]) ∧ GK w' base B none 0 [] true ∧ Chg w w' (fun k => k = B) := by
  have HG := Aside0.mk h
  obtain ⟨q0, q1, f0, f1⟩ := cells2 h.blk
  clear h
  go_enter Tryz.func110, Tryz.ntmps110
  go_wp2
  go_end0
  have ho := ((Only.refl w B).set (i := 1) (.bool true)).set (i := 0) (.slice none 0 0)
  exact ⟨rfl, ⟨set7 (set7 HG.out.blk 1 (.bool true)) 0 (.slice none 0 0), Kd.C_nil _ _, Nat.le_refl _, fun ad h => (by cases h), HG.out.hB⟩, ho.chg fun _ h => h⟩
theorem gtake_bad (w : World) (base B : Nat) (A : Option Addr) (c : Nat) (xs : List Int) (bad : Bool) (k : Nat) (hk : bad = true ∨ xs.length < k) (h : GK w base B A c xs bad) :
    Calls Tryz.prog 114 #[.pointer (some ⟨B, 0, none⟩), .int .i64 k] w fun e w' => e = .returned (.slice none 0 0) ∧ GK w' base B none 0 [] true ∧ Chg w w' (fun k => k = B) := by
  have HG := Aside0.mk h
  obtain ⟨q0, q1, f0, f1⟩ := cells2 h.blk
  clear h
  cases bad with
  | true =>
    clear hk
    go_enter Tryz.func114, Tryz.ntmps114
    go_wp2_with (first
      | (go_at_call 112; with_reducible refine (gok_calls w base B A c xs true false rfl HG.out).mono ?_; rintro e w' ⟨rfl, rfl⟩)
      | (go_at_call 110; with_reducible refine (gfail_calls w base B A c xs true HG.out).mono ?_; rintro e w1 ⟨rfl, hg, hc⟩; have HG1 := Aside0.mk hg; have HC1 := Aside0.mk hc; clear hg hc))
    go_ret
    exact ⟨rfl, HG1.out, HC1.out⟩
  | false =>
    have hk' : (xs.length : Int) < (k : Int) := by rcases hk with h | h; (cases h); omega
    clear hk
    go_enter Tryz.func114, Tryz.ntmps114
    go_wp2_with (first
      | (go_at_call 112; with_reducible refine (gok_calls w base B A c xs false true rfl HG.out).mono ?_; rintro e w' ⟨rfl, rfl⟩)
      | (go_at_call 110; with_reducible refine (gfail_calls w base B A c xs false HG.out).mono ?_; rintro e w1 ⟨rfl, hg, hc⟩; have HG1 := Aside0.mk hg; have HC1 := Aside0.mk hc; clear hg hc))
    go_ret
    exact ⟨rfl, HG1.out, HC1.out⟩
theorem gtake_good (w : World) (base B : Nat) (ad : Addr) (c : Nat) (xs : List Int) (k : Nat) (hk : k ≤ xs.length) (hc63 : c ≤ 9223372036854775807) (hpl : ad.spot = none) (h : GK w base B (some ad) c xs false) :
    Calls Tryz.prog 114 #[.pointer (some ⟨B, 0, none⟩), .int .i64 k] w fun e w' => e = .returned (.slice (some ad) k k) ∧ GX w' base B (xs.drop k) false ∧ (Kd.int .u8).C w' (some ad) k (xs.take k) ∧ Chg w w' (fun k => k = B) := by
  have HG := Aside0.mk h
  obtain ⟨q0, q1, f0, f1⟩ := cells2 h.blk
  have hcap : (xs.length : Int) ≤ (c : Int) := by have := h.cap; omega
  have hk1 : (k : Int) ≤ (xs.length : Int) := by omega
  clear h hk
  by_cases hkc : k = c
  · subst hkc
    go_enter Tryz.func114, Tryz.ntmps114
    go_wp2_with (first
      | (go_at_call 112; with_reducible refine (gok_calls w base B (some ad) k xs false true rfl HG.out).mono ?_; rintro e w' ⟨rfl, rfl⟩))
    go_ret
    have ho := (Only.refl w B).set (i := 0) (.slice (some ad) (xs.length - k) 0)
    have hkN : k ≤ xs.length := by omega
    have C1 := Kd.C_foot_neS (fun h => h) HG.out.C (fun a e _ hb => Nat.ne_of_lt (HG.out.away a e) hb) _ ho.kept
    have C2 := Kd.C_drop (m := k) (c := k) C1 hkN HG.out.cap
    rw [if_pos rfl] at C2
    have C3 := Kd.C_take C1 hkN
    have hl : (xs.take k).length = k := by rw [List.length_take]; omega
    rw [hl] at C3
    refine ⟨rfl, ⟨some ad, 0, ⟨?_, C2, ?_, fun a e => HG.out.away a e, HG.out.hB⟩, by omega, fun e => (by cases e), fun a e => by cases e; exact hpl⟩, C3, ho.chg fun _ h => h⟩
    · rw [List.length_drop]; exact set7 HG.out.blk 0 _
    · rw [List.length_drop]; have := HG.out.cap; omega
  · have hkc' : (k : Int) < (c : Int) := by have := hcap; have := hk1; omega
    go_enter Tryz.func114, Tryz.ntmps114
    go_wp2_with (first
      | (go_at_call 112; with_reducible refine (gok_calls w base B (some ad) c xs false true rfl HG.out).mono ?_; rintro e w' ⟨rfl, rfl⟩))
    go_ret
    have ho := (Only.refl w B).set (i := 0) (.slice (some (ad.add k)) (xs.length - k) (c - k))
    have hkN : k ≤ xs.length := by omega
    have C1 := Kd.C_foot_neS (fun h => h) HG.out.C (fun a e _ hb => Nat.ne_of_lt (HG.out.away a e) hb) _ ho.kept
    have C2 := Kd.C_drop (m := k) (c := c) C1 hkN HG.out.cap
    rw [if_neg (by omega)] at C2
    have C3 := Kd.C_take C1 hkN
    have hl : (xs.take k).length = k := by rw [List.length_take]; omega
    rw [hl] at C3
    have hm : k * (Kd.int .u8).sz = k := Nat.mul_one k
    simp only [Option.map_some, hm] at C2
    refine ⟨rfl, ⟨some (ad.add k), c - k, ⟨?_, C2, ?_, ?_, HG.out.hB⟩, by omega, fun e => (by cases e), fun a e => ?_⟩, C3, ho.chg fun _ h => h⟩
    · rw [List.length_drop]; exact set7 HG.out.blk 0 _
    · rw [List.length_drop]; have := HG.out.cap; omega
    · rintro a ⟨⟩; rw [add_block]; exact HG.out.away ad rfl
    · cases e; unfold Addr.add; split <;> simp [hpl]
end Go.Proofs.YtlepcmljmibdnaaGreat
namespace Go.Proofs.YtlepcmljmibdnaaGreat
open Go.RowKit Go.Proofs.YtlepcmljmibdnaaGreatW.PrintWords Go.Proofs.YtlepcmljmibdnaaGreatW.PrintLast Go.Proofs.YtlepcmljmibdnaaGreatW.PrintMore PWalOpens
set_option linter.unusedVariables false
set_option linter.unusedSimpArgs false
/-- one byte more of a number, high byte first -/
def bigS (a b : Int) : Int := Go.bits .or .u64 (a * 256 % 18446744073709551616) (b % 18446744073709551616)
def bigN (l : List Int) : Int := l.foldl bigS 0
theorem bigN_succ (l : List Int) (i : Nat) (n : Int) (h : l[i]? = some n) : bigN (l.take (i + 1)) = bigS (bigN (l.take i)) n := by
  unfold bigN
  rw [List.take_add_one, h, List.foldl_append]
  rfl
theorem gfixed_bad (w : World) (base B : Nat) (A : Option Addr) (c : Nat) (xs : List Int) (bad : Bool) (k : Nat) (hk : bad = true ∨ xs.length < k) (h : GK w base B A c xs bad) :
    Calls Tryz.prog 109 #[.pointer (some ⟨B, 0, none⟩), .int .i64 k] w fun e w' => e = .returned (.int .u64 0) ∧ GK w' base B none 0 [] true ∧ Chg w w' (fun k => k = B) := by
  have HT := Aside0.mk (gtake_bad w base B A c xs bad k hk h)
  clear h hk
  go_enter Tryz.func109, Tryz.ntmps109
  go_wp2_with (go_at_call 114; with_reducible refine HT.out.mono ?_; rintro e w1 ⟨rfl, hg, hc⟩; have HG1 := Aside0.mk hg; have HC1 := Aside0.mk hc; clear hg hc)
  go_loopg [5, 12] 0 (fun kq v5 v12 w' => v5 = .int .u64 0 ∧ v12 = .int .i64 0 ∧ w' = w1)
  case atStart => exact ⟨rfl, rfl, rfl⟩
  case round =>
    obtain ⟨rfl, rfl, rfl⟩ := hrel
    go_wp2
    go_ret
    exact ⟨rfl, HG1.out, HC1.out⟩
theorem gfixed_good (w : World) (base B : Nat) (ad : Addr) (c : Nat) (xs : List Int) (k : Nat) (hk : k ≤ xs.length) (hc63 : c ≤ 9223372036854775807) (hpl : ad.spot = none) (h : GK w base B (some ad) c xs false) :
    Calls Tryz.prog 109 #[.pointer (some ⟨B, 0, none⟩), .int .i64 k] w fun e w' => e = .returned (.int .u64 (bigN (xs.take k))) ∧ GX w' base B (xs.drop k) false ∧ Chg w w' (fun k => k = B) := by
  have HT := Aside0.mk (gtake_good w base B ad c xs k hk hc63 hpl h)
  have hkl : k ≤ 9223372036854775807 := by have := h.cap; omega
  obtain ⟨ys, hys⟩ : ∃ ys, xs.take k = ys := ⟨_, rfl⟩
  have hyl : ys.length = k := by rw [← hys, List.length_take]; omega
  rw [hys] at HT ⊢
  clear h hk hys
  subst hyl
  go_enter Tryz.func109, Tryz.ntmps109
  go_wp2_with (go_at_call 114; with_reducible refine HT.out.mono ?_; rintro e w1 ⟨rfl, hg, hC, hc⟩; have HG1 := Aside0.mk hg; have HR1 := Aside0.mk hC; have HC1 := Aside0.mk hc; clear hg hc hC)
  go_loopg [5, 12] ys.length (fun kq v5 v12 w' => ∃ i : Nat, v12 = .int .i64 (i : Int) ∧ v5 = .int .u64 (bigN (ys.take i)) ∧ Aside0 (i + kq = ys.length) ∧ w' = w1)
  case atStart => exact ⟨0, rfl, rfl, ⟨by omega⟩, rfl⟩
  case round =>
    obtain ⟨i, rfl, rfl, HI, rfl⟩ := hrel
    by_cases hi : i < ys.length
    · obtain ⟨n, hnn⟩ : ∃ n, ys[i]? = some n := ⟨_, List.getElem?_eq_getElem hi⟩
      obtain ⟨a2, e, x0⟩ := Kd.at_int HR1.out (i : Int) (by omega) (by omega)
      cases e
      rw [show rd ys (i : Int) = n by simp [rd, List.getD, hnn], Int.toNat_natCast] at x0
      have HNN := Aside0.mk hnn
      clear hnn
      go_wp2
      have hk1 := HI.out
      obtain ⟨gq, rfl⟩ : ∃ gq, gk = gq + 1 := ⟨gk - 1, by omega⟩
      go_roundg gq
      case rel => exact ⟨i + 1, by go_num, by rw [bigN_succ ys i n HNN.out]; rfl, ⟨by omega⟩, rfl⟩
      case measure => omega
    · have hi0 := HI.out
      obtain rfl : gk = 0 := by omega
      obtain rfl : i = ys.length := by omega
      clear hi0
      have hm : ¬ ((ys.length : Int) < (ys.length : Int)) := by omega
      go_wp2
      go_ret
      exact ⟨rfl, HG1.out, HC1.out⟩
end Go.Proofs.YtlepcmljmibdnaaGreat
namespace Go.Proofs.YtlepcmljmibdnaaGreat
open Go.RowKit Go.Proofs.YtlepcmljmibdnaaGreatW.PrintWords Go.Proofs.YtlepcmljmibdnaaGreatW.PrintLast Go.Proofs.YtlepcmljmibdnaaGreatW.PrintMore PWalOpens
set_option linter.unusedVariables false
set_option linter.unusedSimpArgs false
theorem bigS_small (a b : Nat) (ha : a < 72057594037927936) (hb : b < 256) : bigS (a : Int) (b : Int) = (a : Int) * 256 + b := by
  unfold bigS Go.bits
  have e : ∀ x : Nat, x < 18446744073709551616 → BitVec.ofInt IntKind.u64.bits (x : Int) = BitVec.ofNat 64 x := fun x _ => by
    show BitVec.ofInt 64 (x : Int) = _
    rw [BitVec.ofInt_natCast]
  rw [show ((a : Int) * 256 % 18446744073709551616) = ((a * 256 : Nat) : Int) by omega, show ((b : Int) % 18446744073709551616) = (b : Int) by omega]
  have e1 := e (a * 256) (by omega)
  have e2 := e b (by omega)
  simp only [e1, e2]
  have e3 : (BitVec.ofNat 64 (a * 256) ||| BitVec.ofNat 64 b).toNat = a * 256 + b := by
    rw [BitVec.toNat_or]
    simp only [BitVec.toNat_ofNat]
    rw [Nat.mod_eq_of_lt (by omega), Nat.mod_eq_of_lt (by omega)]
    have := Nat.shiftLeft_add_eq_or_of_lt (i := 8) (b := b) hb a
    rw [Nat.shiftLeft_eq] at this
    exact this.symm
  have e4 : IntKind.u64.wrap (((BitVec.ofNat 64 (a * 256) ||| BitVec.ofNat 64 b).toNat : Nat) : Int) = (((BitVec.ofNat 64 (a * 256) ||| BitVec.ofNat 64 b).toNat : Nat) : Int) % 18446744073709551616 := rfl
  refine e4.trans ?_
  rw [e3]
  omega
theorem bigN_one (b : Int) (h0 : 0 ≤ b) (h : b < 256) : bigN [b] = b := by
  obtain ⟨n, rfl⟩ := Int.eq_ofNat_of_zero_le h0
  have := bigS_small 0 n (by omega) (by omega)
  show bigS 0 _ = _
  simpa using this
/-- high byte first: the value of a short row -/
theorem bigN_lowB (n : Int) (h0 : 0 ≤ n) (k : Nat) (hk : k ≤ 8) : bigN (lowB n k) = n % 256 ^ k := by
  obtain ⟨m, rfl⟩ := Int.eq_ofNat_of_zero_le h0
  have key : ∀ (j : Nat) (a : Nat), (a + 1) * 256 ^ j ≤ 18446744073709551616 → (lowB (m : Int) j).foldl bigS (a : Int) = ((a * 256 ^ j + m % 256 ^ j : Nat) : Int) := by
    intro j
    induction j with
    | zero => intro a _; simp [lowB, Nat.mod_one]
    | succ j ih =>
      intro a h2
      have hp : 1 ≤ 256 ^ j := Nat.pos_of_ne_zero (by simp)
      have hd : m / 256 ^ j % 256 < 256 := Nat.mod_lt _ (by omega)
      have ha : (a + 1) * 256 ≤ 18446744073709551616 := by
        refine Nat.le_trans ?_ h2
        rw [Nat.pow_succ, ← Nat.mul_assoc]
        have := Nat.mul_le_mul_left ((a + 1)) hp
        rw [Nat.mul_one] at this
        exact Nat.mul_le_mul_right 256 this
      have e : ((m : Int) / 256 ^ j) % 256 = ((m / 256 ^ j % 256 : Nat) : Int) := by
        rw [Int.natCast_emod, Int.natCast_ediv, Int.natCast_pow]
        rfl
      rw [lowB, List.foldl_cons, e, bigS_small a _ (by omega) hd]
      obtain ⟨d, hdd⟩ : ∃ d, m / 256 ^ j % 256 = d := ⟨_, rfl⟩
      have hm := Nat.mod_mul (x := m) (a := 256 ^ j) (b := 256)
      rw [hdd] at hd hm ⊢
      have h3 := ih (a * 256 + d) (by
        refine Nat.le_trans (Nat.mul_le_mul_right _ (show a * 256 + d + 1 ≤ (a + 1) * 256 by omega)) ?_
        rw [Nat.mul_assoc, Nat.mul_comm 256, ← Nat.pow_succ]
        exact h2)
      rw [show ((a : Int) * 256 + (d : Int)) = ((a * 256 + d : Nat) : Int) by omega, h3, Nat.pow_succ, hm, Nat.add_mul, Nat.mul_assoc, Nat.mul_comm 256, Nat.mul_comm d]
      congr 1
      omega
  have := key k 0 (by
    have : 256 ^ k ≤ 256 ^ 8 := Nat.pow_le_pow_right (by omega) hk
    omega)
  unfold bigN
  rw [show ((0 : Int)) = ((0 : Nat) : Int) from rfl, this, Nat.zero_mul, Nat.zero_add, Int.natCast_emod, Int.natCast_pow]
  rfl
end Go.Proofs.YtlepcmljmibdnaaGreat
namespace Go.Proofs.YtlepcmljmibdnaaGreat
open Go.RowKit Go.Proofs.YtlepcmljmibdnaaGreatW.PrintWords Go.Proofs.YtlepcmljmibdnaaGreatW.PrintLast Go.Proofs.YtlepcmljmibdnaaGreatW.PrintMore PWalOpens
set_option linter.unusedVariables false
set_option linter.unusedSimpArgs false
theorem gx_ok (w : World) (base B : Nat) (xs : List Int) (bad b : Bool) (hb : (!bad) = b) (h : GX w base B xs bad) :
    Calls Tryz.prog 112 #[.pointer (some ⟨B, 0, none⟩)] w fun e w' => e = .returned (.bool b) ∧ w = w' := by
  obtain ⟨A, c, h, _⟩ := h
  exact gok_calls w base B A c xs bad b hb h
theorem gx_fail (w : World) (base B : Nat) (xs : List Int) (bad : Bool) (h : GX w base B xs bad) :
    Calls Tryz.prog 110 #[.pointer (some ⟨B, 0, none⟩)] w fun e w' => e = .returned (.tuple #[]) ∧ GX w' base B [] true ∧ Chg w w' (fun k => k = B) := by
  obtain ⟨A, c, h, _⟩ := h
  refine (gfail_calls w base B A c xs bad h).mono ?_
  rintro e w' ⟨rfl, h1, h2⟩
  exact ⟨rfl, .of_bad h1, h2⟩
theorem gx_fixed_ok (w : World) (base B : Nat) (xs r : List Int) (k : Nat) (kI v : Int) (hkI : (k : Int) = kI) (h1 : 1 ≤ k) (hk : k ≤ xs.length) (hv : bigN (xs.take k) = v) (hr : xs.drop k = r) (h : GX w base B xs false) :
    Calls Tryz.prog 109 #[.pointer (some ⟨B, 0, none⟩), .int .i64 kI] w fun e w' => e = .returned (.int .u64 v) ∧ GX w' base B r false ∧ Chg w w' (fun k => k = B) := by
  subst hkI hv hr
  obtain ⟨A, c, h, hc, hA, hs⟩ := h
  cases A with
  | none => rw [hA rfl] at hk; simp at hk; omega
  | some ad => exact gfixed_good w base B ad c xs k hk hc (hs ad rfl) h
theorem gx_fixed_no (w : World) (base B : Nat) (xs : List Int) (bad : Bool) (k : Nat) (kI : Int) (hkI : (k : Int) = kI) (hk : bad = true ∨ xs.length < k) (h : GX w base B xs bad) :
    Calls Tryz.prog 109 #[.pointer (some ⟨B, 0, none⟩), .int .i64 kI] w fun e w' => e = .returned (.int .u64 0) ∧ GX w' base B [] true ∧ Chg w w' (fun k => k = B) := by
  subst hkI
  obtain ⟨A, c, h, hc, hA, hs⟩ := h
  refine (gfixed_bad w base B A c xs bad k hk h).mono ?_
  rintro e w' ⟨rfl, h1, h2⟩
  exact ⟨rfl, .of_bad h1, h2⟩
theorem gN_no (w : World) (base B : Nat) (mx : Int) (h0 : 0 ≤ mx) (xs : List Int) (bad : Bool) (hb : bad = true ∨ xs.length < 1) (h : GX w base B xs bad) :
    Calls Tryz.prog 68 #[.pointer (some ⟨B, 0, none⟩), .int .u64 mx] w fun e w' => e = .returned (.int .u64 0) ∧ GX w' base B [] true ∧ Chg w w' (fun k => k = B) := by
  have H := Aside0.mk (gx_fixed_no w base B xs bad 1 1 rfl hb h)
  clear h hb
  go_enter Tryz.func68, Tryz.ntmps68
  go_wp2_with (first
    | (go_at_call 109; with_reducible refine H.out.mono ?_; rintro e w1 ⟨rfl, hg, hc⟩; have HG1 := Aside0.mk hg; have HC1 := Aside0.mk hc; clear hg hc)
    | (go_at_call 112; with_reducible refine (gx_ok w1 base B [] true false rfl HG1.out).mono ?_; rintro e w2 ⟨rfl, rfl⟩))
  go_ret
  exact ⟨rfl, HG1.out, HC1.out⟩
theorem gN_small (w : World) (base B : Nat) (mx b : Int) (r : List Int) (hb0 : 0 ≤ b) (hb : b < 128) (hm : b ≤ mx) (h : GX w base B (b :: r) false) :
    Calls Tryz.prog 68 #[.pointer (some ⟨B, 0, none⟩), .int .u64 mx] w fun e w' => e = .returned (.int .u64 b) ∧ GX w' base B r false ∧ Chg w w' (fun k => k = B) := by
  have H := Aside0.mk (gx_fixed_ok w base B (b :: r) r 1 1 b rfl (by omega) (by simp) (bigN_one b hb0 (by omega)) rfl h)
  clear h
  go_enter Tryz.func68, Tryz.ntmps68
  go_wp2_with (first
    | (go_at_call 109; with_reducible refine H.out.mono ?_; rintro e w1 ⟨rfl, hg, hc⟩; have HG1 := Aside0.mk hg; have HC1 := Aside0.mk hc; clear hg hc)
    | (go_at_call 112; with_reducible refine (gx_ok w1 base B r false true rfl HG1.out).mono ?_; rintro e w2 ⟨rfl, rfl⟩))
  go_ret
  exact ⟨rfl, HG1.out, HC1.out⟩
theorem gN_big (w : World) (base B : Nat) (mx b : Int) (r : List Int) (hb0 : 0 ≤ b) (hb : b < 128) (hm : mx < b) (h : GX w base B (b :: r) false) :
    Calls Tryz.prog 68 #[.pointer (some ⟨B, 0, none⟩), .int .u64 mx] w fun e w' => e = .returned (.int .u64 0) ∧ GX w' base B [] true ∧ Chg w w' (fun k => k = B) := by
  have H := Aside0.mk (gx_fixed_ok w base B (b :: r) r 1 1 b rfl (by omega) (by simp) (bigN_one b hb0 (by omega)) rfl h)
  clear h
  go_enter Tryz.func68, Tryz.ntmps68
  go_wp2_with (first
    | (go_at_call 109; with_reducible refine H.out.mono ?_; rintro e w1 ⟨rfl, hg, hc⟩; have HG1 := Aside0.mk hg; have HC1 := Aside0.mk hc; clear hg hc)
    | (go_at_call 110; with_reducible refine (gx_fail w1 base B r false HG1.out).mono ?_; rintro e w2 ⟨rfl, hg, hc⟩; have HG2 := Aside0.mk hg; have HC2 := Aside0.mk hc; clear hg hc)
    | (go_at_call 112; with_reducible refine (gx_ok w2 base B [] true false rfl HG2.out).mono ?_; rintro e w3 ⟨rfl, rfl⟩))
  go_ret
  exact ⟨rfl, HG2.out, HC1.out.trans HC2.out⟩
theorem gN_width (w : World) (base B : Nat) (mx b : Int) (r : List Int) (hb0 : 128 ≤ b) (hb : b < 256) (hm : b = 128 ∨ 136 < b) (h : GX w base B (b :: r) false) :
    Calls Tryz.prog 68 #[.pointer (some ⟨B, 0, none⟩), .int .u64 mx] w fun e w' => e = .returned (.int .u64 0) ∧ GX w' base B [] true ∧ Chg w w' (fun k => k = B) := by
  have H := Aside0.mk (gx_fixed_ok w base B (b :: r) r 1 1 b rfl (by omega) (by simp) (bigN_one b (by omega) (by omega)) rfl h)
  clear h
  by_cases h1 : b = 128
  · subst h1
    clear hm
    go_enter Tryz.func68, Tryz.ntmps68
    go_wp2_with (first
      | (go_at_call 109; with_reducible refine H.out.mono ?_; rintro e w1 ⟨rfl, hg, hc⟩; have HG1 := Aside0.mk hg; have HC1 := Aside0.mk hc; clear hg hc)
      | (go_at_call 110; with_reducible refine (gx_fail w1 base B r false HG1.out).mono ?_; rintro e w2 ⟨rfl, hg, hc⟩; have HG2 := Aside0.mk hg; have HC2 := Aside0.mk hc; clear hg hc))
    go_ret
    exact ⟨rfl, HG2.out, HC1.out.trans HC2.out⟩
  · have h2 : 136 < b := by omega
    clear hm h1
    go_enter Tryz.func68, Tryz.ntmps68
    go_wp2_with (first
      | (go_at_call 109; with_reducible refine H.out.mono ?_; rintro e w1 ⟨rfl, hg, hc⟩; have HG1 := Aside0.mk hg; have HC1 := Aside0.mk hc; clear hg hc)
      | (go_at_call 110; with_reducible refine (gx_fail w1 base B r false HG1.out).mono ?_; rintro e w2 ⟨rfl, hg, hc⟩; have HG2 := Aside0.mk hg; have HC2 := Aside0.mk hc; clear hg hc))
    go_ret
    exact ⟨rfl, HG2.out, HC1.out.trans HC2.out⟩
theorem gN_short (w : World) (base B : Nat) (mx b : Int) (h0 : 0 ≤ mx) (n : Nat) (r : List Int) (hb : (n : Int) = b - 128) (hn1 : 128 < b) (hn8 : b ≤ 136) (hm : r.length < n) (h : GX w base B (b :: r) false) :
    Calls Tryz.prog 68 #[.pointer (some ⟨B, 0, none⟩), .int .u64 mx] w fun e w' => e = .returned (.int .u64 0) ∧ GX w' base B [] true ∧ Chg w w' (fun k => k = B) := by
  have H := Aside0.mk (gx_fixed_ok w base B (b :: r) r 1 1 b rfl (by omega) (by simp) (bigN_one _ (by omega) (by omega)) rfl h)
  clear h
  have HM := Aside0.mk hm
  have HE := Aside0.mk hb
  clear hm hb
  go_enter Tryz.func68, Tryz.ntmps68
  go_wp2_with (first
    | (go_at_call 109; with_reducible refine H.out.mono ?_; rintro e w1 ⟨rfl, hg, hc⟩; have HG1 := Aside0.mk hg; have HC1 := Aside0.mk hc; clear hg hc)
    | (go_at_call 109; with_reducible refine (gx_fixed_no w1 base B r false n (b - 128) HE.out (.inr HM.out) HG1.out).mono ?_; rintro e w2 ⟨rfl, hg, hc⟩; have HG2 := Aside0.mk hg; have HC2 := Aside0.mk hc; clear hg hc)
    | (go_at_call 110; with_reducible refine (gx_fail w2 base B [] true HG2.out).mono ?_; rintro e w3 ⟨rfl, hg, hc⟩; have HG3 := Aside0.mk hg; have HC3 := Aside0.mk hc; clear hg hc)
    | (go_at_call 112; with_reducible refine (gx_ok w3 base B [] true false rfl HG3.out).mono ?_; rintro e w4 ⟨rfl, rfl⟩))
  go_ret
  exact ⟨rfl, HG3.out, (HC1.out.trans HC2.out).trans HC3.out⟩
theorem GX.drewN {w : World} {base B : Nat} {xs : List Int} {bad : Bool} (h : GX w base B xs bad) (n : Nat) : GX (w.drewN n) base B xs bad := by
  obtain ⟨A, c, h, hr⟩ := h
  exact ⟨A, c, ⟨h.blk, Kd.C_drewN h.C n, h.cap, h.away, h.hB⟩, hr⟩
theorem chg_drewN {w w' : World} {S : Nat → Prop} (h : Chg w w' S) (n : Nat) : Chg w (w'.drewN n) S := ⟨h.os, h.tape, h.output, h.size, h.block⟩
theorem gN_wide (w : World) (base B : Nat) (mx b x : Int) (n : Nat) (r : List Int) (hb : (n : Int) = b - 128) (hn1 : 128 < b) (hn8 : b ≤ 136) (hm : n ≤ r.length) (hx : bigN (r.take n) = x) (hx1 : 128 ≤ x) (hs : (szN x : Int) = b - 128) (hxm : x ≤ mx) (h : GX w base B (b :: r) false) :
    Calls Tryz.prog 68 #[.pointer (some ⟨B, 0, none⟩), .int .u64 mx] w fun e w' => e = .returned (.int .u64 x) ∧ GX w' base B (r.drop n) false ∧ Chg w w' (fun k => k = B) := by
  have H := Aside0.mk (gx_fixed_ok w base B (b :: r) r 1 1 b rfl (by omega) (by simp) (bigN_one _ (by omega) (by omega)) rfl h)
  clear h
  have HM := Aside0.mk hm
  have HE := Aside0.mk hb
  have HN1 := Aside0.mk (show 1 ≤ n by omega)
  have HX := Aside0.mk hx
  have HSZ := Aside0.mk (show codec_size.f 9 x = some (b - 128) from by rw [← hs]; exact size_f x (by omega))
  clear hm hb hx hs
  go_enter Tryz.func68, Tryz.ntmps68
  go_wp2_with (first
    | (go_at_call 109; with_reducible refine H.out.mono ?_; rintro e w1 ⟨rfl, hg, hc⟩; have HG1 := Aside0.mk hg; have HC1 := Aside0.mk hc; clear hg hc)
    | (go_at_call 109; with_reducible refine (gx_fixed_ok w1 base B r (r.drop n) n (b - 128) x HE.out HN1.out HM.out HX.out rfl HG1.out).mono ?_; rintro e w2 ⟨rfl, hg, hc⟩; have HG2 := Aside0.mk hg; have HC2 := Aside0.mk hc; clear hg hc)
    | (go_at_call 111; refine (codec_size.calls 9 x (b - 128) _ HSZ.out).mono ?_; rintro e w3 ⟨rfl, hd⟩; obtain ⟨nd, rfl⟩ := hd.out; have HG3 := Aside0.mk (HG2.out.drewN nd))
    | (go_at_call 112; with_reducible refine (gx_ok _ base B _ false true rfl HG3.out).mono ?_; rintro e w4 ⟨rfl, rfl⟩))
  go_ret
  exact ⟨rfl, HG3.out, chg_drewN (HC1.out.trans HC2.out) nd⟩
theorem gN_odd1 (w : World) (base B : Nat) (mx b x : Int) (n : Nat) (r : List Int) (hb : (n : Int) = b - 128) (hn1 : 128 < b) (hn8 : b ≤ 136) (hm : n ≤ r.length) (hx : bigN (r.take n) = x) (hx0 : 0 ≤ x) (hx1 : x < 128) (hxm : x ≤ mx) (h : GX w base B (b :: r) false) :
    Calls Tryz.prog 68 #[.pointer (some ⟨B, 0, none⟩), .int .u64 mx] w fun e w' => e = .returned (.int .u64 0) ∧ GX w' base B [] true ∧ Chg w w' (fun k => k = B) := by
  have H := Aside0.mk (gx_fixed_ok w base B (b :: r) r 1 1 b rfl (by omega) (by simp) (bigN_one _ (by omega) (by omega)) rfl h)
  clear h
  have HM := Aside0.mk hm
  have HE := Aside0.mk hb
  have HN1 := Aside0.mk (show 1 ≤ n by omega)
  have HX := Aside0.mk hx
  clear hm hb hx
  go_enter Tryz.func68, Tryz.ntmps68
  go_wp2_with (first
    | (go_at_call 109; with_reducible refine H.out.mono ?_; rintro e w1 ⟨rfl, hg, hc⟩; have HG1 := Aside0.mk hg; have HC1 := Aside0.mk hc; clear hg hc)
    | (go_at_call 109; with_reducible refine (gx_fixed_ok w1 base B r (r.drop n) n (b - 128) x HE.out HN1.out HM.out HX.out rfl HG1.out).mono ?_; rintro e w2 ⟨rfl, hg, hc⟩; have HG2 := Aside0.mk hg; have HC2 := Aside0.mk hc; clear hg hc)
    | (go_at_call 110; with_reducible refine (gx_fail _ base B (r.drop n) false HG2.out).mono ?_; rintro e w5 ⟨rfl, hg, hc⟩; have HG5 := Aside0.mk hg; have HC5 := Aside0.mk (HC2.out.trans hc); clear hg hc)
    | (go_at_call 112; with_reducible refine (gx_ok _ base B [] true false rfl HG5.out).mono ?_; rintro e w9 ⟨rfl, rfl⟩))
  go_ret
  exact ⟨rfl, HG5.out, HC1.out.trans HC5.out⟩
theorem gN_odd2 (w : World) (base B : Nat) (mx b x : Int) (n : Nat) (r : List Int) (hb : (n : Int) = b - 128) (hn1 : 128 < b) (hn8 : b ≤ 136) (hm : n ≤ r.length) (hx : bigN (r.take n) = x) (hx0 : 0 ≤ x) (hx1 : x < 128) (hxm : mx < x) (h : GX w base B (b :: r) false) :
    Calls Tryz.prog 68 #[.pointer (some ⟨B, 0, none⟩), .int .u64 mx] w fun e w' => e = .returned (.int .u64 0) ∧ GX w' base B [] true ∧ Chg w w' (fun k => k = B) := by
  have H := Aside0.mk (gx_fixed_ok w base B (b :: r) r 1 1 b rfl (by omega) (by simp) (bigN_one _ (by omega) (by omega)) rfl h)
  clear h
  have HM := Aside0.mk hm
  have HE := Aside0.mk hb
  have HN1 := Aside0.mk (show 1 ≤ n by omega)
  have HX := Aside0.mk hx
  clear hm hb hx
  go_enter Tryz.func68, Tryz.ntmps68
  go_wp2_with (first
    | (go_at_call 109; with_reducible refine H.out.mono ?_; rintro e w1 ⟨rfl, hg, hc⟩; have HG1 := Aside0.mk hg; have HC1 := Aside0.mk hc; clear hg hc)
    | (go_at_call 109; with_reducible refine (gx_fixed_ok w1 base B r (r.drop n) n (b - 128) x HE.out HN1.out HM.out HX.out rfl HG1.out).mono ?_; rintro e w2 ⟨rfl, hg, hc⟩; have HG2 := Aside0.mk hg; have HC2 := Aside0.mk hc; clear hg hc)
    | (go_at_call 110; with_reducible refine (gx_fail _ base B (r.drop n) false HG2.out).mono ?_; rintro e w5 ⟨rfl, hg, hc⟩; have HG5 := Aside0.mk hg; have HC5 := Aside0.mk (HC2.out.trans hc); clear hg hc)
    | (go_at_call 110; with_reducible refine (gx_fail _ base B [] true HG5.out).mono ?_; rintro e w6 ⟨rfl, hg, hc⟩; have HG6 := Aside0.mk hg; have HC6 := Aside0.mk (HC5.out.trans hc); clear hg hc)
    | (go_at_call 112; with_reducible refine (gx_ok _ base B [] true false rfl HG6.out).mono ?_; rintro e w9 ⟨rfl, rfl⟩))
  go_ret
  exact ⟨rfl, HG6.out, HC1.out.trans HC6.out⟩
theorem gN_odd3 (w : World) (base B : Nat) (mx b x : Int) (n : Nat) (r : List Int) (hb : (n : Int) = b - 128) (hn1 : 128 < b) (hn8 : b ≤ 136) (hm : n ≤ r.length) (hx : bigN (r.take n) = x) (hx0 : 0 ≤ x) (hx1 : 128 ≤ x) (hs : ¬ ((szN x : Int) = b - 128)) (hxm : x ≤ mx) (h : GX w base B (b :: r) false) :
    Calls Tryz.prog 68 #[.pointer (some ⟨B, 0, none⟩), .int .u64 mx] w fun e w' => e = .returned (.int .u64 0) ∧ GX w' base B [] true ∧ Chg w w' (fun k => k = B) := by
  have H := Aside0.mk (gx_fixed_ok w base B (b :: r) r 1 1 b rfl (by omega) (by simp) (bigN_one _ (by omega) (by omega)) rfl h)
  clear h
  have HM := Aside0.mk hm
  have HE := Aside0.mk hb
  have HN1 := Aside0.mk (show 1 ≤ n by omega)
  have HX := Aside0.mk hx
  have HSZ := Aside0.mk (size_f x hx0)
  obtain ⟨sx, hsx⟩ : ∃ sx : Int, (szN x : Int) = sx := ⟨_, rfl⟩
  rw [hsx] at HSZ hs
  have hne : (sx != b - 128) = true := by simpa using hs
  clear hm hb hx hsx hs
  go_enter Tryz.func68, Tryz.ntmps68
  go_wp2_with (first
    | (go_at_call 109; with_reducible refine H.out.mono ?_; rintro e w1 ⟨rfl, hg, hc⟩; have HG1 := Aside0.mk hg; have HC1 := Aside0.mk hc; clear hg hc)
    | (go_at_call 109; with_reducible refine (gx_fixed_ok w1 base B r (r.drop n) n (b - 128) x HE.out HN1.out HM.out HX.out rfl HG1.out).mono ?_; rintro e w2 ⟨rfl, hg, hc⟩; have HG2 := Aside0.mk hg; have HC2 := Aside0.mk hc; clear hg hc)
    | (go_at_call 111; refine (codec_size.calls 9 x sx _ HSZ.out).mono ?_; rintro e w3 ⟨rfl, hd⟩; obtain ⟨nd, rfl⟩ := hd.out; have HG3 := Aside0.mk (HG2.out.drewN nd); have HC3 := Aside0.mk (chg_drewN HC2.out nd))
    | (go_at_call 110; with_reducible refine (gx_fail _ base B (r.drop n) false HG3.out).mono ?_; rintro e w5 ⟨rfl, hg, hc⟩; have HG5 := Aside0.mk hg; have HC5 := Aside0.mk (HC3.out.trans hc); clear hg hc)
    | (go_at_call 112; with_reducible refine (gx_ok _ base B [] true false rfl HG5.out).mono ?_; rintro e w9 ⟨rfl, rfl⟩))
  go_ret
  exact ⟨rfl, HG5.out, HC1.out.trans HC5.out⟩
theorem gN_odd4 (w : World) (base B : Nat) (mx b x : Int) (n : Nat) (r : List Int) (hb : (n : Int) = b - 128) (hn1 : 128 < b) (hn8 : b ≤ 136) (hm : n ≤ r.length) (hx : bigN (r.take n) = x) (hx0 : 0 ≤ x) (hx1 : 128 ≤ x) (hs : ¬ ((szN x : Int) = b - 128)) (hxm : mx < x) (h : GX w base B (b :: r) false) :
    Calls Tryz.prog 68 #[.pointer (some ⟨B, 0, none⟩), .int .u64 mx] w fun e w' => e = .returned (.int .u64 0) ∧ GX w' base B [] true ∧ Chg w w' (fun k => k = B) := by
  have H := Aside0.mk (gx_fixed_ok w base B (b :: r) r 1 1 b rfl (by omega) (by simp) (bigN_one _ (by omega) (by omega)) rfl h)
  clear h
  have HM := Aside0.mk hm
  have HE := Aside0.mk hb
  have HN1 := Aside0.mk (show 1 ≤ n by omega)
  have HX := Aside0.mk hx
  have HSZ := Aside0.mk (size_f x hx0)
  obtain ⟨sx, hsx⟩ : ∃ sx : Int, (szN x : Int) = sx := ⟨_, rfl⟩
  rw [hsx] at HSZ hs
  have hne : (sx != b - 128) = true := by simpa using hs
  clear hm hb hx hsx hs
  go_enter Tryz.func68, Tryz.ntmps68
  go_wp2_with (first
    | (go_at_call 109; with_reducible refine H.out.mono ?_; rintro e w1 ⟨rfl, hg, hc⟩; have HG1 := Aside0.mk hg; have HC1 := Aside0.mk hc; clear hg hc)
    | (go_at_call 109; with_reducible refine (gx_fixed_ok w1 base B r (r.drop n) n (b - 128) x HE.out HN1.out HM.out HX.out rfl HG1.out).mono ?_; rintro e w2 ⟨rfl, hg, hc⟩; have HG2 := Aside0.mk hg; have HC2 := Aside0.mk hc; clear hg hc)
    | (go_at_call 111; refine (codec_size.calls 9 x sx _ HSZ.out).mono ?_; rintro e w3 ⟨rfl, hd⟩; obtain ⟨nd, rfl⟩ := hd.out; have HG3 := Aside0.mk (HG2.out.drewN nd); have HC3 := Aside0.mk (chg_drewN HC2.out nd))
    | (go_at_call 110; with_reducible refine (gx_fail _ base B (r.drop n) false HG3.out).mono ?_; rintro e w5 ⟨rfl, hg, hc⟩; have HG5 := Aside0.mk hg; have HC5 := Aside0.mk (HC3.out.trans hc); clear hg hc)
    | (go_at_call 110; with_reducible refine (gx_fail _ base B [] true HG5.out).mono ?_; rintro e w6 ⟨rfl, hg, hc⟩; have HG6 := Aside0.mk hg; have HC6 := Aside0.mk (HC5.out.trans hc); clear hg hc)
    | (go_at_call 112; with_reducible refine (gx_ok _ base B [] true false rfl HG6.out).mono ?_; rintro e w9 ⟨rfl, rfl⟩))
  go_ret
  exact ⟨rfl, HG6.out, HC1.out.trans HC6.out⟩
theorem gN_wbig (w : World) (base B : Nat) (mx b x : Int) (n : Nat) (r : List Int) (hb : (n : Int) = b - 128) (hn1 : 128 < b) (hn8 : b ≤ 136) (hm : n ≤ r.length) (hx : bigN (r.take n) = x) (hx0 : 0 ≤ x) (hx1 : 128 ≤ x) (hs : (szN x : Int) = b - 128) (hxm : mx < x) (h : GX w base B (b :: r) false) :
    Calls Tryz.prog 68 #[.pointer (some ⟨B, 0, none⟩), .int .u64 mx] w fun e w' => e = .returned (.int .u64 0) ∧ GX w' base B [] true ∧ Chg w w' (fun k => k = B) := by
  have H := Aside0.mk (gx_fixed_ok w base B (b :: r) r 1 1 b rfl (by omega) (by simp) (bigN_one _ (by omega) (by omega)) rfl h)
  clear h
  have HM := Aside0.mk hm
  have HE := Aside0.mk hb
  have HN1 := Aside0.mk (show 1 ≤ n by omega)
  have HX := Aside0.mk hx
  have HSZ := Aside0.mk (show codec_size.f 9 x = some (b - 128) from by rw [← hs]; exact size_f x (by omega))
  clear hm hb hx hs
  go_enter Tryz.func68, Tryz.ntmps68
  go_wp2_with (first
    | (go_at_call 109; with_reducible refine H.out.mono ?_; rintro e w1 ⟨rfl, hg, hc⟩; have HG1 := Aside0.mk hg; have HC1 := Aside0.mk hc; clear hg hc)
    | (go_at_call 109; with_reducible refine (gx_fixed_ok w1 base B r (r.drop n) n (b - 128) x HE.out HN1.out HM.out HX.out rfl HG1.out).mono ?_; rintro e w2 ⟨rfl, hg, hc⟩; have HG2 := Aside0.mk hg; have HC2 := Aside0.mk hc; clear hg hc)
    | (go_at_call 111; refine (codec_size.calls 9 x (b - 128) _ HSZ.out).mono ?_; rintro e w3 ⟨rfl, hd⟩; obtain ⟨nd, rfl⟩ := hd.out; have HG3 := Aside0.mk (HG2.out.drewN nd); have HC3 := Aside0.mk (chg_drewN HC2.out nd))
    | (go_at_call 110; with_reducible refine (gx_fail _ base B (r.drop n) false HG3.out).mono ?_; rintro e w5 ⟨rfl, hg, hc⟩; have HG5 := Aside0.mk hg; have HC5 := Aside0.mk (HC3.out.trans hc); clear hg hc)
    | (go_at_call 112; with_reducible refine (gx_ok _ base B [] true false rfl HG5.out).mono ?_; rintro e w9 ⟨rfl, rfl⟩))
  go_ret
  exact ⟨rfl, HG5.out, HC1.out.trans HC5.out⟩
end Go.Proofs.YtlepcmljmibdnaaGreat
namespace Go.Proofs.YtlepcmljmibdnaaGreat
open Go.RowKit Go.Proofs.YtlepcmljmibdnaaGreatW.PrintWords Go.Proofs.YtlepcmljmibdnaaGreatW.PrintLast Go.Proofs.YtlepcmljmibdnaaGreatW.PrintMore PWalOpens
set_option linter.unusedVariables false
set_option linter.unusedSimpArgs false
theorem gread_calls (w : World) (A : Option Addr) (c : Nat) (b : List Int) (hl : b.length ≤ 1000000) (hn : A = none → b.length = 0 ∧ c = 0) (hC : (Kd.int .u8).C w A b.length b) :
    Calls Tryz.prog 66 #[.slice A b.length c] w fun e w' => ∃ B, e = .returned (.pointer (some ⟨B, 0, none⟩)) ∧ GX w' w.heap.size B b false ∧ Below w.heap.size w w' := by
  have H := Aside0.mk (clone_any w A c b hl hn hC)
  clear hn hC
  go_enter Tryz.func66, Tryz.ntmps66
  go_wp2_with (go_at_call 86; with_reducible refine H.out.mono ?_; rintro e w1 ⟨A1, c1, rfl, hr, hb⟩; have HR1 := Aside0.mk hr; have HB1 := Aside0.mk hb; clear hr hb)
  go_ret
  obtain ⟨_, _, h3⟩ := Kd.R_reads' HR1.out
  have h2 := (Kd.R_reads' HR1.out).2.1
  have hlt := Kd.R_lt HR1.out
  obtain ⟨_, inner, ho, _⟩ := HR1.out
  have hb2 := below_alloc HB1.out (.cells #[.slice A1 b.length c1, .bool false] 179)
  refine ⟨w1.heap.size, rfl, ⟨A1, c1, ⟨by rw [show (w1.alloc (.cells #[.slice A1 b.length c1, .bool false] 179)).heap = w1.heap.push (.cells #[.slice A1 b.length c1, .bool false] 179) from rfl]; simp, Kd.C_alloc h3 _, h2, fun ad e => ?_, HB1.out.size⟩, ?_, ?_, ?_⟩, hb2⟩
  · subst e
    have := hlt ad.block rfl
    omega
  · rcases ho.2 with ⟨e, _⟩ | ⟨g, cap, cur, e, _, _, _, hm, _⟩
    · injection e with e1 e2 e3; omega
    · injection e with e1 e2 e3; rw [e3]; exact Nat.le_trans hm (by decide)
  · intro e
    subst e
    rcases ho.2 with ⟨e, h0⟩ | ⟨g, cap, cur, e, _⟩
    · exact List.length_eq_zero_iff.mp h0
    · injection e with e1; cases e1
  · intro ad e
    subst e
    rcases ho.2 with ⟨e, _⟩ | ⟨g, cap, cur, e, _⟩
    · injection e with e1; cases e1
    · injection e with e1; cases e1; rfl
end Go.Proofs.YtlepcmljmibdnaaGreat
namespace Go.Proofs.YtlepcmljmibdnaaGreat
open Go.RowKit Go.Proofs.YtlepcmljmibdnaaGreatW.PrintWords Go.Proofs.YtlepcmljmibdnaaGreatW.PrintLast Go.Proofs.YtlepcmljmibdnaaGreatW.PrintMore PWalOpens
set_option linter.unusedVariables false
set_option linter.unusedSimpArgs false
/-- the reference's reader at block B -/
structure HK (w : World) (base B : Nat) (A : Option Addr) (c : Nat) (xs : List Int) (bad : Bool) : Prop where
  blk : w.heap[B]? = some (.cells #[.slice A xs.length c, .bool bad] 135 (0, 0))
  C : (Kd.int .u8).C w A xs.length xs
  cap : xs.length ≤ c
  away : ∀ ad, A = some ad → ad.block < B
  hB : base ≤ B
def HX (w : World) (base B : Nat) (xs : List Int) (bad : Bool) : Prop := ∃ A c, HK w base B A c xs bad ∧ c ≤ 9223372036854775807 ∧ (A = none → xs = [])
theorem HX.keep {w w' : World} {base B : Nat} {xs : List Int} {bad : Bool} {S : Nat → Prop} (h : HX w base B xs bad) (hc : Chg w w' S) (hS : ∀ k, k ≤ B → ¬ S k) : HX w' base B xs bad := by
  obtain ⟨A, c, hk, hr⟩ := h
  have hl : B < w.heap.size := (Array.getElem?_eq_some_iff.1 hk.blk).1
  refine ⟨A, c, ⟨(hc.block B hl (hS B (Nat.le_refl _))).trans hk.blk, ?_, hk.cap, hk.away, hk.hB⟩, hr⟩
  exact Kd.C_foot_neS (fun h => h) hk.C (fun a e _ hb => hS _ (Nat.le_of_lt (hk.away a e)) hb) _ ⟨hc.size, fun i hi hn => hc.block i hi hn⟩
theorem HX.of_bad {w : World} {base B : Nat} (h : HK w base B none 0 [] true) : HX w base B [] true := ⟨none, 0, h, by omega, fun _ => rfl⟩
theorem hfail_calls (w : World) (base B : Nat) (A : Option Addr) (c : Nat) (xs : List Int) (bad : Bool) (h : HK w base B A c xs bad) :
    Calls Tryz.prog 116 #[.pointer (some ⟨B, 0, none⟩)] w fun e w' => e = .returned (.tuple #[]) ∧ HK w' base B none 0 [] true ∧ Chg w w' (fun k => k = B) := by
  have HG := Aside0.mk h
  obtain ⟨q0, q1, f0, f1⟩ := cells2 h.blk
  clear h
  go_enter Tryz.func116, Tryz.ntmps116
  go_wp2
  go_end0
  have ho := ((Only.refl w B).set (i := 1) (.bool true)).set (i := 0) (.slice none 0 0)
  exact ⟨rfl, ⟨set7 (set7 HG.out.blk 1 (.bool true)) 0 (.slice none 0 0), Kd.C_nil _ _, Nat.le_refl _, fun ad h => (by cases h), HG.out.hB⟩, ho.chg fun _ h => h⟩
theorem hnumber_bad (w : World) (base B : Nat) (A : Option Addr) (c : Nat) (xs : List Int) (bad : Bool) (k : Nat) (hk : xs.length < k) (h : HK w base B A c xs bad) :
    Calls Tryz.prog 115 #[.pointer (some ⟨B, 0, none⟩), .int .i64 k] w fun e w' => e = .returned (.int .u64 0) ∧ HK w' base B none 0 [] true ∧ Chg w w' (fun k => k = B) := by
  have HG := Aside0.mk h
  obtain ⟨q0, q1, f0, f1⟩ := cells2 h.blk
  have hk' : (xs.length : Int) < (k : Int) := by omega
  clear h hk
  go_enter Tryz.func115, Tryz.ntmps115
  go_wp2_with (go_at_call 116; with_reducible refine (hfail_calls w base B A c xs bad HG.out).mono ?_; rintro e w1 ⟨rfl, hg, hc⟩; have HG1 := Aside0.mk hg; have HC1 := Aside0.mk hc; clear hg hc)
  go_ret
  exact ⟨rfl, HG1.out, HC1.out⟩
def bigA (a b : Int) : Int := IntKind.u64.wrap (IntKind.u64.wrap (a * 256) + IntKind.u64.wrap b)
def bigM (l : List Int) : Int := l.foldl bigA 0
theorem bigM_succ (l : List Int) (i : Nat) (n : Int) (h : l[i]? = some n) : bigM (l.take (i + 1)) = bigA (bigM (l.take i)) n := by
  unfold bigM
  rw [List.take_add_one, h, List.foldl_append]
  rfl
theorem hnumber_good (w : World) (base B : Nat) (ad : Addr) (c : Nat) (xs : List Int) (k : Nat) (hk : k ≤ xs.length) (hc63 : c ≤ 9223372036854775807) (h : HK w base B (some ad) c xs false) :
    Calls Tryz.prog 115 #[.pointer (some ⟨B, 0, none⟩), .int .i64 k] w fun e w' => e = .returned (.int .u64 (bigM (xs.take k))) ∧ HX w' base B (xs.drop k) false ∧ Chg w w' (fun k => k = B) := by
  have HG := Aside0.mk h
  obtain ⟨q0, q1, f0, f1⟩ := cells2 h.blk
  have hcap : (xs.length : Int) ≤ (c : Int) := by have := h.cap; omega
  have hk1 : (k : Int) ≤ (xs.length : Int) := by omega
  have hk2 : ¬ ((xs.length : Int) < (k : Int)) := by omega
  have HR := Aside0.mk (Kd.C_take h.C hk)
  obtain ⟨ys, hys⟩ : ∃ ys, xs.take k = ys := ⟨_, rfl⟩
  have hyl : ys.length = k := by rw [← hys, List.length_take]; omega
  rw [hys] at HR ⊢
  have HY := Aside0.mk hys
  clear h hk hys
  subst hyl
  go_enter Tryz.func115, Tryz.ntmps115
  go_wp2
  go_loopg [5, 24] ys.length (fun kq v5 v24 w' => ∃ i : Nat, v24 = .int .i64 (i : Int) ∧ v5 = .int .u64 (bigM (ys.take i)) ∧ Aside0 (i + kq = ys.length) ∧ w' = w)
  case atStart => exact ⟨0, rfl, rfl, ⟨by omega⟩, rfl⟩
  case round =>
    obtain ⟨i, rfl, rfl, HI, rfl⟩ := hrel
    by_cases hi : i < ys.length
    · obtain ⟨n, hnn⟩ : ∃ n, ys[i]? = some n := ⟨_, List.getElem?_eq_getElem hi⟩
      obtain ⟨a2, e, x0⟩ := Kd.at_int HR.out (i : Int) (by omega) (by omega)
      cases e
      rw [show rd ys (i : Int) = n by simp [rd, List.getD, hnn], Int.toNat_natCast] at x0
      have HNN := Aside0.mk hnn
      clear hnn
      go_wp2
      have hk1 := HI.out
      obtain ⟨gq, rfl⟩ : ∃ gq, gk = gq + 1 := ⟨gk - 1, by omega⟩
      go_roundg gq
      case rel => exact ⟨i + 1, by go_num, by rw [bigM_succ ys i n HNN.out]; rfl, ⟨by omega⟩, rfl⟩
      case measure => omega
    · have hi0 := HI.out
      obtain rfl : gk = 0 := by omega
      obtain rfl : i = ys.length := by omega
      clear hi0
      have hm : ¬ ((ys.length : Int) < (ys.length : Int)) := by omega
      have hxl : ys.length ≤ xs.length := by rw [← HY.out, List.length_take]; omega
      by_cases hkc : ys.length = c
      · subst hkc
        clear hcap
        go_wp2
        go_ret
        have ho := (Only.refl wr B).set (i := 0) (.slice (some ad) (xs.length - ys.length) 0)
        have C1 := Kd.C_foot_neS (fun h => h) HG.out.C (fun a e _ hb => Nat.ne_of_lt (HG.out.away a e) hb) _ ho.kept
        have C2 := Kd.C_drop (m := ys.length) (c := ys.length) C1 hxl HG.out.cap
        rw [if_pos rfl] at C2
        refine ⟨?_, ⟨some ad, 0, ⟨?_, C2, ?_, fun a e => HG.out.away a e, HG.out.hB⟩, by omega, fun e => (by cases e)⟩, ho.chg fun _ h => h⟩
        · rfl
        · rw [List.length_drop]; exact set7 HG.out.blk 0 _
        · rw [List.length_drop]; have := HG.out.cap; omega
      · have hkc' : (ys.length : Int) < (c : Int) := by omega
        go_wp2
        go_ret
        have ho := (Only.refl wr B).set (i := 0) (.slice (some (ad.add ys.length)) (xs.length - ys.length) (c - ys.length))
        have C1 := Kd.C_foot_neS (fun h => h) HG.out.C (fun a e _ hb => Nat.ne_of_lt (HG.out.away a e) hb) _ ho.kept
        have C2 := Kd.C_drop (m := ys.length) (c := c) C1 hxl HG.out.cap
        rw [if_neg (by omega)] at C2
        have hm : ys.length * (Kd.int .u8).sz = ys.length := Nat.mul_one _
        simp only [Option.map_some, hm] at C2
        refine ⟨?_, ⟨some (ad.add ys.length), c - ys.length, ⟨?_, C2, ?_, ?_, HG.out.hB⟩, by omega, fun e => (by cases e)⟩, ho.chg fun _ h => h⟩
        · rfl
        · rw [List.length_drop]; exact set7 HG.out.blk 0 _
        · rw [List.length_drop]; have := HG.out.cap; omega
        · rintro a ⟨⟩; rw [add_block]; exact HG.out.away ad rfl
end Go.Proofs.YtlepcmljmibdnaaGreat
namespace Go.Proofs.YtlepcmljmibdnaaGreat
open Go.RowKit Go.Proofs.YtlepcmljmibdnaaGreatW.PrintWords Go.Proofs.YtlepcmljmibdnaaGreatW.PrintLast Go.Proofs.YtlepcmljmibdnaaGreatW.PrintMore PWalOpens
set_option linter.unusedVariables false
set_option linter.unusedSimpArgs false
theorem HX.badc {w : World} {base B : Nat} {xs : List Int} {bad : Bool} (h : HX w base B xs bad) : w.cell? ⟨B, 1, none⟩ = some (.bool bad) := by
  obtain ⟨A, c, h, _⟩ := h
  exact (cells2 h.blk).2.1
theorem hx_fail (w : World) (base B : Nat) (xs : List Int) (bad : Bool) (h : HX w base B xs bad) :
    Calls Tryz.prog 116 #[.pointer (some ⟨B, 0, none⟩)] w fun e w' => e = .returned (.tuple #[]) ∧ HX w' base B [] true ∧ Chg w w' (fun k => k = B) := by
  obtain ⟨A, c, h, _⟩ := h
  refine (hfail_calls w base B A c xs bad h).mono ?_
  rintro e w' ⟨rfl, h1, h2⟩
  exact ⟨rfl, .of_bad h1, h2⟩
theorem hx_fixed_ok (w : World) (base B : Nat) (xs r : List Int) (k : Nat) (kI v : Int) (hkI : (k : Int) = kI) (h1 : 1 ≤ k) (hk : k ≤ xs.length) (hv : bigM (xs.take k) = v) (hr : xs.drop k = r) (h : HX w base B xs false) :
    Calls Tryz.prog 115 #[.pointer (some ⟨B, 0, none⟩), .int .i64 kI] w fun e w' => e = .returned (.int .u64 v) ∧ HX w' base B r false ∧ Chg w w' (fun k => k = B) := by
  subst hkI hv hr
  obtain ⟨A, c, h, hc, hA⟩ := h
  cases A with
  | none => rw [hA rfl] at hk; simp at hk; omega
  | some ad => exact hnumber_good w base B ad c xs k hk hc h
theorem hx_fixed_no (w : World) (base B : Nat) (xs : List Int) (bad : Bool) (k : Nat) (kI : Int) (hkI : (k : Int) = kI) (hk : xs.length < k) (h : HX w base B xs bad) :
    Calls Tryz.prog 115 #[.pointer (some ⟨B, 0, none⟩), .int .i64 kI] w fun e w' => e = .returned (.int .u64 0) ∧ HX w' base B [] true ∧ Chg w w' (fun k => k = B) := by
  subst hkI
  obtain ⟨A, c, h, hc, hA⟩ := h
  refine (hnumber_bad w base B A c xs bad k hk h).mono ?_
  rintro e w' ⟨rfl, h1, h2⟩
  exact ⟨rfl, .of_bad h1, h2⟩
theorem bigM_one (b : Int) (h0 : 0 ≤ b) (h : b < 256) : bigM [b] = b := by
  show ((0 * 256 % 18446744073709551616) + (b % 18446744073709551616)) % 18446744073709551616 = b
  omega
theorem hN_no (w : World) (base B : Nat) (mx : Int) (h0 : 0 ≤ mx) (xs : List Int) (bad : Bool) (hb : xs.length < 1) (h : HX w base B xs bad) :
    Calls Tryz.prog 72 #[.pointer (some ⟨B, 0, none⟩), .int .u64 mx] w fun e w' => e = .returned (.int .u64 0) ∧ HX w' base B [] true ∧ Chg w w' (fun k => k = B) := by
  have H := Aside0.mk (hx_fixed_no w base B xs bad 1 1 rfl hb h)
  clear h hb
  go_enter Tryz.func72, Tryz.ntmps72
  go_wp2_with (first
    | (go_at_call 115; with_reducible refine H.out.mono ?_; rintro e w1 ⟨rfl, hg, hc⟩; have HG1 := Aside0.mk hg; have c1 := hg.badc; have HC1 := Aside0.mk hc; clear hg hc))
  go_ret
  exact ⟨rfl, HG1.out, HC1.out⟩
theorem hN_small (w : World) (base B : Nat) (mx b : Int) (r : List Int) (hb0 : 0 ≤ b) (hb : b < 128) (hm : b ≤ mx) (h : HX w base B (b :: r) false) :
    Calls Tryz.prog 72 #[.pointer (some ⟨B, 0, none⟩), .int .u64 mx] w fun e w' => e = .returned (.int .u64 b) ∧ HX w' base B r false ∧ Chg w w' (fun k => k = B) := by
  have H := Aside0.mk (hx_fixed_ok w base B (b :: r) r 1 1 b rfl (by omega) (by simp) (bigM_one b hb0 (by omega)) rfl h)
  clear h
  go_enter Tryz.func72, Tryz.ntmps72
  go_wp2_with (first
    | (go_at_call 115; with_reducible refine H.out.mono ?_; rintro e w1 ⟨rfl, hg, hc⟩; have HG1 := Aside0.mk hg; have c1 := hg.badc; have HC1 := Aside0.mk hc; clear hg hc))
  go_ret
  exact ⟨rfl, HG1.out, HC1.out⟩
theorem hN_big (w : World) (base B : Nat) (mx b : Int) (r : List Int) (hb0 : 0 ≤ b) (hb : b < 128) (hm : mx < b) (h : HX w base B (b :: r) false) :
    Calls Tryz.prog 72 #[.pointer (some ⟨B, 0, none⟩), .int .u64 mx] w fun e w' => e = .returned (.int .u64 0) ∧ HX w' base B [] true ∧ Chg w w' (fun k => k = B) := by
  have H := Aside0.mk (hx_fixed_ok w base B (b :: r) r 1 1 b rfl (by omega) (by simp) (bigM_one b hb0 (by omega)) rfl h)
  clear h
  go_enter Tryz.func72, Tryz.ntmps72
  go_wp2_with (first
    | (go_at_call 115; with_reducible refine H.out.mono ?_; rintro e w1 ⟨rfl, hg, hc⟩; have HG1 := Aside0.mk hg; have c1 := hg.badc; have HC1 := Aside0.mk hc; clear hg hc)
    | (go_at_call 116; with_reducible refine (hx_fail w1 base B r false HG1.out).mono ?_; rintro e w2 ⟨rfl, hg, hc⟩; have HG2 := Aside0.mk hg; have c2 := hg.badc; have HC2 := Aside0.mk hc; clear hg hc))
  go_ret
  exact ⟨rfl, HG2.out, HC1.out.trans HC2.out⟩
theorem hN_width (w : World) (base B : Nat) (mx b : Int) (r : List Int) (hb0 : 128 ≤ b) (hb : b < 256) (hm : b = 128 ∨ 136 < b) (h : HX w base B (b :: r) false) :
    Calls Tryz.prog 72 #[.pointer (some ⟨B, 0, none⟩), .int .u64 mx] w fun e w' => e = .returned (.int .u64 0) ∧ HX w' base B [] true ∧ Chg w w' (fun k => k = B) := by
  have H := Aside0.mk (hx_fixed_ok w base B (b :: r) r 1 1 b rfl (by omega) (by simp) (bigM_one b (by omega) (by omega)) rfl h)
  clear h
  by_cases h1 : b = 128
  · subst h1
    clear hm
    go_enter Tryz.func72, Tryz.ntmps72
    go_wp2_with (first
      | (go_at_call 115; with_reducible refine H.out.mono ?_; rintro e w1 ⟨rfl, hg, hc⟩; have HG1 := Aside0.mk hg; have c1 := hg.badc; have HC1 := Aside0.mk hc; clear hg hc)
      | (go_at_call 116; with_reducible refine (hx_fail w1 base B r false HG1.out).mono ?_; rintro e w2 ⟨rfl, hg, hc⟩; have HG2 := Aside0.mk hg; have c2 := hg.badc; have HC2 := Aside0.mk hc; clear hg hc))
    go_ret
    exact ⟨rfl, HG2.out, HC1.out.trans HC2.out⟩
  · have h2 : 136 < b := by omega
    clear hm h1
    go_enter Tryz.func72, Tryz.ntmps72
    go_wp2_with (first
      | (go_at_call 115; with_reducible refine H.out.mono ?_; rintro e w1 ⟨rfl, hg, hc⟩; have HG1 := Aside0.mk hg; have c1 := hg.badc; have HC1 := Aside0.mk hc; clear hg hc)
      | (go_at_call 116; with_reducible refine (hx_fail w1 base B r false HG1.out).mono ?_; rintro e w2 ⟨rfl, hg, hc⟩; have HG2 := Aside0.mk hg; have c2 := hg.badc; have HC2 := Aside0.mk hc; clear hg hc))
    go_ret
    exact ⟨rfl, HG2.out, HC1.out.trans HC2.out⟩
theorem hN_short (w : World) (base B : Nat) (mx b : Int) (h0 : 0 ≤ mx) (n : Nat) (r : List Int) (hb : (n : Int) = b - 128) (hn1 : 128 < b) (hn8 : b ≤ 136) (hm : r.length < n) (h : HX w base B (b :: r) false) :
    Calls Tryz.prog 72 #[.pointer (some ⟨B, 0, none⟩), .int .u64 mx] w fun e w' => e = .returned (.int .u64 0) ∧ HX w' base B [] true ∧ Chg w w' (fun k => k = B) := by
  have H := Aside0.mk (hx_fixed_ok w base B (b :: r) r 1 1 b rfl (by omega) (by simp) (bigM_one _ (by omega) (by omega)) rfl h)
  clear h
  have HM := Aside0.mk hm
  have HE := Aside0.mk hb
  clear hm hb
  go_enter Tryz.func72, Tryz.ntmps72
  go_wp2_with (first
    | (go_at_call 115; with_reducible refine H.out.mono ?_; rintro e w1 ⟨rfl, hg, hc⟩; have HG1 := Aside0.mk hg; have c1 := hg.badc; have HC1 := Aside0.mk hc; clear hg hc)
    | (go_at_call 115; with_reducible refine (hx_fixed_no w1 base B r false n (b - 128) HE.out HM.out HG1.out).mono ?_; rintro e w2 ⟨rfl, hg, hc⟩; have HG2 := Aside0.mk hg; have c2 := hg.badc; have HC2 := Aside0.mk hc; clear hg hc)
    | (go_at_call 116; with_reducible refine (hx_fail w2 base B [] true HG2.out).mono ?_; rintro e w3 ⟨rfl, hg, hc⟩; have HG3 := Aside0.mk hg; have c3 := hg.badc; have HC3 := Aside0.mk hc; clear hg hc))
  go_ret
  exact ⟨rfl, HG3.out, (HC1.out.trans HC2.out).trans HC3.out⟩
theorem HX.drewN {w : World} {base B : Nat} {xs : List Int} {bad : Bool} (h : HX w base B xs bad) (n : Nat) : HX (w.drewN n) base B xs bad := by
  obtain ⟨A, c, h, hr⟩ := h
  exact ⟨A, c, ⟨h.blk, Kd.C_drewN h.C n, h.cap, h.away, h.hB⟩, hr⟩
theorem hN_wide (w : World) (base B : Nat) (mx b x : Int) (n : Nat) (r : List Int) (hb : (n : Int) = b - 128) (hn1 : 128 < b) (hn8 : b ≤ 136) (hm : n ≤ r.length) (hx : bigM (r.take n) = x) (hx1 : 128 ≤ x) (hs : (szN x : Int) = b - 128) (hxm : x ≤ mx) (h : HX w base B (b :: r) false) :
    Calls Tryz.prog 72 #[.pointer (some ⟨B, 0, none⟩), .int .u64 mx] w fun e w' => e = .returned (.int .u64 x) ∧ HX w' base B (r.drop n) false ∧ Chg w w' (fun k => k = B) := by
  have H := Aside0.mk (hx_fixed_ok w base B (b :: r) r 1 1 b rfl (by omega) (by simp) (bigM_one _ (by omega) (by omega)) rfl h)
  clear h
  have HM := Aside0.mk hm
  have HE := Aside0.mk hb
  have HN1 := Aside0.mk (show 1 ≤ n by omega)
  have HXX := Aside0.mk hx
  have HSZ := Aside0.mk (show factotumref01_wide.f 9 x = some (b - 128) from by rw [← hs]; exact wide_f x)
  clear hm hb hx hs
  go_enter Tryz.func72, Tryz.ntmps72
  go_wp2_with (first
    | (go_at_call 115; with_reducible refine H.out.mono ?_; rintro e w1 ⟨rfl, hg, hc⟩; have HG1 := Aside0.mk hg; have c1 := hg.badc; have HC1 := Aside0.mk hc; clear hg hc)
    | (go_at_call 115; with_reducible refine (hx_fixed_ok w1 base B r (r.drop n) n (b - 128) x HE.out HN1.out HM.out HXX.out rfl HG1.out).mono ?_; rintro e w2 ⟨rfl, hg, hc⟩; have HG2 := Aside0.mk hg; have c2 := hg.badc; have HC2 := Aside0.mk hc; clear hg hc)
    | (go_at_call 117; refine (factotumref01_wide.calls 9 x (b - 128) _ HSZ.out).mono ?_; rintro e w3 ⟨rfl, hd⟩; obtain ⟨nd, rfl⟩ := hd.out; have HG3 := Aside0.mk (HG2.out.drewN nd); have c3 := HG3.out.badc))
  go_ret
  exact ⟨rfl, HG3.out, chg_drewN (HC1.out.trans HC2.out) nd⟩
theorem hN_odd1 (w : World) (base B : Nat) (mx b x : Int) (n : Nat) (r : List Int) (hb : (n : Int) = b - 128) (hn1 : 128 < b) (hn8 : b ≤ 136) (hm : n ≤ r.length) (hx : bigM (r.take n) = x) (hx0 : 0 ≤ x) (hx1 : x < 128) (hxm : x ≤ mx) (h : HX w base B (b :: r) false) :
    Calls Tryz.prog 72 #[.pointer (some ⟨B, 0, none⟩), .int .u64 mx] w fun e w' => e = .returned (.int .u64 0) ∧ HX w' base B [] true ∧ Chg w w' (fun k => k = B) := by
  have H := Aside0.mk (hx_fixed_ok w base B (b :: r) r 1 1 b rfl (by omega) (by simp) (bigM_one _ (by omega) (by omega)) rfl h)
  clear h
  have HM := Aside0.mk hm
  have HE := Aside0.mk hb
  have HN1 := Aside0.mk (show 1 ≤ n by omega)
  have HXX := Aside0.mk hx
  clear hm hb hx
  go_enter Tryz.func72, Tryz.ntmps72
  go_wp2_with (first
    | (go_at_call 115; with_reducible refine H.out.mono ?_; rintro e w1 ⟨rfl, hg, hc⟩; have HG1 := Aside0.mk hg; have c1 := hg.badc; have HC1 := Aside0.mk hc; clear hg hc)
    | (go_at_call 115; with_reducible refine (hx_fixed_ok w1 base B r (r.drop n) n (b - 128) x HE.out HN1.out HM.out HXX.out rfl HG1.out).mono ?_; rintro e w2 ⟨rfl, hg, hc⟩; have HG2 := Aside0.mk hg; have c2 := hg.badc; have HC2 := Aside0.mk hc; clear hg hc)
    | (go_at_call 116; with_reducible refine (hx_fail _ base B (r.drop n) false HG2.out).mono ?_; rintro e w5 ⟨rfl, hg, hc⟩; have HG5 := Aside0.mk hg; have c5 := hg.badc; have HC5 := Aside0.mk (HC2.out.trans hc); clear hg hc))
  go_ret
  exact ⟨rfl, HG5.out, HC1.out.trans HC5.out⟩
theorem hN_odd2 (w : World) (base B : Nat) (mx b x : Int) (n : Nat) (r : List Int) (hb : (n : Int) = b - 128) (hn1 : 128 < b) (hn8 : b ≤ 136) (hm : n ≤ r.length) (hx : bigM (r.take n) = x) (hx0 : 0 ≤ x) (hx1 : x < 128) (hxm : mx < x) (h : HX w base B (b :: r) false) :
    Calls Tryz.prog 72 #[.pointer (some ⟨B, 0, none⟩), .int .u64 mx] w fun e w' => e = .returned (.int .u64 0) ∧ HX w' base B [] true ∧ Chg w w' (fun k => k = B) := by
  have H := Aside0.mk (hx_fixed_ok w base B (b :: r) r 1 1 b rfl (by omega) (by simp) (bigM_one _ (by omega) (by omega)) rfl h)
  clear h
  have HM := Aside0.mk hm
  have HE := Aside0.mk hb
  have HN1 := Aside0.mk (show 1 ≤ n by omega)
  have HXX := Aside0.mk hx
  clear hm hb hx
  go_enter Tryz.func72, Tryz.ntmps72
  go_wp2_with (first
    | (go_at_call 115; with_reducible refine H.out.mono ?_; rintro e w1 ⟨rfl, hg, hc⟩; have HG1 := Aside0.mk hg; have c1 := hg.badc; have HC1 := Aside0.mk hc; clear hg hc)
    | (go_at_call 115; with_reducible refine (hx_fixed_ok w1 base B r (r.drop n) n (b - 128) x HE.out HN1.out HM.out HXX.out rfl HG1.out).mono ?_; rintro e w2 ⟨rfl, hg, hc⟩; have HG2 := Aside0.mk hg; have c2 := hg.badc; have HC2 := Aside0.mk hc; clear hg hc)
    | (go_at_call 116; with_reducible refine (hx_fail _ base B (r.drop n) false HG2.out).mono ?_; rintro e w5 ⟨rfl, hg, hc⟩; have HG5 := Aside0.mk hg; have c5 := hg.badc; have HC5 := Aside0.mk (HC2.out.trans hc); clear hg hc)
    | (go_at_call 116; with_reducible refine (hx_fail _ base B [] true HG5.out).mono ?_; rintro e w6 ⟨rfl, hg, hc⟩; have HG6 := Aside0.mk hg; have c6 := hg.badc; have HC6 := Aside0.mk (HC5.out.trans hc); clear hg hc))
  go_ret
  exact ⟨rfl, HG6.out, HC1.out.trans HC6.out⟩
theorem hN_odd3 (w : World) (base B : Nat) (mx b x : Int) (n : Nat) (r : List Int) (hb : (n : Int) = b - 128) (hn1 : 128 < b) (hn8 : b ≤ 136) (hm : n ≤ r.length) (hx : bigM (r.take n) = x) (hx0 : 0 ≤ x) (hx1 : 128 ≤ x) (hs : ¬ ((szN x : Int) = b - 128)) (hxm : x ≤ mx) (h : HX w base B (b :: r) false) :
    Calls Tryz.prog 72 #[.pointer (some ⟨B, 0, none⟩), .int .u64 mx] w fun e w' => e = .returned (.int .u64 0) ∧ HX w' base B [] true ∧ Chg w w' (fun k => k = B) := by
  have H := Aside0.mk (hx_fixed_ok w base B (b :: r) r 1 1 b rfl (by omega) (by simp) (bigM_one _ (by omega) (by omega)) rfl h)
  clear h
  have HM := Aside0.mk hm
  have HE := Aside0.mk hb
  have HN1 := Aside0.mk (show 1 ≤ n by omega)
  have HXX := Aside0.mk hx
  have HSZ := Aside0.mk (wide_f x)
  obtain ⟨sx, hsx⟩ : ∃ sx : Int, (szN x : Int) = sx := ⟨_, rfl⟩
  rw [hsx] at HSZ hs
  have hne : (sx != b - 128) = true := by simpa using hs
  clear hm hb hx hsx hs
  go_enter Tryz.func72, Tryz.ntmps72
  go_wp2_with (first
    | (go_at_call 115; with_reducible refine H.out.mono ?_; rintro e w1 ⟨rfl, hg, hc⟩; have HG1 := Aside0.mk hg; have c1 := hg.badc; have HC1 := Aside0.mk hc; clear hg hc)
    | (go_at_call 115; with_reducible refine (hx_fixed_ok w1 base B r (r.drop n) n (b - 128) x HE.out HN1.out HM.out HXX.out rfl HG1.out).mono ?_; rintro e w2 ⟨rfl, hg, hc⟩; have HG2 := Aside0.mk hg; have c2 := hg.badc; have HC2 := Aside0.mk hc; clear hg hc)
    | (go_at_call 117; refine (factotumref01_wide.calls 9 x sx _ HSZ.out).mono ?_; rintro e w3 ⟨rfl, hd⟩; obtain ⟨nd, rfl⟩ := hd.out; have HG3 := Aside0.mk (HG2.out.drewN nd); have c3 := HG3.out.badc; have HC3 := Aside0.mk (chg_drewN HC2.out nd))
    | (go_at_call 116; with_reducible refine (hx_fail _ base B (r.drop n) false HG3.out).mono ?_; rintro e w5 ⟨rfl, hg, hc⟩; have HG5 := Aside0.mk hg; have c5 := hg.badc; have HC5 := Aside0.mk (HC3.out.trans hc); clear hg hc))
  go_ret
  exact ⟨rfl, HG5.out, HC1.out.trans HC5.out⟩
theorem hN_odd4 (w : World) (base B : Nat) (mx b x : Int) (n : Nat) (r : List Int) (hb : (n : Int) = b - 128) (hn1 : 128 < b) (hn8 : b ≤ 136) (hm : n ≤ r.length) (hx : bigM (r.take n) = x) (hx0 : 0 ≤ x) (hx1 : 128 ≤ x) (hs : ¬ ((szN x : Int) = b - 128)) (hxm : mx < x) (h : HX w base B (b :: r) false) :
    Calls Tryz.prog 72 #[.pointer (some ⟨B, 0, none⟩), .int .u64 mx] w fun e w' => e = .returned (.int .u64 0) ∧ HX w' base B [] true ∧ Chg w w' (fun k => k = B) := by
  have H := Aside0.mk (hx_fixed_ok w base B (b :: r) r 1 1 b rfl (by omega) (by simp) (bigM_one _ (by omega) (by omega)) rfl h)
  clear h
  have HM := Aside0.mk hm
  have HE := Aside0.mk hb
  have HN1 := Aside0.mk (show 1 ≤ n by omega)
  have HXX := Aside0.mk hx
  have HSZ := Aside0.mk (wide_f x)
  obtain ⟨sx, hsx⟩ : ∃ sx : Int, (szN x : Int) = sx := ⟨_, rfl⟩
  rw [hsx] at HSZ hs
  have hne : (sx != b - 128) = true := by simpa using hs
  clear hm hb hx hsx hs
  go_enter Tryz.func72, Tryz.ntmps72
  go_wp2_with (first
    | (go_at_call 115; with_reducible refine H.out.mono ?_; rintro e w1 ⟨rfl, hg, hc⟩; have HG1 := Aside0.mk hg; have c1 := hg.badc; have HC1 := Aside0.mk hc; clear hg hc)
    | (go_at_call 115; with_reducible refine (hx_fixed_ok w1 base B r (r.drop n) n (b - 128) x HE.out HN1.out HM.out HXX.out rfl HG1.out).mono ?_; rintro e w2 ⟨rfl, hg, hc⟩; have HG2 := Aside0.mk hg; have c2 := hg.badc; have HC2 := Aside0.mk hc; clear hg hc)
    | (go_at_call 117; refine (factotumref01_wide.calls 9 x sx _ HSZ.out).mono ?_; rintro e w3 ⟨rfl, hd⟩; obtain ⟨nd, rfl⟩ := hd.out; have HG3 := Aside0.mk (HG2.out.drewN nd); have c3 := HG3.out.badc; have HC3 := Aside0.mk (chg_drewN HC2.out nd))
    | (go_at_call 116; with_reducible refine (hx_fail _ base B (r.drop n) false HG3.out).mono ?_; rintro e w5 ⟨rfl, hg, hc⟩; have HG5 := Aside0.mk hg; have c5 := hg.badc; have HC5 := Aside0.mk (HC3.out.trans hc); clear hg hc)
    | (go_at_call 116; with_reducible refine (hx_fail _ base B [] true HG5.out).mono ?_; rintro e w6 ⟨rfl, hg, hc⟩; have HG6 := Aside0.mk hg; have c6 := hg.badc; have HC6 := Aside0.mk (HC5.out.trans hc); clear hg hc))
  go_ret
  exact ⟨rfl, HG6.out, HC1.out.trans HC6.out⟩
theorem hN_wbig (w : World) (base B : Nat) (mx b x : Int) (n : Nat) (r : List Int) (hb : (n : Int) = b - 128) (hn1 : 128 < b) (hn8 : b ≤ 136) (hm : n ≤ r.length) (hx : bigM (r.take n) = x) (hx0 : 0 ≤ x) (hx1 : 128 ≤ x) (hs : (szN x : Int) = b - 128) (hxm : mx < x) (h : HX w base B (b :: r) false) :
    Calls Tryz.prog 72 #[.pointer (some ⟨B, 0, none⟩), .int .u64 mx] w fun e w' => e = .returned (.int .u64 0) ∧ HX w' base B [] true ∧ Chg w w' (fun k => k = B) := by
  have H := Aside0.mk (hx_fixed_ok w base B (b :: r) r 1 1 b rfl (by omega) (by simp) (bigM_one _ (by omega) (by omega)) rfl h)
  clear h
  have HM := Aside0.mk hm
  have HE := Aside0.mk hb
  have HN1 := Aside0.mk (show 1 ≤ n by omega)
  have HXX := Aside0.mk hx
  have HSZ := Aside0.mk (show factotumref01_wide.f 9 x = some (b - 128) from by rw [← hs]; exact wide_f x)
  clear hm hb hx hs
  go_enter Tryz.func72, Tryz.ntmps72
  go_wp2_with (first
    | (go_at_call 115; with_reducible refine H.out.mono ?_; rintro e w1 ⟨rfl, hg, hc⟩; have HG1 := Aside0.mk hg; have c1 := hg.badc; have HC1 := Aside0.mk hc; clear hg hc)
    | (go_at_call 115; with_reducible refine (hx_fixed_ok w1 base B r (r.drop n) n (b - 128) x HE.out HN1.out HM.out HXX.out rfl HG1.out).mono ?_; rintro e w2 ⟨rfl, hg, hc⟩; have HG2 := Aside0.mk hg; have c2 := hg.badc; have HC2 := Aside0.mk hc; clear hg hc)
    | (go_at_call 117; refine (factotumref01_wide.calls 9 x (b - 128) _ HSZ.out).mono ?_; rintro e w3 ⟨rfl, hd⟩; obtain ⟨nd, rfl⟩ := hd.out; have HG3 := Aside0.mk (HG2.out.drewN nd); have c3 := HG3.out.badc; have HC3 := Aside0.mk (chg_drewN HC2.out nd))
    | (go_at_call 116; with_reducible refine (hx_fail _ base B (r.drop n) false HG3.out).mono ?_; rintro e w5 ⟨rfl, hg, hc⟩; have HG5 := Aside0.mk hg; have c5 := hg.badc; have HC5 := Aside0.mk (HC3.out.trans hc); clear hg hc))
  go_ret
  exact ⟨rfl, HG5.out, HC1.out.trans HC5.out⟩
end Go.Proofs.YtlepcmljmibdnaaGreat
namespace Go.Proofs.YtlepcmljmibdnaaGreat
open Go.RowKit Go.Proofs.YtlepcmljmibdnaaGreatW.PrintWords Go.Proofs.YtlepcmljmibdnaaGreatW.PrintLast Go.Proofs.YtlepcmljmibdnaaGreatW.PrintMore PWalOpens
set_option linter.unusedVariables false
set_option linter.unusedSimpArgs false
def isBytes (l : List Int) : Prop := ∀ x ∈ l, 0 ≤ x ∧ x < 256
theorem isBytes.take {l : List Int} (h : isBytes l) (n : Nat) : isBytes (l.take n) := fun x hx => h x (List.mem_of_mem_take hx)
theorem isBytes.drop {l : List Int} (h : isBytes l) (n : Nat) : isBytes (l.drop n) := fun x hx => h x (List.mem_of_mem_drop hx)
/-- what a reader answers: the number, what is left, whether it has failed -/
def rdN (xs : List Int) (bad : Bool) (mx : Int) : Int × List Int × Bool :=
  if bad then (0, [], true) else match xs with
  | [] => (0, [], true)
  | b :: r =>
    if b < 128 then (if b ≤ mx then (b, r, false) else (0, [], true))
    else if b = 128 ∨ 136 < b ∨ r.length < (b - 128).toNat then (0, [], true)
    else if bigN (r.take (b - 128).toNat) < 128 ∨ ¬ ((szN (bigN (r.take (b - 128).toNat)) : Int) = b - 128) ∨ mx < bigN (r.take (b - 128).toNat) then (0, [], true)
    else (bigN (r.take (b - 128).toNat), r.drop (b - 128).toNat, false)
/-- the bytes of a short row spell a number that has them for its lowest bytes -/
theorem bigN_bytes (l : List Int) (h : isBytes l) (h8 : l.length ≤ 8) : 0 ≤ bigN l ∧ bigN l < 256 ^ l.length ∧ lowB (bigN l) l.length = l := by
  have key : ∀ (l : List Int), isBytes l → ∀ a : Nat, (a + 1) * 256 ^ l.length ≤ 18446744073709551616 → ∃ m : Nat, l.foldl bigS (a : Int) = (m : Int) ∧ a * 256 ^ l.length ≤ m ∧ m < (a + 1) * 256 ^ l.length ∧ lowB (m : Int) l.length = l := by
    intro l
    induction l with
    | nil => intro _ a _; exact ⟨a, rfl, by simp, by simp, rfl⟩
    | cons x l ih =>
      intro hb a h2
      obtain ⟨hx0, hx1⟩ := hb x (by simp)
      obtain ⟨d, rfl⟩ := Int.eq_ofNat_of_zero_le hx0
      have hd : d < 256 := by omega
      have q2 : a * 256 + d + 1 ≤ (a + 1) * 256 := by clear h2; omega
      have hp : 1 ≤ 256 ^ l.length := Nat.pos_of_ne_zero (by simp)
      rw [List.length_cons, Nat.pow_succ, Nat.mul_comm (256 ^ l.length), ← Nat.mul_assoc] at h2
      have ha : (a + 1) * 256 ≤ 18446744073709551616 := by
        refine Nat.le_trans ?_ h2
        have := Nat.mul_le_mul_left ((a + 1) * 256) hp
        rwa [Nat.mul_one] at this
      obtain ⟨m, h3, h4, h5, h6⟩ := ih (fun y hy => hb y (by simp [hy])) (a * 256 + d) (Nat.le_trans (Nat.mul_le_mul_right _ q2) h2)
      refine ⟨m, ?_, ?_, ?_, ?_⟩
      · have ha2 : a < 72057594037927936 := by clear h2 h4 h5 h3; omega
        have e1 := bigS_small a d ha2 hd
        rw [show ((a : Int) * 256 + (d : Int)) = ((a * 256 + d : Nat) : Int) from by rw [Int.natCast_add, Int.natCast_mul]; rfl] at e1
        rw [List.foldl_cons, e1]
        exact h3
      · rw [List.length_cons, Nat.pow_succ, Nat.mul_comm (256 ^ l.length), ← Nat.mul_assoc]
        exact Nat.le_trans (Nat.mul_le_mul_right _ (Nat.le_add_right _ _)) h4
      · rw [List.length_cons, Nat.pow_succ, Nat.mul_comm (256 ^ l.length), ← Nat.mul_assoc]
        exact Nat.lt_of_lt_of_le h5 (Nat.mul_le_mul_right _ q2)
      · rw [List.length_cons, lowB, h6]
        congr 1
        have e : m / 256 ^ l.length = a * 256 + d := Nat.div_eq_of_lt_le h4 h5
        rw [show ((m : Int) / 256 ^ l.length) = ((m / 256 ^ l.length : Nat) : Int) by rw [Int.natCast_ediv, Int.natCast_pow]; rfl, e]
        clear h2 h3 h4 h5 h6 e ih
        omega
  have h256 : 256 ^ l.length ≤ 18446744073709551616 := Nat.le_trans (Nat.pow_le_pow_right (by omega) h8) (by decide)
  obtain ⟨m, h1, h2, h3, h4⟩ := key l h 0 (by simpa using h256)
  have e : bigN l = (m : Int) := h1
  rw [e]
  refine ⟨by omega, ?_, h4⟩
  have h5 : m < 256 ^ l.length := by simpa using h3
  have := Int.ofNat_lt.2 h5
  simpa using this
theorem rdN_bytes {xs r : List Int} {bad b' : Bool} {mx n : Int} (h : isBytes xs) (e : rdN xs bad mx = (n, r, b')) : isBytes r ∧ (b' = true → r = []) ∧ 0 ≤ n := by
  have nil : isBytes [] := fun x hx => by cases hx
  unfold rdN at e
  split at e
  · cases e; exact ⟨nil, fun _ => rfl, by omega⟩
  · cases xs with
    | nil => cases e; exact ⟨nil, fun _ => rfl, by omega⟩
    | cons b t =>
      have ht : isBytes t := fun x hx => h x (by simp [hx])
      have hb := h b (by simp)
      simp only at e
      split at e
      · split at e
        · cases e; exact ⟨ht, fun h => (by cases h), hb.1⟩
        · cases e; exact ⟨nil, fun _ => rfl, by omega⟩
      · split at e
        · cases e; exact ⟨nil, fun _ => rfl, by omega⟩
        · rename_i h8
          split at e
          · cases e; exact ⟨nil, fun _ => rfl, by omega⟩
          · cases e
            refine ⟨ht.drop _, fun h => (by cases h), (bigN_bytes _ (ht.take _) ?_).1⟩
            rw [List.length_take]; omega
/-- what was read is the number's own bytes -/
theorem rdN_canon {xs r : List Int} {mx n : Int} (h : isBytes xs) (e : rdN xs false mx = (n, r, false)) : xs = encN n ++ r ∧ 0 ≤ n ∧ n ≤ mx ∧ n < 18446744073709551616 := by
  unfold rdN at e
  rw [if_neg (by decide)] at e
  cases xs with
  | nil => cases e
  | cons b t =>
    have ht : isBytes t := fun x hx => h x (by simp [hx])
    have hb := h b (by simp)
    simp only at e
    split at e
    · split at e
      · cases e
        refine ⟨?_, hb.1, by assumption, by omega⟩
        unfold encN
        rw [if_pos (by assumption)]
        have : n % 256 = n := by omega
        simp [this]
      · cases e
    · split at e
      · cases e
      · rename_i h8
        split at e
        · cases e
        · rename_i h9
          injection e with e1 e2
          injection e2 with e2 e3
          have hl : (t.take (b - 128).toNat).length = (b - 128).toNat := by rw [List.length_take]; omega
          obtain ⟨p1, p2, p3⟩ := bigN_bytes (t.take (b - 128).toNat) (ht.take _) (by rw [hl]; omega)
          rw [hl] at p2 p3
          have p4 : (256 : Int) ^ (b - 128).toNat ≤ 18446744073709551616 := by
            have : 256 ^ (b - 128).toNat ≤ 256 ^ 8 := Nat.pow_le_pow_right (by omega) (by omega)
            have h2 := Int.ofNat_le.2 this
            simpa using h2
          rw [e1] at p1 p2 p3 h9
          refine ⟨?_, p1, by omega, by omega⟩
          have hsz : szN n = (b - 128).toNat := by omega
          unfold encN
          rw [if_neg (by omega), hsz, p3, ← e2]
          simp only [List.cons_append, List.take_append_drop]
          congr 1
          omega
theorem szN_pow (n : Int) (h0 : 0 ≤ n) (h : n < 18446744073709551616) : n < 256 ^ szN n := by
  unfold szN
  repeat' split
  all_goals (first | (show n < 256; omega) | (show n < 65536; omega) | (show n < 16777216; omega) | (show n < 4294967296; omega) | (show n < 1099511627776; omega) | (show n < 281474976710656; omega) | (show n < 72057594037927936; omega) | (show n < 18446744073709551616; omega))
theorem rdN_enc (n mx : Int) (r : List Int) (h0 : 0 ≤ n) (hm : n ≤ mx) (h : n < 18446744073709551616) : rdN (encN n ++ r) false mx = (n, r, false) := by
  unfold encN
  split
  · rename_i h1
    unfold rdN
    rw [if_neg (by decide)]
    have e : n % 256 = n := by omega
    simp only [List.cons_append, List.nil_append, e]
    rw [if_pos h1, if_pos hm]
  · rename_i h1
    have hs := szN_le n
    unfold rdN
    rw [if_neg (by decide)]
    simp only [List.cons_append]
    have e1 : ((128 : Int) + (szN n : Int) - 128).toNat = szN n := by omega
    have e2 : (lowB n (szN n) ++ r).take (szN n) = lowB n (szN n) := by rw [List.take_append_of_le_length (by rw [lowB_len]; exact Nat.le_refl _), List.take_of_length_le (by rw [lowB_len]; exact Nat.le_refl _)]
    have e3 : (lowB n (szN n) ++ r).drop (szN n) = r := by rw [List.drop_append_of_le_length (by rw [lowB_len]; exact Nat.le_refl _), List.drop_of_length_le (by rw [lowB_len]; exact Nat.le_refl _)]; rfl
    have e4 : bigN (lowB n (szN n)) = n := by
      rw [bigN_lowB n h0 _ hs.2]
      exact Int.emod_eq_of_lt h0 (szN_pow n h0 h)
    rw [if_neg (by omega), e1, e2, e3, e4, if_neg (by rw [List.length_append, lowB_len]; omega), if_neg (by omega)]
/-- a reader, as it is seen from w0 -/
structure GS (w0 w : World) (base B : Nat) (xs : List Int) (bad : Bool) : Prop where
  x : GX w base B xs bad
  chg : Chg w0 w (fun k => k = B)
  bytes : isBytes xs
  nb : bad = true → xs = []
theorem gN_any (w : World) (base B : Nat) (mx n : Int) (xs r : List Int) (bad b' : Bool) (h0 : 0 ≤ mx) (hby : isBytes xs) (e : rdN xs bad mx = (n, r, b')) (h : GX w base B xs bad) :
    Calls Tryz.prog 68 #[.pointer (some ⟨B, 0, none⟩), .int .u64 mx] w fun e w' => e = .returned (.int .u64 n) ∧ GX w' base B r b' ∧ Chg w w' (fun k => k = B) := by
  unfold rdN at e
  split at e
  · rename_i hb
    cases e
    exact gN_no w base B mx h0 xs bad (.inl hb) h
  · rename_i hb
    obtain rfl : bad = false := by simpa using hb
    cases xs with
    | nil => cases e; exact gN_no w base B mx h0 [] false (.inr (by simp)) h
    | cons b t =>
      have hbb := hby b (by simp)
      have ht : isBytes t := fun x hx => hby x (by simp [hx])
      simp only at e
      split at e
      · split at e
        · cases e; exact gN_small w base B mx _ _ hbb.1 (by assumption) (by assumption) h
        · cases e; exact gN_big w base B mx b t hbb.1 (by assumption) (by omega) h
      · split at e
        · rename_i h8
          cases e
          by_cases hw : b = 128 ∨ 136 < b
          · exact gN_width w base B mx b t (by omega) (by omega) hw h
          · exact gN_short w base B mx b h0 (b - 128).toNat t (by omega) (by omega) (by omega) (by omega) h
        · rename_i h8
          have hl : (t.take (b - 128).toNat).length = (b - 128).toNat := by rw [List.length_take]; omega
          obtain ⟨p1, p2, p3⟩ := bigN_bytes (t.take (b - 128).toNat) (ht.take _) (by rw [hl]; omega)
          split at e
          · rename_i h9
            cases e
            by_cases c1 : bigN (t.take (b - 128).toNat) < 128
            · by_cases c2 : bigN (t.take (b - 128).toNat) ≤ mx
              · exact gN_odd1 w base B mx b _ (b - 128).toNat t (by omega) (by omega) (by omega) (by omega) rfl p1 c1 c2 h
              · exact gN_odd2 w base B mx b _ (b - 128).toNat t (by omega) (by omega) (by omega) (by omega) rfl p1 c1 (by omega) h
            · by_cases c3 : (szN (bigN (t.take (b - 128).toNat)) : Int) = b - 128
              · exact gN_wbig w base B mx b _ (b - 128).toNat t (by omega) (by omega) (by omega) (by omega) rfl p1 (by omega) c3 (by omega) h
              · by_cases c2 : bigN (t.take (b - 128).toNat) ≤ mx
                · exact gN_odd3 w base B mx b _ (b - 128).toNat t (by omega) (by omega) (by omega) (by omega) rfl p1 (by omega) c3 c2 h
                · exact gN_odd4 w base B mx b _ (b - 128).toNat t (by omega) (by omega) (by omega) (by omega) rfl p1 (by omega) c3 (by omega) h
          · rename_i h9
            cases e
            exact gN_wide w base B mx b _ (b - 128).toNat t (by omega) (by omega) (by omega) (by omega) rfl (by omega) (by omega) (by omega) h
theorem GS.n {w0 w : World} {base B : Nat} {xs r : List Int} {bad b' : Bool} {mx n : Int} (h0 : 0 ≤ mx) (e : rdN xs bad mx = (n, r, b')) (h : GS w0 w base B xs bad) :
    Calls Tryz.prog 68 #[.pointer (some ⟨B, 0, none⟩), .int .u64 mx] w fun e w' => e = .returned (.int .u64 n) ∧ GS w0 w' base B r b' := by
  refine (gN_any w base B mx n xs r bad b' h0 h.bytes e h.x).mono ?_
  rintro e1 w' ⟨rfl, h1, h2⟩
  obtain ⟨q1, q2, _⟩ := rdN_bytes h.bytes e
  exact ⟨rfl, h1, h.chg.trans h2, q1, q2⟩
theorem GS.step {w0 w : World} {base B : Nat} {xs r : List Int} {bad b' : Bool} {mx n : Int} (h0 : 0 ≤ mx) (e : rdN xs bad mx = (n, r, b')) (h : GS w0 w base B xs bad) :
    Calls Tryz.prog 68 #[.pointer (some ⟨B, 0, none⟩), .int .u64 mx] w fun e w' => e = .returned (.int .u64 n) ∧ GS w0 w' base B r b' ∧ Chg w w' (fun k => k = B) := by
  refine (gN_any w base B mx n xs r bad b' h0 h.bytes e h.x).mono ?_
  rintro e1 w' ⟨rfl, h1, h2⟩
  obtain ⟨q1, q2, _⟩ := rdN_bytes h.bytes e
  exact ⟨rfl, ⟨h1, h.chg.trans h2, q1, q2⟩, h2⟩
theorem GS.grow {w0 w w' : World} {base B : Nat} {xs : List Int} {bad : Bool} {S : Nat → Prop} (h : GS w0 w base B xs bad) (hB : B < w0.heap.size) (hc : Chg w w' S) (hS : ∀ k, k < w0.heap.size → ¬ S k) : GS w0 w' base B xs bad :=
  ⟨h.x.keep hc fun k hk => hS k (Nat.lt_of_le_of_lt hk hB), ⟨hc.os.trans h.chg.os, hc.tape.trans h.chg.tape, hc.output.trans h.chg.output, Nat.le_trans h.chg.size hc.size, fun k hk hn => (hc.block k (Nat.lt_of_lt_of_le hk h.chg.size) (hS k hk)).trans (h.chg.block k hk hn)⟩, h.bytes, h.nb⟩
theorem GX.lt {w : World} {base B : Nat} {xs : List Int} {bad : Bool} (h : GX w base B xs bad) : B < w.heap.size := by
  obtain ⟨A, c, hk, _⟩ := h
  exact (Array.getElem?_eq_some_iff.1 hk.blk).1
theorem GS.refl {w : World} {base B : Nat} {xs : List Int} {bad : Bool} (h : GX w base B xs bad) (hb : isBytes xs) (nb : bad = true → xs = []) : GS w w base B xs bad := ⟨h, Chg.refl _ _, hb, nb⟩
theorem GS.left {w0 w : World} {base B : Nat} {xs : List Int} {bad : Bool} (n : Nat) (hn : xs.length = n) (h : GS w0 w base B xs bad) :
    Calls Tryz.prog 113 #[.pointer (some ⟨B, 0, none⟩)] w fun e w' => e = .returned (.int .i64 n) ∧ w = w' := by
  obtain ⟨A, c, hk, _⟩ := h.x
  refine gleft_calls w base B A c xs bad n ?_ hk
  subst hn
  cases bad with
  | true => rw [h.nb rfl]; rfl
  | false => rfl
end Go.Proofs.YtlepcmljmibdnaaGreat
