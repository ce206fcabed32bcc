/- Parts of one proof, joined: Rz, Wn. Conditions: those of each statement. -/
import Derived.Test.YtlepcmljmibdnaaWx12
namespace Go.Proofs.Ytlepcmljmibdnaa
open Go.RowKit Go.Proofs.YtlepcmljmibdnaaW.PrintWords Go.Proofs.YtlepcmljmibdnaaW.PrintLast Go.Proofs.YtlepcmljmibdnaaW.PrintMore PWalOpens
set_option linter.unusedVariables false
set_option linter.unusedSimpArgs false
theorem rframe_long (w : World) (A : Option Addr) (n c : Nat) (hl : 60000 < n) : Calls Try.prog 97 #[.slice A n c] w fun e w' => e = .returned (.slice none 0 0) ∧ w = w' := by
  have b1 : decide (60000 < (n : Int)) = true := by simp; omega
  go_enter Try.func97, Try.ntmps97
  go_wp2
  go_ret
  exact ⟨rfl, rfl⟩
theorem lowB2 (n : Int) : lowB n 2 = [n / 256 % 256, n % 256] := by
  simp [lowB]
theorem lit_R (w : World) (base : Nat) (hb : base ≤ w.heap.size) (xs : List Int) (hm : xs.length ≤ 1000000) : Kd.R (Kd.int .u8) 5 (w.alloc (.cells (encs (Value.int .u8) xs).toArray 5)) base (fun k => base ≤ k) (.slice (some ⟨w.heap.size, 0, none⟩) xs.length xs.length) xs := by
  have h2 := World.ownsRow_lit (base := base) (e := 5) (size := 1) w (encs (Value.int .u8) xs).toArray xs.length hb (by simp [maxLen]; omega) (by simp [encs])
  exact Kd.R_of_own (enc := Value.int .u8) (h1 := fun _ => rfl) (by simpa using h2) (fun k hk => by
    have : w.heap.size = k := by simpa [Value.ownBlock] using hk
    omega)
set_option maxRecDepth 100000 in
theorem rframe_calls (w : World) (A : Option Addr) (c : Nat) (b : List Int) (hb : isBytes b) (hl : b.length ≤ 60000) (hC : (Kd.int .u8).C w A b.length b) :
    Calls Try.prog 97 #[.slice A b.length c] w fun e w' => ∃ A' c', e = .returned (.slice A' (b.length + 7) c') ∧ Below w.heap.size w w' := by
  have b1 : decide (60000 < (b.length : Int)) = false := by simp; omega
  have b2 : (0 : Int) ≤ (b.length : Int) := by omega
  have b3 : (b.length : Int) ≤ 60000 := by omega
  have HC := Aside0.mk hC
  have HF := Aside0.mk (show factotumref01_Fixed.f 9 [] (b.length : Int) 2 = some (lenB b) from by
    rw [show (2 : Int) = ((2 : Nat) : Int) from rfl, fixedF [] (b.length : Int) 2 (by omega) (by decide), lowB2]; rfl)
  have HL1 := Aside0.mk (show ((lenB b).length + b.length) * 1 ≤ 140737488355328 from by simp [lenB] <;> omega)
  obtain ⟨fs, hfs⟩ : ∃ fs, lenB b ++ b = fs := ⟨_, rfl⟩
  have HBY := Aside0.mk (show isBytes fs from by rw [← hfs]; exact lenB_bytes hb)
  have HLF := Aside0.mk (show fs.length = b.length + 2 from by rw [← hfs]; simp [lenB] <;> omega)
  have HCRC := Aside0.mk (sum32_f fs HBY.out (by rw [HLF.out]; omega))
  obtain ⟨hk0, hk1⟩ := crcB_lt fs
  have HFX := Aside0.mk (show factotumref01_Fixed.f 9 ([165] ++ fs) (crcB fs) 4 = some (frameB b) from by
    rw [show (4 : Int) = ((4 : Nat) : Int) from rfl, fixedF ([165] ++ fs) (crcB fs) 4 (by omega) (by rw [List.length_append, HLF.out]; simp <;> omega), lowB4]
    unfold frameB
    rw [hfs]
    rfl)
  have HLA := Aside0.mk (show (([165] : List Int).length + fs.length) * 1 ≤ 140737488355328 from by rw [HLF.out]; simp <;> omega)
  obtain ⟨cq, hcq⟩ : ∃ cq, crcB fs = cq := ⟨_, rfl⟩
  rw [hcq] at hk0 hk1 HCRC HFX
  have HFSE := Aside0.mk hfs
  clear hC hfs
  go_enter Try.func97, Try.ntmps97
  go_wp2_with (first
    | (go_at_call 76; go_loud (refine (factotumref01_Fixed.calls 9 (fun k => w.heap.size ≤ k) (.slice none 0 0) [] (b.length : Int) 2 (lenB b) w w (Below.refl _ _) (Kd.R_nil _ _ _ _ _) HF.out).mono ?_); rintro e w3 ⟨v3, rfl, hr, hb3, _⟩; have HB3 := Aside0.mk hb3; have HR3 := Aside0.mk (show OwnB w3 w.heap.size v3 _ from Kd.R_mono hr (fun k hk => hk.elim id (fun hk => hk))); clear hr hb3)
    | ((with_reducible refine gate_builtin (b := .append) (xs := #[.tmp 10, .tmp 11]) rfl ?_); at_builtin; go_loud (refine Kd.R_append_rows (Kd.int .u8) (W := w3) (w0 := w3) w.heap.size rfl (.tmp 10) (.tmp 11) 29 5 (.int .u8 0) 1 rfl Try.underlying29 info5w rfl (by decide) (by decide) _ (lenB b) b A b.length c (fun k => w.heap.size ≤ k) (fun _ => False) rfl rfl HR3.out (Kd.C_below HC.out HB3.out) (fun _ _ h => h) (fun _ h => h.elim) (fun k hk => Nat.le_trans HB3.out.size hk) (Below.refl _ _) HB3.out.size HL1.out ?_); intro v4 w4 ho hb4 hg hat; rw [HFSE.out] at ho; obtain ⟨A4, c4, hv4⟩ := Kd.R_slice ho; subst hv4; have HR4 := Aside0.mk ho; have HB4 := Aside0.mk (HB3.out.trans hb4); clear ho hb4 hg hat)
    | ((with_reducible refine gate_builtin (b := .append) (xs := #[.tmp 13, .tmp 14]) rfl ?_); at_builtin; have HLR := lit_R w4 w.heap.size HB4.out.size [165] (by decide); go_loud (refine Kd.R_append_rows (Kd.int .u8) (W := w4.alloc (.cells #[.int .u8 165] 5)) (w0 := w4.alloc (.cells #[.int .u8 165] 5)) w.heap.size rfl (.tmp 13) (.tmp 14) 29 5 (.int .u8 0) 1 rfl Try.underlying29 info5w rfl (by decide) (by decide) _ [165] fs A4 fs.length c4 (fun k => w.heap.size ≤ k) (fun _ => False) rfl rfl HLR (Kd.C_alloc (Kd.R_reads' HR4.out).2.2 _) (fun _ _ h => h) (fun _ h => h.elim) (fun k hk => Nat.le_trans (Nat.le_trans HB4.out.size (by simp)) hk) (Below.refl _ _) (Nat.le_trans HB4.out.size (by simp)) HLA.out ?_); intro v5 w5 ho hb5 hg hat; have HR5 := Aside0.mk ho; have HB5 := Aside0.mk hb5; have HG5 := Aside0.mk hg; clear ho hb5 hg hat))
  have HB5' := Aside0.mk ((HB4.out.alloc HB4.out.size _).trans HB5.out)
  have HC5 := Aside0.mk (Kd.C_below (Kd.R_reads' HR4.out).2.2 (((Below.refl w4.heap.size w4).alloc (Nat.le_refl _) (.cells #[.int .u8 165] 5)).grown HG5.out (by simp) (fun k hk => by cases (show some w4.heap.size = some k from hk); exact Nat.le_refl _)))
  have HLFS := Aside0.mk (show fs.length ≤ c4 from (Kd.R_reads' HR4.out).2.1)
  go_wp2_with (first
    | (go_at_call 77; (with_reducible refine (factotumref01_Sum32.calls (fs.length + 10) A4 c4 fs cq _ HC5.out HLFS.out HCRC.out).mono ?_); rintro e w7 ⟨rfl, hd⟩; obtain ⟨nd, rfl⟩ := hd.out; have HR7 := Aside0.mk (Kd.R_below HR5.out (drewN_below w5 nd)); have HB7 := Aside0.mk (bel_drewN HB5'.out nd))
    | (go_at_call 76; go_loud (refine (factotumref01_Fixed.calls 9 (fun k => w.heap.size ≤ k) _ ([165] ++ fs) cq 4 (frameB b) w (w5.drewN nd) HB7.out HR7.out HFX.out).mono ?_); rintro e w8 ⟨v8, rfl, hr, hb8, _⟩; have HB8 := Aside0.mk hb8; have HR8 := Aside0.mk hr; clear hr hb8))
  obtain ⟨A8, c8, hv8⟩ := Kd.R_slice HR8.out
  subst hv8
  go_ret
  refine ⟨A8, c8, ?_, HB8.out⟩
  have h9 := frameB_len b
  rw [← h9]
  rfl
theorem rneed_calls (w : World) (A : Option Addr) (c : Nat) (b : List Int) (m : Int) (hm : needN b = m) (hb : isBytes b) (hl : b.length ≤ 1000000) (hC : (Kd.int .u8).C w A b.length b) :
    Calls Try.prog 58 #[.slice A b.length c] w fun e w' => e = .returned (.int .i64 m) ∧ Below w.heap.size w w' := by
  by_cases h : 60000 < b.length
  · have HF := Aside0.mk (rframe_long w A b.length c h)
    have HM := Aside0.mk (show m = 0 from by rw [← hm]; unfold needN; rw [if_pos h])
    clear hm
    go_enter Try.func58, Try.ntmps58
    go_wp2_with (go_at_call 97; (with_reducible refine HF.out.mono ?_); rintro e w3 ⟨rfl, rfl⟩)
    go_ret
    rw [HM.out]
    exact ⟨rfl, Below.refl _ _⟩
  · have HF := Aside0.mk (rframe_calls w A c b hb (by omega) hC)
    obtain ⟨k, hk⟩ : ∃ k : Nat, b.length + 7 = k := ⟨_, rfl⟩
    have hk0 : k ≤ 60007 := by omega
    have HM := Aside0.mk (show ((k : Int) + 63) / 64 = m from by
      rw [← hm]
      unfold needN
      rw [if_neg h]
      omega)
    rw [hk] at HF
    clear hm hk
    go_enter Try.func58, Try.ntmps58
    go_wp2_with (go_at_call 97; (with_reducible refine HF.out.mono ?_); rintro e w3 ⟨A3, c3, rfl, hb3⟩; have HB3 := Aside0.mk hb3; clear hb3)
    go_ret
    rw [HM.out]
    exact ⟨rfl, HB3.out⟩
theorem swap_nil (w : World) (A : Option Addr) (n c : Nat) : Calls Try.prog 59 #[.pointer none, .slice A n c] w fun r w' => r = .returned (.int .i64 50) ∧ w = w' := by
  go_enter Try.func59, Try.ntmps59
  go_wp2_with (go_at_call 89; (with_reducible refine wok_nil.mono ?_); rintro e w' ⟨rfl, rfl⟩)
  go_ret
  exact ⟨rfl, rfl⟩
end Go.Proofs.Ytlepcmljmibdnaa
namespace Go.Proofs.Ytlepcmljmibdnaa
open Go.RowKit Go.Proofs.YtlepcmljmibdnaaW.PrintWords Go.Proofs.YtlepcmljmibdnaaW.PrintLast Go.Proofs.YtlepcmljmibdnaaW.PrintMore PWalOpens
set_option linter.unusedVariables false
set_option linter.unusedSimpArgs false
theorem info5z : (Try.prog.info? 5).map (fun i => (i.zero, i.size, i.bytes)) = some (some (.int .u8 0), 1, 1) := by kernel_rfl
theorem zeros_C (w : World) (n : Nat) (hn : n ≤ 1000000) : (Kd.int .u8).C (w.alloc (.cells (madeCells #[.int .u8 0] n) 5)) (some ⟨w.heap.size, 0, none⟩) n (List.replicate n 0) := by
  have h := own_made_of (enc := Value.int .u8) (d := (0 : Int)) w w.heap.size 5 n (Nat.le_refl _) (by omega)
  have h2 : Kd.R (Kd.int .u8) 5 (w.alloc (.cells (madeCells #[.int .u8 0] n) 5)) w.heap.size (fun _ => True) (.slice (some ⟨w.heap.size, 0, none⟩) n n) (List.replicate n 0) := Kd.R_of_own (enc := Value.int .u8) (h1 := fun _ => rfl) (by rw [List.length_replicate]; exact h) (fun _ _ => trivial)
  have h3 := (Kd.R_reads' h2).2.2
  rw [List.length_replicate] at h3
  exact h3
theorem zeros_bytes (n : Nat) : isBytes (List.replicate n 0) := fun x hx => by
  have := List.eq_of_mem_replicate hx
  omega
theorem zneed (w : World) (A : Option Addr) (n : Nat) (hn : n ≤ 1000000) (hC : (Kd.int .u8).C w A n (List.replicate n 0)) : Calls Try.prog 57 #[.slice A n n] w fun e w' => e = .returned (.int .i64 (needN (List.replicate n 0))) ∧ Below w.heap.size w w' := by
  have h := need_calls w A n (List.replicate n 0) _ rfl (zeros_bytes n) (by rw [List.length_replicate]; exact hn) (by rw [List.length_replicate]; exact Nat.le_refl _) (by rw [List.length_replicate]; exact hC)
  rw [List.length_replicate] at h
  exact h
theorem zrneed (w : World) (A : Option Addr) (n : Nat) (hn : n ≤ 1000000) (hC : (Kd.int .u8).C w A n (List.replicate n 0)) : Calls Try.prog 58 #[.slice A n n] w fun e w' => e = .returned (.int .i64 (needN (List.replicate n 0))) ∧ Below w.heap.size w w' := by
  have h := rneed_calls w A n (List.replicate n 0) _ rfl (zeros_bytes n) (by rw [List.length_replicate]; exact hn) (by rw [List.length_replicate]; exact hC)
  rw [List.length_replicate] at h
  exact h
theorem none_out (a0 : Int) (A1 : Option Addr) (n1 c1 : Nat) (w : World) (h : a0 < 0 ∨ 70000 < a0 ∨ 400 < n1) :
    Calls Try.prog 11 #[.int .i64 a0, .slice A1 n1 c1] w fun e w' => e = .returned (.bool true) ∧ Below w.heap.size w w' := by
  by_cases h1 : a0 < 0
  · have b1 : decide (a0 < 0) = true := decide_eq_true h1
    clear h
    go_enter Try.func11, Try.ntmps11
    go_wp2_with (go_at_call 47; (with_reducible refine (awake7_calls _).mono ?_); rintro e w1 ⟨rfl, hb⟩; have HB1 := Aside0.mk hb; clear hb)
    go_ret
    exact ⟨rfl, HB1.out⟩
  · have b1 : decide (a0 < 0) = false := decide_eq_false h1
    by_cases h2 : 70000 < a0
    · have b2 : decide (70000 < a0) = true := decide_eq_true h2
      clear h
      go_enter Try.func11, Try.ntmps11
      go_wp2_with (go_at_call 47; (with_reducible refine (awake7_calls _).mono ?_); rintro e w1 ⟨rfl, hb⟩; have HB1 := Aside0.mk hb; clear hb)
      go_ret
      exact ⟨rfl, HB1.out⟩
    · have b2 : decide (70000 < a0) = false := decide_eq_false h2
      have h3 : 400 < n1 := by omega
      have b3 : decide (400 < (n1 : Int)) = true := by simp; omega
      clear h
      go_enter Try.func11, Try.ntmps11
      go_wp2_with (go_at_call 47; (with_reducible refine (awake7_calls _).mono ?_); rintro e w1 ⟨rfl, hb⟩; have HB1 := Aside0.mk hb; clear hb)
      go_ret
      exact ⟨rfl, HB1.out⟩
theorem none_in (n : Nat) (A1 : Option Addr) (n1 c1 : Nat) (w : World) (hn : n ≤ 70000) (h1 : n1 ≤ 400) :
    Calls Try.prog 11 #[.int .i64 (n : Int), .slice A1 n1 c1] w fun e w' => e = .returned (.bool true) ∧ Below w.heap.size w w' := by
  have b1 : decide ((n : Int) < 0) = false := by simp
  have b2 : decide (70000 < (n : Int)) = false := by simp; omega
  have b3 : decide (400 < (n1 : Int)) = false := by simp; omega
  have hmk := print_make_of (P := Try.prog) 29 5 (.int .u8 0) 1 Try.underlying29 info5z rfl (by decide) n (by omega)
  have HN := Aside0.mk (show n ≤ 1000000 by omega)
  obtain ⟨k, hk⟩ : ∃ k, needN (List.replicate n 0) = k := ⟨_, rfl⟩
  have HZ1 := Aside0.mk (fun (w : World) (A : Option Addr) (h : (Kd.int .u8).C w A n (List.replicate n 0)) => zneed w A n HN.out h)
  have HZ2 := Aside0.mk (fun (w : World) (A : Option Addr) (h : (Kd.int .u8).C w A n (List.replicate n 0)) => zrneed w A n HN.out h)
  rw [hk] at HZ1 HZ2
  clear hk
  go_enter Try.func11, Try.ntmps11
  go_wp2_with (first
    | (go_at_call 47; (with_reducible refine (awake7_calls _).mono ?_); rintro e w1 ⟨rfl, hb⟩; have HB1 := Aside0.mk hb; clear hb)
    | (go_at_call 57; (with_reducible refine (HZ1.out _ _ (zeros_C w1 n HN.out)).mono ?_); rintro e w2 ⟨rfl, hb⟩; have HB2 := Aside0.mk hb; clear hb)
    | (go_at_call 58; (with_reducible refine (HZ2.out _ _ (Kd.C_below (zeros_C w1 n HN.out) HB2.out)).mono ?_); rintro e w3 ⟨rfl, hb⟩; have HB3 := Aside0.mk hb; clear hb)
    | (go_at_call 53; (with_reducible refine (add_nil _ _ _).mono ?_); rintro e w' ⟨rfl, rfl⟩)
    | (go_at_call 59; (with_reducible refine (swap_nil _ _ _ _).mono ?_); rintro e w' ⟨rfl, rfl⟩)
    | (go_at_call 60; (with_reducible refine (cut_nil _).mono ?_); rintro e w' ⟨rfl, rfl⟩)
    | (go_at_call 61; (with_reducible refine wlen_nil.mono ?_); rintro e w' ⟨rfl, rfl⟩)
    | (go_at_call 62; (with_reducible refine wfree_nil.mono ?_); rintro e w' ⟨rfl, rfl⟩))
  go_ret
  have s1 := HB1.out.size
  have s2 := HB2.out.size
  have s3 := HB3.out.size
  rw [World.size_alloc] at s2
  have h3 := (HB1.out.alloc s1 (.cells (madeCells #[.int .u8 0] n) 5)).trans (HB2.out.mono (by rw [World.size_alloc]; omega))
  have h4 := h3.trans (HB3.out.mono (by omega))
  exact ⟨rfl, (h4.alloc (by omega) _).alloc (by rw [World.size_alloc]; omega) _⟩
theorem none_walk (a0 : Int) (A1 : Option Addr) (c1 : Nat) (l1 : List Int) (w : World) :
    Calls Try.prog 11 #[.int .i64 a0, .slice A1 l1.length c1] w fun e w' => e = .returned (.bool true) ∧ Below w.heap.size w w' := by
  by_cases h : a0 < 0 ∨ 70000 < a0 ∨ 400 < l1.length
  · exact none_out a0 A1 l1.length c1 w h
  · obtain ⟨n, rfl⟩ := Int.eq_ofNat_of_zero_le (show 0 ≤ a0 by omega)
    exact none_in n A1 l1.length c1 w (by omega) (by omega)
end Go.Proofs.Ytlepcmljmibdnaa
