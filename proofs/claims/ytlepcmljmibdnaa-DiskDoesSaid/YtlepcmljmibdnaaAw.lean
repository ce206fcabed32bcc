/- The contract of the statements' example of chapter 5: it answers true. No conditions. -/
import Derived.Test.YtlepcmljmibdnaaDe
import Derived.Lib.SlBytesConst
namespace Go.Proofs.Ytlepcmljmibdnaa
open Go.RowKit Go.Proofs.YtlepcmljmibdnaaW.PrintWords Go.Proofs.YtlepcmljmibdnaaW.PrintLast Go.Proofs.YtlepcmljmibdnaaW.PrintMore
set_option linter.unusedVariables false
set_option linter.unusedSimpArgs false
theorem lit_C (w : World) (xs : List Int) (fr : Nat × Nat) (S : Nat → Prop) (hx : xs.length ≤ 1000000) (hS : ¬ S w.heap.size) (w' : World) (hc : Chg (w.alloc (.cells (encs (Value.int .u8) xs).toArray 5 fr)) w' S) :
    (Kd.int .u8).C w' (some ⟨w.heap.size, 0, none⟩) xs.length xs :=
  sec_C w' w.heap.size xs 5 fr hx ((hc.block w.heap.size (by rw [alloc_size]; omega) hS).trans (heap_alloc_new w _))
theorem lit_Cb (w : World) (xs : List Bool) (fr : Nat × Nat) (S : Nat → Prop) (hx : xs.length ≤ 1000000) (hS : ¬ S w.heap.size) (w' : World) (hc : Chg (w.alloc (.cells (encs Value.bool xs).toArray 4 fr)) w' S) :
    Kd.bool.C w' (some ⟨w.heap.size, 0, none⟩) xs.length xs := by
  have h := (hc.block w.heap.size (by rw [alloc_size]; omega) hS).trans (heap_alloc_new w _)
  refine Kd.C_of_reads (d := false) (h1 := fun _ => rfl) (enc := Value.bool) ⟨rfl, by omega, fun _ => ⟨_, rfl, fun j hj => ?_⟩⟩
  have e : (⟨w.heap.size, 0, none⟩ : Addr).add j = ⟨w.heap.size, j, none⟩ := by unfold Addr.add; split <;> simp_all
  rw [e, cell_of_row w' w.heap.size j _ 4 fr h]
  have := encs_get (enc := Value.bool) (d := false) xs j hj
  simpa using this
theorem R_addr {α : Type} {d : Kd α} {e : Nat} {w : World} {base : Nat} {ok : Nat → Prop} {v : Value} {xs : List α} (h : d.R e w base ok v xs) (hn : 0 < xs.length) : ∃ g c, v = .slice (some ⟨g, 0, none⟩) xs.length c := by
  obtain ⟨_, inner, ho, _⟩ := h
  obtain ⟨g, cap, rfl, _⟩ := ho.form hn
  exact ⟨g, cap, rfl⟩
def d1 : PD := (writeP (newP 2) 0 [97]).1
def d2 : PD := (writeP d1 1 [98]).1
noncomputable def d3 : PD := crashP d2 [false, true]
theorem w1e : writeP (newP 2) 0 [97] = (d1, 0) := by rfl
theorem w2e : writeP d1 1 [98] = (d2, 0) := by rfl
theorem r0e : readP d3 0 = (zsec, 0) := by rfl
theorem r1e : readP d3 1 = (pad [98], 0) := by rfl
theorem d3c : d3.cache = [] := by rfl
theorem d2c : d2.cache.length ≤ 1000 := by decide
theorem d1c : d1.cache.length ≤ 1000 := by decide
theorem DK.base_le {w : World} {base B M Bd : Nat} {vc : Value} {D : PD} (h : DK w base B M Bd vc D) : base ≤ w.heap.size := by
  have h1 := h.hB
  have h2 := (Array.getElem?_eq_some_iff.1 h.blk).1
  omega
theorem Chg.fpbelow {w w' : World} {base B M Bd : Nat} {vc : Value} {D : PD} (h : DK w base B M Bd vc D) (hc : Chg w w' (FP B M Bd vc)) : Below base w w' := hc.below h.base_le (fun k hk => (h.fp k hk).1)
theorem write_lit (w : World) (base B M Bd : Nat) (vc : Value) (D D' : PD) (at_ e : Int) (b : List Int) (fr : Nat × Nat) (hw : writeP D at_ b = (D', e)) (hb : b.length ≤ 1000) (hl : D.cache.length ≤ 1000) (h : DK w base B M Bd vc D) :
    Calls Try.prog 17 #[.pointer (some ⟨B, 0, none⟩), .int .i64 at_, .slice (some ⟨w.heap.size, 0, none⟩) b.length b.length] (w.alloc (.cells (encs (Value.int .u8) b).toArray 5 fr)) fun r w' => r = .returned (.int .i64 e) ∧
      ∃ vc', DK w' base B M Bd vc' D' ∧ Below base w w' := by
  have hS : ¬ FP B M Bd vc w.heap.size := fun hk => absurd (h.fp _ hk).2 (Nat.lt_irrefl _)
  refine (write_calls (w.alloc (.cells (encs (Value.int .u8) b).toArray 5 fr)) base B M Bd vc D at_ (some ⟨w.heap.size, 0, none⟩) b.length b hl (h.grow _).base_le (h.grow _) (fun w' hc => lit_C w b fr _ (by omega) hS w' hc)).mono ?_
  rw [hw]
  rintro r w' ⟨rfl, vc', hd, _, hc⟩
  exact ⟨rfl, vc', hd, (Below.alloc (Below.refl _ _) h.base_le _).trans (hc.fpbelow (h.grow _))⟩
theorem crash_lit (w : World) (base B M Bd : Nat) (vc : Value) (D : PD) (ks : List Bool) (fr : Nat × Nat) (hb : ks.length ≤ 1000) (hl : D.cache.length ≤ 1000) (h : DK w base B M Bd vc D) :
    Calls Try.prog 20 #[.pointer (some ⟨B, 0, none⟩), .slice (some ⟨w.heap.size, 0, none⟩) ks.length ks.length] (w.alloc (.cells (encs Value.bool ks).toArray 4 fr)) fun r w' => r = .returned (.tuple #[]) ∧
      DK w' base B M Bd (.slice none 0 0) (crashP D ks) ∧ Below base w w' := by
  have hS : ¬ (fun k => k = B ∨ k = M) w.heap.size := fun hk => absurd (h.fp w.heap.size (hk.elim .inl (fun h => .inr (.inl h)))).2 (Nat.lt_irrefl _)
  refine (crash_calls (w.alloc (.cells (encs Value.bool ks).toArray 4 fr)) base B M Bd vc D (some ⟨w.heap.size, 0, none⟩) ks.length ks hl (h.grow _).base_le (h.grow _) (fun w' hc => lit_Cb w ks fr _ (by omega) hS w' hc)).mono ?_
  rintro r w' ⟨rfl, hd, hc⟩
  exact ⟨rfl, hd, (Below.alloc (Below.refl _ _) h.base_le _).trans ((hc.mono fun k hk => hk.elim .inl (fun h => .inr (.inl h))).fpbelow (h.grow _))⟩
/-- Read, and where its bytes lie -/
theorem read64 (w : World) (base B M Bd : Nat) (vc : Value) (D : PD) (at_ : Int) (s : List Int) (hr : readP D at_ = (s, 0)) (hs : s.length = 64) (hl : D.cache.length ≤ 1000) (h : DK w base B M Bd vc D) :
    Calls Try.prog 23 #[.pointer (some ⟨B, 0, none⟩), .int .i64 at_] w fun e w' => ∃ g c, e = .returned (.tuple #[.slice (some ⟨g, 0, none⟩) 64 c, .int .i64 0]) ∧ (∀ i : Nat, i < 64 → w'.cell? ⟨g, i, none⟩ = some (.int .u8 (s.getD i 0))) ∧ Below w.heap.size w w' := by
  refine (read_calls w base B M Bd vc D at_ hl h).mono ?_
  rw [hr]
  rintro e w' ⟨v, rfl, hR, hb⟩
  have hR' : Kd.R (Kd.int .u8) 5 w' w.heap.size (fun _ => True) v s := hR
  clear hR
  obtain ⟨g, c, rfl⟩ := R_addr hR' (by omega)
  refine ⟨g, c, by rw [hs], fun i hi => ?_, hb⟩
  have := (Kd.R_cell (0 : Int) hR' (i : Int) (by omega) (by omega)).1
  rw [Int.toNat_natCast] at this
  rw [this]
  simp [rdOf]
theorem aw1 (w : World) (base B M Bd : Nat) (vc : Value) (h : DK w base B M Bd vc (newP 2)) :
    Calls Try.prog 17 #[.pointer (some ⟨B, 0, none⟩), .int .i64 0, .slice (some ⟨w.heap.size, 0, none⟩) 1 1] (w.alloc (.cells #[.int .u8 97] 5 (1, 2))) fun r w' => r = .returned (.int .i64 0) ∧ ∃ vc', DK w' base B M Bd vc' d1 ∧ Below base w w' :=
  write_lit w base B M Bd vc (newP 2) d1 0 0 [97] (1, 2) w1e (by decide) (by decide) h
theorem aw2 (w : World) (base B M Bd : Nat) (vc : Value) (h : DK w base B M Bd vc d1) :
    Calls Try.prog 17 #[.pointer (some ⟨B, 0, none⟩), .int .i64 1, .slice (some ⟨w.heap.size, 0, none⟩) 1 1] (w.alloc (.cells #[.int .u8 98] 5 (1, 2))) fun r w' => r = .returned (.int .i64 0) ∧ ∃ vc', DK w' base B M Bd vc' d2 ∧ Below base w w' :=
  write_lit w base B M Bd vc d1 d2 1 0 [98] (1, 2) w2e (by decide) d1c h
theorem aw3 (w : World) (base B M Bd : Nat) (vc : Value) (h : DK w base B M Bd vc d2) :
    Calls Try.prog 20 #[.pointer (some ⟨B, 0, none⟩), .slice (some ⟨w.heap.size, 0, none⟩) 2 2] (w.alloc (.cells #[.bool false, .bool true] 4)) fun r w' => r = .returned (.tuple #[]) ∧ DK w' base B M Bd (.slice none 0 0) d3 ∧ Below base w w' :=
  crash_lit w base B M Bd vc d2 [false, true] (0, 0) (by decide) d2c h
theorem aw4 (w : World) (base B M Bd : Nat) (vc : Value) (h : DK w base B M Bd vc d3) :
    Calls Try.prog 23 #[.pointer (some ⟨B, 0, none⟩), .int .i64 0] w fun e w' => ∃ g c, e = .returned (.tuple #[.slice (some ⟨g, 0, none⟩) 64 c, .int .i64 0]) ∧ (w'.cell? ⟨g, 0, none⟩ = some (.int .u8 0)) ∧ Below w.heap.size w w' :=
  (read64 w base B M Bd vc d3 0 zsec r0e rfl (by rw [d3c]; decide) h).mono fun e w' ⟨g, c, h1, h2, h3⟩ => ⟨g, c, h1, h2 0 (by decide), h3⟩
theorem aw5 (w : World) (base B M Bd : Nat) (vc : Value) (h : DK w base B M Bd vc d3) :
    Calls Try.prog 23 #[.pointer (some ⟨B, 0, none⟩), .int .i64 1] w fun e w' => ∃ g c, e = .returned (.tuple #[.slice (some ⟨g, 0, none⟩) 64 c, .int .i64 0]) ∧ (w'.cell? ⟨g, 0, none⟩ = some (.int .u8 98)) ∧ (w'.cell? ⟨g, 1, none⟩ = some (.int .u8 0)) ∧ Below w.heap.size w w' :=
  (read64 w base B M Bd vc d3 1 (pad [98]) r1e rfl (by rw [d3c]; decide) h).mono fun e w' ⟨g, c, h1, h2, h3⟩ => ⟨g, c, h1, h2 0 (by decide), h2 1 (by decide), h3⟩
set_option maxHeartbeats 1000000 in
theorem awake_calls (w : World) : Calls Try.prog 13 #[] w fun e w' => e = .returned (.bool true) ∧ Below w.heap.size w w' := by
  have hcv := fun (w : World) (C : Array Value) (n c : Nat) => Lib.run_convert_bytes_const (P := Try.prog) w 29 5 C n c Try.underlying29 Try.underlying5
  go_enter Try.func13, Try.ntmps13
  go_wp2_with (first | (go_at_call 15; refine (new_calls w w.heap.size (Nat.le_refl _) 2).mono ?_; rintro e w1 ⟨B, M, Bd, rfl, hd, hb⟩; have HD1 := Aside0.mk hd; have HB1 := Aside0.mk hb; clear hd hb) | (go_at_call 17; with_reducible refine (aw1 w1 w.heap.size B M Bd _ HD1.out).mono ?_; rintro e w2 ⟨rfl, vc2, hd, hb⟩; have HD2 := Aside0.mk hd; have HB2 := Aside0.mk hb; clear hd hb) | (go_at_call 17; with_reducible refine (aw2 w2 w.heap.size B M Bd _ HD2.out).mono ?_; rintro e w3 ⟨rfl, vc3, hd, hb⟩; have HD3 := Aside0.mk hd; have HB3 := Aside0.mk hb; clear hd hb) | (go_at_call 20; with_reducible refine (aw3 w3 w.heap.size B M Bd _ HD3.out).mono ?_; rintro e w4 ⟨rfl, hd, hb⟩; have HD4 := Aside0.mk hd; have HB4 := Aside0.mk hb; clear hd hb) | (go_at_call 23; with_reducible refine (aw4 w4 w.heap.size B M Bd _ HD4.out).mono ?_; rintro e w5 ⟨g5, c5, rfl, hx0, hb⟩; have HB5 := Aside0.mk hb; have HD5 := Aside0.mk (HD4.out.chg (.of_below hb)); clear hb) | (go_at_call 23; with_reducible refine (aw5 w5 w.heap.size B M Bd _ HD5.out).mono ?_; rintro e w6 ⟨g6, c6, rfl, hy0, hy1, hb⟩; have hx1 := bel_cell hb hx0; have HB6 := Aside0.mk hb; clear hb hx0))
  go_ret
  exact ⟨rfl, HB1.out.trans (HB2.out.trans (HB3.out.trans (HB4.out.trans ((HB5.out.mono HD4.out.base_le).trans (HB6.out.mono HD5.out.base_le)))))⟩
end Go.Proofs.Ytlepcmljmibdnaa
