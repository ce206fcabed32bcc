/- The reference's disk is made. Conditions: those of each statement. -/
import Derived.Test.YtlepcmljmibdnaaTc
namespace Go.Proofs.Ytlepcmljmibdnaa
open Go.RowKit Go.Proofs.YtlepcmljmibdnaaW.PrintWords Go.Proofs.YtlepcmljmibdnaaW.PrintLast Go.Proofs.YtlepcmljmibdnaaW.PrintMore PDiskArms
set_option linter.unusedVariables false
set_option linter.unusedSimpArgs false
theorem info5e : (Try.prog.info? 5).map (fun i => (i.zero, i.size, i.bytes)) = some (some (.int .u8 0), (Kd.int .u8).sz, 1) := by kernel_rfl
theorem info29e : (Try.prog.info? 29).map (fun i => (i.zero, i.size, i.bytes)) = some (some (.slice none 0 0), bytesK.sz, 24) := by kernel_rfl
theorem info4e : (Try.prog.info? 4).map (fun i => (i.zero, i.size, i.bytes)) = some (some (.bool false), Kd.bool.sz, 1) := by kernel_rfl
theorem info106e : (Try.prog.info? 106).map (fun i => (i.zero, i.size, i.bytes)) = some (some (.agg #[.int .i64 0, .slice none 0 0]), rwrK.sz, 32) := by kernel_rfl
/-- a row of noughts, made -/
theorem make64 (W : World) : (Instr.makeSlice 29 (.int .i64 64) (.int .i64 64)).run Try.prog W = .ok (.slice (some ⟨W.heap.size, 0, none⟩) 64 64) (W.alloc (.cells (madeCells #[.int .u8 0] 64) 5)) :=
  print_make (P := Try.prog) 29 5 .u8 1 Try.underlying29 info5e (by decide) 64 (by decide) W
theorem made_R (W : World) (base : Nat) (hb : base ≤ W.heap.size) : Kd.R (Kd.int .u8) 5 (W.alloc (.cells (madeCells #[.int .u8 0] 64) 5)) base (fun k => W.heap.size ≤ k) (.slice (some ⟨W.heap.size, 0, none⟩) 64 64) zsec :=
  Kd.R_of_own (own_made W base 5 .u8 64 hb (by decide)) (fun k hk => by have : W.heap.size = k := by simpa [Value.ownBlock] using hk
                                                                        omega)
def rnewN (n : Int) : Nat := (min (max n 0) 4096).toNat
def rnewX (m : Nat) : RX := { S := List.replicate m zsec, cache := [], bad := List.replicate m false, left := -1, dead := false }
theorem rep_succ {α : Type} (m : Nat) (x : α) : List.replicate m x ++ [x] = List.replicate (m + 1) x := by rw [List.replicate_succ']
theorem make_M (W : World) (base : Nat) (hb : base ≤ W.heap.size) : bytesK.M (W.alloc (.cells (madeCells #[.int .u8 0] 64) 5)) base (fun k => W.heap.size ≤ k) zsec [.slice (some ⟨W.heap.size, 0, none⟩) 64 64] :=
  ⟨_, rfl, made_R W base hb⟩
def RNewP (w : World) (N : Nat) (e : Ending) (w' : World) : Prop := ∃ B vS vB, e = .returned (.pointer (some ⟨B, 0, none⟩)) ∧ RM w' w.heap.size B vS (.slice none 0 0) vB (rnewX N) ∧ Below w.heap.size w w'
set_option maxHeartbeats 1000000 in
theorem rnew_calls (w : World) (n : Int) :
    Calls Try.prog 25 #[.int .i64 n] w (RNewP w (rnewN n)) := by
  have hmk := make64
  have hN : Aside0 ((rnewN n : Int) = min (max n 0) 4096) := ⟨by unfold rnewN; omega⟩
  generalize rnewN n = N at hN
  have hN4 : N ≤ 4096 := by have := hN.out; omega
  have hblk := heap_alloc_new w (.cells #[.slice none 0 0, .slice none 0 0, .slice none 0 0, .int .i64 (-1), .bool false] 53)
  have H0 : Aside0 (RM (w.alloc (.cells #[.slice none 0 0, .slice none 0 0, .slice none 0 0, .int .i64 (-1), .bool false] 53)) w.heap.size w.heap.size (.slice none 0 0) (.slice none 0 0) (.slice none 0 0) (rnewX 0)) :=
    ⟨⟨hblk, Kd.R_nil _ _ _ _ _, Kd.R_nil _ _ _ _ _, Kd.R_nil _ _ _ _ _, Nat.le_refl _⟩⟩
  clear hblk
  go_enter Try.func25, Try.ntmps25
  go_wp2
  go_loopg [4] N (fun kq v4 w' => ∃ (i : Nat) (vS vB : Value), v4 = .int .i64 (i : Int) ∧ Aside0 (i + kq = N) ∧ Aside0 (RM w' w.heap.size w.heap.size vS (.slice none 0 0) vB (rnewX i)) ∧ Aside0 (Below w.heap.size w w'))
  case atStart => exact ⟨0, _, _, rfl, ⟨by omega⟩, H0, ⟨Below.alloc (Below.refl _ _) (Nat.le_refl _) _⟩⟩
  case round =>
    obtain ⟨i, vS, vB, rfl, HI, HRi, HBi⟩ := hrel
    by_cases hi : i < N
    · have h1 : (i : Int) < n := by have := hN.out; omega
      have h2 : (i : Int) < 4096 := by have := hN.out; omega
      have hcs := cells5 HRi.out.blk
      obtain ⟨⟨q0, q1, q2, q3, q4⟩, f0, f1, f2, f3, f4⟩ := hcs
      obtain ⟨A, c, hvS⟩ := Kd.R_slice HRi.out.S
      have HVS := Aside0.mk hvS
      have q0' : wr.drew.cell? ⟨w.heap.size, 0, none⟩ = some vS := q0
      have HBS := Aside0.mk (show w.heap.size ≤ wr.heap.size from HBi.out.size)
      clear q0 q1 q3 q4 hvS f1 f3 f4
      have HM : Aside0 (bytesK.M (wr.alloc (.cells (madeCells #[.int .u8 0] 64) 5)).drew w.heap.size (fun k => wr.heap.size ≤ k) zsec [.slice (some ⟨wr.heap.size, 0, none⟩) 64 64]) := ⟨Kd.M_step (make_M wr w.heap.size HBS.out) (fun _ _ _ => rfl)⟩
      have HSZ : Aside0 ((wr.alloc (.cells (madeCells #[.int .u8 0] 64) 5)).drew.heap.size = wr.heap.size + 1) := ⟨alloc_size wr _⟩
      have HOK : Aside0 (∀ k, wr.heap.size ≤ k → True ∧ some k ≠ vS.ownBlock) := ⟨fun k hk => ⟨trivial, Kd.fresh_ok HRi.out.S k hk⟩⟩
      have HS1 := Aside0.mk (HRi.out.fresh (Below.alloc (Below.refl wr.heap.size wr) (Nat.le_refl _) (.cells (madeCells #[.int .u8 0] 64) 5)).drew).S
      have HBW := Aside0.mk (show w.heap.size ≤ (wr.alloc (.cells (madeCells #[.int .u8 0] 64) 5)).drew.heap.size from Nat.le_trans HBS.out (Below.alloc (Below.refl wr.heap.size wr) (Nat.le_refl _) _).size)
      have HLL := Aside0.mk (show ((rnewX i).S.length + 1) * 24 ≤ 140737488355328 by rw [show (rnewX i).S.length = i from List.length_replicate]; omega)
      have HLT := Aside0.mk HRi.out.lt
      have HBLT := Aside0.mk (show w.heap.size < (wr.alloc (.cells (madeCells #[.int .u8 0] 64) 5)).drew.heap.size from Nat.lt_of_lt_of_le HLT.out (Below.alloc (Below.refl wr.heap.size wr) (Nat.le_refl _) _).size)
      have HBN := Aside0.mk (show some w.heap.size ≠ vS.ownBlock from fun e => by
        obtain ⟨_, cells, hc⟩ := own_cells HRi.out.S _ e
        rw [HRi.out.blk] at hc
        simp at hc)
      go_wp2
      refine Fork.wp_fork (Fork.Lo.rel 0) [7, 10] [] (.one 0 0 (.one 1 0 (.one 2 0 (.one 3 0 (.one 4 1 (.one 5 2 (.one 6 2 (.one 7 2 (.one 8 0 (.one 9 0 (.one 10 2 .nil))))))))))) (by kernel_rfl) (by kernel_rfl) ?_
      generalize hops : List.toArray (_ : List Oper) = ops
      have HO := Aside0.mk hops
      clear hops
      iterate 4 ((refine Fork.plain (Fork.at_ HO.out rfl) _ rfl (fun W => by go_simp; exact rfl) ?_); simp only [Act.put, List.setIfInBounds_toArray, List.set_cons_succ, List.set_cons_zero])
      refine Fork.reads (Fork.at_ HO.out rfl) _ rfl (fun W hW => Arr.ex_load1 rfl rfl (by kernel_rfl) (Fork.bel_cell hW (by assumption))) ?_
      simp only [Act.put, List.setIfInBounds_toArray, List.set_cons_succ, List.set_cons_zero]
      refine Fork.step (Fork.at_ HO.out rfl) (fun K hK => ?_)
      go_simp
      refine hK _ _ (.of_new (Below.alloc (Below.refl _ _) (Nat.le_refl _) _) (Nat.zero_le _)) ?_
      clear hK K
      try simp only [Act.put, List.setIfInBounds_toArray, List.set_cons_succ, List.set_cons_zero]
      refine Fork.step (Fork.at_ HO.out rfl) (fun K hK => ?_)
      go_simp
      refine hK _ _ (.of_new (Below.alloc (Below.refl _ _) (Nat.le_refl _) _) (Nat.zero_le _)) ?_
      clear hK K
      try simp only [Act.put, List.setIfInBounds_toArray, List.set_cons_succ, List.set_cons_zero]
      refine Fork.step (Fork.at_ HO.out rfl) (fun K hK => ?_)
      refine Kd.R_append_step bytesK (W := (wr.alloc (.cells (madeCells #[.int .u8 0] 64) 5)).drew) (w0 := (wr.alloc (.cells (madeCells #[.int .u8 0] 64) 5)).drew) w.heap.size rfl (.tmp 20) (.tmp 22) 50 29 (.slice none 0 0) 24 rfl Try.underlying50 info29e rfl (by decide) (by decide) vS (rnewX i).S zsec [.slice (some ⟨wr.heap.size, 0, none⟩) 64 64] (fun _ => True) (fun k => wr.heap.size ≤ k) rfl (by rw [HSZ.out]; rfl) HM.out HOK.out (fun _ _ => trivial) HS1.out (Below.refl _ _) HBW.out HLL.out ?_
      intro v1 w4 ho hb hg hat
      refine hK _ _ (.of_old (.zero hg.os hg.tape hg.output) rfl) ?_
      clear hK K
      have hblk4 : w4.heap[w.heap.size]? = wr.heap[w.heap.size]? := (hg.block _ HBLT.out HBN.out).trans (heap_alloc_old wr _ HLT.out)
      obtain ⟨⟨r0, r1, r2, r3, r4⟩, g0, g1, g2, g3, g4⟩ := cells5 (hblk4.trans HRi.out.blk)
      clear r1 r2 r3 r4 g1 g2 g3 g4
      obtain ⟨A1, c1, hv1⟩ := Kd.R_slice ho
      generalize ((rnewX i).S ++ [zsec]).length = n1 at hv1
      subst hv1
      have HR1 := Aside0.mk ho
      have HG1 := Aside0.mk hg
      clear ho hb hg hat hblk4
      try simp only [Act.put, List.setIfInBounds_toArray, List.set_cons_succ, List.set_cons_zero]
      iterate 2 ((refine Fork.plain (Fork.at_ HO.out rfl) _ rfl (fun W => by go_simp; exact rfl) ?_); simp only [Act.put, List.setIfInBounds_toArray, List.set_cons_succ, List.set_cons_zero])
      refine Fork.step (Fork.at_ HO.out rfl) (fun K hK => ?_)
      go_simp
      refine hK _ _ (.of_old (.zero rfl rfl rfl) rfl) ?_
      clear hK K
      try simp only [Act.put, List.setIfInBounds_toArray, List.set_cons_succ, List.set_cons_zero]
      refine Fork.done ?_
      have hX1 : { rnewX i with S := (rnewX i).S ++ [zsec] } = { rnewX (i + 1) with bad := (rnewX i).bad } := by unfold rnewX; simp [rep_succ]
      have hc1 : Chg wr w4 (fun k => some k = vS.ownBlock) := ((Chg.refl wr _).alloc _).drew.trans (chg_grown HG1.out (fun _ h => h))
      obtain ⟨k1, k2⟩ := HRi.out.reS hc1 HR1.out
      rw [hX1] at k1
      have HK1 := Aside0.mk k1
      have HBk := Aside0.mk (HBi.out.trans k2.low)
      generalize w4.setCell ⟨w.heap.size, 0, none⟩ (Value.slice A1 n1 c1) = w5 at HK1 HBk ⊢
      clear q0' f0 f2 r0 g0 hX1 hc1 k1 k2
      obtain ⟨⟨q0, q1, q2, q3, q4⟩, f0, f1, f2, f3, f4⟩ := cells5 HK1.out.blk
      obtain ⟨Ab, cb, hvB⟩ := Kd.R_slice HK1.out.bad
      have HVB := Aside0.mk hvB
      have HLB := Aside0.mk (show (rnewX i).bad.length = i from List.length_replicate)
      have HNB := Aside0.mk (show some w.heap.size ≠ vB.ownBlock from fun e => by
        obtain ⟨_, cells, hc⟩ := own_cells HK1.out.bad _ e
        rw [HK1.out.blk] at hc
        simp at hc)
      clear q0 q1 q3 q4 hvB f0 f1 f3 f4
      go_wp2_with (first | ((with_reducible refine gate_builtin (b := .append) (xs := #[.tmp 30, .tmp 31]) rfl ?_); at_builtin; refine Kd.R_append Kd.bool (W := w5) (w0 := w5) w.heap.size rfl (.tmp 30) (.tmp 31) 23 4 (.bool false) 1 rfl Try.underlying23 info4e rfl (by decide) (by decide) vB (rnewX i).bad false [.bool false] (fun _ => True) (fun _ => False) rfl rfl rfl (fun _ h => h.elim) (fun _ _ => trivial) HK1.out.bad (Below.refl _ _) HBk.out.size (by rw [HLB.out]; omega) ?_; intro v2 w6 ho hb hg hat; have hblk6 := (hg.block _ HK1.out.lt HNB.out).trans HK1.out.blk; obtain ⟨⟨r0, r1, r2, r3, r4⟩, g0, g1, g2, g3, g4⟩ := cells5 hblk6; clear r0 r1 r3 r4 g0 g1 g3 g4 hblk6; obtain ⟨A2, c2, hv2⟩ := Kd.R_slice ho; generalize ((rnewX i).bad ++ [false]).length = n2 at hv2; subst hv2; have HR2 := Aside0.mk ho; have HG2 := Aside0.mk hg; clear ho hb hg hat))
      have hX2 : { { rnewX (i + 1) with bad := (rnewX i).bad } with bad := (rnewX i).bad ++ [false] } = rnewX (i + 1) := by unfold rnewX; simp [rep_succ]
      obtain ⟨k1, k2⟩ := HK1.out.reB (chg_grown HG2.out (fun _ h => h)) HR2.out
      rw [hX2] at k1
      have hk1 := HI.out
      obtain ⟨gq, rfl⟩ : ∃ gq, gk = gq + 1 := ⟨gk - 1, by omega⟩
      go_roundg gq
      case rel => exact ⟨i + 1, _, _, by go_num, ⟨by omega⟩, ⟨k1⟩, ⟨HBk.out.trans k2.low⟩⟩
      case measure => omega
    · have hi0 := HI.out
      obtain rfl : gk = 0 := by omega
      obtain rfl : i = N := by omega
      have hN0 := hN.out
      clear hi0
      by_cases h1 : (i : Int) < n
      · have h2 : decide ((i : Int) < 4096) = false := by simp; omega
        clear hN0
        go_wp2
        go_ret
        exact ⟨_, _, _, rfl, HRi.out, HBi.out⟩
      · clear hN0
        go_wp2
        go_ret
        exact ⟨_, _, _, rfl, HRi.out, HBi.out⟩
theorem rnew_ok (N : Nat) (h : N ≤ 4096) : XOk (rnewX N) := by
  refine ⟨fun s hs => ?_, fun p hp => ?_, ?_, ⟨?_, ?_⟩, ?_⟩
  · rw [List.eq_of_mem_replicate hs]; rfl
  · cases hp
  · simp [rnewX]
  · exact Int.le_refl _
  · show (-1 : Int) ≤ _; omega
  · simp [rnewX, h]
end Go.Proofs.Ytlepcmljmibdnaa
