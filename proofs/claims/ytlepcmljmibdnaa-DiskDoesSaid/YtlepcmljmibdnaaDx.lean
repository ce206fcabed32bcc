/- The disk's Clone. Conditions: those of each statement. -/
import Derived.Test.YtlepcmljmibdnaaDo
import Derived.Test.YtlepcmljmibdnaaFork
namespace Go.Proofs.Ytlepcmljmibdnaa
open Go.RowKit Go.Proofs.YtlepcmljmibdnaaW.PrintWords Go.Proofs.YtlepcmljmibdnaaW.PrintLast Go.Proofs.YtlepcmljmibdnaaW.PrintMore
attribute [local go_sem] run_makeMap
set_option linter.unusedVariables false
set_option linter.unusedSimpArgs false
/-- a disk with its own blocks -/
theorem clone_dk {w : World} {base B M Bd : Nat} {D : PD} {es : Array MapEntry} {clock : Nat} (hB : w.heap[B]? = some (.cells #[.int .i64 D.n, .map (some M), .slice none 0 0, .map (some Bd), .bool false, .int .i64 0, .bool false] 96 (0, 0)))
    (hM : w.heap[M]? = some (.map es clock)) (hr : Mp.Rep (.int .i64) es (keptF D.kept)) (hBd : w.heap[Bd]? = some (.map #[] 0)) (h1 : base ≤ B) (h2 : base ≤ M) (h3 : base ≤ Bd) (hne : M ≠ Bd ∧ M ≠ B ∧ Bd ≠ B) (hs : ∀ a s, D.kept a = some s → s.length = 64) (hn : 0 ≤ D.n ∧ D.n ≤ 4096) :
    DK w base B M Bd (.slice none 0 0) (cloneP D) := by
  refine ⟨hB, ⟨es, clock, hM, hr⟩, ⟨#[], 0, hBd, ?_⟩, Kd.R_nil _ _ _ _ _, h1, h2, h3, hne, hs, hn, by simp [cloneP]⟩
  rw [show (cloneP D).bad = fun _ => false from rfl, badF_none]
  exact ⟨by simp, by simp, by simp, by simp⟩
theorem dclone_calls (w : World) (base base' B M Bd : Nat) (vc : Value) (D : PD) (hb' : base' ≤ w.heap.size) (h : DK w base B M Bd vc D) :
    Calls Try.prog 21 #[.pointer (some ⟨B, 0, none⟩)] w fun e w' => ∃ B' M' Bd', e = .returned (.pointer (some ⟨B', 0, none⟩)) ∧ DK w' base' B' M' Bd' (.slice none 0 0) (cloneP D) ∧ Below w.heap.size w w' ∧ (w.heap.size ≤ B' ∧ w.heap.size ≤ M' ∧ w.heap.size ≤ Bd') := by
  have HD := Aside0.mk h
  obtain ⟨⟨g0, g1, g2, g3, g4, g5, g6⟩, k2, k4, k5, k6⟩ := cells7 h.blk
  obtain ⟨es, clock, hes, hrep⟩ := h.kept
  have hlt : M < w.heap.size := h.kept.lt
  have HES : Aside0 (w.drew.heap[M]? = some (.map es clock)) := ⟨hes⟩
  have HES2 : Aside0 ((w.alloc (Obj.map #[] 0)).drew.heap[M]? = some (.map es clock)) := ⟨(heap_alloc_old w _ hlt).trans hes⟩
  have HREP := Aside0.mk hrep
  have g0' : w.drew.cell? ⟨B, 0, none⟩ = some (.int .i64 D.n) := g0
  have g1' : w.drew.cell? ⟨B, 1, none⟩ = some (.map (some M)) := g1
  clear k2 k4 k5 k6 g4 g5 g6 g2 g3 h hes hrep
  go_enter Try.func21, Try.ntmps21
  go_wp2_with (first | (go_at_call 63; refine (ok_calls _ _ _ g1).mono ?_; rintro e w' ⟨rfl, rfl⟩))
  refine Fork.wp_fork (Fork.Lo.rel 0) [] [] (.one 0 0 (.one 1 0 (.one 2 0 (.one 4 0 (.one 5 0 (.one 6 0 (.one 3 1 (.one 7 1 (.two 8 (.one 9 2 (.one 10 0 (.one 11 2 (.one 12 0 .nil)))) 9 (.one 8 2 (.one 10 0 (.one 11 2 (.one 12 0 .nil))))))))))))) (by kernel_rfl) (by kernel_rfl) ?_
  generalize hops : List.toArray (_ : List Oper) = ops
  have HO := Aside0.mk hops
  clear hops
  iterate 6 ((refine Fork.plain (Fork.at_ HO.out rfl) _ rfl (fun W => by go_simp; exact rfl) ?_); simp only [Act.put, List.setIfInBounds_toArray, List.set_cons_succ, List.set_cons_zero])
  refine Fork.reads (Fork.at_ HO.out rfl) _ rfl (fun W hW => Arr.ex_load1 rfl rfl (by kernel_rfl) (Fork.bel_cell hW (by assumption))) ?_
  simp only [Act.put, List.setIfInBounds_toArray, List.set_cons_succ, List.set_cons_zero]
  refine Fork.reads (Fork.at_ HO.out rfl) _ rfl (fun W hW => Arr.ex_load1 rfl rfl (by kernel_rfl) (Fork.bel_cell hW (by assumption))) ?_
  simp only [Act.put, List.setIfInBounds_toArray, List.set_cons_succ, List.set_cons_zero]
  refine Fork.fork (Fork.at_ HO.out rfl) (Fork.at_ HO.out rfl) (fun K hK => ?_) (fun K hK => ?_)
  focus
    go_simp
    refine (mclone_calls _ M es clock HES.out).mono ?_
    rintro e w5 ⟨rfl, rfl⟩
    refine hK _ _ (.of_new (Below.alloc (Below.refl _ _) (Nat.le_refl _) _) (Nat.zero_le _)) ?_
    clear hK K
    try simp only [Act.put, List.setIfInBounds_toArray, List.set_cons_succ, List.set_cons_zero]
    refine Fork.step (Fork.at_ HO.out rfl) (fun K hK => ?_)
    go_simp
    refine hK _ _ (.of_new (Below.alloc (Below.refl _ _) (Nat.le_refl _) _) (Nat.zero_le _)) ?_
    clear hK K
    try simp only [Act.put, List.setIfInBounds_toArray, List.set_cons_succ, List.set_cons_zero]
    ((refine Fork.plain (Fork.at_ HO.out rfl) _ rfl (fun W => by go_simp; exact rfl) ?_); simp only [Act.put, List.setIfInBounds_toArray, List.set_cons_succ, List.set_cons_zero])
    refine Fork.step (Fork.at_ HO.out rfl) (fun K hK => ?_)
    go_simp
    refine hK _ _ (.of_new (Below.alloc (Below.refl _ _) (Nat.le_refl _) _) (Nat.zero_le _)) ?_
    clear hK K
    try simp only [Act.put, List.setIfInBounds_toArray, List.set_cons_succ, List.set_cons_zero]
    ((refine Fork.plain (Fork.at_ HO.out rfl) _ rfl (fun W => by go_simp; exact rfl) ?_); simp only [Act.put, List.setIfInBounds_toArray, List.set_cons_succ, List.set_cons_zero])
    refine Fork.done ?_
    go_wp2
    go_ret
    have hs0 : (w.alloc (.map es clock)).heap.size = w.heap.size + 1 := alloc_size w _
    have hs1 : ((w.alloc (.map es clock)).alloc (.map #[] 0)).heap.size = w.heap.size + 1 + 1 := by rw [alloc_size, hs0]
    refine ⟨w.heap.size + 1 + 1, w.heap.size, w.heap.size + 1, rfl, clone_dk (es := es) (clock := clock) ?_ ?_ HREP.out ?_ (by omega) (by omega) (by omega) (by omega) HD.out.sec HD.out.hn, Chg.below (((((Chg.refl w (fun _ => False)).alloc _).alloc _).alloc _).drew) (Nat.le_refl _) (fun _ h => h.elim), by omega, by omega, by omega⟩
    · have := heap_alloc_new ((w.alloc (.map es clock)).alloc (.map #[] 0)) (.cells #[.int .i64 D.n, .map (some w.heap.size), .slice none 0 0, .map (some (w.heap.size + 1)), .bool false, .int .i64 0, .bool false] 96)
      rw [hs1] at this
      exact this
    · exact (heap_alloc_old _ _ (by rw [hs1]; omega)).trans ((heap_alloc_old _ _ (by rw [hs0]; omega)).trans (heap_alloc_new w _))
    · have := heap_alloc_new (w.alloc (.map es clock)) (.map #[] 0)
      rw [hs0] at this
      exact (heap_alloc_old _ _ (by rw [hs1]; omega)).trans this
  rotate_left 1
  focus
    go_simp
    refine hK _ _ (.of_new (Below.alloc (Below.refl _ _) (Nat.le_refl _) _) (Nat.zero_le _)) ?_
    clear hK K
    try simp only [Act.put, List.setIfInBounds_toArray, List.set_cons_succ, List.set_cons_zero]
    refine Fork.step (Fork.at_ HO.out rfl) (fun K hK => ?_)
    go_simp
    refine (mclone_calls _ M es clock HES2.out).mono ?_
    rintro e w5 ⟨rfl, rfl⟩
    refine hK _ _ (.of_new (Below.alloc (Below.refl _ _) (Nat.le_refl _) _) (Nat.zero_le _)) ?_
    clear hK K
    try simp only [Act.put, List.setIfInBounds_toArray, List.set_cons_succ, List.set_cons_zero]
    ((refine Fork.plain (Fork.at_ HO.out rfl) _ rfl (fun W => by go_simp; exact rfl) ?_); simp only [Act.put, List.setIfInBounds_toArray, List.set_cons_succ, List.set_cons_zero])
    refine Fork.step (Fork.at_ HO.out rfl) (fun K hK => ?_)
    go_simp
    refine hK _ _ (.of_new (Below.alloc (Below.refl _ _) (Nat.le_refl _) _) (Nat.zero_le _)) ?_
    clear hK K
    try simp only [Act.put, List.setIfInBounds_toArray, List.set_cons_succ, List.set_cons_zero]
    ((refine Fork.plain (Fork.at_ HO.out rfl) _ rfl (fun W => by go_simp; exact rfl) ?_); simp only [Act.put, List.setIfInBounds_toArray, List.set_cons_succ, List.set_cons_zero])
    refine Fork.done ?_
    go_wp2
    go_ret
    have hs0 : (w.alloc (.map #[] 0)).heap.size = w.heap.size + 1 := alloc_size w _
    have hs1 : ((w.alloc (.map #[] 0)).alloc (.map es clock)).heap.size = w.heap.size + 1 + 1 := by rw [alloc_size, hs0]
    refine ⟨w.heap.size + 1 + 1, w.heap.size + 1, w.heap.size, rfl, clone_dk (es := es) (clock := clock) ?_ ?_ HREP.out ?_ (by omega) (by omega) (by omega) (by omega) HD.out.sec HD.out.hn, Chg.below (((((Chg.refl w (fun _ => False)).alloc _).alloc _).alloc _).drew) (Nat.le_refl _) (fun _ h => h.elim), by omega, by omega, by omega⟩
    · have := heap_alloc_new ((w.alloc (.map #[] 0)).alloc (.map es clock)) (.cells #[.int .i64 D.n, .map (some (w.heap.size + 1)), .slice none 0 0, .map (some w.heap.size), .bool false, .int .i64 0, .bool false] 96)
      rw [hs1] at this
      exact this
    · have := heap_alloc_new (w.alloc (.map #[] 0)) (.map es clock)
      rw [hs0] at this
      exact (heap_alloc_old _ _ (by rw [hs1]; omega)).trans this
    · exact (heap_alloc_old _ _ (by rw [hs1]; omega)).trans ((heap_alloc_old _ _ (by rw [hs0]; omega)).trans (heap_alloc_new w _))
end Go.Proofs.Ytlepcmljmibdnaa
