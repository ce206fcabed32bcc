/- The contract of the statements' example of chapter 32: it answers true. No conditions. -/
import Derived.Test.YtfekceekaeobcaaPack
import Derived.Lib.SlBytesConst
namespace Go.Proofs.Ytfekceekaeobcaa
open Go.RowKit Go.Proofs.YtfekceekaeobcaaW.PrintWords Go.Proofs.YtfekceekaeobcaaW.PrintLast Go.Proofs.YtfekceekaeobcaaW.PrintMore
open PPressPacks
set_option linter.unusedVariables false
set_option linter.unusedSimpArgs false

theorem pack_a : packL 200 [97, 97, 97, 97, 97, 97, 97, 97] [] [] 0 = some [0, 97, 132, 1] := by decide +kernel

theorem C_lit (w : World) (xs : List Int) (fr : Nat × Nat) (hx : xs.length ≤ 9223372036854775807) : (Kd.int .u8).C (w.alloc (.cells (xs.map (Value.int .u8)).toArray 5 fr)) (some ⟨w.heap.size, 0, none⟩) xs.length xs := by
  refine Kd.C_of_reads (d := (0 : Int)) (h1 := fun _ => rfl) (enc := Value.int .u8) ⟨rfl, hx, fun _ => ⟨_, rfl, fun j hj => ?_⟩⟩
  have hc := cell_of_row (w.alloc (.cells (xs.map (Value.int .u8)).toArray 5 fr)) w.heap.size j (xs.map (Value.int .u8)).toArray 5 fr (heap_alloc_new w _)
  rw [add_plain, hc]
  simp [List.getElem?_eq_getElem hj, List.getD_eq_getElem?_getD]

theorem R_addr {α : Type} {d : Kd α} {e : Nat} {w : World} {base : Nat} {ok : Nat → Prop} {v : Value} {xs : List α} (h : d.R e w base ok v xs) (hn : 0 < xs.length) : ∃ g c, v = .slice (some ⟨g, 0, none⟩) xs.length c := by
  obtain ⟨_, inner, ho, _⟩ := h
  obtain ⟨g, cap, rfl, _⟩ := ho.form hn
  exact ⟨g, cap, rfl⟩
theorem add_ (g o j : Nat) : (⟨g, o, none⟩ : Addr).add j = ⟨g, o + j, none⟩ := by unfold Addr.add; split <;> simp_all
set_option maxHeartbeats 1000000 in
theorem awake_calls (w : World) : Calls Try.prog 5 #[] w fun e w' => e = .returned (.bool true) ∧ Below w.heap.size w w' := by
  have hcv := fun (w : World) (C : Array Value) (n c : Nat) => Lib.run_convert_bytes_const (P := Try.prog) w 22 5 C n c Try.underlying22 Try.underlying5
  go_enter Try.func5, Try.ntmps5
  go_wp2_with (go_at_call 8; refine (pack_calls 200 (some ⟨w.heap.size, 0, none⟩) 8 [97, 97, 97, 97, 97, 97, 97, 97] [0, 97, 132, 1] _ (C_lit w [97, 97, 97, 97, 97, 97, 97, 97] (8, 9) (by decide)) (by decide) (by decide) pack_a).mono ?_; rintro e w1 ⟨v, rfl, hr, hb⟩; obtain ⟨g, c, rfl⟩ := R_addr hr (by decide); have HC := (Kd.R_reads' hr).2.2; obtain ⟨a0, e0, h0⟩ := Kd.at_int HC 0 (by decide) (by decide); obtain ⟨a1, e1, h1⟩ := Kd.at_int HC 1 (by decide) (by decide);  obtain ⟨a2, e2, h2⟩ := Kd.at_int HC 2 (by decide) (by decide);  obtain ⟨a3, e3, h3⟩ := Kd.at_int HC 3 (by decide) (by decide); cases e0; cases e1; cases e2; cases e3; simp only [add_] at h0 h1 h2 h3; replace h0 : w1.cell? ⟨g, 0, none⟩ = some (.int .u8 0) := h0; replace h1 : w1.cell? ⟨g, 1, none⟩ = some (.int .u8 97) := h1; replace h2 : w1.cell? ⟨g, 2, none⟩ = some (.int .u8 132) := h2; replace h3 : w1.cell? ⟨g, 3, none⟩ = some (.int .u8 1) := h3; have HB := Aside0.mk hb; clear hb HC hr)
  go_ret
  exact ⟨rfl, below_step (below_alloc (Below.refl _ _) _) HB.out⟩
end Go.Proofs.Ytfekceekaeobcaa
