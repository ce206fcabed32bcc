/- PressBack holds: bytes that were pressed together stand for what they were, hardly ever more, and fewer are refused. No conditions. -/
import Derived.Test.YtfekceekaeobcaaRows
import Derived.Test.YtfekceekaeobcaaPureC
import Derived.WalkKit
import Derived.ProofKit
import Derived.OpenShut
import Derived.ShutString
import Derived.ChangeOld
import Derived.Below
namespace Go.Proofs.Ytfekceekaeobcaa.pressBack
open Go.ChangeShapes Go.WideShapes Go.ChangeAt Go.RowKit
open Go.ChangeMaps (open_string shut_string)
set_option linter.unusedVariables false

theorem own : ownKnob Try.prog.godebug = none := by kernel_rfl
theorem laidOut : laidOutB Try.prog = true := by kernel_rfl

def IsRow (k : IntKind) (w : World) (a : Option Addr) (len cap : Nat) (zs : List Int) : Prop :=
  (a = none ∧ len = 0 ∧ cap = 0 ∧ zs = []) ∨
  ∃ x, a = some x ∧ len ≤ cap ∧ cap ≤ maxLen ∧ zs.length = cap ∧ (∀ i, i < zs.length → w.cell? (x.add i) = some (.int k (zs.getD i 0))) ∧ ∀ n ∈ zs, (Lit.int k n).wf = true

open Go.Proofs.YtfekceekaeobcaaW.PrintWords Go.Proofs.YtfekceekaeobcaaW.PrintLast Go.Proofs.YtfekceekaeobcaaW.PrintMore PPressPacks
theorem of_isRow {w : World} {a : Option Addr} {len cap : Nat} {zs : List Int} (h : IsRow .u8 w a len cap zs) : ∃ l0 : List Int, l0.length = len ∧ (∀ x ∈ l0, 0 ≤ x ∧ x ≤ 255) ∧ len ≤ cap ∧ (Kd.int .u8).C w a len l0 := by
  rcases h with ⟨rfl, rfl, rfl, rfl⟩ | ⟨x, rfl, hl, hm, hz, hc, hw⟩
  · exact ⟨[], rfl, by simp, Nat.le_refl _, Kd.C_nil _ _⟩
  · refine ⟨zs.take len, by simp; omega, fun x hx => ?_, hl, Kd.C_of_reads (d := (0 : Int)) (h1 := fun _ => rfl) (enc := Value.int .u8) ⟨by simp; omega, by simp only [maxLen] at hm; omega, fun _ => ⟨_, rfl, fun j hj => ?_⟩⟩⟩
    · have := hw x (List.mem_of_mem_take hx)
      exact bounds_u8 this
    · rw [hc j (by omega)]
      simp [List.getD_eq_getElem?_getD, hj]

set_option maxHeartbeats 4000000 in
theorem walk (a0 : Option Addr) (len0 cap0 : Nat) (z0 : List Int) (a1 : Int) (w : World) (w0 : IsRow .u8 w a0 len0 cap0 z0) (w1 : (Lit.int .i64 a1).wf = true) :
    Calls Try.prog 4 #[.slice a0 len0 cap0, .int .i64 a1] w fun e w' => e = .returned (.bool true) ∧ Below w.heap.size w w' := by
  obtain ⟨l0, rfl, hb, hcap, hC⟩ := of_isRow w0
  clear w0
  have HC := Aside0.mk hC
  have HCap := Aside0.mk hcap
  clear hC hcap
  by_cases hlen : 600 < l0.length
  · have hd : decide ((600 : Int) < (l0.length : Int)) = true := by simp; omega
    go_enter Try.func4, Try.ntmps4
    go_wp2_with (go_at_call 5; refine (awake_calls _).mono ?_; rintro e w1 ⟨rfl, hb1⟩; have HB1 := Aside0.mk hb1; clear hb1)
    go_ret
    exact ⟨rfl, HB1.out⟩
  have hp := packL_T l0 (by omega) (l0.length + 1) 0 10000 [] [] (by omega) (by omega) (by omega) (by simp)
  obtain ⟨r, hr⟩ : ∃ r, r = [] ++ packT (l0.length + 1) l0 [] 0 := ⟨_, rfl⟩
  rw [← hr] at hp
  have hrl : r.length ≤ l0.length + (l0.length + 127) / 128 := by
    have := packT_len l0 (l0.length + 1) 0 [] (by omega) (by omega)
    rw [hr]; simpa using this
  have hr8 : ∀ x ∈ r, 0 ≤ x ∧ x ≤ 255 := by
    rw [hr]; exact packT_bytes l0 hb (l0.length + 1) 0 [] (by simp) (by omega)
  have hun : ∀ most : Nat, unpackL 10000 [] r most = if l0.length ≤ most then some (l0, 0) else some ([], 2) := by
    intro most
    have := un_pack l0 (by omega) most (l0.length + 1) 0 10000 [] (by omega) (by omega) (by simp) (by simp) (by omega) (by simp; omega)
    rw [hr]
    simpa using this
  clear hr
  have hu1 := hun l0.length
  rw [if_pos (Nat.le_refl _)] at hu1
  obtain ⟨z, hz⟩ : ∃ z, z = l0 := ⟨_, rfl⟩
  have hq1 : ((strOfNums z).toList == (strOfNums l0).toList) = true := by rw [hz]; exact beq_self_eq_true _
  have hq2 : ((strOfNums z).toList != (strOfNums l0).toList) = false := by rw [hz]; simp
  rw [show some (l0, (0 : Int)) = some (z, 0) by rw [hz]] at hu1
  have HP := Aside0.mk hp
  have HR8 := Aside0.mk hr8
  have HU1 := Aside0.mk hu1
  have HUN := Aside0.mk hun
  have HM := Aside0.mk (show l0.length ≤ 1000000 by omega)
  have HRL := Aside0.mk hrl
  have HRM := Aside0.mk (show r.length ≤ 1000000 by omega)
  have hd : decide ((600 : Int) < (l0.length : Int)) = false := by simp; omega
  have hlen' : l0.length ≤ 600 := by omega
  have hd2 : decide ((l0.length : Int) + ((l0.length : Int) + 127) / 128 < (r.length : Int)) = false := by simp; omega
  clear hp hr8 hu1 hun hz hb hlen hrl
  by_cases hl1 : a1 < 1
  · have e1 : decide (a1 < 1) = true := by simp; omega
    go_enter Try.func4, Try.ntmps4
    go_wp2_with (first
    | (go_at_call 5; go_loud (refine (awake_calls _).mono ?_; rintro e w1 ⟨rfl, hb1⟩; have HB1 := Aside0.mk hb1; clear hb1))
    | (go_at_call 8; go_loud (refine (pack_calls 10000 _ _ l0 r _ (Kd.C_below HC.out HB1.out) HCap.out HM.out HP.out).mono ?_; rintro e w2 ⟨v2, rfl, hr2, hb2⟩; have HB2 := Aside0.mk (below_step HB1.out hb2); obtain ⟨A2, c2, rfl⟩ := Kd.R_slice hr2; have HR2 := Aside0.mk (Kd.R_reads' hr2).2; clear hb2 hr2))
    | (go_at_call 10; go_loud (refine (unpack_calls 10000 _ r A2 c2 (l0.length : Int) z 0 HR2.out.2 HR2.out.1 HR8.out HRM.out (by omega) HU1.out).mono ?_; rintro e w3 ⟨v3, rfl, hr3, hb3⟩; have HB3 := Aside0.mk (below_step HB2.out hb3); obtain ⟨A3, c3, rfl⟩ := Kd.R_slice hr3; have HR3 := Aside0.mk (Kd.R_reads' hr3).2.2; have HR2' := Aside0.mk (Kd.C_below HR2.out.2 hb3); have hs1 := Kd.C_string (P := Try.prog) (c := c3) Try.underlying22 Try.underlying5 Try.underlying9 HR3.out; have hs2 := Kd.C_string (P := Try.prog) (c := cap0) Try.underlying22 Try.underlying5 Try.underlying9 (Kd.C_below HC.out HB3.out); clear hb3 hr3)))
    go_ret
    exact ⟨rfl, HB3.out⟩
  have e1 : decide (a1 < 1) = false := by simp; omega
  by_cases hl2 : (l0.length : Int) < a1
  · have e2 : decide ((l0.length : Int) < a1) = true := by simp; omega
    go_enter Try.func4, Try.ntmps4
    go_wp2_with (first
    | (go_at_call 5; go_loud (refine (awake_calls _).mono ?_; rintro e w1 ⟨rfl, hb1⟩; have HB1 := Aside0.mk hb1; clear hb1))
    | (go_at_call 8; go_loud (refine (pack_calls 10000 _ _ l0 r _ (Kd.C_below HC.out HB1.out) HCap.out HM.out HP.out).mono ?_; rintro e w2 ⟨v2, rfl, hr2, hb2⟩; have HB2 := Aside0.mk (below_step HB1.out hb2); obtain ⟨A2, c2, rfl⟩ := Kd.R_slice hr2; have HR2 := Aside0.mk (Kd.R_reads' hr2).2; clear hb2 hr2))
    | (go_at_call 10; go_loud (refine (unpack_calls 10000 _ r A2 c2 (l0.length : Int) z 0 HR2.out.2 HR2.out.1 HR8.out HRM.out (by omega) HU1.out).mono ?_; rintro e w3 ⟨v3, rfl, hr3, hb3⟩; have HB3 := Aside0.mk (below_step HB2.out hb3); obtain ⟨A3, c3, rfl⟩ := Kd.R_slice hr3; have HR3 := Aside0.mk (Kd.R_reads' hr3).2.2; have HR2' := Aside0.mk (Kd.C_below HR2.out.2 hb3); have hs1 := Kd.C_string (P := Try.prog) (c := c3) Try.underlying22 Try.underlying5 Try.underlying9 HR3.out; have hs2 := Kd.C_string (P := Try.prog) (c := cap0) Try.underlying22 Try.underlying5 Try.underlying9 (Kd.C_below HC.out HB3.out); clear hb3 hr3)))
    go_ret
    exact ⟨rfl, HB3.out⟩
  have e2 : decide ((l0.length : Int) < a1) = false := by simp; omega
  have hu2 := HUN.out ((l0.length : Int) - a1).toNat
  rw [if_neg (by omega), show ((((l0.length : Int) - a1).toNat : Nat) : Int) = (l0.length : Int) - a1 by omega] at hu2
  have HU2 := Aside0.mk hu2
  clear hu2
  go_enter Try.func4, Try.ntmps4
  go_wp2_with (first
    | (go_at_call 5; go_loud (refine (awake_calls _).mono ?_; rintro e w1 ⟨rfl, hb1⟩; have HB1 := Aside0.mk hb1; clear hb1))
    | (go_at_call 8; go_loud (refine (pack_calls 10000 _ _ l0 r _ (Kd.C_below HC.out HB1.out) HCap.out HM.out HP.out).mono ?_; rintro e w2 ⟨v2, rfl, hr2, hb2⟩; have HB2 := Aside0.mk (below_step HB1.out hb2); obtain ⟨A2, c2, rfl⟩ := Kd.R_slice hr2; have HR2 := Aside0.mk (Kd.R_reads' hr2).2; clear hb2 hr2))
    | (go_at_call 10; have _t := HB3; go_loud (with_reducible refine (unpack_calls 10000 _ r A2 c2 ((l0.length : Int) - a1) [] 2 HR2'.out HR2.out.1 HR8.out HRM.out (by omega) HU2.out).mono ?_; rintro e w4 ⟨v4, rfl, hr4, hb4⟩; have HB4 := Aside0.mk (below_step HB3.out hb4); obtain ⟨A4, c4, rfl⟩ := Kd.R_slice hr4; clear hb4 hr4))
    | (go_at_call 10; go_loud (refine (unpack_calls 10000 _ r A2 c2 (l0.length : Int) z 0 HR2.out.2 HR2.out.1 HR8.out HRM.out (by omega) HU1.out).mono ?_; rintro e w3 ⟨v3, rfl, hr3, hb3⟩; have HB3 := Aside0.mk (below_step HB2.out hb3); obtain ⟨A3, c3, rfl⟩ := Kd.R_slice hr3; have HR3 := Aside0.mk (Kd.R_reads' hr3).2.2; have HR2' := Aside0.mk (Kd.C_below HR2.out.2 hb3); have hs1 := Kd.C_string (P := Try.prog) (c := c3) Try.underlying22 Try.underlying5 Try.underlying9 HR3.out; have hs2 := Kd.C_string (P := Try.prog) (c := cap0) Try.underlying22 Try.underlying5 Try.underlying9 (Kd.C_below HC.out HB3.out); clear hb3 hr3)))
  go_ret
  exact ⟨rfl, HB4.out⟩

set_option maxRecDepth 100000 in
theorem lifted (os : Os) (started : os.Started) (H : Type) (enc : TypeId × Value → H) :
    ReturnsInHanded {} Try.checked os 4 .any (Rows.pressBackSpec.pre6 enc Try.prog Try.f4 Rows.pressBackRow.domain false) (Rows.pressBackSpec.post enc Try.prog Try.f4 false true false false) := by
  refine returnsInHanded_of_change (C := Try.checked) own started (by kernel_rfl) Try.func4
    (ChangeSpec.witness6 (enc := enc) (C := Try.checked) false ⟨#[], #[.slice none 0 0, .int .i64 0], []⟩ 8 (by kernel_rfl) (by kernel_rfl) (by kernel_rfl) (by kernel_rfl)) ?_
  intro W base args ds gs before hval0 hW hcnd _
  have hval : ∀ (j : Nat) t v, Try.f4.params[j]? = some t → args[j]? = some v → Value.okWide Try.prog W .any base t v := hval0
  have hW' := hW
  obtain ⟨p, q, hA0, hV, rfl, hfz, hnd⟩ := hW
  have hA : DataW.TrodAll enc Try.prog W 0 (fun _ => true) true Try.f4.params.toList args.toList ds p := hA0
  rw [Try.params4] at hA hval
  obtain ⟨v0, vs0, d0, ds0, p0, q0, hargs, rfl, rfl, h0, r0⟩ := trodAll_cons hA
  obtain ⟨v1, vs1, d1, ds1, p1, q1, rfl, rfl, rfl, h1, r1⟩ := trodAll_cons r0
  obtain ⟨rfl, rfl, rfl⟩ := trodAll_nil r1
  obtain rfl : args = #[v0, v1] := by cases args; simp_all
  obtain ⟨rfl, rfl⟩ := trodVars_none hV
  obtain ⟨a0, len0, cap0, rfl⟩ := okWide_slice Try.underlying22 (hval 0 22 v0 rfl rfl)
  have k0 := h0
  have lt0 : ∀ x ∈ p0, x.block < W.heap.size := by obtain ⟨m, hm⟩ := k0; exact DataW.trod_lt m _ _ _ hm
  obtain ⟨z0, w0⟩ : ∃ zs, IsRow .u8 W a0 len0 cap0 zs := by
    obtain ⟨fuel, hf⟩ := h0
    rcases open_ints Try.underlying22 Try.underlying5 (by kernel_rfl) hf with ⟨hcs, _⟩ | ⟨x, l, c, zs, hcs, _, hl, hm, hz, _, hcell, hwz⟩
    · simp [Value.cells] at hcs
      obtain ⟨rfl, rfl, rfl⟩ := hcs
      exact ⟨[], .inl ⟨rfl, rfl, rfl, rfl⟩⟩
    · simp [Value.cells] at hcs
      obtain ⟨rfl, rfl, rfl⟩ := hcs
      exact ⟨zs, .inr ⟨_, rfl, hl, hm, by simpa using hz, hcell, hwz⟩⟩
  obtain ⟨a1, rfl, rfl, rfl, w1⟩ := open_int Try.underlying3 (hval 1 3 v1 rfl rfl) h1
  clear hA0 hval0
  refine (walk a0 len0 cap0 z0 a1 W w0 w1).mono fun e W' ⟨he, bel⟩ => ?_
  subst he
  exact ⟨_, rfl, _, _, _, [], _, [], hW', trodAll_mk1 (shut_bool Try.underlying4 _), (trodAll_cons_mk (Below.trod laidOut (by kernel_rfl) (of_decide_eq_true (by kernel_rfl)) k0 bel lt0) (trodAll_cons_mk (shut_int Try.underlying3 w1) trodAll_mk0)), rfl, bel.frame _, fun h => by cases h⟩

theorem over : Rows.pressBackRow.holds Try.pinned (OpenSpec.ofChange Rows.pressBackSpec) :=
  OpenClaim.holds_of_wide 4 Try.f4 rfl rfl rfl rfl rfl rfl rfl ⟨rfl, rfl, rfl, rfl, rfl⟩ rfl rfl rfl rfl rfl (by kernel_rfl) Try.func4 (by kernel_rfl)
    (of_decide_eq_true (by kernel_rfl)) (by unfold Func.isWrapper; first | (rw [if_pos (by decide +kernel)]; kernel_rfl) | (rw [if_neg (by decide +kernel)]; exact ⟨rfl, rfl⟩))
    (fun os started H enc _ => lifted os started H enc)

theorem proved : Rows.PressBackSaid := over
end Go.Proofs.Ytfekceekaeobcaa.pressBack
namespace Go.Proofs.Ytfekceekaeobcaa
theorem pressBack_holds : Rows.PressBackSaid := pressBack.proved
end Go.Proofs.Ytfekceekaeobcaa
#print axioms Go.Proofs.Ytfekceekaeobcaa.pressBack_holds
