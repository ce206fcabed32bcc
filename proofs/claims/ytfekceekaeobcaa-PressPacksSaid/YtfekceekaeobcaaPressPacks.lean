/- PressPacks holds: for all bytes and any place the program's Match and Pack answer as the reference's do, the arguments unchanged. No conditions. -/
import Derived.Test.YtfekceekaeobcaaRows
import Derived.Test.YtfekceekaeobcaaAwake
import Derived.Test.YtfekceekaeobcaaPureB
import Derived.Test.YtfekceekaeobcaaCalm
import Derived.Deep.RegionWith
import Derived.WalkKit
import Derived.ProofKit
import Derived.OpenShut
import Derived.ShutString
import Derived.ChangeOld
import Derived.Below
namespace Go.Proofs.Ytfekceekaeobcaa.pressPacks
open Go.ChangeShapes Go.WideShapes Go.ChangeAt Go.RowKit
open Go.ChangeMaps (open_string shut_string)
set_option linter.unusedVariables false

theorem own : ownKnob Try.prog.godebug = none := by kernel_rfl
theorem laidOut : laidOutB Try.prog = true := by kernel_rfl

def IsRow (k : IntKind) (w : World) (a : Option Addr) (len cap : Nat) (zs : List Int) : Prop :=
  (a = none ∧ len = 0 ∧ cap = 0 ∧ zs = []) ∨
  ∃ x, a = some x ∧ len ≤ cap ∧ cap ≤ maxLen ∧ zs.length = cap ∧ (∀ i, i < zs.length → w.cell? (x.add i) = some (.int k (zs.getD i 0))) ∧ ∀ n ∈ zs, (Lit.int k n).wf = true

open Go.Proofs.YtfekceekaeobcaaW.PrintWords Go.Proofs.YtfekceekaeobcaaW.PrintLast Go.Proofs.YtfekceekaeobcaaW.PrintMore PPressPacks
theorem of_isRow {w : World} {a : Option Addr} {len cap : Nat} {zs : List Int} (h : IsRow .u8 w a len cap zs) : ∃ l0 : List Int, l0.length = len ∧ (∀ x ∈ l0, 0 ≤ x ∧ x ≤ 255) ∧ len ≤ cap ∧ (Kd.int .u8).C w a len l0 := by
  rcases h with ⟨rfl, rfl, rfl, rfl⟩ | ⟨x, rfl, hl, hm, hz, hc, hw⟩
  · exact ⟨[], rfl, by simp, Nat.le_refl _, Kd.C_nil _ _⟩
  · refine ⟨zs.take len, by simp; omega, fun x hx => ?_, hl, Kd.C_of_reads (d := (0 : Int)) (h1 := fun _ => rfl) (enc := Value.int .u8) ⟨by simp; omega, by simp only [maxLen] at hm; omega, fun _ => ⟨_, rfl, fun j hj => ?_⟩⟩⟩
    · have := hw x (List.mem_of_mem_take hx)
      exact bounds_u8 this
    · rw [hc j (by omega)]
      simp [List.getD_eq_getElem?_getD, hj]

/-- what the two texts come to at bytes -/
structure Same (l0 : List Int) (at_ : Int) (k : Nat) (r1 r2 s1 s2 : Int) (r s : List Int) : Prop where
  m : press_Match.f k l0 at_ = some (r1, r2)
  n : factotumref30_Match.f k l0 at_ = some (s1, s2)
  p : packL k l0 [] [] 0 = some r
  q : factotumref30_Pack.f k l0 = some s
  e1 : r1 = s1
  e2 : r2 = s2
  e : r = s
theorem same (l0 : List Int) (at_ : Int) (h : ∀ x ∈ l0, 0 ≤ x ∧ x ≤ 255) (hl : l0.length ≤ 600) : ∃ k r1 r2 s1 s2 r s, Same l0 at_ k r1 r2 s1 s2 r s := by
  obtain ⟨r, hp, hq⟩ := packs_same l0 hl h l0.length 0 60000 [] [] rfl (by omega) (by omega) (by simp)
  by_cases hin : 0 ≤ at_ ∧ at_ ≤ (l0.length : Int)
  · obtain ⟨a, rfl⟩ := Int.eq_ofNat_of_zero_le hin.1
    exact ⟨60000, _, _, _, _, r, r, press_match l0 a (by omega) (by omega) 60000 (by omega), ref_match l0 a (by omega) (by omega) 60000 (by omega), hp, hq, rfl, rfl, rfl⟩
  · exact ⟨60000, 0, 0, 0, 0, r, r, press_match_out l0 at_ (by omega) 60000 (by omega), ref_match_out l0 at_ (by omega) 60000 (by omega), hp, hq, rfl, rfl, rfl⟩

set_option maxHeartbeats 1000000 in
theorem walk (a0 : Option Addr) (len0 cap0 : Nat) (z0 : List Int) (a1 : Int) (w : World) (w0 : IsRow .u8 w a0 len0 cap0 z0) (w1 : (Lit.int .i64 a1).wf = true) :
    Calls Try.prog 3 #[.slice a0 len0 cap0, .int .i64 a1] w fun e w' => e = .returned (.bool true) ∧ Below w.heap.size w w' := by
  obtain ⟨l0, rfl, hb, hcap, hC⟩ := of_isRow w0
  clear w0
  have HC := Aside0.mk hC
  have HCap := Aside0.mk hcap
  clear hC hcap
  by_cases hlen : 600 < l0.length
  · have hd : decide ((600 : Int) < (l0.length : Int)) = true := by simp; omega
    go_enter Try.func3, Try.ntmps3
    go_wp2_with (go_at_call 5; refine (awake_calls _).mono ?_; rintro e w1 ⟨rfl, hb1⟩; have HB1 := Aside0.mk hb1; clear hb1)
    go_ret
    exact ⟨rfl, HB1.out⟩
  obtain ⟨k, r1, r2, s1, s2, r, s, hS⟩ := same l0 a1 hb (by omega)
  have HS := Aside0.mk hS
  have HL := Aside0.mk (show l0.length ≤ 1000000 by omega)
  have hd : decide ((600 : Int) < (l0.length : Int)) = false := by simp; omega
  clear hS hb hlen
  go_enter Try.func3, Try.ntmps3
  go_wp2_with (first
    | (go_at_call 5; refine (awake_calls _).mono ?_; rintro e w1 ⟨rfl, hb1⟩; have HB1 := Aside0.mk hb1; clear hb1)
    | (go_at_call 6; refine (press_Match.calls k _ _ l0 a1 r1 r2 _ (Kd.C_below HC.out HB1.out) HCap.out HS.out.m).mono ?_; rintro e w2 ⟨rfl, hb2⟩; have HB2 := Aside0.mk (below_step HB1.out hb2); clear hb2)
    | (go_at_call 7; refine (factotumref30_Match.calls k _ _ l0 a1 s1 s2 _ (Kd.C_below HC.out HB2.out) HCap.out HS.out.n).mono ?_; rintro e w3 ⟨rfl, hd3⟩; have HB3 := Aside0.mk (below_step HB2.out (Drawn0.below hd3)); clear hd3))
  have HB3' := Aside0.mk HB3.out.drew
  have q1 : (r1 == s1) = true := by simp [HS.out.e1]
  have q3 : ((strOfNums r).toList == (strOfNums s).toList) = true := by rw [HS.out.e]; exact beq_self_eq_true _
  have q2 : (r2 == s2) = true := by simp [HS.out.e2]
  refine Calm.wp_calm [] [(0, 0), (3, 0), (1, 2), (2, 1), (4, 2), (5, 1), (6, 0), (7, 0), (8, 0), (9, 0), (10, 0), (11, 0), (12, 0), (13, 0), (14, 0), (15, 0), (16, 0), (17, 2)] (by kernel_rfl) (by kernel_rfl) ?_
  generalize hops : List.toArray (_ : List Oper) = ops
  have ho0 := (congrArg (fun z : Array Oper => z[0]?) hops).symm
  have ho1 := (congrArg (fun z : Array Oper => z[1]?) hops).symm
  have ho2 := (congrArg (fun z : Array Oper => z[2]?) hops).symm
  have ho3 := (congrArg (fun z : Array Oper => z[3]?) hops).symm
  have ho4 := (congrArg (fun z : Array Oper => z[4]?) hops).symm
  have ho5 := (congrArg (fun z : Array Oper => z[5]?) hops).symm
  have ho6 := (congrArg (fun z : Array Oper => z[6]?) hops).symm
  have ho7 := (congrArg (fun z : Array Oper => z[7]?) hops).symm
  have ho8 := (congrArg (fun z : Array Oper => z[8]?) hops).symm
  have ho9 := (congrArg (fun z : Array Oper => z[9]?) hops).symm
  have ho10 := (congrArg (fun z : Array Oper => z[10]?) hops).symm
  have ho11 := (congrArg (fun z : Array Oper => z[11]?) hops).symm
  have ho12 := (congrArg (fun z : Array Oper => z[12]?) hops).symm
  have ho13 := (congrArg (fun z : Array Oper => z[13]?) hops).symm
  have ho14 := (congrArg (fun z : Array Oper => z[14]?) hops).symm
  have ho15 := (congrArg (fun z : Array Oper => z[15]?) hops).symm
  have ho16 := (congrArg (fun z : Array Oper => z[16]?) hops).symm
  have ho17 := (congrArg (fun z : Array Oper => z[17]?) hops).symm
  simp only [List.getElem?_toArray, List.getElem?_cons_zero, List.getElem?_cons_succ] at ho0 ho1 ho2 ho3 ho4 ho5 ho6 ho7 ho8 ho9 ho10 ho11 ho12 ho13 ho14 ho15 ho16 ho17
  clear hops
  refine Calm.plain ho0 _ rfl (fun W => by go_simp; exact rfl) ?_
  simp only [Act.put, List.setIfInBounds_toArray, List.set_cons_succ, List.set_cons_zero]
  refine Calm.plain ho3 _ rfl (fun W => by go_simp; exact rfl) ?_
  simp only [Act.put, List.setIfInBounds_toArray, List.set_cons_succ, List.set_cons_zero]
  refine Calm.acts ho1 rfl (fun K hK => ?_)
  go_simp
  refine (pack_calls k _ _ l0 r _ (Kd.C_below HC.out HB3'.out) HCap.out HL.out HS.out.p).mono ?_
  rintro e w4 ⟨v4, rfl, hr4, hb4⟩
  have HB4 := Aside0.mk (below_step HB3'.out hb4)
  obtain ⟨A4, c4, rfl⟩ := Kd.R_slice hr4
  have HR4 := Aside0.mk (Kd.R_reads' hr4).2.2
  refine hK _ _ (fun _ => hb4) ?_
  clear hr4 hb4 hK K
  refine Calm.reads ho2 _ rfl (fun W hW => by have hs4 := Kd.C_string (P := Try.prog) (c := c4) Try.underlying22 Try.underlying5 Try.underlying9 (Kd.C_below HR4.out hW); go_simp; exact rfl) ?_
  simp only [Act.put, List.setIfInBounds_toArray, List.set_cons_succ, List.set_cons_zero]
  refine Calm.acts ho4 rfl (fun K hK => ?_)
  go_simp
  refine (factotumref30_Pack.calls k _ _ l0 s _ (Kd.C_below HC.out HB4.out) HCap.out HS.out.q).mono ?_
  rintro e w5 ⟨v5, rfl, hr5, hb5⟩
  have HB5 := Aside0.mk (below_step HB4.out hb5)
  obtain ⟨A5, c5, rfl⟩ := Kd.R_slice hr5
  have HR5 := Aside0.mk (Kd.R_reads' hr5).2.2
  refine hK _ _ (fun _ => hb5) ?_
  clear hr5 hb5 hK K
  refine Calm.reads ho5 _ rfl (fun W hW => by have hs4 := Kd.C_string (P := Try.prog) (c := c5) Try.underlying22 Try.underlying5 Try.underlying9 (Kd.C_below HR5.out hW); go_simp; exact rfl) ?_
  simp only [Act.put, List.setIfInBounds_toArray, List.set_cons_succ, List.set_cons_zero]
  refine Calm.plain ho6 _ rfl (fun W => by go_simp; exact rfl) ?_
  simp only [Act.put, List.setIfInBounds_toArray, List.set_cons_succ, List.set_cons_zero]
  refine Calm.plain ho7 _ rfl (fun W => by go_simp; exact rfl) ?_
  simp only [Act.put, List.setIfInBounds_toArray, List.set_cons_succ, List.set_cons_zero]
  refine Calm.plain ho8 _ (by simp [Region.wanted, yielded, ho7]) (fun W => by go_simp; exact rfl) ?_
  simp only [Act.put, List.setIfInBounds_toArray, List.set_cons_succ, List.set_cons_zero]
  refine Calm.plain ho9 _ (by simp [Region.wanted, yielded, ho7]) (fun W => by go_simp; exact rfl) ?_
  simp only [Act.put, List.setIfInBounds_toArray, List.set_cons_succ, List.set_cons_zero]
  refine Calm.plain ho10 _ (by simp [Region.wanted, yielded, ho7]) (fun W => by go_simp; exact rfl) ?_
  simp only [Act.put, List.setIfInBounds_toArray, List.set_cons_succ, List.set_cons_zero]
  refine Calm.plain ho11 _ rfl (fun W => by go_simp; exact rfl) ?_
  simp only [Act.put, List.setIfInBounds_toArray, List.set_cons_succ, List.set_cons_zero]
  refine Calm.plain ho12 _ rfl (fun W => by go_simp; exact rfl) ?_
  simp only [Act.put, List.setIfInBounds_toArray, List.set_cons_succ, List.set_cons_zero]
  refine Calm.plain ho13 _ (by simp [Region.wanted, yielded, ho12]) (fun W => by go_simp; exact rfl) ?_
  simp only [Act.put, List.setIfInBounds_toArray, List.set_cons_succ, List.set_cons_zero]
  refine Calm.plain ho14 _ (by simp [Region.wanted, yielded, ho12]) (fun W => by go_simp; exact rfl) ?_
  simp only [Act.put, List.setIfInBounds_toArray, List.set_cons_succ, List.set_cons_zero]
  refine Calm.plain ho15 _ (by simp [Region.wanted, yielded, ho12]) (fun W => by go_simp; exact rfl) ?_
  simp only [Act.put, List.setIfInBounds_toArray, List.set_cons_succ, List.set_cons_zero]
  refine Calm.plain ho16 _ rfl (fun W => by go_simp; exact rfl) ?_
  simp only [Act.put, List.setIfInBounds_toArray, List.set_cons_succ, List.set_cons_zero]
  refine Calm.acts ho17 rfl (fun K hK => ?_)
  go_simp
  refine hK _ _ (fun _ => Below.refl _ _) (Calm.done ?_)
  go_wp2
  go_ret
  exact ⟨rfl, HB5.out⟩

set_option maxRecDepth 100000 in
theorem lifted (os : Os) (started : os.Started) (H : Type) (enc : TypeId × Value → H) :
    ReturnsInHanded {} Try.checked os 3 .any (Rows.pressPacksSpec.pre6 enc Try.prog Try.f3 Rows.pressPacksRow.domain false) (Rows.pressPacksSpec.post enc Try.prog Try.f3 false true false false) := by
  refine returnsInHanded_of_change (C := Try.checked) own started (by kernel_rfl) Try.func3
    (ChangeSpec.witness6 (enc := enc) (C := Try.checked) false ⟨#[], #[.slice none 0 0, .int .i64 0], []⟩ 8 (by kernel_rfl) (by kernel_rfl) (by kernel_rfl) (by kernel_rfl)) ?_
  intro W base args ds gs before hval0 hW hcnd _
  have hval : ∀ (j : Nat) t v, Try.f3.params[j]? = some t → args[j]? = some v → Value.okWide Try.prog W .any base t v := hval0
  have hW' := hW
  obtain ⟨p, q, hA0, hV, rfl, hfz, hnd⟩ := hW
  have hA : DataW.TrodAll enc Try.prog W 0 (fun _ => true) true Try.f3.params.toList args.toList ds p := hA0
  rw [Try.params3] at hA hval
  obtain ⟨v0, vs0, d0, ds0, p0, q0, hargs, rfl, rfl, h0, r0⟩ := trodAll_cons hA
  obtain ⟨v1, vs1, d1, ds1, p1, q1, rfl, rfl, rfl, h1, r1⟩ := trodAll_cons r0
  obtain ⟨rfl, rfl, rfl⟩ := trodAll_nil r1
  obtain rfl : args = #[v0, v1] := by cases args; simp_all
  obtain ⟨rfl, rfl⟩ := trodVars_none hV
  obtain ⟨a0, len0, cap0, rfl⟩ := okWide_slice Try.underlying22 (hval 0 22 v0 rfl rfl)
  have k0 := h0
  have lt0 : ∀ x ∈ p0, x.block < W.heap.size := by obtain ⟨m, hm⟩ := k0; exact DataW.trod_lt m _ _ _ hm
  obtain ⟨z0, w0⟩ : ∃ zs, IsRow .u8 W a0 len0 cap0 zs := by
    obtain ⟨fuel, hf⟩ := h0
    rcases open_ints Try.underlying22 Try.underlying5 (by kernel_rfl) hf with ⟨hcs, _⟩ | ⟨x, l, c, zs, hcs, _, hl, hm, hz, _, hcell, hwz⟩
    · simp [Value.cells] at hcs
      obtain ⟨rfl, rfl, rfl⟩ := hcs
      exact ⟨[], .inl ⟨rfl, rfl, rfl, rfl⟩⟩
    · simp [Value.cells] at hcs
      obtain ⟨rfl, rfl, rfl⟩ := hcs
      exact ⟨zs, .inr ⟨_, rfl, hl, hm, by simpa using hz, hcell, hwz⟩⟩
  obtain ⟨a1, rfl, rfl, rfl, w1⟩ := open_int Try.underlying3 (hval 1 3 v1 rfl rfl) h1
  clear hA0 hval0
  refine (walk a0 len0 cap0 z0 a1 W w0 w1).mono fun e W' ⟨he, bel⟩ => ?_
  subst he
  exact ⟨_, rfl, _, _, _, [], _, [], hW', trodAll_mk1 (shut_bool Try.underlying4 _), (trodAll_cons_mk (Below.trod laidOut (by kernel_rfl) (of_decide_eq_true (by kernel_rfl)) k0 bel lt0) (trodAll_cons_mk (shut_int Try.underlying3 w1) trodAll_mk0)), rfl, bel.frame _, fun h => by cases h⟩

theorem over : Rows.pressPacksRow.holds Try.pinned (OpenSpec.ofChange Rows.pressPacksSpec) :=
  OpenClaim.holds_of_wide 3 Try.f3 rfl rfl rfl rfl rfl rfl rfl ⟨rfl, rfl, rfl, rfl, rfl⟩ rfl rfl rfl rfl rfl (by kernel_rfl) Try.func3 (by kernel_rfl)
    (of_decide_eq_true (by kernel_rfl)) (by unfold Func.isWrapper; first | (rw [if_pos (by decide +kernel)]; kernel_rfl) | (rw [if_neg (by decide +kernel)]; exact ⟨rfl, rfl⟩))
    (fun os started H enc _ => lifted os started H enc)

theorem proved : Rows.PressPacksSaid := over
end Go.Proofs.Ytfekceekaeobcaa.pressPacks
namespace Go.Proofs.Ytfekceekaeobcaa
theorem pressPacks_holds : Rows.PressPacksSaid := pressPacks.proved
end Go.Proofs.Ytfekceekaeobcaa
#print axioms Go.Proofs.Ytfekceekaeobcaa.pressPacks_holds
