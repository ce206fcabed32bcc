/- Parts of one proof, joined: Itg. Conditions: those of each statement. -/
import Derived.Test.YtmjnndcadndiaaaGreatCm8
namespace Go.Proofs.YtmjnndcadndiaaaGreat
open Go.RowKit Go.Proofs.YtmjnndcadndiaaaGreatW.PrintWords Go.Proofs.YtmjnndcadndiaaaGreatW.PrintLast Go.Proofs.YtmjnndcadndiaaaGreatW.PrintMore
set_option linter.unusedVariables false
set_option linter.unusedSimpArgs false
attribute [local go_sem] run_store_float run_makeMap
theorem fewI_len {l : List Itm} (h : fewI l = true) : l.length ≤ 30 := by
  unfold fewI at h
  simp only [Bool.and_eq_true, decide_eq_true_eq] at h
  exact h.2
set_option maxRecDepth 100000 in
set_option maxHeartbeats 4000000 in
theorem law_calls (w : World) (OA LA : Option Addr) (oc lc : Nat) (own log : List Itm) (hO : kI.C w OA own.length own) (hL : kI.C w LA log.length log) (hno : (own.length : Int) ≤ 9223372036854775807) (hnl : (log.length : Int) ≤ 9223372036854775807) (bo : ∀ x ∈ own, itmOk x) (bl : ∀ x ∈ log, itmOk x) :
    Calls Tryz.prog 3 #[.slice OA own.length oc, .slice LA log.length lc] w fun e w' => e = .returned (.bool true) ∧ Below w.heap.size w w' := by
  have HAW := Aside0.mk (awake_calls w)
  have HF1 := Aside0.mk (fun (W : World) (hb : Below w.heap.size w W) => few_calls W OA oc own (Kd.C_below hO hb) hno)
  have HF2 := Aside0.mk (fun (W : World) (hb : Below w.heap.size w W) => few_calls W LA lc log (Kd.C_below hL hb) hnl)
  obtain ⟨b1, hb1⟩ : ∃ b, fewI own = b := ⟨_, rfl⟩
  obtain ⟨b2, hb2⟩ : ∃ b, fewI log = b := ⟨_, rfl⟩
  rw [hb1] at HF1
  rw [hb2] at HF2
  have HFO := Aside0.mk hb1
  have HFL := Aside0.mk hb2
  have HO := Aside0.mk hO
  have HL := Aside0.mk hL
  have HBO := Aside0.mk bo
  have HBL := Aside0.mk bl
  clear hO hL hno hnl bo bl hb1 hb2
  cases b1 with
  | false =>
    go_enter Tryz.func3, Tryz.ntmps3
    go_wp2_with (first
      | (go_at_call 4; refine HAW.out.mono ?_; rintro e w2 ⟨rfl, hb⟩; have HB2 := Aside0.mk hb; clear hb)
      | (go_at_call 5; with_reducible refine (HF1.out _ HB2.out).mono ?_; rintro e w3 ⟨rfl, hb⟩; have HB3 := Aside0.mk (HB2.out.trans (hb.mono HB2.out.size)); clear hb HF1)
      | (go_at_call 5; refine (HF2.out _ HB3.out).mono ?_; rintro e w4 ⟨rfl, hb⟩; have HB4 := Aside0.mk (HB3.out.trans (hb.mono HB3.out.size)); clear hb HF2))
    go_ret
    exact ⟨rfl, HB3.out⟩
  | true =>
    cases b2 with
    | false =>
      go_enter Tryz.func3, Tryz.ntmps3
      go_wp2_with (first
        | (go_at_call 4; refine HAW.out.mono ?_; rintro e w2 ⟨rfl, hb⟩; have HB2 := Aside0.mk hb; clear hb)
        | (go_at_call 5; with_reducible refine (HF1.out _ HB2.out).mono ?_; rintro e w3 ⟨rfl, hb⟩; have HB3 := Aside0.mk (HB2.out.trans (hb.mono HB2.out.size)); clear hb HF1)
        | (go_at_call 5; refine (HF2.out _ HB3.out).mono ?_; rintro e w4 ⟨rfl, hb⟩; have HB4 := Aside0.mk (HB3.out.trans (hb.mono HB3.out.size)); clear hb HF2))
      go_ret
      exact ⟨rfl, HB4.out⟩
    | true =>
      have hlo := fewI_len HFO.out
      have hll := fewI_len HFL.out
      have HPL := Aside0.mk (show (pendP own log).length ≤ 1000 from Nat.le_trans (List.length_filter_le _ _) (by omega))
      have HP := Aside0.mk (fun (W : World) (hb : Below w.heap.size w W) => pend_calls W OA LA oc lc own log (Kd.C_below HO.out hb) (Kd.C_below HL.out hb) (by omega) (by omega) HBO.out HBL.out)
      have HR := Aside0.mk (fun (W : World) (hb : Below w.heap.size w W) => rpend_calls W OA LA oc lc own log (Kd.C_below HO.out hb) (Kd.C_below HL.out hb) (by omega) (by omega))
      clear hlo hll
      go_enter Tryz.func3, Tryz.ntmps3
      go_wp2_with (first
        | (go_at_call 4; refine HAW.out.mono ?_; rintro e w2 ⟨rfl, hb⟩; have HB2 := Aside0.mk hb; clear hb)
        | (go_at_call 5; with_reducible refine (HF1.out _ HB2.out).mono ?_; rintro e w3 ⟨rfl, hb⟩; have HB3 := Aside0.mk (HB2.out.trans (hb.mono HB2.out.size)); clear hb HF1)
        | (go_at_call 5; refine (HF2.out _ HB3.out).mono ?_; rintro e w4 ⟨rfl, hb⟩; have HB4 := Aside0.mk (HB3.out.trans (hb.mono HB3.out.size)); clear hb HF2)
        | (go_at_call 7; refine (HP.out _ HB4.out).mono ?_; rintro e w5 ⟨A5, n5, c5, rfl, hr, hb⟩; obtain ⟨hn, _, hc⟩ := Kd.R_reads' hr; subst hn; have HB5 := Aside0.mk (HB4.out.trans (hb.mono HB4.out.size)); have HC5 := Aside0.mk hc; clear hb hr hc)
        | (go_at_call 8; refine (HR.out _ HB5.out).mono ?_; rintro e w6 ⟨A6, n6, c6, rfl, hr, hb⟩; obtain ⟨hn, _, hc⟩ := Kd.R_reads' hr; subst hn; have HB6 := Aside0.mk (HB5.out.trans (hb.mono HB5.out.size)); have HC6 := Aside0.mk hc; have HC56 := Aside0.mk (Kd.C_below HC5.out hb); clear hb hr hc)
        | (go_at_call 6; refine (sameitems_same w6 A5 A6 c5 c6 (pendP own log) HC56.out HC6.out HPL.out).mono ?_; rintro e w7 ⟨rfl, hb⟩; have HB7 := Aside0.mk (HB6.out.trans (hb.mono HB6.out.size)); clear hb))
      go_ret
      exact ⟨rfl, HB7.out⟩
end Go.Proofs.YtmjnndcadndiaaaGreat
