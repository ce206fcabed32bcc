/- Parts of one proof, joined: Zy, Zz, Ga, Rdg, Rdh, Zn, Gb, Gc, Ge, Gd, Gf, Gg. Conditions: those of each statement. -/
import Derived.Test.YtlepcmljmibdnaaGreatZg11
import Derived.Test.YtlepcmljmibdnaaGreatZgFWWords
import Derived.Deep.Slices
import Derived.ChangeArms
import Derived.Test.YtlepcmljmibdnaaGreatZg4
import Derived.WalkKit
import Derived.ProofKit
import Derived.OpenShut
import Derived.ShutString
import Derived.ChangeOld
import Derived.Below
import Derived.Test.YtlepcmljmibdnaaGreatZg10
namespace Go.Proofs.YtlepcmljmibdnaaGreat
open Go.RowKit Go.Proofs.YtlepcmljmibdnaaGreatW.PrintWords Go.Proofs.YtlepcmljmibdnaaGreatW.PrintLast Go.Proofs.YtlepcmljmibdnaaGreatW.PrintMore PWalOpens
open PStoreRecords (S66 k66 rd_T66 at_T66 z66)
attribute [local go_sem] run_makeMap
set_option linter.unusedVariables false
set_option linter.unusedSimpArgs false
/-- what records come to, one behind the other -/
def rep1 (L : List S66) (x : Bool × List S66) : List S66 := hapL (if x.1 then [] else L) x.2
def replay (rs : List (Bool × List S66)) : List S66 := rs.foldl rep1 []
def recOf (x : Bool × List S66) : List Int := recB x.1 x.2
theorem replay_snoc (rs : List (Bool × List S66)) (x : Bool × List S66) : replay (rs ++ [x]) = rep1 (replay rs) x := by simp [replay]
theorem replay_take {rs : List (Bool × List S66)} {i : Nat} {x : Bool × List S66} (h : rs[i]? = some x) : replay (rs.take (i + 1)) = rep1 (replay (rs.take i)) x := by
  rw [List.take_add_one, h]
  exact replay_snoc _ _
theorem hap1_norm (L : List S66) (p : S66) : hap1 L (normP p) = hap1 L p := by
  obtain ⟨k, b, g⟩ := p
  cases g with
  | true => simp [hap1, normP]
  | false => simp [normP]
theorem hapL_norm (L l : List S66) : hapL L (l.map normP) = hapL L l := by
  induction l generalizing L with
  | nil => rfl
  | cons p l ih =>
    show hapL (hap1 L (normP p)) (l.map normP) = hapL (hap1 L p) l
    rw [hap1_norm]
    exact ih _
/-- a record that may be -/
structure RecOK (x : Bool × List S66) : Prop where
  len : x.2.length ≤ 4096
  each : ∀ p ∈ x.2, p.f0.size ≤ 60000 ∧ p.f1.length ≤ 60000 ∧ isBytes p.f1
  fit : (recOf x).length ≤ 60000
theorem recOf_pos (x : Bool × List S66) : 0 < (recOf x).length := by
  unfold recOf recB recH flagB
  simp
theorem replay_sl (rs : List (Bool × List S66)) : SL (replay rs) := by
  suffices h : ∀ (rs : List (Bool × List S66)) (L : List S66), SL L → SL (rs.foldl rep1 L) from h rs [] .nil
  intro rs
  induction rs with
  | nil => exact fun _ h => h
  | cons x rs ih =>
    intro L hL
    refine ih _ ?_
    unfold rep1
    split
    · exact SL.nil.hapL _
    · exact hL.hapL _
theorem normP_len (l : List S66) (h : ∀ p ∈ l, p.f0.size ≤ 60000 ∧ p.f1.length ≤ 60000 ∧ isBytes p.f1) : ∀ p ∈ l.map normP, p.f1.length ≤ 1000000 := by
  intro p hp
  obtain ⟨q, hq, rfl⟩ := List.mem_map.1 hp
  have h1 := (h q hq).2.1
  unfold normP
  simp only
  split
  · simp
  · omega
def SopQ (n0 : Nat) (w : World) (B M Bd : Nat) (vc : Value) (D : PD) (g head tail : Int) (st : List Int) (L : List S66) (e : Ending) (w' : World) : Prop :=
  ∃ Sb Wb Mv vs, e = .returned (.tuple #[.pointer (some ⟨Sb, 0, none⟩), .int .i64 0]) ∧ SV n0 w' Sb Wb B M Bd Mv vc vs D g head tail st false L ∧ Below w.heap.size w w'
section
variable {n0 : Nat} {w : World} {B M Bd : Nat} {vc : Value} {D : PD} {S : Int → List Int} {r g head tail : Int}
set_option maxRecDepth 100000 in
set_option maxHeartbeats 4000000 in
theorem sopen_calls (rs : List (Bool × List S66)) (hi : WInv D S r g head tail (rs.map recOf)) (hne : rs ≠ []) (hrs : ∀ x ∈ rs, RecOK x) (hd : DK w n0 B M Bd vc D) :
    Calls Tryz.prog 38 #[.pointer (some ⟨B, 0, none⟩)] w (SopQ n0 w B M Bd vc D g head tail (startsP head (rs.map recOf)) (replay rs)) := by
  have hN0 := hd.base_le
  have HN0 := Aside0.mk hN0
  have HO := Aside0.mk hi.open_
  have HOK := Aside0.mk hi.ok
  have HCH := Aside0.mk (show D.cache.length ≤ 40000 by rw [hi.cache]; decide)
  have HD := Aside0.mk hd
  have HRS := Aside0.mk hrs
  have hlen : rs.length ≠ 0 := fun e => hne (List.eq_nil_of_length_eq_zero e)
  obtain ⟨RR, hRR⟩ : ∃ RR, rs.map recOf = RR := ⟨_, rfl⟩
  have hLN : RR.length = rs.length := by rw [← hRR, List.length_map]
  have HLN := Aside0.mk hLN
  have hg0 : ((RR.length : Int) == 0) = false := by rw [hLN]; simpa using hlen
  rw [hRR] at HO
  rw [hRR]
  have HRR := Aside0.mk hRR
  clear hi hne hrs hd hN0 hlen hRR hLN
  go_enter Tryz.func38, Tryz.ntmps38
  go_wp2_with (first
    | (go_at_call 12; (with_reducible refine (open_calls HO.out HOK.out HCH.out HD.out).mono ?_); rintro e w2 hq; obtain ⟨Wb, vs, vo, rfl, hv, hb, hr⟩ := op_ok (n0 := n0) hq rfl HN0.out HD.out; have HV2 := Aside0.mk (show WV n0 w2 Wb B M Bd vc vs D g head tail (startsP head RR) false from hv); have HB2 := Aside0.mk hb; obtain ⟨Ao, co, hvo⟩ := Kd.R_slice hr; subst hvo; have HR2 := Aside0.mk (show Kd.R bytesK 58 w2 w.heap.size (fun _ => True) (.slice Ao RR.length co) RR from hr); simp only [] at *; clear hq hv hb hr))
  obtain ⟨W3, hW3⟩ : ∃ W3, (w2.alloc (.map #[] 0)).alloc (.cells #[.pointer (some ⟨Wb, 0, none⟩), .map (some w2.heap.size)] 148) = W3 := ⟨_, rfl⟩
  rw [hW3]
  have hb3 : Below w2.heap.size w2 W3 := by rw [← hW3]; exact ((Below.refl w2.heap.size w2).alloc (Nat.le_refl _) _).alloc (by simp) _
  have HB3 := Aside0.mk hb3
  have HS3 := Aside0.mk (show W3.heap[w2.heap.size + 1]? = some (.cells #[.pointer (some ⟨Wb, 0, none⟩), .map (some w2.heap.size)] 148 (0, 0)) from by
    rw [← hW3]
    have h := heap_alloc_new (w2.alloc (.map #[] 0)) (.cells #[.pointer (some ⟨Wb, 0, none⟩), .map (some w2.heap.size)] 148)
    rwa [alloc_size] at h)
  have HN2 := Aside0.mk (show n0 ≤ w2.heap.size from Nat.le_trans HN0.out HB2.out.size)
  have HMP := Aside0.mk (show w2.heap[w2.heap.size]? = none from by simp)
  have HM3 := Aside0.mk (show MapV W3 n0 w2.heap.size [] from by
    rw [← hW3]
    exact (MapV.empty (w := w2) HN2.out).below ((Below.refl _ _).alloc (Nat.le_refl _) _))
  have HV3 := Aside0.mk (HV2.out.fresh hb3)
  have HNE := Aside0.mk (show w2.heap.size ≠ M ∧ w2.heap.size ≠ Bd from by
    obtain ⟨_, _, h1, _⟩ := HV2.out.dk.kept
    obtain ⟨_, _, h2, _⟩ := HV2.out.dk.bad
    have e1 := (Array.getElem?_eq_some_iff.1 h1).1
    have e2 := (Array.getElem?_eq_some_iff.1 h2).1
    omega)
  have HSV3 := Aside0.mk (show SV n0 W3 (w2.heap.size + 1) Wb B M Bd w2.heap.size vc vs D g head tail (startsP head RR) false [] from ⟨HS3.out, Nat.le_succ_of_le HN2.out, HV3.out, HM3.out, HNE.out⟩)
  have HRC := Aside0.mk (Kd.C_below (Kd.R_reads' HR2.out).2.2 hb3)
  clear hW3 hb3
  have hm0 : RR.length ≤ 9223372036854775807 := HRC.out.2.1
  go_loopg [31] RR.length (fun kq v31 w' => ∃ (i : Nat), v31 = .int .i64 (i : Int) ∧ Aside0 (i + kq = RR.length) ∧ Aside0 (MapV w' n0 w2.heap.size (replay (rs.take i))) ∧ Aside0 (Chg W3 w' (fun k => k = w2.heap.size)))
  case atStart => exact ⟨0, rfl, ⟨by omega⟩, ⟨by rw [List.take_zero]; exact HM3.out⟩, ⟨Chg.refl _ _⟩⟩
  case round =>
    obtain ⟨i, rfl, HI, HMV, HCH⟩ := hrel
    have hk1 := HI.out
    have HSV := Aside0.mk (HSV3.out.map HCH.out HMV.out)
    by_cases hi : i < RR.length
    · obtain ⟨x, hx⟩ : ∃ x, rs[i]? = some x := ⟨rs[i]'(by rw [← HLN.out]; exact hi), List.getElem?_eq_getElem _⟩
      have HX := Aside0.mk (HRS.out x (List.mem_of_getElem? hx))
      obtain ⟨es0, cl0, hmb⟩ : ∃ es cl, W3.heap[w2.heap.size]? = some (.map es cl) := by obtain ⟨_, _, es, cl, h, _⟩ := HM3.out; exact ⟨es, cl, h⟩
      have HCS := Aside0.mk (Cst.of_map hmb HCH.out)
      obtain ⟨ad, A0, c0, e, hcell, hcap, hC⟩ := texts_at HRC.out i hi
      subst e
      have hgd : RR.getD i [] = recOf x := by rw [← HRR.out, List.getD_eq_getElem?_getD, List.getElem?_map, hx]; rfl
      rw [hgd] at hcell hcap hC
      replace hcell := HCS.out _ _ hcell
      have HC := Aside0.mk (C8_cells HCS.out hC)
      have HCAP := Aside0.mk hcap
      have HPOS := Aside0.mk (recOf_pos x)
      have HSUC := Aside0.mk (replay_take hx)
      obtain ⟨all, l⟩ := x
      have HSO := Aside0.mk (show sofP (recOf (all, l)) = (all, l.map normP, 0) from sofP_rec all l HX.out.len (fun p hp => ⟨(HX.out.each p hp).1, (HX.out.each p hp).2.1⟩))
      have HBY := Aside0.mk (show isBytes (recOf (all, l)) from recB_bytes all l (fun p hp => (HX.out.each p hp).2.2))
      have HLB := Aside0.mk (show (recOf (all, l)).length ≤ 900000 from Nat.le_trans HX.out.fit (by decide))
      obtain ⟨b, hb⟩ : ∃ b, recOf (all, l) = b := ⟨_, rfl⟩
      rw [hb] at hcell HC HCAP HPOS HSO HBY HLB
      have HNL := Aside0.mk (normP_len l HX.out.each)
      have HHP := Aside0.mk (fun L => hapL_norm L l)
      obtain ⟨l', hl'⟩ : ∃ l', l.map normP = l' := ⟨_, rfl⟩
      rw [hl'] at HSO HNL HHP
      clear hl'
      have HOF := Aside0.mk (show Calls Tryz.prog 32 #[.slice A0 b.length c0] wr fun e w' => ∃ A c, e = .returned (.tuple #[.bool all, .slice A l'.length c, .int .i64 0]) ∧ Kd.R k66 66 w' wr.heap.size (fun _ => True) (.slice A l'.length c) (l') ∧ Below wr.heap.size wr w' from (sof_calls wr A0 c0 b HLB.out HBY.out (fun e => by
          have h1 := HPOS.out
          obtain ⟨ad', e', _⟩ := HC.out.2.2 h1
          rw [e] at e'
          cases e') HC.out).mono fun e w' hq => by
        obtain ⟨A, c, he, h1, h2⟩ := hq
        rw [HSO.out] at he h1
        exact ⟨A, c, he, h1, h2⟩)
      clear hb hx hgd hcap hC hmb
      cases all with
      | true =>
        go_wp2_with (first
          | (go_at_call 32; (with_reducible refine HOF.out.mono ?_); rintro e w4 ⟨A4, c4, rfl, hr, hb⟩; have HR4 := Aside0.mk hr; have HB4 := Aside0.mk hb; have HSV4 := Aside0.mk (HSV.out.fresh hb); obtain ⟨q0, q1, _⟩ := cells2 HSV4.out.blk; obtain ⟨w5, hrun, hch, hmv⟩ := HSV4.out.mv.clear (ty := 0); have HCH5 := Aside0.mk hch; have HMV5 := Aside0.mk hmv; have HSV5 := Aside0.mk (HSV4.out.map hch hmv); have HR5 := Aside0.mk (R_tc hr (HSV4.out.map_tc hch) (fun q _ k cells h => h.2)); clear hr hb hch hmv)
          | (go_at_call 82; (with_reducible refine (happen_calls w5 (c := c4) HSV5.out.blk (Kd.R_reads' HR5.out).2.2 HNL.out HSV5.out.mv).mono ?_); rintro e w6 ⟨rfl, hm, hc⟩; have HM6 := Aside0.mk hm; have HC6 := Aside0.mk hc; clear hm hc))
        obtain ⟨gq, rfl⟩ : ∃ gq, gk = gq + 1 := ⟨gk - 1, by omega⟩
        go_roundg gq
        case rel => exact ⟨i + 1, by go_num, ⟨by omega⟩, ⟨by rw [HSUC.out]; unfold rep1; simp only [if_pos]; rw [← HHP.out]; exact HM6.out⟩, ⟨((HCH.out.trans (.of_below HB4.out)).trans HCH5.out).trans HC6.out⟩⟩
        case measure => omega
      | false =>
        go_wp2_with (first
          | (go_at_call 32; (with_reducible refine HOF.out.mono ?_); rintro e w4 ⟨A4, c4, rfl, hr, hb⟩; have HR4 := Aside0.mk hr; have HB4 := Aside0.mk hb; have HSV4 := Aside0.mk (HSV.out.fresh hb); obtain ⟨q0, q1, _⟩ := cells2 HSV4.out.blk; clear hr hb)
          | (go_at_call 82; (with_reducible refine (happen_calls w4 (c := c4) HSV4.out.blk (Kd.R_reads' HR4.out).2.2 HNL.out HSV4.out.mv).mono ?_); rintro e w6 ⟨rfl, hm, hc⟩; have HM6 := Aside0.mk hm; have HC6 := Aside0.mk hc; clear hm hc))
        obtain ⟨gq, rfl⟩ : ∃ gq, gk = gq + 1 := ⟨gk - 1, by omega⟩
        go_roundg gq
        case rel => exact ⟨i + 1, by go_num, ⟨by omega⟩, ⟨by rw [HSUC.out]; unfold rep1; simp only [Bool.false_eq_true, if_false]; rw [← HHP.out]; exact HM6.out⟩, ⟨(HCH.out.trans (.of_below HB4.out)).trans HC6.out⟩⟩
        case measure => omega
    · have hi0 := HI.out
      obtain rfl : gk = 0 := by omega
      obtain rfl : i = RR.length := by omega
      clear hi0
      have hm3 : ¬ ((RR.length : Int) < (RR.length : Int)) := by omega
      go_wp2
      go_ret2
      exact ⟨_, _, _, _, rfl, by have h := HSV.out; rw [HLN.out, List.take_length] at h; exact h, (HB2.out.trans (HB3.out.mono HB2.out.size)).trans (HCH.out.below (Nat.le_trans HB2.out.size HB3.out.size) (fun k hk => by rw [hk]; exact HB2.out.size))⟩
end
end Go.Proofs.YtlepcmljmibdnaaGreat
namespace Go.Proofs.YtlepcmljmibdnaaGreat
open Go.RowKit Go.Proofs.YtlepcmljmibdnaaGreatW.PrintWords Go.Proofs.YtlepcmljmibdnaaGreatW.PrintLast Go.Proofs.YtlepcmljmibdnaaGreatW.PrintMore PWalOpens
open PStoreRecords (S66 k66 rd_T66 at_T66 z66)
set_option linter.unusedVariables false
set_option linter.unusedSimpArgs false
def exA : S66 := ⟨⟨#[97]⟩, [49], false⟩
def exB : List Int := [0, 1, 1, 97, 0, 1, 49]
def exC : List Int := [1, 1, 1, 97, 0, 1, 49]
theorem exA_rec : recB false [exA] = exB := by decide
theorem exA_hap : hapL [] [exA] = [exA] := rfl
theorem exA_all : recB true (hapL [] [exA]) = exC := by rw [exA_hap]; decide
theorem recs1 : RecsOK [exB] := ⟨by decide, fun b hb => by simp [exB] at hb; subst hb; exact ⟨fun x hx => by simp at hx; omega, by decide⟩⟩
def rsA : List (Bool × List S66) := [(true, [])]
def rsB : List (Bool × List S66) := [(true, []), (false, [exA])]
theorem rsA_map : rsA.map recOf = [[1, 0]] := by decide
theorem rsB_map : rsB.map recOf = [[1, 0]] ++ [exB] := by decide
theorem rsA_ok : ∀ x ∈ rsA, RecOK x := by
  intro x hx
  simp [rsA] at hx
  subst hx
  exact ⟨by simp, fun p hp => (by cases hp), by decide⟩
theorem rsB_ok : ∀ x ∈ rsB, RecOK x := by
  intro x hx
  simp [rsB] at hx
  rcases hx with rfl | rfl
  · exact ⟨by simp, fun p hp => (by cases hp), by decide⟩
  · refine ⟨by simp, fun p hp => ?_, by decide⟩
    simp at hp
    subst hp
    exact ⟨by decide, by decide, fun x hx => by simp [exA] at hx; omega⟩
theorem rsA_rep : replay rsA = [] := rfl
theorem exA_get : getP [exA] ⟨#[97]⟩ = ([49], true) := by decide
theorem exA_lim : SLim (hapL [] [exA]) := by
  rw [exA_hap]
  refine ⟨fun p hp => ?_, by decide, by decide⟩
  simp at hp
  subst hp
  exact ⟨by decide, by decide⟩
/-- one put in a literal, under what a wal's deeds may change -/
theorem lit_put {n0 M Bd a b : Nat} {w W : World} {k : ByteArray} {x : Int} {m : Nat × Nat} (h1 : w.heap[a]? = some (.cells #[.int .u8 x] 5 m)) (h2 : w.heap[b]? = some (.cells #[.string k, .slice (some ⟨a, 0, none⟩) 1 1, .bool false] 66 (0, 0))) (hc : TC n0 (isWD M Bd) w W) : k66.C W (some ⟨b, 0, none⟩) 1 [⟨k, [x], false⟩] := by
  have g1 := hc.blk _ _ h1 (by simp [isWD, isDisk, isT])
  have g2 := hc.blk _ _ h2 (by simp [isWD, isDisk, isT])
  have hx : (Kd.int .u8).C W (some ⟨a, 0, none⟩) 1 [x] := by
    refine ⟨rfl, by decide, fun _ => ⟨_, rfl, fun j p hj => ?_⟩⟩
    have hj0 : j = 0 := by have := (List.getElem?_eq_some_iff.1 hj).1; simp at this; omega
    subst hj0
    simp at hj
    subst hj
    refine ⟨[.int .u8 x], rfl, rfl, fun i u hu => ?_⟩
    have hi0 : i = 0 := by have := (List.getElem?_eq_some_iff.1 hu).1; simp at this; omega
    subst hi0
    simp at hu
    subst hu
    exact box_cellm g1
  refine ⟨rfl, by decide, fun _ => ⟨_, rfl, fun j p hj => ?_⟩⟩
  have hj0 : j = 0 := by have := (List.getElem?_eq_some_iff.1 hj).1; simp at this; omega
  subst hj0
  simp at hj
  subst hj
  refine ⟨[.string k, .slice (some ⟨a, 0, none⟩) 1 1, .bool false], rfl, PStoreRecords.k66_mk W ⟨k, [x], false⟩ (Nat.le_refl _) hx, fun i u hu => ?_⟩
  have hi : i < 3 := (List.getElem?_eq_some_iff.1 hu).1
  show W.cell? ((⟨b, 0, none⟩ : Addr).add (0 * 3 + i)) = some u
  have e : (⟨b, 0, none⟩ : Addr).add (0 * 3 + i) = ⟨b, i, none⟩ := by unfold Addr.add; split <;> simp_all
  rw [e]
  unfold World.cell?
  rw [g2]
  simpa using hu
theorem lit_world (w : World) : ∃ W, (w.alloc (.cells #[.int .u8 49] 5 (1, 2))).alloc (.cells #[.string ⟨#[97]⟩, .slice (some ⟨w.heap.size, 0, none⟩) 1 1, .bool false] 66) = W ∧ Below w.heap.size w W ∧
    W.heap[w.heap.size]? = some (.cells #[.int .u8 49] 5 (1, 2)) ∧ W.heap[w.heap.size + 1]? = some (.cells #[.string ⟨#[97]⟩, .slice (some ⟨w.heap.size, 0, none⟩) 1 1, .bool false] 66 (0, 0)) := by
  refine ⟨_, rfl, ((Below.refl w.heap.size w).alloc (Nat.le_refl _) _).alloc (by simp) _, ?_, ?_⟩
  · rw [Below.heap_alloc _ _ _ (by simp)]
    exact heap_alloc_new w _
  · have h := heap_alloc_new (w.alloc (.cells #[.int .u8 49] 5 (1, 2))) (.cells #[.string ⟨#[97]⟩, .slice (some ⟨w.heap.size, 0, none⟩) 1 1, .bool false] 66)
    rwa [alloc_size] at h
theorem str49 : strOfNums [49] = ⟨#[49]⟩ := by decide
set_option maxRecDepth 100000 in
set_option maxHeartbeats 4000000 in
theorem awake8_calls : AwakeQ := by
  intro w
  have hcv := fun (w : World) (C : Array Value) (n c : Nat) => Lib.run_convert_bytes_const (P := Tryz.prog) w 58 5 C n c Tryz.underlying58 Tryz.underlying5
  go_enter Tryz.func30, Tryz.ntmps30
  go_wp2_with (first
    | (go_at_call 8; (with_reducible refine (new_calls w w.heap.size (Nat.le_refl _) 16).mono ?_); rintro e w1 ⟨B, M, Bd, rfl, hd, hb⟩; have HD1 := Aside0.mk hd; have HB1 := Aside0.mk hb; clear hd hb)
    | (go_at_call 37; (with_reducible refine (sformat_calls (w0 := w) 16 ⟨by decide, by decide⟩ HD1.out HB1.out).mono ?_); rintro e w2 ⟨rfl, D2, S2, vc2, hi, hd, hb⟩; have HI2 := Aside0.mk hi; have HD2 := Aside0.mk hd; have HB2 := Aside0.mk hb; clear hi hd hb)
    | (go_at_call 38; (with_reducible refine (sopen_calls (n0 := w.heap.size) rsA (by rw [rsA_map]; exact HI2.out) (by decide) rsA_ok HD2.out).mono ?_); rintro e w3 ⟨Sb, Wb, Mv, vs, rfl, hsv, hb⟩; have HSV3 := Aside0.mk hsv; have HB3 := Aside0.mk (HB2.out.trans (hb.mono HB2.out.size)); clear hsv hb))
  obtain ⟨W3, hW3, hb3, k0, k1⟩ := lit_world w3
  rw [hW3]
  have HSV3' := Aside0.mk (HSV3.out.fresh hb3)
  have HB3' := Aside0.mk (HB3.out.trans (hb3.mono HB3.out.size))
  have HLT := Aside0.mk (fun (W : World) (hc : TC w.heap.size (isWD M Bd) W3 W) => lit_put k0 k1 hc)
  clear hW3 hb3 k0 k1
  have hnd : needs [[1, 0]] = 1 := by decide
  have hnb : needs [exB] = 1 := by decide
  obtain ⟨D3, S3, hi3, hadd⟩ := real_add (w0 := w) HI2.out recs1 (by rw [hnd, hnb]; decide) (by rw [hnd]; decide) (by decide) (by decide) (by decide)
  have HI3 := Aside0.mk hi3
  have HCM := Aside0.mk (show Calls Tryz.prog 39 #[.pointer (some ⟨Sb, 0, none⟩), .slice (some ⟨w3.heap.size + 1, 0, none⟩) 1 1] W3 (SdQ w.heap.size W3 Sb Wb B M Bd Mv D3 0 (1 + 1) 0 (needs [[1, 0]] + needs [exB]) (startsP 0 ([[1, 0]] ++ [exB])) false [exA]) from commit_calls (A := some ⟨w3.heap.size + 1, 0, none⟩) (c := 1) (l := [exA]) exB exC 1 1 exA_rec (by rw [rsA_rep]; exact exA_all) (by decide) (by decide) (fun w' vc vs A c hv hT => hadd w' Wb B M Bd vc vs A c (by rw [rsA_map] at hv; exact hv) hT)
    HI2.out.ring rfl (by rw [hnd]; decide) (by decide) (by decide) (by decide) HLT.out (fun p hp => by simp at hp; subst hp; exact ⟨by decide, by decide⟩) (by decide) (by decide) (fun x hx => by simp [exB] at hx; omega) (fun x hx => by simp [exC] at hx; omega) (by rw [rsA_rep]; exact exA_lim) (by rw [hnd]; decide) [exA] (.inl ⟨rfl, by rw [rsA_rep]; rfl⟩) HSV3'.out)
  clear hi3 hadd hnd hnb
  (with_reducible refine HCM.out.mono ?_)
  rintro e w4 ⟨rfl, htc, vc4, vs4, hsv⟩
  have HSV4 := Aside0.mk hsv
  have HB4 := Aside0.mk (HB3'.out.trans htc.low)
  clear htc hsv
  have HGT := Aside0.mk (fun (w5 : World) (Sb5 Mv5 : Nat) (v0 : Option Addr) (h1 : w5.heap[Sb5]? = some (.cells #[.pointer v0, .map (some Mv5)] 148 (0, 0))) (h2 : MapV w5 w.heap.size Mv5 (replay rsB)) => show Calls Tryz.prog 40 #[.pointer (some ⟨Sb5, 0, none⟩), .string ⟨#[97]⟩] w5 (fun e w' => ∃ A c, e = .returned (.tuple #[.slice A 1 c, .bool true]) ∧ (convert 58 9 (.slice A 1 c)).run Tryz.prog w' = .ok (.string ⟨#[49]⟩) w' ∧ Below w5.heap.size w5 w') from
    (get_calls (L := [exA]) ⟨#[97]⟩ h1 (fun p hp => by simp at hp; subst hp; decide) h2).mono (fun e w' hq => by
      rw [exA_get] at hq
      obtain ⟨A, c, he, hr, hb⟩ := hq
      exact ⟨A, c, he, by rw [← str49]; exact Kd.C_string Tryz.underlying58 Tryz.underlying5 Tryz.underlying9 (Kd.R_reads' hr).2.2, hb⟩))
  go_wp2_with (first
    | (go_at_call 38; (with_reducible refine (sopen_calls (n0 := w.heap.size) rsB (by rw [rsB_map]; exact HI3.out) (by decide) rsB_ok HSV4.out.wv.dk).mono ?_); rintro e w5 ⟨Sb5, Wb5, Mv5, vs5, rfl, hsv, hb⟩; have HSV5 := Aside0.mk hsv; have HB5 := Aside0.mk (HB4.out.trans (hb.mono HB4.out.size)); clear hsv hb)
    | (go_at_call 40; (with_reducible refine (HGT.out w5 Sb5 Mv5 (some ⟨Wb5, 0, none⟩) HSV5.out.blk HSV5.out.mv).mono ?_); rintro e w6 ⟨A6, c6, rfl, hcs, hb⟩; have HB6 := Aside0.mk (HB5.out.trans (hb.mono HB5.out.size)); clear hb))
  go_ret
  exact ⟨rfl, HB6.out⟩
end Go.Proofs.YtlepcmljmibdnaaGreat
namespace Go.Proofs.YtlepcmljmibdnaaGreat
open Go.RowKit Go.Proofs.YtlepcmljmibdnaaGreatW.PrintWords Go.Proofs.YtlepcmljmibdnaaGreatW.PrintLast Go.Proofs.YtlepcmljmibdnaaGreatW.PrintMore PWalOpens
open PStoreRecords (S66 k66 rd_T66 at_T66 z66)
set_option linter.unusedVariables false
set_option linter.unusedSimpArgs false
/-- a small put -/
def FewP (p : S66) : Prop := p.f0.size ≤ 30 ∧ p.f1.length ≤ 200 ∧ isBytes p.f1
theorem recB_le (all : Bool) (l : List S66) (h : ∀ p ∈ l, FewP p) : (recB all l).length ≤ 300 * l.length + 20 := by
  have key : ∀ l : List S66, (∀ p ∈ l, FewP p) → (l.flatMap putB).length ≤ 300 * l.length := by
    intro l
    induction l with
    | nil => intro _; simp
    | cons p l ih =>
      intro h
      have h1 := ih (fun q hq => h q (by simp [hq]))
      have h2 := h p (by simp)
      have e1 := encN_len ((bytesOf p.f0).length : Int)
      have e2 := encN_len ((if p.f2 then [] else p.f1).length : Int)
      have h3 : (if p.f2 then [] else p.f1).length ≤ 200 := by split <;> first | exact h2.2.1 | simp
      have h4 := bytesOf_length p.f0
      have h6 := h2.1
      have h5 : (putB p).length ≤ 300 := by
        unfold putB textB flagB
        simp only [List.length_append, List.length_singleton]
        omega
      rw [List.flatMap_cons, List.length_append, List.length_cons]
      omega
  have h1 := key l h
  have h2 := encN_len (l.length : Int)
  unfold recB recH
  rw [List.take_length]
  unfold flagB
  simp only [List.length_append, List.length_singleton]
  omega
theorem few_ins {q : S66} {L : List S66} (hq : FewP q) (hL : ∀ p ∈ L, FewP p) : ∀ p ∈ insK q L, FewP p := by
  induction L with
  | nil => intro p hp; simp [insK] at hp; subst hp; exact hq
  | cons x l ih =>
    have hl := ih (fun p hp => hL p (List.mem_cons_of_mem _ hp))
    intro p hp
    unfold insK at hp
    split at hp
    · rcases List.mem_cons.1 hp with rfl | hp
      · exact hq
      · exact hL p hp
    · split at hp
      · rcases List.mem_cons.1 hp with rfl | hp
        · exact hq
        · exact hL p (List.mem_cons_of_mem _ hp)
      · rcases List.mem_cons.1 hp with rfl | hp
        · exact hL _ (List.mem_cons_self ..)
        · exact hl p hp
theorem few_hap {L l : List S66} (hl : ∀ p ∈ l, FewP p) (hL : ∀ p ∈ L, FewP p) : ∀ p ∈ hapL L l, FewP p := by
  induction l generalizing L with
  | nil => exact hL
  | cons q l ih =>
    refine ih (L := hap1 L q) (fun p hp => hl p (List.mem_cons_of_mem _ hp)) ?_
    unfold hap1
    split
    · intro p hp; exact hL p (mem_delK.1 hp).1
    · exact few_ins (hl q (List.mem_cons_self ..)) hL
/-- a store on a disk of 1000 sectors, behind i commits of few puts -/
structure GI (i : Nat) (D : PD) (S : Int → List Int) (g tail : Int) (rs : List (Bool × List S66)) : Prop where
  winv : WInv D S 998 g 0 tail (rs.map recOf)
  ne : rs ≠ []
  ok : ∀ x ∈ rs, RecOK x
  len : (replay rs).length ≤ 8 * i
  few : ∀ p ∈ replay rs, FewP p
  tail_ : 0 ≤ tail ∧ tail ≤ 1 + 40 * i
  g_ : 0 ≤ g ∧ g ≤ 1 + i
  rl : rs.length ≤ 1 + i
theorem rec_ok {all : Bool} {l : List S66} (hl : l.length ≤ 8) (hf : ∀ p ∈ l, FewP p) : RecOK (all, l) :=
  ⟨by simp only; omega, fun p hp => by have := hf p hp; exact ⟨by have := this.1; omega, by have := this.2.1; omega, this.2.2⟩, by have := recB_le all l hf; show (recB all l).length ≤ 60000; omega⟩
theorem gi_start {D : PD} {S : Int → List Int} (h : WInv D S 998 1 0 (needs [[1, 0]]) [[1, 0]]) : GI 0 D S 1 (needs [[1, 0]]) rsA := by
  refine ⟨by rw [rsA_map]; exact h, by decide, rsA_ok, by rw [rsA_rep]; simp, (by rw [rsA_rep]; intro p hp; cases hp), ⟨by decide, by decide⟩, ⟨by decide, by decide⟩, by decide⟩
theorem slim_few {L : List S66} (hf : ∀ p ∈ L, FewP p) (hl : L.length ≤ 200) : SLim L :=
  ⟨fun p hp => by have := hf p hp; exact ⟨by have := this.1; omega, by have := this.2.1; omega⟩, by omega, by have := recB_le true L hf; omega⟩
/-- what may be committed, and what it comes to -/
theorem gi_commit {w0 : World} {i : Nat} {D : PD} {S : Int → List Int} {g tail : Int} {rs : List (Bool × List S66)} {l : List S66} (h : GI i D S g tail rs) (hl : l.length ≤ 8) (hf : ∀ p ∈ l, FewP p) (hne : l.length ≠ 0) (hi : i ≤ 11) :
    ∃ D2 S2, GI (i + 1) D2 S2 (g + 1) (tail + needN (recB false l)) (rs ++ [(false, l)]) ∧ ∀ (w : World) (Sb Wb B M Bd Mv : Nat) (vc vs : Value) (A : Option Addr) (c : Nat), SV w0.heap.size w Sb Wb B M Bd Mv vc vs D g 0 tail (startsP 0 (rs.map recOf)) false (replay rs) → l.length ≤ c → (∀ W, TC w0.heap.size (isWD M Bd) w W → k66.C W A l.length l) →
      Calls Tryz.prog 39 #[.pointer (some ⟨Sb, 0, none⟩), .slice A l.length c] w (SdQ w0.heap.size w Sb Wb B M Bd Mv D2 0 (g + 1) 0 (tail + needN (recB false l)) (startsP 0 ((rs ++ [(false, l)]).map recOf)) false (replay (rs ++ [(false, l)]))) := by
  have hb1 := recB_le false l hf
  have hfh := few_hap hf h.few
  have hlh := hapL_length (replay rs) l
  have hl1 := h.len
  have hb2 := recB_le true (hapL (replay rs) l) hfh
  have hlen1 : (recB false l).length ≤ 40000 := by omega
  have hlen2 : (recB true (hapL (replay rs) l)).length ≤ 40000 := by omega
  have hby : isBytes (recB false l) := recB_bytes false l (fun p hp => (hf p hp).2.2)
  have hby2 : isBytes (recB true (hapL (replay rs) l)) := recB_bytes true _ (fun p hp => (hfh p hp).2.2)
  have hX : RecsOK [recB false l] := ⟨by simp, fun b hb => by rw [List.mem_singleton] at hb; subst hb; exact ⟨hby, hlen1⟩⟩
  have hn1 : needs [recB false l] = needN (recB false l) := by show needN (recB false l) + 0 = _; omega
  have hm1 : 1 ≤ needN (recB false l) ∧ needN (recB false l) ≤ 40 := by unfold needN; rw [if_neg (by omega)]; omega
  have hm2 : 1 ≤ needN (recB true (hapL (replay rs) l)) ∧ needN (recB true (hapL (replay rs) l)) ≤ 460 := by unfold needN; rw [if_neg (by omega)]; omega
  have ht := h.tail_
  have hg := h.g_
  have hrl := h.rl
  have hmap : (rs ++ [(false, l)]).map recOf = rs.map recOf ++ [recB false l] := by rw [List.map_append]; rfl
  have hrep : replay (rs ++ [(false, l)]) = hapL (replay rs) l := by rw [replay_snoc]; rfl
  obtain ⟨D2, S2, hi2, hadd⟩ := real_add (w0 := w0) h.winv hX (by rw [hn1]; omega) (by omega) (by omega) (by decide) (by rw [List.length_map]; omega)
  rw [hn1] at hi2 hadd
  refine ⟨D2, S2, ⟨by rw [hmap]; exact hi2, by simp, ?_, by rw [hrep]; omega, by rw [hrep]; exact hfh, ⟨by omega, by omega⟩, ⟨by omega, by omega⟩, by rw [List.length_append, List.length_singleton]; omega⟩, fun w Sb Wb B M Bd Mv vc vs A c hsv hc hT => ?_⟩
  · intro x hx
    rcases List.mem_append.1 hx with hx | hx
    · exact h.ok x hx
    · rw [List.mem_singleton] at hx
      subst hx
      exact rec_ok hl hf
  · rw [hmap, hrep]
    exact commit_calls (recB false l) (recB true (hapL (replay rs) l)) _ _ rfl rfl rfl rfl (fun w' vc vs A c hv hT => hadd w' Wb B M Bd vc vs A c hv hT) h.winv.ring rfl ⟨by omega, by omega, by omega, by omega⟩ hne (by omega) hc hT (fun p hp => by have := hf p hp; exact ⟨by have := this.1; omega, by have := this.2.1; omega⟩) (by omega) (by omega) hby hby2 (slim_few hfh (by omega)) (by omega) _ (.inl ⟨rfl, rfl⟩) hsv
end Go.Proofs.YtlepcmljmibdnaaGreat
namespace Go.Rd
open Go.RowKit Go.Proofs.YtlepcmljmibdnaaGreatW.PrintWords

structure Reads (P : Program) (t : TypeId) {α : Type} (d : Kd α) (ok : α → Prop) : Prop where
  cells : P.cellsOf t = d.sz
  rd : ∀ {H : Type} (enc : TypeId × Value → H) (w : World) (sp : Nat → Bool) (held : Bool) (fuel : Nat) (cs : List Value) (x : DataW H × List MemPlace),
    DataW.trod enc P w 0 sp held fuel t cs = some x → ∃ a, d.K w a cs ∧ ok a

section
variable {P : Program} {t e : TypeId}
theorem int {k : IntKind} (ht : P.underlying t = some (.int k)) (hc : P.cellsOf t = 1) : Reads P t (Kd.int k) (fun n => (Lit.int k n).wf = true) :=
  ⟨hc, fun enc w sp held fuel cs x h => by
    obtain ⟨n, rfl, _, hw⟩ := DataW.trod_int ht h
    exact ⟨n, rfl, hw⟩⟩
theorem bool (ht : P.underlying t = some .bool) (hc : P.cellsOf t = 1) : Reads P t Kd.bool (fun _ => True) :=
  ⟨hc, fun enc w sp held fuel cs x h => by
    obtain ⟨n, rfl, _⟩ := DataW.trod_bool ht h
    exact ⟨n, rfl, trivial⟩⟩
theorem string (ht : P.underlying t = some .string) (hc : P.cellsOf t = 1) : Reads P t Kd.string (fun s => s.size ≤ maxLen) :=
  ⟨hc, fun enc w sp held fuel cs x h => by
    obtain ⟨n, rfl, _, hs⟩ := DataW.trod_string ht h
    exact ⟨n, rfl, hs⟩⟩
theorem slice {α : Type} {d : Kd α} {ok : α → Prop} (hd : Reads P e d ok) (ht : P.underlying t = some (.slice e)) (hc : P.cellsOf t = 1) : Reads P t (Kd.slice e d) (fun xs => ∀ a ∈ xs, ok a) :=
  ⟨hc, fun enc w sp held fuel cs x h => by
    rcases Deep.open_slice ht h with ⟨rfl, _⟩ | ⟨a, len, cap, m, n, D, Pl, rfl, hb, hl, hm, hmm, _, hx⟩
    · exact ⟨[], ⟨none, 0, rfl, Nat.le_refl _, Kd.C_nil _ _⟩, by simp⟩
    · have hlm : len ≤ m := by rw [hmm]; split <;> omega
      have hall : ∀ i, i < len → ∃ y : α, ok y ∧ ∃ c, c.length = d.sz ∧ d.K w y c ∧ ∀ j u, c[j]? = some u → w.cell? (a.add (i * d.sz + j)) = some u := by
        intro i hi
        obtain ⟨cs', h1, h2⟩ := hx i (by omega)
        obtain ⟨y, hy, hok⟩ := hd.rd enc w sp held n cs' _ h2
        obtain ⟨_, h4, h5⟩ := World.cells?_some h1
        rw [hd.cells] at h4 h5
        refine ⟨y, hok, cs', h4, hy, fun j u hj => ?_⟩
        have hjl : j < d.sz := by rw [← h4]; exact (List.getElem?_eq_some_iff.1 hj).1
        have := h5 j hjl
        rw [Deep.add_add] at this
        rw [this, hj]
      by_cases h0 : len = 0
      · subst h0
        exact ⟨[], ⟨some a, cap, rfl, by simp, ⟨rfl, by simp, fun h => absurd h (Nat.lt_irrefl 0)⟩⟩, by simp⟩
      · obtain ⟨y0, _⟩ := hall 0 (by omega)
        haveI : Inhabited α := ⟨y0⟩
        obtain ⟨f, hf⟩ := Deep.choose_lt (p := fun i y => ok y ∧ ∃ c, c.length = d.sz ∧ d.K w y c ∧ ∀ j u, c[j]? = some u → w.cell? (a.add (i * d.sz + j)) = some u) hall
        have hlen : ((List.range len).map f).length = len := by simp
        refine ⟨(List.range len).map f, ⟨some a, cap, by rw [hlen], by rw [hlen]; exact hl, ?_⟩, fun y hy => ?_⟩
        · refine ⟨rfl, by rw [hlen]; simp only [maxLen] at hm; omega, fun _ => ⟨a, rfl, fun j p hj => ?_⟩⟩
          have hjl : j < len := by rw [← hlen]; exact (List.getElem?_eq_some_iff.1 hj).1
          rw [List.getElem?_map, List.getElem?_range hjl] at hj
          obtain rfl := Option.some.inj hj
          exact (hf j hjl).2
        · obtain ⟨i, hi, rfl⟩ := List.mem_map.1 hy
          exact (hf i (List.mem_range.1 hi)).1⟩

structure FieldsR (P : Program) (fs : List Field) (o : Nat) {α : Type} (d : Kd α) (ok : α → Prop) : Prop where
  rd : ∀ {H : Type} (enc : TypeId × Value → H) (w : World) (sp : Nat → Bool) (held : Bool) (n : Nat) (cs : List Value), o + d.sz ≤ cs.length →
    (∀ f ∈ fs, ∃ y, DataW.trod enc P w 0 sp held n f.type ((cs.drop f.offset).take (P.cellsOf f.type)) = some y) → ∃ a, d.K w a ((cs.drop o).take d.sz) ∧ ok a
theorem one {α : Type} {d : Kd α} {ok : α → Prop} {f : Field} (hd : Reads P f.type d ok) : FieldsR P [f] f.offset d ok := by
  refine ⟨fun {H} enc w sp held n cs hl h => ?_⟩
  obtain ⟨y, hy⟩ := h f (by simp)
  rw [hd.cells] at hy
  exact hd.rd enc w sp held n _ y hy
theorem cons {α β : Type} {d : Kd α} {d' : Kd β} {ok : α → Prop} {ok' : β → Prop} {f : Field} {fs : List Field} (hd : Reads P f.type d ok) (hf : FieldsR P fs (f.offset + d.sz) d' ok') :
    FieldsR P (f :: fs) f.offset (Kd.pair d d') (fun p => ok p.1 ∧ ok' p.2) := by
  refine ⟨fun {H} enc w sp held n cs hl h => ?_⟩
  have hsz : (Kd.pair d d').sz = d.sz + d'.sz := rfl
  rw [hsz] at hl ⊢
  obtain ⟨y, hy⟩ := h f (by simp)
  rw [hd.cells] at hy
  obtain ⟨a, ha, hoa⟩ := hd.rd enc w sp held n _ y hy
  obtain ⟨b, hb, hob⟩ := hf.rd enc w sp held n cs (by omega) (fun g hg => h g (by simp [hg]))
  refine ⟨(a, b), ⟨_, _, ?_, ha, hb⟩, hoa, hob⟩
  rw [← List.drop_drop, List.take_add]
theorem struct {α : Type} {d : Kd α} {ok : α → Prop} {fs : Array Field} (ht : P.underlying t = some (.struct fs)) (hf : FieldsR P fs.toList 0 d ok) (hc : P.cellsOf t = d.sz) : Reads P t d ok :=
  ⟨hc, fun enc w sp held fuel cs x h => by
    obtain ⟨xs, n, _, _, hl, hx, hall⟩ := DataW.trod_struct ht h
    obtain ⟨a, ha, hoa⟩ := hf.rd enc w sp held n cs (by rw [hl, hc]; omega) (fun f hm => by
      obtain ⟨i, hi⟩ := List.mem_iff_getElem?.1 hm
      have hil : i < fs.size := by simpa using (List.getElem?_eq_some_iff.1 hi).1
      have := hall i f (by simpa using hi)
      rw [List.getElem?_eq_getElem (by omega)] at this
      exact ⟨_, this⟩)
    refine ⟨a, ?_, hoa⟩
    rw [List.drop_zero, List.take_of_length_le (by rw [hl, hc]; exact Nat.le_refl _)] at ha
    exact ha⟩
theorem iso {α β : Type} {d : Kd α} {ok : α → Prop} (hd : Reads P t d ok) (f : β → α) (g : α → β) (h : ∀ a, f (g a) = a) : Reads P t (Kd.iso d f) (fun x => ok (f x)) :=
  ⟨hd.cells, fun enc w sp held fuel cs x hx => by
    obtain ⟨a, ha, hok⟩ := hd.rd enc w sp held fuel cs x hx
    refine ⟨g a, ?_, by rw [h]; exact hok⟩
    show d.K w (f (g a)) cs
    rw [h]
    exact ha⟩
/-- A slice that came in. -/
theorem arg {α : Type} {d : Kd α} {ok : α → Prop} (hd : Reads P e d ok) (ht : P.underlying t = some (.slice e)) (hc : P.cellsOf t = 1) {H : Type} {enc : TypeId × Value → H} {W : World} {a : Option Addr} {len cap : Nat} {D : DataW H} {ps : List MemPlace}
    (h : DataW.Trod enc P W 0 (fun _ => true) true t (.slice a len cap) D ps) : ∃ l : List α, len = l.length ∧ l.length ≤ cap ∧ d.C W a l.length l ∧ ∀ x ∈ l, ok x := by
  obtain ⟨fuel, hf⟩ := h
  obtain ⟨l, ⟨A, c, he, hl, hC⟩, hok⟩ := (slice hd ht hc).rd enc W _ _ fuel _ _ hf
  simp only [Value.cells, List.cons.injEq, and_true] at he
  injection he with h1 h2 h3
  subst h1; subst h2; subst h3
  exact ⟨l, rfl, hl, hC, hok⟩
end
end Go.Rd
namespace Go.Rd
theorem caps {P : Program} {t e : TypeId} (ht : P.underlying t = some (.slice e)) {H : Type} {enc : TypeId × Value → H} {W : World} {a : Option Addr} {len cap : Nat} {D : DataW H} {ps : List MemPlace}
    (h : DataW.Trod enc P W 0 (fun _ => true) true t (.slice a len cap) D ps) : (a = none → len = 0 ∧ cap = 0) ∧ cap ≤ 9223372036854775807 := by
  obtain ⟨fuel, hf⟩ := h
  rcases Deep.open_slice ht hf with ⟨h1, _⟩ | ⟨a', len', cap', m, n, D', Pl, h1, hb, hl, hm, _⟩
  · simp only [Value.cells, List.cons.injEq, and_true] at h1
    injection h1 with h1 h2 h3
    exact ⟨fun _ => ⟨h2, h3⟩, by omega⟩
  · simp only [Value.cells, List.cons.injEq, and_true] at h1
    injection h1 with h1 h2 h3
    refine ⟨fun hn => ?_, by unfold maxLen at hm; omega⟩
    rw [hn] at h1
    cases h1
end Go.Rd
namespace Go.Proofs.YtlepcmljmibdnaaGreat
open Go.ChangeShapes Go.WideShapes Go.ChangeAt Go.RowKit Go.Proofs.YtlepcmljmibdnaaGreatW.PrintWords Go.Proofs.YtlepcmljmibdnaaGreatW.PrintLast Go.Proofs.YtlepcmljmibdnaaGreatW.PrintMore
theorem rInt : Rd.Reads Tryz.prog 3 (Kd.int .i64) (fun n => (Lit.int .i64 n).wf = true) := Rd.int Tryz.underlying3 (by kernel_rfl)
theorem rU8 : Rd.Reads Tryz.prog 5 (Kd.int .u8) (fun n => (Lit.int .u8 n).wf = true) := Rd.int Tryz.underlying5 (by kernel_rfl)
theorem rBool : Rd.Reads Tryz.prog 4 Kd.bool (fun _ => True) := Rd.bool Tryz.underlying4 (by kernel_rfl)
theorem rBytes : Rd.Reads Tryz.prog 58 (Kd.slice 5 (Kd.int .u8)) (fun xs => ∀ a ∈ xs, (Lit.int .u8 a).wf = true) := Rd.slice rU8 Tryz.underlying58 (by kernel_rfl)
theorem rBools : Rd.Reads Tryz.prog 38 (Kd.slice 4 Kd.bool) (fun xs => ∀ a ∈ xs, True) := Rd.slice rBool Tryz.underlying38 (by kernel_rfl)
theorem int_in {n : Int} (h : (Lit.int .i64 n).wf = true) : -9223372036854775808 ≤ n ∧ n ≤ 9223372036854775807 := by
  have := bounds_i64 h
  omega
theorem u8_in' {n : Int} (h : (Lit.int .u8 n).wf = true) : 0 ≤ n ∧ n < 256 := by
  have := bounds_u8 h
  omega
end Go.Proofs.YtlepcmljmibdnaaGreat
namespace Go.Proofs.YtlepcmljmibdnaaGreat
open Go.ChangeShapes Go.WideShapes Go.ChangeAt Go.RowKit Go.Proofs.YtlepcmljmibdnaaGreatW.PrintWords Go.Proofs.YtlepcmljmibdnaaGreatW.PrintLast Go.Proofs.YtlepcmljmibdnaaGreatW.PrintMore
open PStoreRecords (S66 k66)
theorem rString : Rd.Reads Tryz.prog 9 Kd.string (fun s => s.size ≤ maxLen) := Rd.string Tryz.underlying9 (by kernel_rfl)
theorem rTupP : Rd.Reads Tryz.prog 66 (Kd.pair Kd.string (Kd.pair (Kd.slice 5 (Kd.int .u8)) Kd.bool))
    (fun x => x.1.size ≤ maxLen ∧ (∀ a ∈ x.2.1, (Lit.int .u8 a).wf = true) ∧ True) := by
  refine Rd.struct Tryz.underlying66 ?_ (by kernel_rfl)
  refine Rd.cons (ok' := fun y : List Int × Bool => (∀ a ∈ y.1, (Lit.int .u8 a).wf = true) ∧ True) (f := { name := "Key", type := 9, offset := 0, embedded := false, tag := "", pkgPath := "", byteOffset := 0 }) rString ?_
  refine Rd.cons (ok' := fun y : Bool => True) (f := { name := "Val", type := 58, offset := 1, embedded := false, tag := "", pkgPath := "", byteOffset := 16 }) rBytes ?_
  exact Rd.one (f := { name := "Gone", type := 4, offset := 2, embedded := false, tag := "", pkgPath := "", byteOffset := 40 }) rBool
theorem rPut : Rd.Reads Tryz.prog 66 k66 (fun x => x.f0.size ≤ maxLen ∧ (∀ a ∈ x.f1, (Lit.int .u8 a).wf = true) ∧ True) :=
  Rd.iso rTupP (fun x : S66 => (x.f0, x.f1, x.f2)) (fun a => (⟨a.1, a.2.1, a.2.2⟩ : S66)) (fun _ => rfl)
end Go.Proofs.YtlepcmljmibdnaaGreat
namespace Go.Proofs.YtlepcmljmibdnaaGreat
open Go.ChangeShapes Go.WideShapes Go.ChangeAt Go.RowKit Go.Proofs.YtlepcmljmibdnaaGreatW.PrintWords Go.Proofs.YtlepcmljmibdnaaGreatW.PrintLast Go.Proofs.YtlepcmljmibdnaaGreatW.PrintMore
open PStoreRecords (S66 k66)
set_option linter.unusedVariables false
/-- a deed of layer 8 -/
structure SDeed where
  kind : Int
  l : List S66
  n : Int
  keep : List Bool
def zE : SDeed := ⟨0, [], 0, []⟩
def kE : Kd SDeed := Kd.iso (Kd.pair (Kd.int .i64) (Kd.pair (Kd.slice 66 k66) (Kd.pair (Kd.int .i64) (Kd.slice 4 Kd.bool)))) (fun x : SDeed => (x.kind, x.l, x.n, x.keep))
theorem kE_open {w : World} {x : SDeed} {cs : List Value} (h : kE.K w x cs) : ∃ A1 c1 A3 c3, cs = [.int .i64 x.kind, .slice A1 x.l.length c1, .int .i64 x.n, .slice A3 x.keep.length c3] ∧ x.l.length ≤ c1 ∧ k66.C w A1 x.l.length x.l ∧ x.keep.length ≤ c3 ∧ Kd.bool.C w A3 x.keep.length x.keep := by
  obtain ⟨_, _, rfl, rfl, ⟨_, _, rfl, ⟨A1, c1, rfl, l1, g1⟩, ⟨_, _, rfl, rfl, ⟨A3, c3, rfl, l3, g3⟩⟩⟩⟩ := h
  exact ⟨A1, c1, A3, c3, rfl, l1, g1, l3, g3⟩
def rd_E (xs : List SDeed) (i : Int) : SDeed := xs.getD i.toNat zE
theorem at_E {w : World} {A : Option Addr} {n : Nat} {xs : List SDeed} (h : Kd.C kE w A n xs) (i : Int) (h0 : 0 ≤ i) (h1 : i < n) : ∃ ad A1 c1 A3 c3, A = some ad ∧ w.cell? (ad.add (i.toNat * 4)) = some (.int .i64 (rd_E xs i).kind) ∧ w.cell? ⟨(ad.add (i.toNat * 4)).block, (ad.add (i.toNat * 4)).off + 1, none⟩ = some (.slice A1 (rd_E xs i).l.length c1) ∧ w.cell? ⟨(ad.add (i.toNat * 4)).block, (ad.add (i.toNat * 4)).off + 2, none⟩ = some (.int .i64 (rd_E xs i).n) ∧ w.cell? ⟨(ad.add (i.toNat * 4)).block, (ad.add (i.toNat * 4)).off + 3, none⟩ = some (.slice A3 (rd_E xs i).keep.length c3) ∧ (rd_E xs i).l.length ≤ c1 ∧ k66.C w A1 (rd_E xs i).l.length (rd_E xs i).l ∧ (rd_E xs i).keep.length ≤ c3 ∧ Kd.bool.C w A3 (rd_E xs i).keep.length (rd_E xs i).keep := by
  obtain ⟨ad, c, e, _, hK, hc0⟩ := Kd.C_get h zE i h0 h1
  have hc : ∀ j u, c[j]? = some u → w.cell? (ad.add (i.toNat * 4 + j)) = some u := hc0
  obtain ⟨A1, c1, A3, c3, rfl, l1, g1, l3, g3⟩ := kE_open hK
  exact ⟨ad, A1, c1, A3, c3, e, hc 0 _ rfl, by rw [← add_field _ _ 1 (by omega)]; exact hc 1 _ rfl, by rw [← add_field _ _ 2 (by omega)]; exact hc 2 _ rfl, by rw [← add_field _ _ 3 (by omega)]; exact hc 3 _ rfl, l1, g1, l3, g3⟩
theorem rd_getE (l : List SDeed) (i : Nat) (hi : i < l.length) : l[i]? = some (rd_E l (i : Int)) := by
  simp [rd_E, hi]
theorem rPuts : Rd.Reads Tryz.prog 57 (Kd.slice 66 k66) (fun xs => ∀ a ∈ xs, a.f0.size ≤ maxLen ∧ (∀ b ∈ a.f1, (Lit.int .u8 b).wf = true) ∧ True) := Rd.slice rPut Tryz.underlying57 (by kernel_rfl)
theorem rTupE : Rd.Reads Tryz.prog 75 (Kd.pair (Kd.int .i64) (Kd.pair (Kd.slice 66 k66) (Kd.pair (Kd.int .i64) (Kd.slice 4 Kd.bool))))
    (fun x => (Lit.int .i64 x.1).wf = true ∧ (∀ a ∈ x.2.1, a.f0.size ≤ maxLen ∧ (∀ b ∈ a.f1, (Lit.int .u8 b).wf = true) ∧ True) ∧ (Lit.int .i64 x.2.2.1).wf = true ∧ ∀ a ∈ x.2.2.2, True) := by
  refine Rd.struct Tryz.underlying75 ?_ (by kernel_rfl)
  refine Rd.cons (ok' := fun y : List S66 × Int × List Bool => (∀ a ∈ y.1, a.f0.size ≤ maxLen ∧ (∀ b ∈ a.f1, (Lit.int .u8 b).wf = true) ∧ True) ∧ (Lit.int .i64 y.2.1).wf = true ∧ ∀ a ∈ y.2.2, True) (f := { name := "Kind", type := 3, offset := 0, embedded := false, tag := "", pkgPath := "", byteOffset := 0 }) rInt ?_
  refine Rd.cons (ok' := fun y : Int × List Bool => (Lit.int .i64 y.1).wf = true ∧ ∀ a ∈ y.2, True) (f := { name := "L", type := 57, offset := 1, embedded := false, tag := "", pkgPath := "", byteOffset := 8 }) rPuts ?_
  refine Rd.cons (ok' := fun y : List Bool => ∀ a ∈ y, True) (f := { name := "N", type := 3, offset := 2, embedded := false, tag := "", pkgPath := "", byteOffset := 32 }) rInt ?_
  exact Rd.one (f := { name := "Keep", type := 38, offset := 3, embedded := false, tag := "", pkgPath := "", byteOffset := 40 }) rBools
theorem rSDeed : Rd.Reads Tryz.prog 75 kE (fun x => (Lit.int .i64 x.kind).wf = true ∧ (∀ a ∈ x.l, a.f0.size ≤ maxLen ∧ (∀ b ∈ a.f1, (Lit.int .u8 b).wf = true) ∧ True) ∧ (Lit.int .i64 x.n).wf = true ∧ ∀ a ∈ x.keep, True) :=
  Rd.iso rTupE (fun x : SDeed => (x.kind, x.l, x.n, x.keep)) (fun a => (⟨a.1, a.2.1, a.2.2.1, a.2.2.2⟩ : SDeed)) (fun _ => rfl)
end Go.Proofs.YtlepcmljmibdnaaGreat
namespace Go.Proofs.YtlepcmljmibdnaaGreat
open Go.RowKit Go.Proofs.YtlepcmljmibdnaaGreatW.PrintWords Go.Proofs.YtlepcmljmibdnaaGreatW.PrintLast Go.Proofs.YtlepcmljmibdnaaGreatW.PrintMore PWalOpens
open PStoreRecords (S66 k66 rd_T66 at_T66 z66)
set_option linter.unusedVariables false
set_option linter.unusedSimpArgs false
theorem lit_put2 {b : Nat} {W : World} {k : ByteArray} {v : List Int} {A : Option Addr} {c : Nat} {g : Bool} (h2 : W.heap[b]? = some (.cells #[.string k, .slice A v.length c, .bool g] 66 (0, 0))) (hx : (Kd.int .u8).C W A v.length v) (hcap : v.length ≤ c) : k66.C W (some ⟨b, 0, none⟩) 1 [⟨k, v, g⟩] := by
  refine ⟨rfl, by decide, fun _ => ⟨_, rfl, fun j p hj => ?_⟩⟩
  have hj0 : j = 0 := by have := (List.getElem?_eq_some_iff.1 hj).1; simp at this; omega
  subst hj0
  simp at hj
  subst hj
  refine ⟨[.string k, .slice A v.length c, .bool g], rfl, PStoreRecords.k66_mk W ⟨k, v, g⟩ hcap hx, fun i u hu => ?_⟩
  have hi : i < 3 := (List.getElem?_eq_some_iff.1 hu).1
  show W.cell? ((⟨b, 0, none⟩ : Addr).add (0 * 3 + i)) = some u
  have e : (⟨b, 0, none⟩ : Addr).add (0 * 3 + i) = ⟨b, i, none⟩ := by unfold Addr.add; split <;> simp_all
  rw [e]
  unfold World.cell?
  rw [h2]
  simpa using hu
/-- a box that a store's deeds leave -/
theorem sd_box {n0 M Bd Mv g : Nat} {w w' : World} {v : Value} {t : Nat} (h : w.heap[g]? = some (.cells #[v] t (0, 0))) (hc : TC n0 (isSD M Bd Mv) w w') (ht : t ≠ 90 ∧ t ≠ 124 ∧ t ≠ 102) : w'.heap[g]? = some (.cells #[v] t (0, 0)) := by
  refine hc.blk _ _ h (fun e => ?_)
  rcases e with (e | e) | e
  · rcases e with e | e
    · exact ht.1 e
    · exact ht.2.1 e
  · exact ht.2.2 e
  · exact e.2
theorem up_box {g : Nat} {w w' : World} {o : Obj} (h : w.heap[g]? = some o) (hb : Below w.heap.size w w') : w'.heap[g]? = some o := (hb.block _ (Array.getElem?_eq_some_iff.1 h).1).trans h
/-- the state between two deeds -/
structure GV (w0 : World) (i : Nat) (w : World) (Sb Wb B M Bd Mv : Nat) (vc vs : Value) (D : PD) (S : Int → List Int) (g tail : Int) (rs : List (Bool × List S66)) : Prop where
  gi : GI i D S g tail rs
  sv : SV w0.heap.size w Sb Wb B M Bd Mv vc vs D g 0 tail (startsP 0 (rs.map recOf)) false (replay rs)
  low : Below w0.heap.size w0 w
theorem GV.fresh {w0 w w' : World} {i Sb Wb B M Bd Mv : Nat} {vc vs : Value} {D : PD} {S : Int → List Int} {g tail : Int} {rs : List (Bool × List S66)} (h : GV w0 i w Sb Wb B M Bd Mv vc vs D S g tail rs) (hb : Below w.heap.size w w') : GV w0 i w' Sb Wb B M Bd Mv vc vs D S g tail rs :=
  ⟨h.gi, h.sv.fresh hb, h.low.trans (hb.mono h.low.size)⟩
def GcmQ (w0 : World) (i : Nat) (w : World) (Sb Wb B M Bd Mv : Nat) (L : List S66) (e : Ending) (w' : World) : Prop :=
  e = .returned (.int .i64 0) ∧ TC w0.heap.size (isSD M Bd Mv) w w' ∧ ∃ vc vs D S g tail rs, GV w0 (i + 1) w' Sb Wb B M Bd Mv vc vs D S g tail rs ∧ replay rs = L
/-- a commit of few puts, any number -/
theorem gv_commit {w0 w : World} {i Sb Wb B M Bd Mv c : Nat} {vc vs : Value} {D : PD} {S : Int → List Int} {g tail : Int} {rs : List (Bool × List S66)} {A : Option Addr} {l : List S66} (h : GV w0 i w Sb Wb B M Bd Mv vc vs D S g tail rs) (hl : l.length ≤ 8) (hf : ∀ p ∈ l, FewP p) (hi : i ≤ 11) (hc : l.length ≤ c) (hT : ∀ W, TC w0.heap.size (isWD M Bd) w W → k66.C W A l.length l) :
    Calls Tryz.prog 39 #[.pointer (some ⟨Sb, 0, none⟩), .slice A l.length c] w (GcmQ w0 i w Sb Wb B M Bd Mv (hapL (replay rs) l)) := by
  by_cases hne : l.length = 0
  · obtain rfl : l = [] := List.eq_nil_of_length_eq_zero hne
    refine (commit_empty h.sv).mono ?_
    rintro e w' ⟨rfl, rfl⟩
    have hg := h.gi
    exact ⟨rfl, TC.refl _ _ _, vc, vs, D, S, g, tail, rs, ⟨⟨hg.winv, hg.ne, hg.ok, by have := hg.len; omega, hg.few, ⟨hg.tail_.1, by have := hg.tail_.2; omega⟩, ⟨hg.g_.1, by have := hg.g_.2; omega⟩, by have := hg.rl; omega⟩, h.sv, h.low⟩, rfl⟩
  · obtain ⟨D2, S2, hg2, hcm⟩ := gi_commit (w0 := w0) h.gi hl hf hne hi
    refine (hcm w Sb Wb B M Bd Mv vc vs A c h.sv hc hT).mono ?_
    rintro e w' ⟨rfl, htc, vc', vs', hsv⟩
    exact ⟨rfl, htc, vc', vs', D2, S2, _, _, _, ⟨hg2, hsv, h.low.trans htc.low⟩, by rw [replay_snoc]; rfl⟩
end Go.Proofs.YtlepcmljmibdnaaGreat
namespace Go.Proofs.YtlepcmljmibdnaaGreat
open Go.RowKit Go.Proofs.YtlepcmljmibdnaaGreatW.PrintWords Go.Proofs.YtlepcmljmibdnaaGreatW.PrintLast Go.Proofs.YtlepcmljmibdnaaGreatW.PrintMore PWalOpens
open PStoreRecords (S66 k66 rd_T66 at_T66 z66)
set_option linter.unusedVariables false
set_option linter.unusedSimpArgs false
/-- a kind of blocks that no store holds -/
structure NoS (M Bd Mv : Nat) (T : Nat → Obj → Prop) : Prop where
  map : ∀ es cl, ¬ T M (.map es cl) ∧ ¬ T Bd (.map es cl) ∧ ¬ T Mv (.map es cl)
  cells : ∀ q, q = 90 ∨ q = 124 ∨ q = 102 ∨ q = 52 ∨ q = 5 ∨ q = 148 → ∀ k cs, ¬ T k (.cells cs q (0, 0))
theorem SV.keep {n0 : Nat} {w w' : World} {Sb Wb B M Bd Mv : Nat} {vc vs : Value} {D : PD} {gen head tail : Int} {S : List Int} {over : Bool} {L : List S66} {T : Nat → Obj → Prop} {b : Nat} (h : SV n0 w Sb Wb B M Bd Mv vc vs D gen head tail S over L) (hc : TC b T w w') (hT : NoS M Bd Mv T) : SV n0 w' Sb Wb B M Bd Mv vc vs D gen head tail S over L := by
  have hw := h.wv
  obtain ⟨e1, c1, hk1, hr1⟩ := hw.dk.kept
  obtain ⟨e2, c2, hk2, hr2⟩ := hw.dk.bad
  refine ⟨hc.blk _ _ h.blk (hT.cells _ (by simp) _ _), h.hS, ⟨hc.blk _ _ hw.blk (hT.cells _ (by simp) _ _), hw.hW, ⟨hc.blk _ _ hw.dk.blk (hT.cells _ (by simp) _ _), ⟨e1, c1, hc.blk M _ hk1 (hT.map _ _).1, hr1⟩, ⟨e2, c2, hc.blk Bd _ hk2 (hT.map _ _).2.1, hr2⟩, R_tc hw.dk.cache hc ?_, hw.dk.hB, hw.dk.hM, hw.dk.hBd, hw.dk.hne, hw.dk.sec, hw.dk.hn, hw.dk.hl⟩, R_tc hw.st hc ?_⟩, h.mv.tc hc (fun es cl => (hT.map es cl).2.2) (fun k cs => hT.cells _ (by simp) k cs), h.ne⟩
  · intro q hq k cells
    have : q = 124 := by
      have : (124 :: wrK.E) = [124] := by rfl
      rw [this] at hq
      simpa using hq
    subst this
    exact hT.cells _ (by simp) k cells
  · intro q hq k cells
    obtain rfl := q56 q hq
    exact hT.cells _ (by simp) k cells
theorem SV.maps {n0 : Nat} {w : World} {Sb Wb B M Bd Mv : Nat} {vc vs : Value} {D : PD} {gen head tail : Int} {S : List Int} {over : Bool} {L : List S66} (h : SV n0 w Sb Wb B M Bd Mv vc vs D gen head tail S over L) : M < w.heap.size ∧ Bd < w.heap.size ∧ Mv < w.heap.size := by
  obtain ⟨_, _, h1, _⟩ := h.wv.dk.kept
  obtain ⟨_, _, h2, _⟩ := h.wv.dk.bad
  exact ⟨(Array.getElem?_eq_some_iff.1 h1).1, (Array.getElem?_eq_some_iff.1 h2).1, h.mv.lt⟩
/-- what is no cells, from N on -/
def isFar (N : Nat) (k : Nat) (o : Obj) : Prop := N ≤ k ∧ o.isCells = false
theorem far_noS {M Bd Mv N : Nat} (h : M < N ∧ Bd < N ∧ Mv < N) : NoS M Bd Mv (isFar N) :=
  ⟨fun es cl => ⟨fun e => absurd e.1 (by omega), fun e => absurd e.1 (by omega), fun e => absurd e.1 (by omega)⟩, fun q _ k cs e => by cases e.2⟩
theorem far_tc {b N : Nat} {W W' : World} {row : Option Nat} (hb : b ≤ N) (hW : b ≤ W.heap.size) (hg : W.grownBy W' row) (hr : ∀ r, row = some r → N ≤ r ∧ ∃ o : Obj, W.heap[r]? = some o ∧ o.isCells = false) : TC b (isFar N) W W' :=
  TC.grown hg (fun k hk => by
    obtain ⟨h1, o, h2, h3⟩ := hr k hk.symm
    exact ⟨Nat.le_trans hb h1, o, h2, h1, h3⟩) hW
/-- boxes of numbers and flags -/
def isIB (k : Nat) (o : Obj) : Prop := isT 3 k o ∨ isT 4 k o
theorem ib_noS {M Bd Mv : Nat} : NoS M Bd Mv isIB := by
  refine ⟨fun es cl => ⟨fun e => ?_, fun e => ?_, fun e => ?_⟩, fun q hq k cs e => ?_⟩
  · rcases e with e | e <;> exact e
  · rcases e with e | e <;> exact e
  · rcases e with e | e <;> exact e
  · rcases hq with rfl | rfl | rfl | rfl | rfl | rfl <;> rcases e with e | e <;> simp [isT] at e
theorem itIB : ItT isIB := by
  refine ⟨fun k es cl h => ?_, fun q hq k cells h => ?_⟩
  · rcases h with h | h <;> exact h
  · rcases hq with rfl | rfl | rfl | rfl <;> rcases h with h | h <;> simp [isT] at h
theorem ib_keepsFrom {B : Nat} {W W' : World} (h : TC 0 isIB W W') : KeepsFrom B W W' :=
  ⟨h.low.size, fun k o _ hk ho => h.blk k o hk (fun e => by
    cases o with
    | cells c t f => cases ho
    | _ => exact e.elim (fun e => e) (fun e => e))⟩
theorem GV.keep {w0 w w' : World} {i Sb Wb B M Bd Mv : Nat} {vc vs : Value} {D : PD} {S : Int → List Int} {g tail : Int} {rs : List (Bool × List S66)} {T : Nat → Obj → Prop} (h : GV w0 i w Sb Wb B M Bd Mv vc vs D S g tail rs) (hc : TC w0.heap.size T w w') (hT : NoS M Bd Mv T) : GV w0 i w' Sb Wb B M Bd Mv vc vs D S g tail rs :=
  ⟨h.gi, h.sv.keep hc hT, h.low.trans hc.low⟩
end Go.Proofs.YtlepcmljmibdnaaGreat
namespace Go.Proofs.YtlepcmljmibdnaaGreat
open Go.RowKit Go.Proofs.YtlepcmljmibdnaaGreatW.PrintWords Go.Proofs.YtlepcmljmibdnaaGreatW.PrintLast Go.Proofs.YtlepcmljmibdnaaGreatW.PrintMore PWalOpens
open PStoreRecords (S66 k66 rd_T66 at_T66 z66)
set_option linter.unusedVariables false
set_option linter.unusedSimpArgs false
attribute [local go_sem] Oper.semAt_some
theorem awake8 (w : World) : Calls Tryz.prog 30 #[] w fun e w' => e = .returned (.bool true) ∧ Below w.heap.size w w' := awake8_calls w
/-- a range over a store's keys, the keys alone taken -/
theorem range_okk {P : Program} {n : Nat} {g : Operand} {assign body : Code} {Q : Exit → Act → World → Prop} {tmps : Array Value} {ds : List Deferred} {w : World} {p q r : Nat} (h1 : 1 ≤ n) {gf : Nat} {lb : Array Value} (hg : ({ tmps := tmps, defers := ds } : Act).eval g = .func (.func gf) #[] lb)
    (eg : ∀ args w, (callFunc gf args).run P w = .ok (.enter gf args) w) {Ok : List KX → KX → World → Prop} {Kp : World → World → Prop} {S Sp : List KX → World → Prop} (hseq : SeqOk (n - 1) P gf lb (fun x : KX => #[.string x.1.f0, x.2]) Ok Kp S Sp w)
    (hKt : ∀ {A B C : World}, Kp A B → Kp B C → Kp A C) (hKb : ∀ (W : World) (l : Nat) (r : Loop) (o' : Obj), w.heap.size ≤ l → W.heap[l]? = some (.loop r) → Kp W (W.putObj l o'))
    (hOk : ∀ pre, OwnFrom w.heap.size (Ok pre)) (hS : OwnFrom w.heap.size S) (hSp : OwnFrom w.heap.size Sp) (I : List KX → World → Prop) (Ix : Code → List KX → World → Prop) (hI : OwnFrom w.heap.size I) (hIx : ∀ c, OwnFrom w.heap.size (Ix c)) (h0 : I [] w)
    (hassign : ∀ (l : Nat) (x : KX) (W : World) (K : Act → World → Prop), K { tmps := ((tmps.setIfInBounds p (.string x.1.f0)).setIfInBounds q x.2).setIfInBounds r (.string x.1.f0), defers := [] } W → assign.wpIn (Fence.wide.inRound l) (n - 1 - 1) P (Exit.then K (fun _ _ _ => False)) { tmps := (#[p, q].zip #[.string x.1.f0, x.2]).foldl (fun t (p, v) => t.setIfInBounds p v) tmps, defers := [] } W)
    (hbody : ∀ (l : Nat) (pre : List KX) (x : KX) (W : World), w.heap.size ≤ l → (∃ r, W.heap[l]? = some (.loop r)) → I pre W → Ok pre x W → body.wpIn (Fence.wide.inRound l) (n - 1 - 1) P (okPost w.heap.size Kp I Ix (pre ++ [x]) W) { tmps := ((tmps.setIfInBounds p (.string x.1.f0)).setIfInBounds q x.2).setIfInBounds r (.string x.1.f0), defers := [] } W)
    (hdone : ∀ (D : Nat) (xs : List KX) (W : World), w.heap.size ≤ D → S xs W → I xs W → W.heap[D]? = some (.deferred (some [])) → Q .normal { tmps := tmps, defers := cmark D :: ds } W)
    (hstop : ∀ (D : Nat) (c : Code) (pre : List KX) (W : World), w.heap.size ≤ D → Sp pre W → Ix c pre W → W.heap[D]? = some (.deferred (some [])) → c.wp P Q { tmps := tmps, defers := cmark D :: ds } W) :
    (Code.rangeFunc g #[p, q] assign body).wp P Q { tmps := tmps, defers := ds } w :=
  range_ok h1 hg eg hseq hKt hKb (fun _ => rfl) hOk hS hSp I Ix hI hIx h0 (fun x => { tmps := ((tmps.setIfInBounds p (.string x.1.f0)).setIfInBounds q x.2).setIfInBounds r (.string x.1.f0), defers := [] }) hassign hbody hdone hstop
/-- between two rounds over the keys -/
structure KI (w1 : World) (i nb xb vb : Nat) (Sb Wb B M Bd Mv : Nat) (vc vs : Value) (D : PD) (S : Int → List Int) (g tail : Int) (rs : List (Bool × List S66)) (v9 : Value) (val : List Int) (n : Int) (W : World) : Prop where
  gv : GV w1 i W Sb Wb B M Bd Mv vc vs D S g tail rs
  nb_ : Boxed W nb 3 (.int .i64 n)
  xb_ : Boxed W xb 71 (.pointer (some ⟨Sb, 0, none⟩))
  r9 : Kd.R (Kd.int .u8) 5 W vb (fun _ => True) v9 val
section
variable {w1 W W' : World} {i nb xb vb : Nat} {Sb Wb B M Bd Mv : Nat} {vc vs : Value} {D : PD} {S : Int → List Int} {g tail : Int} {rs : List (Bool × List S66)} {v9 : Value} {val : List Int} {n : Int}
theorem KI.far {N : Nat} {row : Option Nat} (h : KI w1 i nb xb vb Sb Wb B M Bd Mv vc vs D S g tail rs v9 val n W) (hN : w1.heap.size ≤ N ∧ M < N ∧ Bd < N ∧ Mv < N) (hg : W.grownBy W' row) (hr : ∀ r, row = some r → N ≤ r ∧ ∃ o : Obj, W.heap[r]? = some o ∧ o.isCells = false) : KI w1 i nb xb vb Sb Wb B M Bd Mv vc vs D S g tail rs v9 val n W' := by
  have hc := far_tc (b := w1.heap.size) hN.1 h.gv.low.size hg hr
  exact ⟨h.gv.keep hc (far_noS hN.2), hc.blk _ _ h.nb_ (fun e => by cases e.2), hc.blk _ _ h.xb_ (fun e => by cases e.2), R_tc h.r9 hc (fun q _ k cells e => by cases e.2)⟩
theorem KI.fresh (h : KI w1 i nb xb vb Sb Wb B M Bd Mv vc vs D S g tail rs v9 val n W) (hb : Below W.heap.size W W') : KI w1 i nb xb vb Sb Wb B M Bd Mv vc vs D S g tail rs v9 val n W' :=
  ⟨h.gv.fresh hb, up_box h.nb_ hb, up_box h.xb_ hb, Kd.R_below h.r9 hb⟩
theorem KI.count (h : KI w1 i nb xb vb Sb Wb B M Bd Mv vc vs D S g tail rs v9 val n W) (hn : w1.heap.size ≤ nb) (m : Int) : KI w1 i nb xb vb Sb Wb B M Bd Mv vc vs D S g tail rs v9 val m (W.setCell ⟨nb, 0, none⟩ (.int .i64 m)) ∧ TC w1.heap.size isIB W (W.setCell ⟨nb, 0, none⟩ (.int .i64 m)) := by
  have hc : TC w1.heap.size isIB W (W.setCell ⟨nb, 0, none⟩ (.int .i64 m)) := TC.set (T := isIB) h.nb_ (.inl rfl) hn _
  exact ⟨⟨h.gv.keep hc ib_noS, h.nb_.set _, hc.blk _ _ h.xb_ (fun e => by rcases e with e | e <;> simp [isT] at e), R_tc h.r9 hc (fun q hq k cells => by obtain rfl := q5s q hq; intro e; rcases e with e | e <;> simp [isT] at e)⟩, hc⟩
end
theorem get_put {L : List S66} (hL : SL L) (key : ByteArray) (val : List Int) : getP (hapL L [⟨key, val, false⟩]) key = (val, true) :=
  getP_in (p := kvP key val) (hL.ins ⟨key, val, false⟩) ((mem_insK hL _ _).2 (.inl rfl))
theorem get_gone {L : List S66} (key : ByteArray) (b : List Int) : getP (hapL L [⟨key, b, true⟩]) key = ([], false) :=
  getP_out (fun p hp => (mem_delK.1 hp).2)
theorem gets_results (tmps : Array Value) {W : World} {g : Nat} {b : Bool} (h : tmps.getD 8 undef = .pointer (some ⟨g, 0, none⟩)) (hc : W.cell? ⟨g, 0, none⟩ = some (.bool b)) : (results Tryz.f5 tmps).run Tryz.prog W = .ok (.bool b) W := by
  unfold results
  rw [show Tryz.f5.results = #[.cell 8 4] from rfl]
  rw [show tmps.getD 8 undef = tmps[8]?.getD undef from by simp] at h
  simp [go_sem, h, hc]
theorem below_set {b : Nat} {w0 w : World} {g i : Nat} {v : Value} (h : Below b w0 w) (hb : b ≤ w0.heap.size) (hg : b ≤ g) : Below b w0 (w.setCell ⟨g, i, none⟩ v) :=
  h.trans (((Only.refl w g).set (i := i) v).chg (S := fun k => k = g) (fun _ h => h) |>.below (Nat.le_trans hb h.size) (fun k hk => by subst hk; exact hg))
theorem gets_end {F : Fence} {n : Nat} {w W : World} {tmps : Array Value} {D : Nat} {b : Bool} (h8 : tmps.getD 8 undef = .pointer (some ⟨w.heap.size + 1, 0, none⟩)) (hR : W.heap[w.heap.size + 1]? = some (.cells #[.bool b] 4 (0, 0))) (hM : W.heap[D]? = some (.deferred (some []))) (hb : Below w.heap.size w W) (hD : w.heap.size ≤ D) :
    LeavesInM F n Tryz.prog Tryz.f5 tmps (fun e w' => e = .returned (.bool true) ∧ Below w.heap.size w w') [cmark D] .returning (W.setCell ⟨w.heap.size + 1, 0, none⟩ (.bool true)) := by
  have hne : w.heap.size + 1 ≠ D := fun e => by rw [e, hM] at hR; cases hR
  have hm := mark_set hM hR (.bool true)
  have hc := one_setCell (u := .bool true) hR
  have hc2 : ((W.setCell ⟨w.heap.size + 1, 0, none⟩ (.bool true)).putObj D (.deferred none)).heap[w.heap.size + 1]? = some (.cells #[.bool true] 4 (0, 0)) := (World.putObj_heap_other hne).trans hc
  exact leave_one hm (gets_results tmps h8 (box_cell hc2)) ⟨rfl, below_shut (below_set hb (Nat.le_refl _) (Nat.le_succ _)) (Nat.le_refl _) hD⟩
set_option maxRecDepth 100000 in
set_option maxHeartbeats 8000000 in
theorem gets_main (A0 : Option Addr) (c0 : Nat) (l : List SDeed) (key : ByteArray) (A2 : Option Addr) (c2 : Nat) (val : List Int) (most : Int) (w : World) (hC0 : kE.C w A0 l.length l) (hC2 : (Kd.int .u8).C w A2 val.length val) (hc2 : val.length ≤ c2) (hbl : ∀ x ∈ l, ∀ p ∈ x.l, isBytes p.f1) (hbv : isBytes val)
    (hl : l.length ≤ 10) (hk : key.size ≤ 30) (hv : val.length ≤ 200) (hm : 0 ≤ most ∧ most ≤ 9223372036854775807) :
    Calls Tryz.prog 5 #[.slice A0 l.length c0, .string key, .slice A2 val.length c2, .int .i64 most] w fun e w' => e = .returned (.bool true) ∧ Below w.heap.size w w' := by
  refine (callsIn_wide (n := 9)).1 ?_
  have HC0 := Aside0.mk hC0
  have HC2 := Aside0.mk hC2
  have HBL := Aside0.mk hbl
  have HFV := Aside0.mk (show FewP ⟨key, val, false⟩ from ⟨hk, hv, hbv⟩)
  have HFG := Aside0.mk (show FewP ⟨key, [], true⟩ from ⟨hk, by simp, fun x hx => by cases hx⟩)
  have HC2C := Aside0.mk hc2
  have HL10 := Aside0.mk hl
  have hl1 : ¬ ((10 : Int) < (l.length : Int)) := by omega
  have hl1' : decide ((10 : Int) < (l.length : Int)) = false := decide_eq_false hl1
  have hk1 : ¬ ((30 : Int) < (key.size : Int)) := by omega
  have hv1 : ¬ ((200 : Int) < (val.length : Int)) := by omega
  obtain ⟨hm0, hm9⟩ := hm
  have hm1 : ¬ (most < 0) := by omega
  have hk2 : decide ((30 : Int) < (key.size : Int)) = false := decide_eq_false hk1
  have hv2 : decide ((200 : Int) < (val.length : Int)) = false := decide_eq_false hv1
  have hm2 : decide (most < 0) = false := decide_eq_false hm1
  clear hC0 hC2 hbl hbv hc2
  refine callsIn_of_wp_marks Tryz.func5 rfl trivial ?_ rfl
  simp only [Tryz.ntmps5, List.size_toArray, List.length_cons, List.length_nil, Nat.reduceAdd, Nat.reduceSub, Array.replicate_succ, Array.replicate_zero, List.push_toArray, List.append_toArray, List.nil_append, List.cons_append]
  refine wpIn_wide.2 ?_
  obtain ⟨W0, hW0⟩ : ∃ W0, (w.alloc (.cells #[.int .i64 most] 3)).alloc (.cells #[.bool false] 4) = W0 := ⟨_, rfl⟩
  have hb0 : Below w.heap.size w W0 := by rw [← hW0]; exact ((Below.refl w.heap.size w).alloc (Nat.le_refl _) _).alloc (by simp) _
  have HB0 := Aside0.mk hb0
  have HM0 := Aside0.mk (show W0.heap[w.heap.size]? = some (.cells #[.int .i64 most] 3 (0, 0)) from by
    rw [← hW0, Below.heap_alloc _ _ _ (by simp)]
    exact heap_alloc_new w _)
  have HR0 := Aside0.mk (show W0.heap[w.heap.size + 1]? = some (.cells #[.bool false] 4 (0, 0)) from by
    rw [← hW0]
    have h := heap_alloc_new (w.alloc (.cells #[.int .i64 most] 3)) (.cells #[.bool false] 4)
    rwa [alloc_size] at h)
  go_wp2_with (first
    | (go_at_call 30; (with_reducible refine (awake8 W0).mono ?_); rintro e w1 ⟨rfl, hb⟩; have HB1 := Aside0.mk (HB0.out.trans (hb.mono HB0.out.size)); have HM1 := Aside0.mk (up_box HM0.out hb); have HR1 := Aside0.mk (up_box HR0.out hb); have q7 := box_cell HM1.out; clear hb)
    | (go_at_call 8; (with_reducible refine (new_calls w1 w1.heap.size (Nat.le_refl _) 1000).mono ?_); rintro e w2 ⟨B, M, Bd, rfl, hd, hb⟩; have HD2 := Aside0.mk hd; have HB2 := Aside0.mk hb; clear hd hb)
    | (go_at_call 37; (with_reducible refine (sformat_calls (w0 := w1) 1000 ⟨by decide, by decide⟩ HD2.out HB2.out).mono ?_); rintro e w3 ⟨rfl, D3, S3, vc3, hi, hd, hb⟩; have HI3 := Aside0.mk hi; have HD3 := Aside0.mk hd; have HB3 := Aside0.mk hb; clear hi hd hb)
    | (go_at_call 38; (with_reducible refine (sopen_calls (n0 := w1.heap.size) rsA (by rw [rsA_map]; exact HI3.out) (by decide) rsA_ok HD3.out).mono ?_); rintro e w4 ⟨Sb, Wb, Mv, vs, rfl, hsv, hb⟩; have HSV4 := Aside0.mk hsv; have HB4 := Aside0.mk (HB3.out.trans (hb.mono HB3.out.size)); clear hsv hb))
  have hsd : Below w4.heap.size w4 (w4.alloc (.cells #[.pointer (some ⟨Sb, 0, none⟩)] 71)) := (Below.refl _ _).alloc (Nat.le_refl _) _
  have HX5 := Aside0.mk (show (w4.alloc (.cells #[.pointer (some ⟨Sb, 0, none⟩)] 71)).heap[w4.heap.size]? = some (.cells #[.pointer (some ⟨Sb, 0, none⟩)] 71 (0, 0)) from heap_alloc_new w4 _)
  have HGV5 := Aside0.mk (show GV w1 0 (w4.alloc (.cells #[.pointer (some ⟨Sb, 0, none⟩)] 71)) Sb Wb B M Bd Mv vc3 vs D3 S3 1 (needs [[1, 0]]) rsA from ⟨gi_start HI3.out, HSV4.out.fresh hsd, HB4.out.trans (hsd.mono HB4.out.size)⟩)
  clear hsd hW0 hb0
  have hl9 : (l.length : Int) ≤ 9223372036854775807 := by omega
  go_loopg [55] l.length (fun kq v55 wr => ∃ (i : Nat) (vc vs : Value) (D : PD) (S : Int → List Int) (g tail : Int) (rs : List (Bool × List S66)), v55 = .int .i64 (i : Int) ∧ Aside0 (i + kq = l.length) ∧ Aside0 (GV w1 i wr Sb Wb B M Bd Mv vc vs D S g tail rs) ∧ Aside0 (wr.heap[w4.heap.size]? = some (.cells #[.pointer (some ⟨Sb, 0, none⟩)] 71 (0, 0))))
  case atStart => exact ⟨0, vc3, vs, D3, S3, 1, needs [[1, 0]], rsA, rfl, ⟨by omega⟩, HGV5, HX5⟩
  case round =>
    clear HGV5 HX5
    obtain ⟨i, vc, vs, D, S, g, tail, rs, rfl, HI, HGV, HX⟩ := hrel
    have hk1' := HI.out
    have HBW := Aside0.mk (HB1.out.trans (HGV.out.low.mono HB1.out.size))
    have HMr := Aside0.mk (up_box HM1.out HGV.out.low)
    have HRr := Aside0.mk (up_box HR1.out HGV.out.low)
    by_cases hi : i < l.length
    · obtain ⟨ad, A1, c1, A3, c3, e, x0, x1, x2, x3, l1, g1, l3, g3⟩ := at_E HC0.out (i : Int) (by omega) (by omega)
      subst e
      have hx := rd_getE l i hi
      generalize rd_E l (i : Int) = x at x0 x1 x2 x3 l1 g1 l3 g3 hx
      rw [Int.toNat_natCast] at x0 x1 x2 x3
      replace x0 := (HBW.out.cell (World.block_lt_of_cell? w _ x0)).trans x0
      replace x1 := (HBW.out.cell (World.block_lt_of_cell? w _ x1)).trans x1
      replace x2 := (HBW.out.cell (World.block_lt_of_cell? w _ x2)).trans x2
      replace x3 := (HBW.out.cell (World.block_lt_of_cell? w _ x3)).trans x3
      have HBX := Aside0.mk (HBL.out x (List.mem_of_getElem? hx))
      obtain ⟨r1, hfew, hfew2⟩ := few8_f x.l g1.2.1
      have HFW := Aside0.mk (fun (W : World) (hb : Below w.heap.size w W) => few8_at A1 c1 x.l r1 l1 g1 hfew W hb)
      have HG1 := Aside0.mk g1
      have HL1 := Aside0.mk l1
      obtain ⟨W6, hW6⟩ : ∃ W6, wr.alloc (.cells #[.int .i64 x.kind, .slice A1 x.l.length c1, .int .i64 x.n, .slice A3 x.keep.length c3] 75) = W6 := ⟨_, rfl⟩
      have hb6 : Below wr.heap.size wr W6 := by rw [← hW6]; exact (Below.refl _ _).alloc (Nat.le_refl _) _
      have HB6 := Aside0.mk hb6
      have hbx : W6.heap[wr.heap.size]? = some (.cells #[.int .i64 x.kind, .slice A1 x.l.length c1, .int .i64 x.n, .slice A3 x.keep.length c3] 75 (0, 0)) := by rw [← hW6]; exact heap_alloc_new wr _
      have HBX6 := Aside0.mk hbx
      have y1 : W6.cell? ⟨wr.heap.size, 1, none⟩ = some (.slice A1 x.l.length c1) := by unfold World.cell?; rw [hbx]; rfl
      clear hx g1 l1 l3 g3 hfew hb6 hbx
      cases r1 with
      | false =>
        go_wp2_with (first
          | (go_at_call 31; (with_reducible refine (HFW.out W6 (HBW.out.trans (HB6.out.mono HBW.out.size))).mono ?_); rintro e w7 ⟨rfl, hb⟩; have HB7 := Aside0.mk (HB6.out.trans (hb.mono HB6.out.size)); have HR7 := Aside0.mk (up_box HRr.out HB7.out); have q8 := box_cell HR7.out; have f8 := box_frozen HR7.out; clear hb))
        exact ⟨_, gets_results _ rfl (box_cell (one_setCell HR7.out)), rfl, below_set (HBW.out.trans (HB7.out.mono HBW.out.size)) (Nat.le_refl _) (Nat.le_succ _)⟩
      | true =>
        obtain ⟨f1, f2⟩ := hfew2 rfl
        have HF8 := Aside0.mk f1
        have HFP := Aside0.mk (show ∀ p ∈ x.l, FewP p from fun p hp => ⟨(f2 p hp).1, (f2 p hp).2, HBX.out p hp⟩)
        have HIL := Aside0.mk (show i ≤ 11 from by have := HL10.out; omega)
        clear f1 f2 hfew2
        go_wp2_with (first
          | (go_at_call 31; (with_reducible refine (HFW.out W6 (HBW.out.trans (HB6.out.mono HBW.out.size))).mono ?_); rintro e w7 ⟨rfl, hb⟩; have HB7 := Aside0.mk (HB6.out.trans (hb.mono HB6.out.size)); have HGV7 := Aside0.mk (HGV.out.fresh (HB6.out.trans (hb.mono HB6.out.size))); have HX7 := Aside0.mk (up_box HX.out (HB6.out.trans (hb.mono HB6.out.size))); have q10 := box_cell HX7.out; have y17 : w7.cell? ⟨wr.heap.size, 1, none⟩ = some (.slice A1 x.l.length c1) := (by unfold World.cell?; rw [up_box HBX6.out hb]; rfl); clear hb)
          | (go_at_call 39; (with_reducible refine (gv_commit (c := c1) HGV7.out HF8.out HFP.out HIL.out HL1.out (fun W htc => Kd.C_below HG1.out (HB1.out.trans ((HGV7.out.low.trans htc.low).mono HB1.out.size)))).mono ?_); rintro e w8 ⟨rfl, htc, vc8, vs8, D8, S8, g8, t8, rs8, hgv, hrp⟩; have HGV8 := Aside0.mk hgv; have HX8 := Aside0.mk (sd_box HX7.out htc (by decide)); clear htc hgv hrp))
        obtain ⟨gq, rfl⟩ : ∃ gq, gk = gq + 1 := ⟨gk - 1, by omega⟩
        go_roundg gq
        case rel => exact ⟨i + 1, vc8, vs8, D8, S8, g8, t8, rs8, by go_num, ⟨by omega⟩, HGV8, HX8⟩
        case measure => omega
    · have hi0 := HI.out
      obtain rfl : gk = 0 := by omega
      obtain rfl : i = l.length := by omega
      clear hi0
      have hm3 : ¬ ((l.length : Int) < (l.length : Int)) := by omega
      have q10 := box_cell HX.out
      obtain ⟨W6, hW6⟩ : ∃ W6, wr.alloc (.cells #[.string key, .slice A2 val.length c2, .bool false] 66) = W6 := ⟨_, rfl⟩
      have hb6 : Below wr.heap.size wr W6 := by rw [← hW6]; exact (Below.refl _ _).alloc (Nat.le_refl _) _
      have HB6 := Aside0.mk hb6
      have HBX6 := Aside0.mk (show W6.heap[wr.heap.size]? = some (.cells #[.string key, .slice A2 val.length c2, .bool false] 66 (0, 0)) by rw [← hW6]; exact heap_alloc_new wr _)
      have HGV6 := Aside0.mk (HGV.out.fresh hb6)
      have HX6 := Aside0.mk (up_box HX.out hb6)
      have HCM := Aside0.mk (show Calls Tryz.prog 39 #[.pointer (some ⟨Sb, 0, none⟩), .slice (some ⟨wr.heap.size, 0, none⟩) 1 1] W6 (GcmQ w1 l.length W6 Sb Wb B M Bd Mv (hapL (replay rs) [⟨key, val, false⟩])) from
        gv_commit (l := [⟨key, val, false⟩]) (c := 1) HGV6.out (by simp) (fun p hp => by rw [List.mem_singleton] at hp; subst hp; exact HFV.out) (by have := HL10.out; omega) (Nat.le_refl _) (fun W htc => lit_put2 (htc.blk _ _ HBX6.out (by simp [isWD, isDisk, isT])) (Kd.C_below HC2.out (HB1.out.trans ((HGV6.out.low.trans htc.low).mono HB1.out.size))) HC2C.out))
      clear hb6
      have HGP := Aside0.mk (get_put (replay_sl rs) key val)
      go_wp2_with (first
        | (go_at_call 39; (with_reducible refine HCM.out.mono ?_); rintro e w8 ⟨rfl, htc, vc8, vs8, D8, S8, g8, t8, rs8, hgv, hrp⟩; have HGV8 := Aside0.mk hgv; have HRP8 := Aside0.mk hrp; have HX8 := Aside0.mk (sd_box HX6.out htc (by decide)); have q10 := box_cell HX8.out; rw [← hrp] at HGP; have HGT := Aside0.mk ((get_calls key hgv.sv.blk (fun p hp => Nat.le_trans (hgv.gi.few p hp).2.1 (by decide)) hgv.sv.mv).mono (R' := fun e w' => ∃ A c, e = .returned (.tuple #[.slice A val.length c, .bool true]) ∧ Kd.R (Kd.int .u8) 5 w' w8.heap.size (fun k => w8.heap.size ≤ k) (.slice A val.length c) val ∧ Below w8.heap.size w8 w') (fun e w' hq => by unfold GetQ at hq; rw [HGP.out] at hq; exact hq)); clear htc hgv hrp)
        | (go_at_call 40; (with_reducible refine HGT.out.mono ?_); rintro e w9 ⟨A9, c9, rfl, hr, hb⟩; have HR9 := Aside0.mk hr; have HGV9 := Aside0.mk (HGV8.out.fresh hb); have HX9 := Aside0.mk (up_box HX8.out hb); have q10 := box_cell (up_box HX9.out (Below.alloc (Below.refl w9.heap.size w9) (Nat.le_refl _) (.cells #[.int .i64 0] 3))); clear hr hb)
        | (go_at_call 41; (with_reducible refine (keysf_calls _ (some ⟨Sb, 0, none⟩) ⟨#[]⟩).mono ?_); rintro e w10 ⟨rfl, rfl⟩))
      obtain ⟨Wa, hWa⟩ : ∃ Wa, ((w9.alloc (.cells #[.int .i64 0] 3)).alloc (.cells #[.pointer (some ⟨Sb, 0, none⟩)] 71)).alloc (.cells #[.string ⟨#[]⟩] 9) = Wa := ⟨_, rfl⟩
      rw [hWa]
      have hba : Below w9.heap.size w9 Wa := by rw [← hWa]; exact (((Below.refl w9.heap.size w9).alloc (Nat.le_refl _) _).alloc (by simp) _).alloc (by simp; omega) _
      have HBA := Aside0.mk hba
      have HSA := Aside0.mk (show Wa.heap.size = w9.heap.size + 3 from by rw [← hWa]; simp)
      have HNA := Aside0.mk (show Boxed Wa w9.heap.size 3 (.int .i64 0) from by
        rw [← hWa]
        show _ = _
        rw [Below.heap_alloc _ _ _ (by simp; omega), Below.heap_alloc _ _ _ (by simp)]
        exact heap_alloc_new w9 _)
      have HKA1 := Aside0.mk (show Wa.heap[w9.heap.size + 1]? = some (.cells #[.pointer (some ⟨Sb, 0, none⟩)] 71 (0, 0)) from by
        rw [← hWa, Below.heap_alloc _ _ _ (by simp)]
        have h := heap_alloc_new (w9.alloc (.cells #[.int .i64 0] 3)) (.cells #[.pointer (some ⟨Sb, 0, none⟩)] 71)
        rwa [alloc_size] at h)
      have HKA2 := Aside0.mk (show Wa.heap[w9.heap.size + 1 + 1]? = some (.cells #[.string ⟨#[]⟩] 9 (0, 0)) from by
        rw [← hWa]
        have h := heap_alloc_new ((w9.alloc (.cells #[.int .i64 0] 3)).alloc (.cells #[.pointer (some ⟨Sb, 0, none⟩)] 71)) (.cells #[.string ⟨#[]⟩] 9)
        rwa [alloc_size, alloc_size] at h)
      have HKIA := Aside0.mk (show KI w1 (l.length + 1) w9.heap.size w4.heap.size w8.heap.size Sb Wb B M Bd Mv vc8 vs8 D8 S8 g8 t8 rs8 (.slice A9 val.length c9) val (([] : List KX).length : Int) Wa from
        ⟨HGV9.out.fresh hba, HNA.out, up_box HX9.out hba, Kd.R_below (Kd.R_mono HR9.out (fun _ _ => trivial)) hba⟩)
      have HNN := Aside0.mk (show w1.heap.size ≤ Wa.heap.size ∧ M < Wa.heap.size ∧ Bd < Wa.heap.size ∧ Mv < Wa.heap.size from ⟨HKIA.out.gv.low.size, HKIA.out.gv.sv.maps⟩)
      clear hWa hba q10
      have HPL := Aside0.mk (kpre_nil (replay rs8))
      have HFW8 := Aside0.mk (show ∀ p ∈ replay rs8, p.f0.size ≤ 1000000 ∧ p.f1.length ≤ 1000000 from fun p hp => ⟨Nat.le_trans (HGV9.out.gi.few p hp).1 (by decide), Nat.le_trans (HGV9.out.gi.few p hp).2.1 (by decide)⟩)
      have HLW8 := Aside0.mk (show (replay rs8).length ≤ 1000000 from by have := HGV9.out.gi.len; have := HL10.out; omega)
      refine range_okk (n := 9) (r := 17) (by omega) rfl (enters_of Tryz.func87 (by kernel_rfl) rfl)
        (keys_ok 8 (by omega) (w9.heap.size + 1) Sb Mv w1.heap.size w9.heap.size (itB itIB) Wa HKA1.out HKA2.out HKIA.out.gv.sv.blk HKIA.out.gv.sv.mv HFW8.out HLW8.out (by decide) HBA.out.size)
        (fun h k => h.trans k) (fun W l r o' _ ho => tc_loop W l r o' ho) (fun pre x A B row h hg hr => ⟨h.1, bv_own h.2 hg hr⟩) kall_own ksome_own
        (fun pre W => KI w1 (l.length + 1) w9.heap.size w4.heap.size w8.heap.size Sb Wb B M Bd Mv vc8 vs8 D8 S8 g8 t8 rs8 (.slice A9 val.length c9) val (pre.length : Int) W)
        (fun c pre W => c = .exit 2 ∧ ∃ n, KI w1 (l.length + 1) w9.heap.size w4.heap.size w8.heap.size Sb Wb B M Bd Mv vc8 vs8 D8 S8 g8 t8 rs8 (.slice A9 val.length c9) val n W)
        (fun s A B row h hg hr => h.far HNN.out hg hr) (fun c s A B row ⟨e, n, h⟩ hg hr => ⟨e, n, h.far HNN.out hg hr⟩) HKIA.out ?hassign ?hbody ?hdone ?hstop
      case hassign =>
        intro l x W K hK
        gi_wp2
        exact hK
      case hbody =>
        rintro l' pre ⟨p, u⟩ W hwl hrc hI ⟨hpre, hbv⟩
        rw [HPL.out] at hpre
        have hlen : pre.length + 1 ≤ (replay rs8).length := by
          have h := hpre.length_le
          simpa using h
        have hlen2 : ((pre.length : Nat) : Int) ≤ 1000 := by have := HGV9.out.gi.len; have := HL10.out; omega
        have HPM := Aside0.mk (show p ∈ replay rs8 from hpre.subset (by simp))
        have HKI := Aside0.mk hI
        have q9 := hI.nb_.cell
        have q7' := box_cell (up_box HM1.out hI.gv.low)
        have q10 := hI.xb_.cell
        clear hpre hbv hlen hI
        simp only [List.setIfInBounds_toArray, List.set_cons_succ, List.set_cons_zero]
        by_cases hmo : (pre.length : Int) = most
        · have hmo2 : ((pre.length : Int) == most) = true := by simpa using hmo
          gi_wp2
          exact ⟨KeepsFrom.refl _ _, TC.refl _ _ _, rfl, _, HKI.out⟩
        · have hmo2 : ((pre.length : Int) == most) = false := by simpa using hmo
          have HGK := Aside0.mk ((get_calls p.f0 HKI.out.gv.sv.blk (fun p hp => Nat.le_trans (HKI.out.gv.gi.few p hp).2.1 (by decide)) HKI.out.gv.sv.mv).mono (R' := fun e w' => ∃ A c, e = .returned (.tuple #[.slice A p.f1.length c, .bool true]) ∧ Below W.heap.size W w') (fun e w' hq => by
            rw [getP_in HKI.out.gv.sv.mv.2.1 HPM.out] at hq
            obtain ⟨A, c, he, _, hb⟩ := hq
            exact ⟨A, c, he, hb⟩))
          have hff : Fence.wide.fn 40 := trivial
          gi_wp2_with (first
            | (gi_at_call 40; (with_reducible refine (CallsIn.inRound l' (callsIn_wide.2 HGK.out)).mono ?_); rintro e w2 ⟨A2', c2', rfl, hb⟩; have HB2' := Aside0.mk hb; have HKI2 := Aside0.mk (HKI.out.fresh hb); have q9' := HKI2.out.nb_.cell; have f9' := HKI2.out.nb_.frozen; clear hb))
          obtain ⟨hki3, htc⟩ := HKI2.out.count HGV9.out.low.size ((pre.length : Int) + 1)
          have hkf : KeepsFrom Wa.heap.size W w2 := ⟨HB2'.out.size, fun k o _ hk _ => (HB2'.out.block k (Array.getElem?_eq_some_iff.1 hk).1).trans hk⟩
          exact ⟨hkf.trans (ib_keepsFrom (htc.lower (Nat.zero_le _))), (TC.of_below HB2'.out (Nat.zero_le _)).trans ((htc.lower (Nat.zero_le _)).mono (fun _ _ h => .inl h)), by show KI _ _ _ _ _ _ _ _ _ _ _ _ _ _ _ _ _ _ _ _ ((pre ++ [(p, u)]).length : Int) _; rw [List.length_append, List.length_singleton]; exact hki3⟩
      case hdone =>
        rintro D xs W hwD ⟨hxs, hbv⟩ hki hmark
        have HKI := Aside0.mk hki
        have HMK := Aside0.mk hmark
        have HWD := Aside0.mk hwD
        clear hxs hbv hki hmark hwD
        have HRr := Aside0.mk (up_box HR1.out HKI.out.gv.low)
        have q8 := box_cell HRr.out
        have f8 := box_frozen HRr.out
        have q10 := HKI.out.xb_.cell
        obtain ⟨sv, hsv⟩ : ∃ sv, strOfNums val = sv := ⟨_, rfl⟩
        have hcs9 : (convert 58 9 (.slice A9 val.length c9)).run Tryz.prog W = .ok (.string sv) W := by rw [← hsv]; exact Kd.C_string Tryz.underlying58 Tryz.underlying5 Tryz.underlying9 (Kd.R_reads' HKI.out.r9).2.2
        have hcs2 : (convert 58 9 (.slice A2 val.length c2)).run Tryz.prog W = .ok (.string sv) W := by rw [← hsv]; exact Kd.C_string Tryz.underlying58 Tryz.underlying5 Tryz.underlying9 (Kd.C_below HC2.out (HB1.out.trans (HKI.out.gv.low.mono HB1.out.size)))
        clear hsv
        obtain ⟨W6', hW6'⟩ : ∃ W6', W.alloc (.cells #[.string key, .slice none 0 0, .bool true] 66) = W6' := ⟨_, rfl⟩
        have hb6' : Below W.heap.size W W6' := by rw [← hW6']; exact (Below.refl _ _).alloc (Nat.le_refl _) _
        have HB6' := Aside0.mk hb6'
        have HBX6' := Aside0.mk (show W6'.heap[W.heap.size]? = some (.cells #[.string key, .slice none 0 0, .bool true] 66 (0, 0)) by rw [← hW6']; exact heap_alloc_new W _)
        have HGV6' := Aside0.mk (HKI.out.gv.fresh hb6')
        have HX6' := Aside0.mk (up_box HKI.out.xb_ hb6')
        have HCM' := Aside0.mk (show Calls Tryz.prog 39 #[.pointer (some ⟨Sb, 0, none⟩), .slice (some ⟨W.heap.size, 0, none⟩) 1 1] W6' (GcmQ w1 (l.length + 1) W6' Sb Wb B M Bd Mv (hapL (replay rs8) [⟨key, [], true⟩])) from
          gv_commit (l := [⟨key, [], true⟩]) (c := 1) HGV6'.out (by simp) (fun p hp => by rw [List.mem_singleton] at hp; subst hp; exact HFG.out) (by have := HL10.out; omega) (Nat.le_refl _) (fun W htc => lit_put2 (v := []) (htc.blk _ _ HBX6'.out (by simp [isWD, isDisk, isT])) (Kd.C_nil _ _) (Nat.le_refl _)))
        have HGG := Aside0.mk (get_gone (L := replay rs8) key [])
        clear hb6'
        have hmk := HMK.out
        go_wp2_with (first
          | (go_at_call 39; (with_reducible refine HCM'.out.mono ?_); rintro e w12 ⟨rfl, htc, vc12, vs12, D12, S12, g12, t12, rs12, hgv, hrp⟩; have HGV12 := Aside0.mk hgv; have HX12 := Aside0.mk (sd_box HX6'.out htc (by decide)); have q12 := box_cell HX12.out; rw [← hrp] at HGG; have HGT12 := Aside0.mk ((get_calls key hgv.sv.blk (fun p hp => Nat.le_trans (hgv.gi.few p hp).2.1 (by decide)) hgv.sv.mv).mono (R' := fun e w' => ∃ A c, e = .returned (.tuple #[.slice A 0 c, .bool false]) ∧ Below w12.heap.size w12 w') (fun e w' hq => by unfold GetQ at hq; rw [HGG.out] at hq; obtain ⟨A, c, he, _, hb⟩ := hq; exact ⟨A, c, he, hb⟩)); have HM12 := Aside0.mk (htc.blk _ _ ((HB6'.out.block _ (Array.getElem?_eq_some_iff.1 hmk).1).trans hmk) (by rintro ((e | e) | e); (exact e); (exact e); (exact e.2))); clear htc hgv hrp)
          | (go_at_call 40; (with_reducible refine HGT12.out.mono ?_); rintro e w13 ⟨A13, c13, rfl, hb⟩; have HB13 := Aside0.mk hb; have HR13 := Aside0.mk (up_box (up_box HR1.out HGV12.out.low) hb); have q13 := box_cell HR13.out; have f13 := box_frozen HR13.out; have HM13 := Aside0.mk (up_box HM12.out hb); clear hb)
          | (go_at_call 40; (with_reducible refine (get_none _ key).mono ?_); rintro e w14 ⟨rfl, rfl⟩)
          | (go_at_call 39; (with_reducible refine (commit_none _ _ _ _).mono ?_); rintro e w15 ⟨rfl, rfl⟩; have HB15 := Aside0.mk (show Below w13.heap.size w13 (w13.alloc (.cells #[.string key, .slice none 0 0, .bool false] 66)) from (Below.refl _ _).alloc (Nat.le_refl _) _); have HR15 := Aside0.mk (up_box HR13.out HB15.out); have q15 := box_cell HR15.out; have f15 := box_frozen HR15.out; have HM15 := Aside0.mk (up_box HM13.out HB15.out))
          | (go_at_call 42; (with_reducible refine (compact_none _).mono ?_); rintro e w16 ⟨rfl, rfl⟩)
          | (go_at_call 43; (with_reducible refine (records_none _).mono ?_); rintro e w17 ⟨rfl, rfl⟩))
        exact gets_end rfl HR15.out HM15.out (HB1.out.trans (((HGV12.out.low.trans (HB13.out.mono HGV12.out.low.size)).trans (HB15.out.mono (Nat.le_trans HGV12.out.low.size HB13.out.size))).mono HB1.out.size)) (Nat.le_trans HB1.out.size (Nat.le_trans HNN.out.1 HWD.out))
      case hstop =>
        rintro D c pre W hwD _ ⟨rfl, nq, hki⟩ hmark
        have HKI := Aside0.mk hki
        have HMK := Aside0.mk hmark
        have HWD := Aside0.mk hwD
        clear hki hmark hwD
        have HRr := Aside0.mk (up_box HR1.out HKI.out.gv.low)
        have q8 := box_cell HRr.out
        have f8 := box_frozen HRr.out
        have q10 := HKI.out.xb_.cell
        obtain ⟨sv, hsv⟩ : ∃ sv, strOfNums val = sv := ⟨_, rfl⟩
        have hcs9 : (convert 58 9 (.slice A9 val.length c9)).run Tryz.prog W = .ok (.string sv) W := by rw [← hsv]; exact Kd.C_string Tryz.underlying58 Tryz.underlying5 Tryz.underlying9 (Kd.R_reads' HKI.out.r9).2.2
        have hcs2 : (convert 58 9 (.slice A2 val.length c2)).run Tryz.prog W = .ok (.string sv) W := by rw [← hsv]; exact Kd.C_string Tryz.underlying58 Tryz.underlying5 Tryz.underlying9 (Kd.C_below HC2.out (HB1.out.trans (HKI.out.gv.low.mono HB1.out.size)))
        clear hsv
        obtain ⟨W6', hW6'⟩ : ∃ W6', W.alloc (.cells #[.string key, .slice none 0 0, .bool true] 66) = W6' := ⟨_, rfl⟩
        have hb6' : Below W.heap.size W W6' := by rw [← hW6']; exact (Below.refl _ _).alloc (Nat.le_refl _) _
        have HB6' := Aside0.mk hb6'
        have HBX6' := Aside0.mk (show W6'.heap[W.heap.size]? = some (.cells #[.string key, .slice none 0 0, .bool true] 66 (0, 0)) by rw [← hW6']; exact heap_alloc_new W _)
        have HGV6' := Aside0.mk (HKI.out.gv.fresh hb6')
        have HX6' := Aside0.mk (up_box HKI.out.xb_ hb6')
        have HCM' := Aside0.mk (show Calls Tryz.prog 39 #[.pointer (some ⟨Sb, 0, none⟩), .slice (some ⟨W.heap.size, 0, none⟩) 1 1] W6' (GcmQ w1 (l.length + 1) W6' Sb Wb B M Bd Mv (hapL (replay rs8) [⟨key, [], true⟩])) from
          gv_commit (l := [⟨key, [], true⟩]) (c := 1) HGV6'.out (by simp) (fun p hp => by rw [List.mem_singleton] at hp; subst hp; exact HFG.out) (by have := HL10.out; omega) (Nat.le_refl _) (fun W htc => lit_put2 (v := []) (htc.blk _ _ HBX6'.out (by simp [isWD, isDisk, isT])) (Kd.C_nil _ _) (Nat.le_refl _)))
        have HGG := Aside0.mk (get_gone (L := replay rs8) key [])
        clear hb6'
        have hmk := HMK.out
        go_wp2_with (first
          | (go_at_call 39; (with_reducible refine HCM'.out.mono ?_); rintro e w12 ⟨rfl, htc, vc12, vs12, D12, S12, g12, t12, rs12, hgv, hrp⟩; have HGV12 := Aside0.mk hgv; have HX12 := Aside0.mk (sd_box HX6'.out htc (by decide)); have q12 := box_cell HX12.out; rw [← hrp] at HGG; have HGT12 := Aside0.mk ((get_calls key hgv.sv.blk (fun p hp => Nat.le_trans (hgv.gi.few p hp).2.1 (by decide)) hgv.sv.mv).mono (R' := fun e w' => ∃ A c, e = .returned (.tuple #[.slice A 0 c, .bool false]) ∧ Below w12.heap.size w12 w') (fun e w' hq => by unfold GetQ at hq; rw [HGG.out] at hq; obtain ⟨A, c, he, _, hb⟩ := hq; exact ⟨A, c, he, hb⟩)); have HM12 := Aside0.mk (htc.blk _ _ ((HB6'.out.block _ (Array.getElem?_eq_some_iff.1 hmk).1).trans hmk) (by rintro ((e | e) | e); (exact e); (exact e); (exact e.2))); clear htc hgv hrp)
          | (go_at_call 40; (with_reducible refine HGT12.out.mono ?_); rintro e w13 ⟨A13, c13, rfl, hb⟩; have HB13 := Aside0.mk hb; have HR13 := Aside0.mk (up_box (up_box HR1.out HGV12.out.low) hb); have q13 := box_cell HR13.out; have f13 := box_frozen HR13.out; have HM13 := Aside0.mk (up_box HM12.out hb); clear hb)
          | (go_at_call 40; (with_reducible refine (get_none _ key).mono ?_); rintro e w14 ⟨rfl, rfl⟩)
          | (go_at_call 39; (with_reducible refine (commit_none _ _ _ _).mono ?_); rintro e w15 ⟨rfl, rfl⟩; have HB15 := Aside0.mk (show Below w13.heap.size w13 (w13.alloc (.cells #[.string key, .slice none 0 0, .bool false] 66)) from (Below.refl _ _).alloc (Nat.le_refl _) _); have HR15 := Aside0.mk (up_box HR13.out HB15.out); have q15 := box_cell HR15.out; have f15 := box_frozen HR15.out; have HM15 := Aside0.mk (up_box HM13.out HB15.out))
          | (go_at_call 42; (with_reducible refine (compact_none _).mono ?_); rintro e w16 ⟨rfl, rfl⟩)
          | (go_at_call 43; (with_reducible refine (records_none _).mono ?_); rintro e w17 ⟨rfl, rfl⟩))
        exact gets_end rfl HR15.out HM15.out (HB1.out.trans (((HGV12.out.low.trans (HB13.out.mono HGV12.out.low.size)).trans (HB15.out.mono (Nat.le_trans HGV12.out.low.size HB13.out.size))).mono HB1.out.size)) (Nat.le_trans HB1.out.size (Nat.le_trans HNN.out.1 HWD.out))
end Go.Proofs.YtlepcmljmibdnaaGreat
namespace Go.Proofs.YtlepcmljmibdnaaGreat
open Go.RowKit Go.Proofs.YtlepcmljmibdnaaGreatW.PrintWords Go.Proofs.YtlepcmljmibdnaaGreatW.PrintLast Go.Proofs.YtlepcmljmibdnaaGreatW.PrintMore PWalOpens
open PStoreRecords (S66 k66 rd_T66 at_T66 z66)
set_option linter.unusedVariables false
set_option linter.unusedSimpArgs false
set_option maxRecDepth 100000 in
set_option maxHeartbeats 4000000 in
theorem gets_out (A0 : Option Addr) (n0 c0 : Nat) (key : ByteArray) (A2 : Option Addr) (n2 c2 : Nat) (most : Int) (w : World) (hn0 : n0 ≤ 9223372036854775807) (hm : -9223372036854775808 ≤ most ∧ most ≤ 9223372036854775807)
    (h : (10 : Int) < (n0 : Int) ∨ (30 : Int) < (key.size : Int) ∨ (200 : Int) < (n2 : Int) ∨ most < 0) :
    Calls Tryz.prog 5 #[.slice A0 n0 c0, .string key, .slice A2 n2 c2, .int .i64 most] w fun e w' => e = .returned (.bool true) ∧ Below w.heap.size w w' := by
  refine (callsIn_wide (n := 9)).1 ?_
  obtain ⟨g1, h1⟩ : ∃ g1, decide ((10 : Int) < (n0 : Int)) = g1 := ⟨_, rfl⟩
  obtain ⟨g2, h2⟩ : ∃ g2, decide ((30 : Int) < (key.size : Int)) = g2 := ⟨_, rfl⟩
  obtain ⟨g3, h3⟩ : ∃ g3, decide ((200 : Int) < (n2 : Int)) = g3 := ⟨_, rfl⟩
  obtain ⟨g4, h4⟩ : ∃ g4, decide (most < (0 : Int)) = g4 := ⟨_, rfl⟩
  have hg : (g1 || g2 || g3 || g4) = true := by
    subst h1 h2 h3 h4
    rcases h with h | h | h | h <;> simp [h]
  clear h
  refine callsIn_of_wp_marks Tryz.func5 rfl trivial ?_ rfl
  simp only [Tryz.ntmps5, List.size_toArray, List.length_cons, List.length_nil, Nat.reduceAdd, Nat.reduceSub, Array.replicate_succ, Array.replicate_zero, List.push_toArray, List.append_toArray, List.nil_append, List.cons_append]
  refine wpIn_wide.2 ?_
  obtain ⟨W0, hW0⟩ : ∃ W0, (w.alloc (.cells #[.int .i64 most] 3)).alloc (.cells #[.bool false] 4) = W0 := ⟨_, rfl⟩
  have HB0 := Aside0.mk (show Below w.heap.size w W0 by rw [← hW0]; exact ((Below.refl w.heap.size w).alloc (Nat.le_refl _) _).alloc (by simp) _)
  have HM0 := Aside0.mk (show W0.heap[w.heap.size]? = some (.cells #[.int .i64 most] 3 (0, 0)) from by
    rw [← hW0, Below.heap_alloc _ _ _ (by simp)]
    exact heap_alloc_new w _)
  have HR0 := Aside0.mk (show W0.heap[w.heap.size + 1]? = some (.cells #[.bool false] 4 (0, 0)) from by
    rw [← hW0]
    have h := heap_alloc_new (w.alloc (.cells #[.int .i64 most] 3)) (.cells #[.bool false] 4)
    rwa [alloc_size] at h)
  cases g1 with
  | true =>
    go_wp2_with (first
        | (go_at_call 30; (with_reducible refine (awake8 W0).mono ?_); rintro e w1 ⟨rfl, hb⟩; have HB1 := Aside0.mk (HB0.out.trans (hb.mono HB0.out.size)); have HR1 := Aside0.mk (up_box HR0.out hb); have q7 := box_cell (up_box HM0.out hb); have q8 := box_cell HR1.out; have f8 := box_frozen HR1.out; clear hb))
    exact ⟨_, gets_results _ rfl (box_cell (one_setCell HR1.out)), rfl, below_set HB1.out (Nat.le_refl _) (Nat.le_succ _)⟩
  | false =>
    cases g2 with
    | true =>
      go_wp2_with (first
          | (go_at_call 30; (with_reducible refine (awake8 W0).mono ?_); rintro e w1 ⟨rfl, hb⟩; have HB1 := Aside0.mk (HB0.out.trans (hb.mono HB0.out.size)); have HR1 := Aside0.mk (up_box HR0.out hb); have q7 := box_cell (up_box HM0.out hb); have q8 := box_cell HR1.out; have f8 := box_frozen HR1.out; clear hb))
      exact ⟨_, gets_results _ rfl (box_cell (one_setCell HR1.out)), rfl, below_set HB1.out (Nat.le_refl _) (Nat.le_succ _)⟩
    | false =>
      cases g3 with
      | true =>
        go_wp2_with (first
            | (go_at_call 30; (with_reducible refine (awake8 W0).mono ?_); rintro e w1 ⟨rfl, hb⟩; have HB1 := Aside0.mk (HB0.out.trans (hb.mono HB0.out.size)); have HR1 := Aside0.mk (up_box HR0.out hb); have q7 := box_cell (up_box HM0.out hb); have q8 := box_cell HR1.out; have f8 := box_frozen HR1.out; clear hb))
        exact ⟨_, gets_results _ rfl (box_cell (one_setCell HR1.out)), rfl, below_set HB1.out (Nat.le_refl _) (Nat.le_succ _)⟩
      | false =>
        cases g4 with
        | true =>
          go_wp2_with (first
              | (go_at_call 30; (with_reducible refine (awake8 W0).mono ?_); rintro e w1 ⟨rfl, hb⟩; have HB1 := Aside0.mk (HB0.out.trans (hb.mono HB0.out.size)); have HR1 := Aside0.mk (up_box HR0.out hb); have q7 := box_cell (up_box HM0.out hb); have q8 := box_cell HR1.out; have f8 := box_frozen HR1.out; clear hb))
          exact ⟨_, gets_results _ rfl (box_cell (one_setCell HR1.out)), rfl, below_set HB1.out (Nat.le_refl _) (Nat.le_succ _)⟩
        | false =>
          simp at hg
end Go.Proofs.YtlepcmljmibdnaaGreat
namespace Go.Proofs.YtlepcmljmibdnaaGreat
open Go.RowKit Go.Proofs.YtlepcmljmibdnaaGreatW.PrintWords Go.Proofs.YtlepcmljmibdnaaGreatW.PrintLast Go.Proofs.YtlepcmljmibdnaaGreatW.PrintMore PWalOpens
open PStoreRecords (S66 k66 rd_T66 at_T66 z66)
theorem gets_walk (A0 : Option Addr) (c0 : Nat) (l : List SDeed) (key : ByteArray) (A2 : Option Addr) (c2 : Nat) (val : List Int) (most : Int) (w : World) (hC0 : kE.C w A0 l.length l) (hC2 : (Kd.int .u8).C w A2 val.length val) (hc0 : l.length ≤ 9223372036854775807) (hc2 : val.length ≤ c2) (hbl : ∀ x ∈ l, ∀ p ∈ x.l, isBytes p.f1) (hbv : isBytes val)
    (hm : -9223372036854775808 ≤ most ∧ most ≤ 9223372036854775807) :
    Calls Tryz.prog 5 #[.slice A0 l.length c0, .string key, .slice A2 val.length c2, .int .i64 most] w fun e w' => e = .returned (.bool true) ∧ Below w.heap.size w w' := by
  by_cases h : l.length ≤ 10 ∧ key.size ≤ 30 ∧ val.length ≤ 200 ∧ 0 ≤ most
  · exact gets_main A0 c0 l key A2 c2 val most w hC0 hC2 hc2 hbl hbv h.1 h.2.1 h.2.2.1 ⟨h.2.2.2, hm.2⟩
  · exact gets_out A0 l.length c0 key A2 val.length c2 most w hc0 hm (by omega)
end Go.Proofs.YtlepcmljmibdnaaGreat
