/- Parts of one proof, joined: Wr, Wo, Zg, Zh, Zi, Zj, Fi, Ck, Wf. Conditions: those of each statement. -/
import Derived.Test.YtlepcmljmibdnaaGreatZg5
import Derived.WalkMore
import Derived.Deep.LoopGhost
import Derived.Test.YtlepcmljmibdnaaGreatZg3
import Derived.Test.YtlepcmljmibdnaaGreatZg4
import Derived.RangeFuncNested
import Derived.RangeFuncBound
import Derived.RangeFuncCalls
import Derived.RangeFuncLeaves
import Derived.RangeFuncWrites
import Derived.OrdersIn
import Derived.Shelf.Abstract
import Derived.Shelf.RegionOpen
import Derived.WalkKit
import Derived.OwnWalkIn
import Derived.TacticsInMore
import Derived.LoopNIn
import Derived.LoopIn
namespace Go.Proofs.YtlepcmljmibdnaaGreat
open Go.RowKit Go.Proofs.YtlepcmljmibdnaaGreatW.PrintWords Go.Proofs.YtlepcmljmibdnaaGreatW.PrintLast Go.Proofs.YtlepcmljmibdnaaGreatW.PrintMore PWalOpens
set_option linter.unusedVariables false
set_option linter.unusedSimpArgs false
/-- a wal at block Wb: its disk, its cells -/
structure WlB (w : World) (Wb B : Nat) (A : Option Addr) (n c : Nat) (gen head tail : Int) (made over : Bool) : Prop where
  blk : w.heap[Wb]? = some (.cells #[.pointer (some ⟨B, 0, none⟩), .int .u64 gen, .int .u64 head, .int .u64 tail, .slice A n c, .bool made, .bool over] 102 (0, 0))
theorem WlB.below {w w' : World} {Wb B n c : Nat} {A : Option Addr} {gen head tail : Int} {made over : Bool} (h : WlB w Wb B A n c gen head tail made over) (hb : Below w.heap.size w w') : WlB w' Wb B A n c gen head tail made over :=
  ⟨(hb.block _ (Array.getElem?_eq_some_iff.1 h.blk).1).trans h.blk⟩
/-- the record that begins at p: with k sectors to go from q on, all of those before read -/
def recGo (D : PD) (r p : Int) : Nat → List Int → Int → List Int × Int × Int
  | 0, _, _ => ([], 0, 70)
  | k + 1, all, q =>
    if (readP D (sectP r q)).2 ≠ 0 then ([], 0, (readP D (sectP r q)).2) else
      if (unF (all ++ (readP D (sectP r q)).1)).2.2 = 0 then ((unF (all ++ (readP D (sectP r q)).1)).1, p + ((unF (all ++ (readP D (sectP r q)).1)).2.1 + 63) / 64, 0)
      else recGo D r p k (all ++ (readP D (sectP r q)).1) (q + 1)
theorem unF_size {b : List Int} (h : (unF b).2.2 = 0) : ∃ n : Nat, (unF b).2.1 = (n : Int) ∧ 7 ≤ n ∧ n ≤ b.length := by
  unfold unF at h ⊢
  split at h
  · rename_i hv
    rw [if_pos hv]
    unfold unV at hv
    simp only [Bool.and_eq_true, decide_eq_true_eq] at hv
    exact ⟨7 + frN b, by simp, by omega, by omega⟩
  · cases h
theorem unF_err (b : List Int) : (unF b).2.2 = 0 ∨ (unF b).2.2 = 40 := by
  unfold unF
  split
  · exact .inl rfl
  · exact .inr rfl
theorem readP_64 {w : World} {base B M Bd : Nat} {vc : Value} {D : PD} (h : DK w base B M Bd vc D) (hc : ∀ p ∈ D.cache, p.2.length = 64) {at_ : Int} {s : List Int} (hr : readP D at_ = (s, 0)) : s.length = 64 := by
  unfold readP at hr
  split at hr
  · cases hr
  · split at hr
    · cases hr
    · split at hr
      · cases hr
      · cases hr
        have key : ∀ (l : List (Int × List Int)), (∀ p ∈ l, p.2.length = 64) → ∀ s : List Int, s.length = 64 → (readL s l at_).length = 64 := by
          intro l
          induction l with
          | nil => intro _ s hs; exact hs
          | cons p l ih =>
            intro hl s hs
            unfold readL
            rw [List.foldl_cons]
            refine ih (fun q hq => hl q (by simp [hq])) _ ?_
            split
            · exact hl p (by simp)
            · exact hs
        refine key _ hc _ ?_
        cases hk : D.kept at_ with
        | none => rfl
        | some s => exact h.sec _ _ hk
def RcQ (w : World) (res : List Int × Int × Int) (e : Ending) (w' : World) : Prop := ∃ A c, e = .returned (.tuple #[.slice A res.1.length c, .int .u64 res.2.1, .int .i64 res.2.2]) ∧ OwnB w' w.heap.size (.slice A res.1.length c) res.1 ∧ Below w.heap.size w w'
set_option maxRecDepth 100000 in
set_option maxHeartbeats 1000000 in
theorem record_calls (w : World) (Wb B M Bd : Nat) (vc : Value) (D : PD) (A : Option Addr) (n c : Nat) (gen head tail : Int) (made over : Bool) (r p : Int) (k0 : Nat) (res : List Int × Int × Int)
    (hr : ringP D = r) (h1 : 1 ≤ r) (hp : 0 ≤ p ∧ p + k0 = tail ∧ tail < 18446744073709551616) (hk : k0 ≤ 4094) (hres : recGo D r p k0 [] p = res)
    (ho : OKD D) (hl : D.cache.length ≤ 40000) (hd0 : DK w 0 B M Bd vc D) (hw : WlB w Wb B A n c gen head tail made over) :
    Calls Tryz.prog 50 #[.pointer (some ⟨Wb, 0, none⟩), .int .u64 p] w (RcQ w res) := by
  have HW := Aside0.mk hw
  have hd := At.refl hd0
  have HD := Aside0.mk hd
  have HOK := Aside0.mk ho
  have HL := Aside0.mk hl
  have HR := Aside0.mk hr
  have HRES := Aside0.mk hres
  obtain ⟨hp0, hpk, hpt⟩ := hp
  have HPK := Aside0.mk hpk
  clear hw hd hd0 ho hl hr hres hpk
  go_enter Tryz.func50, Tryz.ntmps50
  go_wp2
  go_loopg [7, 8] k0 (fun kq v7 v8 w' => ∃ (q : Int) (all : List Int), v8 = .int .u64 q ∧ Aside0 (q + kq = tail) ∧ Aside0 (p ≤ q) ∧ Aside0 (OwnB w' w.heap.size v7 all) ∧ Aside0 ((all.length : Int) = 64 * (q - p)) ∧ Aside0 (isBytes all) ∧ Aside0 (recGo D r p kq all q = res) ∧ Aside0 (Below w.heap.size w w'))
  case atStart => exact ⟨p, [], rfl, HPK, ⟨Int.le_refl _⟩, ⟨Kd.R_nil _ _ _ _ _⟩, ⟨by simp⟩, ⟨fun x hx => by cases hx⟩, HRES, ⟨Below.refl _ _⟩⟩
  case round =>
    obtain ⟨q, all, rfl, HQ, HPQ, HA, HAL, HAB, HG, HB⟩ := hrel
    obtain ⟨A7, c7, rfl⟩ := Kd.R_slice HA.out
    have HWr := Aside0.mk (HW.out.below HB.out)
    obtain ⟨⟨q0, q1, q2, q3, q4, q5, q6⟩, _⟩ := cells7 HWr.out.blk
    clear q1 q2 q4 q5 q6
    have hq0 : 0 ≤ q := by have := HPQ.out; omega
    have hqt : q ≤ tail := by have := HQ.out; omega
    by_cases hk0 : gk = 0
    · subst hk0
      have hqe : (q == tail) = true := by have := HQ.out; simp; omega
      have hqn : (q != tail) = false := by have := HQ.out; simp; omega
      have HRE := Aside0.mk (show res = ([], 0, 70) from HG.out.symm)
      go_wp2
      go_ret3
      unfold RcQ
      rw [HRE.out]
      exact ⟨none, 0, rfl, Kd.R_nil _ _ _ _ _, HB.out⟩
    · obtain ⟨gq, rfl⟩ : ∃ gq, gk = gq + 1 := ⟨gk - 1, by omega⟩
      clear hk0
      have hqe : (q == tail) = false := by have := HQ.out; simp; omega
      have hqn : (q != tail) = true := by have := HQ.out; simp; omega
      have hq1 : q < 18446744073709551615 := by have := HQ.out; omega
      obtain ⟨sc, hsc⟩ : ∃ sc, sectP r q = sc := ⟨_, rfl⟩
      obtain ⟨s, er, hse⟩ : ∃ s er, readP D sc = (s, er) := ⟨_, _, rfl⟩
      have HSC := Aside0.mk (sector_calls wr.drew 0 B M Bd vc D r q sc HR.out h1 ⟨hq0, by omega⟩ hsc (HD.out.grow (.of_below HB.out.drew)).dk)
      have HRD := Aside0.mk (at_read sc er s hse HL.out (HD.out.grow (.of_below HB.out.drew)))
      have q0' : wr.drew.cell? ⟨Wb, 0, none⟩ = some (.pointer (some ⟨B, 0, none⟩)) := q0
      have HSB := Aside0.mk (show isBytes s from by have := readP_bytes HOK.out.ok sc; rwa [hse] at this)
      have HGN := Aside0.mk (show (if er ≠ 0 then (([], 0, er) : List Int × Int × Int) else if (unF (all ++ s)).2.2 = 0 then ((unF (all ++ s)).1, p + ((unF (all ++ s)).2.1 + 63) / 64, 0) else recGo D r p gq (all ++ s) (q + 1)) = res from by
        have := HG.out
        unfold recGo at this
        rw [hsc, hse] at this
        exact this)
      have HS64 := Aside0.mk (show er = 0 → s.length = 64 from fun he => readP_64 HD.out.dk HOK.out.c64 (by rw [hse, he]))
      clear hsc hse
      by_cases hz : er = 0
      · subst hz
        have HL64 := Aside0.mk (HS64.out rfl)
        have HBYN := Aside0.mk (show isBytes (all ++ s) from fun x hx => (List.mem_append.1 hx).elim (HAB.out x) (HSB.out x))
        have HALN := Aside0.mk (show ((all ++ s).length : Int) = 64 * (q + 1 - p) from by rw [List.length_append, Int.natCast_add, HAL.out, HL64.out]; omega)
        have HAM := Aside0.mk (show (all ++ s).length ≤ 1000000 from by have h1 := HALN.out; have h2 := HPQ.out; have h3 := HQ.out; have h4 := HPK.out; omega)
        have HAX := Aside0.mk (show (all.length + s.length) * 1 ≤ 140737488355328 from by have := HAM.out; rw [List.length_append] at this; omega)
        have HUS := Aside0.mk (fun h => unF_size (b := all ++ s) h)
        have HUE := Aside0.mk (unF_err (all ++ s))
        obtain ⟨nb, hnb⟩ : ∃ nb, all ++ s = nb := ⟨_, rfl⟩
        have HFF := Aside0.mk (fun (w : World) (A : Option Addr) (c : Nat) (h : SB w A c (all ++ s)) => ff_calls w A c (all ++ s) HAM.out HBYN.out h)
        unfold FfQ at HFF
        rw [hnb] at HUS HUE HGN HBYN HALN HFF HAM
        have HNB := Aside0.mk hnb
        obtain ⟨u, hu⟩ : ∃ u, unF nb = u := ⟨_, rfl⟩
        rw [hu] at HUS HUE HGN HFF
        obtain ⟨ux, un, ue⟩ := u
        simp only [ne_eq, not_true_eq_false, if_false] at HUS HUE HGN HFF
        clear hnb hu
        rcases HUE.out with rfl | rfl
        · obtain ⟨m, hm, hm7, hml⟩ := HUS.out rfl
          subst hm
          obtain ⟨ct, hct⟩ : ∃ ct : Int, ((m : Int) + 63) / 64 = ct := ⟨_, rfl⟩
          have hctb : 0 ≤ ct ∧ ct ≤ q + 1 - p := by have h1 := HALN.out; omega
          obtain ⟨hct0, hct1⟩ := hctb
          have hpc : p + ct < 18446744073709551616 := by have := HQ.out; omega
          have HRE := Aside0.mk (show res = (ux, p + ct, 0) from by rw [← HGN.out, if_pos rfl, hct])
          have HCT := Aside0.mk hct
          have HM1 := Aside0.mk (show m ≤ 1000000 from Nat.le_trans hml HAM.out)
          clear hct hml
          go_wp2
          refine Fork.wp_fork (Fork.Lo.rel 0) [] [] (.one 0 0 (.one 1 0 (.one 2 0 (.one 4 0 (.one 5 0 (.one 6 0 (.one 8 0 (.one 3 1 (.one 7 1 (.one 9 2 (.one 10 2 (.one 11 0 (.one 12 0 (.one 13 0 (.one 14 0 (.one 15 0 .nil)))))))))))))))) (by kernel_rfl) (by kernel_rfl) ?_
          generalize hops : List.toArray (_ : List Oper) = ops
          have HO := Aside0.mk hops
          clear hops
          iterate 7 ((refine Fork.plain (Fork.at_ HO.out rfl) _ rfl (fun W => by go_simp; exact rfl) ?_); simp only [Act.put, List.setIfInBounds_toArray, List.set_cons_succ, List.set_cons_zero])
          refine Fork.reads (Fork.at_ HO.out rfl) _ rfl (fun W hW => Arr.ex_load1 rfl rfl (by kernel_rfl) (Fork.bel_cell hW (by assumption))) ?_
          simp only [Act.put, List.setIfInBounds_toArray, List.set_cons_succ, List.set_cons_zero]
          refine Fork.reads (Fork.at_ HO.out rfl) _ rfl (fun W hW => Arr.ex_load1 rfl rfl (by kernel_rfl) (Fork.bel_cell hW (by assumption))) ?_
          simp only [Act.put, List.setIfInBounds_toArray, List.set_cons_succ, List.set_cons_zero]
          refine Fork.step (Fork.at_ HO.out rfl) (fun K hK => ?_)
          go_simp
          refine HSC.out.mono ?_
          rintro e w' ⟨rfl, rfl⟩
          refine hK _ _ (.of_new (Below.refl _ _) (Nat.zero_le _)) ?_
          clear hK K
          try simp only [Act.put, List.setIfInBounds_toArray, List.set_cons_succ, List.set_cons_zero]
          refine Fork.step (Fork.at_ HO.out rfl) (fun K hK => ?_)
          go_simp
          refine HRD.out.mono ?_
          rintro e w5 ⟨A5, c5, rfl, hr, hdd, hb⟩
          refine hK _ _ (.of_new hb (Nat.zero_le _)) ?_
          clear hK K
          have HR5 := Aside0.mk hr
          have HA5 := Aside0.mk (Kd.R_below HA.out ((Below.refl wr.heap.size wr).drew.trans hb))
          have HB5 := Aside0.mk (HB.out.drew.trans (hb.mono HB.out.size))
          clear hr hdd hb
          try simp only [Act.put, List.setIfInBounds_toArray, List.set_cons_succ, List.set_cons_zero]
          iterate 5 ((refine Fork.plain (Fork.at_ HO.out rfl) _ rfl (fun W => by go_simp; exact rfl) ?_); simp only [Act.put, List.setIfInBounds_toArray, List.set_cons_succ, List.set_cons_zero])
          refine Fork.done ?_
          go_wp2_with (first
            | ((with_reducible refine gate_builtin (b := .append) (xs := #[.tmp 40, .tmp 41]) rfl ?_); at_builtin; go_loud (refine Kd.R_append_rows (Kd.int .u8) (W := w5) (w0 := w5) w.heap.size rfl (.tmp 40) (.tmp 41) 58 5 (.int .u8 0) 1 rfl Tryz.underlying58 info5w rfl (by decide) (by decide) _ all s A5 s.length c5 (fun k => w.heap.size ≤ k) (fun _ => False) rfl rfl HA5.out (Kd.R_reads' HR5.out).2.2 (fun _ _ h => h) (fun _ h => h.elim) (fun k hk => Nat.le_trans HB5.out.size hk) (Below.refl _ _) HB5.out.size HAX.out ?_); intro v6 w6 ho hb hg hat; rw [HNB.out] at ho; obtain ⟨A6, c6, hv6⟩ := Kd.R_slice ho; subst hv6; have HS6 := Aside0.mk (SB.of_R ho); have HA6 := Aside0.mk ho; have HB6 := Aside0.mk (HB5.out.trans hb); clear ho hb hg hat)
            | (go_at_call 100; (with_reducible refine (HFF.out w6 A6 c6 HS6.out).mono ?_); rintro e w7 ⟨A7, c7, rfl, hr, hb⟩; have HR7 := Aside0.mk hr; have HB7 := Aside0.mk (HB6.out.trans (hb.mono HB6.out.size)); clear hr hb)
            | (go_at_call 101; (with_reducible refine (cut_calls w7 m ct HCT.out HM1.out).mono ?_); rintro e w8 ⟨rfl, hd⟩; obtain ⟨nd, rfl⟩ := hd))
          go_ret3
          unfold RcQ
          rw [HRE.out]
          exact ⟨A7, c7, rfl, OwnB.low HR7.out HB6.out.size, bel_drewN HB7.out nd⟩
        · have HGO := Aside0.mk (show recGo D r p gq nb (q + 1) = res from by rw [← HGN.out, if_neg (by decide)])
          go_wp2
          refine Fork.wp_fork (Fork.Lo.rel 0) [] [] (.one 0 0 (.one 1 0 (.one 2 0 (.one 4 0 (.one 5 0 (.one 6 0 (.one 8 0 (.one 3 1 (.one 7 1 (.one 9 2 (.one 10 2 (.one 11 0 (.one 12 0 (.one 13 0 (.one 14 0 (.one 15 0 .nil)))))))))))))))) (by kernel_rfl) (by kernel_rfl) ?_
          generalize hops : List.toArray (_ : List Oper) = ops
          have HO := Aside0.mk hops
          clear hops
          iterate 7 ((refine Fork.plain (Fork.at_ HO.out rfl) _ rfl (fun W => by go_simp; exact rfl) ?_); simp only [Act.put, List.setIfInBounds_toArray, List.set_cons_succ, List.set_cons_zero])
          refine Fork.reads (Fork.at_ HO.out rfl) _ rfl (fun W hW => Arr.ex_load1 rfl rfl (by kernel_rfl) (Fork.bel_cell hW (by assumption))) ?_
          simp only [Act.put, List.setIfInBounds_toArray, List.set_cons_succ, List.set_cons_zero]
          refine Fork.reads (Fork.at_ HO.out rfl) _ rfl (fun W hW => Arr.ex_load1 rfl rfl (by kernel_rfl) (Fork.bel_cell hW (by assumption))) ?_
          simp only [Act.put, List.setIfInBounds_toArray, List.set_cons_succ, List.set_cons_zero]
          refine Fork.step (Fork.at_ HO.out rfl) (fun K hK => ?_)
          go_simp
          refine HSC.out.mono ?_
          rintro e w' ⟨rfl, rfl⟩
          refine hK _ _ (.of_new (Below.refl _ _) (Nat.zero_le _)) ?_
          clear hK K
          try simp only [Act.put, List.setIfInBounds_toArray, List.set_cons_succ, List.set_cons_zero]
          refine Fork.step (Fork.at_ HO.out rfl) (fun K hK => ?_)
          go_simp
          refine HRD.out.mono ?_
          rintro e w5 ⟨A5, c5, rfl, hr, hdd, hb⟩
          refine hK _ _ (.of_new hb (Nat.zero_le _)) ?_
          clear hK K
          have HR5 := Aside0.mk hr
          have HA5 := Aside0.mk (Kd.R_below HA.out ((Below.refl wr.heap.size wr).drew.trans hb))
          have HB5 := Aside0.mk (HB.out.drew.trans (hb.mono HB.out.size))
          clear hr hdd hb
          try simp only [Act.put, List.setIfInBounds_toArray, List.set_cons_succ, List.set_cons_zero]
          iterate 5 ((refine Fork.plain (Fork.at_ HO.out rfl) _ rfl (fun W => by go_simp; exact rfl) ?_); simp only [Act.put, List.setIfInBounds_toArray, List.set_cons_succ, List.set_cons_zero])
          refine Fork.done ?_
          go_wp2_with (first
            | ((with_reducible refine gate_builtin (b := .append) (xs := #[.tmp 40, .tmp 41]) rfl ?_); at_builtin; go_loud (refine Kd.R_append_rows (Kd.int .u8) (W := w5) (w0 := w5) w.heap.size rfl (.tmp 40) (.tmp 41) 58 5 (.int .u8 0) 1 rfl Tryz.underlying58 info5w rfl (by decide) (by decide) _ all s A5 s.length c5 (fun k => w.heap.size ≤ k) (fun _ => False) rfl rfl HA5.out (Kd.R_reads' HR5.out).2.2 (fun _ _ h => h) (fun _ h => h.elim) (fun k hk => Nat.le_trans HB5.out.size hk) (Below.refl _ _) HB5.out.size HAX.out ?_); intro v6 w6 ho hb hg hat; rw [HNB.out] at ho; obtain ⟨A6, c6, hv6⟩ := Kd.R_slice ho; subst hv6; have HS6 := Aside0.mk (SB.of_R ho); have HA6 := Aside0.mk ho; have HB6 := Aside0.mk (HB5.out.trans hb); clear ho hb hg hat)
            | (go_at_call 100; (with_reducible refine (HFF.out w6 A6 c6 HS6.out).mono ?_); rintro e w7 ⟨A7, c7, rfl, hr, hb⟩; have HA7 := Aside0.mk (Kd.R_below HA6.out hb); have HB7 := Aside0.mk (HB6.out.trans (hb.mono HB6.out.size)); clear hr hb))
          go_roundg gq
          case rel => exact ⟨q + 1, nb, rfl, ⟨by have := HQ.out; omega⟩, ⟨by have := HPQ.out; omega⟩, HA7, HALN, HBYN, HGO, HB7⟩
          case measure => omega
      · have hzb : (er != 0) = true := by simpa using hz
        have HRE := Aside0.mk (show res = ([], 0, er) from by rw [← HGN.out, if_pos hz])
        clear hz
        go_wp2
        refine Fork.wp_fork (Fork.Lo.rel 0) [] [] (.one 0 0 (.one 1 0 (.one 2 0 (.one 4 0 (.one 5 0 (.one 6 0 (.one 8 0 (.one 3 1 (.one 7 1 (.one 9 2 (.one 10 2 (.one 11 0 (.one 12 0 (.one 13 0 (.one 14 0 (.one 15 0 .nil)))))))))))))))) (by kernel_rfl) (by kernel_rfl) ?_
        generalize hops : List.toArray (_ : List Oper) = ops
        have HO := Aside0.mk hops
        clear hops
        iterate 7 ((refine Fork.plain (Fork.at_ HO.out rfl) _ rfl (fun W => by go_simp; exact rfl) ?_); simp only [Act.put, List.setIfInBounds_toArray, List.set_cons_succ, List.set_cons_zero])
        refine Fork.reads (Fork.at_ HO.out rfl) _ rfl (fun W hW => Arr.ex_load1 rfl rfl (by kernel_rfl) (Fork.bel_cell hW (by assumption))) ?_
        simp only [Act.put, List.setIfInBounds_toArray, List.set_cons_succ, List.set_cons_zero]
        refine Fork.reads (Fork.at_ HO.out rfl) _ rfl (fun W hW => Arr.ex_load1 rfl rfl (by kernel_rfl) (Fork.bel_cell hW (by assumption))) ?_
        simp only [Act.put, List.setIfInBounds_toArray, List.set_cons_succ, List.set_cons_zero]
        refine Fork.step (Fork.at_ HO.out rfl) (fun K hK => ?_)
        go_simp
        refine HSC.out.mono ?_
        rintro e w' ⟨rfl, rfl⟩
        refine hK _ _ (.of_new (Below.refl _ _) (Nat.zero_le _)) ?_
        clear hK K
        try simp only [Act.put, List.setIfInBounds_toArray, List.set_cons_succ, List.set_cons_zero]
        refine Fork.step (Fork.at_ HO.out rfl) (fun K hK => ?_)
        go_simp
        refine HRD.out.mono ?_
        rintro e w5 ⟨A5, c5, rfl, hr, hdd, hb⟩
        refine hK _ _ (.of_new hb (Nat.zero_le _)) ?_
        clear hK K
        have HR5 := Aside0.mk hr
        have HA5 := Aside0.mk (Kd.R_below HA.out ((Below.refl wr.heap.size wr).drew.trans hb))
        have HB5 := Aside0.mk (HB.out.drew.trans (hb.mono HB.out.size))
        clear hr hdd hb
        try simp only [Act.put, List.setIfInBounds_toArray, List.set_cons_succ, List.set_cons_zero]
        iterate 5 ((refine Fork.plain (Fork.at_ HO.out rfl) _ rfl (fun W => by go_simp; exact rfl) ?_); simp only [Act.put, List.setIfInBounds_toArray, List.set_cons_succ, List.set_cons_zero])
        refine Fork.done ?_
        go_wp2
        go_ret3
        unfold RcQ
        rw [HRE.out]
        exact ⟨none, 0, rfl, Kd.R_nil _ _ _ _ _, HB5.out⟩
end Go.Proofs.YtlepcmljmibdnaaGreat
namespace Go.Proofs.YtlepcmljmibdnaaGreat
open Go.RowKit Go.Proofs.YtlepcmljmibdnaaGreatW.PrintWords Go.Proofs.YtlepcmljmibdnaaGreatW.PrintLast Go.Proofs.YtlepcmljmibdnaaGreatW.PrintMore PWalOpens
set_option linter.unusedVariables false
set_option linter.unusedSimpArgs false
/-- the records from p on: where they begin, what they are, the error -/
def openGo (D : PD) (r tail : Int) : Nat → Int → List Int × List (List Int) × Int
  | 0, p => ([], [], if p = tail then 0 else 70)
  | k + 1, p => if p = tail then ([], [], 0) else
      if (recGo D r p (tail - p).toNat [] p).2.2 ≠ 0 then ([], [], (recGo D r p (tail - p).toNat [] p).2.2) else
        (p :: (openGo D r tail k (recGo D r p (tail - p).toNat [] p).2.1).1, (recGo D r p (tail - p).toNat [] p).1 :: (openGo D r tail k (recGo D r p (tail - p).toNat [] p).2.1).2.1, (openGo D r tail k (recGo D r p (tail - p).toNat [] p).2.1).2.2)
/-- where a record ends -/
theorem recGo_next (D : PD) (r p : Int) (hr : ∀ q, (readP D q).2 = 0 → (readP D q).1.length = 64) : ∀ (k : Nat) (all : List Int) (q : Int), p ≤ q → (all.length : Int) = 64 * (q - p) → (recGo D r p k all q).2.2 = 0 → p < (recGo D r p k all q).2.1 ∧ (recGo D r p k all q).2.1 ≤ q + k := by
  intro k
  induction k with
  | zero => intro all q _ _ h; cases h
  | succ k ih =>
    intro all q hq hl h
    unfold recGo at h ⊢
    split at h
    · rename_i he
      exact absurd h he
    · rename_i he
      rw [if_neg he]
      have h64 := hr (sectP r q) (by simpa using he)
      split at h
      · rename_i hu
        rw [if_pos hu]
        obtain ⟨n, hn, h7, hnl⟩ := unF_size hu
        rw [List.length_append, h64] at hnl
        simp only
        rw [hn]
        omega
      · rename_i hu
        rw [if_neg hu]
        have := ih (all ++ (readP D (sectP r q)).1) (q + 1) (by omega) (by rw [List.length_append, h64]; omega) h
        omega
def openP (D : PD) : Int × Int × Int × List Int × List (List Int) × Int :=
  if (loadP D).2.2 ≠ 0 then (0, 0, 0, [], [], (loadP D).2.2) else
    match (loadP D).2.1 with
    | [h, t] => if t < h ∨ ringP D < t - h then (0, 0, 0, [], [], 70) else
        ((loadP D).1, h, t, (openGo D (ringP D) t (t - h).toNat h).1, (openGo D (ringP D) t (t - h).toNat h).2.1, (openGo D (ringP D) t (t - h).toNat h).2.2)
    | _ => (0, 0, 0, [], [], 70)
def isWal (o : Obj) : Prop := match o with
  | .cells _ t _ => t = 102 ∨ t = 52 ∨ t = 58
  | _ => False
def isT (t : Nat) (_ : Nat) (o : Obj) : Prop := match o with
  | .cells _ q _ => q = t
  | _ => False
theorem isT_disk {t : Nat} (h : t ≠ 90 ∧ t ≠ 124) {M Bd : Nat} (k : Nat) (o : Obj) (hd : isDisk M Bd k o) : ¬ isT t k o := by
  cases o with
  | cells c q f =>
    simp only [isDisk, isT] at hd ⊢
    intro e
    subst e
    rcases hd with hd | hd
    · exact h.1 hd
    · exact h.2 hd
  | _ => intro e; exact e
theorem q56 : ∀ q, q ∈ 52 :: (Kd.int .u64).E → q = 52 := by
  intro q hq
  rw [show 52 :: (Kd.int .u64).E = [52] from rfl] at hq
  simpa using hq
/-- the wal, its starts, the records, seen from w -/
structure WlS (w w' : World) (Wb B M Bd : Nat) (vc : Value) (vs vo : Value) (D : PD) (gen head tail : Int) (S : List Int) (X : List (List Int)) : Prop where
  blk : w'.heap[Wb]? = some (.cells #[.pointer (some ⟨B, 0, none⟩), .int .u64 gen, .int .u64 head, .int .u64 tail, vs, .bool true, .bool false] 102 (0, 0))
  hW : w.heap.size ≤ Wb
  dk : DK w' 0 B M Bd vc D
  low : Below w.heap.size w w'
  st : Kd.R (Kd.int .u64) 52 w' w.heap.size (fun _ => True) vs S
  out : Kd.R bytesK 58 w' w.heap.size (fun _ => True) vo X
section
variable {w w' w2 : World} {Wb B M Bd : Nat} {vc vs vo v1 : Value} {D : PD} {gen head tail : Int} {S S' : List Int} {X X' : List (List Int)}
theorem WlS.fresh (h : WlS w w' Wb B M Bd vc vs vo D gen head tail S X) (hb : Below w'.heap.size w' w2) : WlS w w2 Wb B M Bd vc vs vo D gen head tail S X :=
  ⟨(hb.block _ (Array.getElem?_eq_some_iff.1 h.blk).1).trans h.blk, h.hW, h.dk.chg (.of_below hb), h.low.trans (hb.mono h.low.size), Kd.R_below h.st hb, Kd.R_below h.out hb⟩
/-- the starts' row was turned, then the field that holds it -/
theorem WlS.turnS (h : WlS w w' Wb B M Bd vc vs vo D gen head tail S X) (hg : w'.grownBy w2 vs.ownBlock) (ho : Kd.R (Kd.int .u64) 52 w2 w.heap.size (fun _ => True) v1 S') :
    w2.heap[Wb]? = some (.cells #[.pointer (some ⟨B, 0, none⟩), .int .u64 gen, .int .u64 head, .int .u64 tail, vs, .bool true, .bool false] 102 (0, 0)) ∧ DK w2 0 B M Bd vc D ∧ Below w.heap.size w w2 ∧ Kd.R bytesK 58 w2 w.heap.size (fun _ => True) vo X := by
  have hc : TC w.heap.size (isT 52) w' w2 := TC.grown hg (fun k hk => by
    obtain ⟨h1, cells, h2⟩ := own_cells h.st k hk
    exact ⟨h1, _, h2, rfl⟩) h.low.size
  refine ⟨hc.blk Wb _ h.blk (by simp [isT]), h.dk.tkeep hc (isT_disk (by decide)), h.low.trans hc.low, R_tc h.out hc (fun q hq _ cells => ?_)⟩
  rcases q29 q hq with rfl | rfl <;> simp [isT]
theorem outs_turn {cs : Array Value} (hblk : w'.heap[Wb]? = some (.cells cs 102 (0, 0))) (hdk : DK w' 0 B M Bd vc D) (hlow : Below w.heap.size w w') (hst : Kd.R (Kd.int .u64) 52 w' w.heap.size (fun _ => True) vs S) (hout : Kd.R bytesK 58 w' w.heap.size (fun _ => True) vo X) (hg : w'.grownBy w2 vo.ownBlock) :
    w2.heap[Wb]? = some (.cells cs 102 (0, 0)) ∧ DK w2 0 B M Bd vc D ∧ Below w.heap.size w w2 ∧ Kd.R (Kd.int .u64) 52 w2 w.heap.size (fun _ => True) vs S := by
  have hc : TC w.heap.size (isT 58) w' w2 := TC.grown hg (fun k hk => by
    obtain ⟨h1, cells, h2⟩ := own_cells hout k hk
    exact ⟨h1, _, h2, rfl⟩) hlow.size
  refine ⟨hc.blk Wb _ hblk (by simp [isT]), hdk.tkeep hc (isT_disk (by decide)), hlow.trans hc.low, R_tc hst hc (fun q hq _ cells => ?_)⟩
  obtain rfl := q56 q hq
  simp [isT]
theorem starts_put (hblk : w'.heap[Wb]? = some (.cells #[.pointer (some ⟨B, 0, none⟩), .int .u64 gen, .int .u64 head, .int .u64 tail, vs, .bool true, .bool false] 102 (0, 0))) (hW : w.heap.size ≤ Wb) (hdk : DK w' 0 B M Bd vc D) (hlow : Below w.heap.size w w') (hst : Kd.R (Kd.int .u64) 52 w' w.heap.size (fun _ => True) v1 S) (hout : Kd.R bytesK 58 w' w.heap.size (fun _ => True) vo X) :
    WlS w (w'.setCell ⟨Wb, 4, none⟩ v1) Wb B M Bd vc v1 vo D gen head tail S X := by
  have hc : TC w.heap.size (isT 102) w' (w'.setCell ⟨Wb, 4, none⟩ v1) := TC.set (T := isT 102) hblk (show isT 102 _ _ from rfl) hW v1
  refine ⟨set7 hblk 4 v1, hW, hdk.tkeep hc (isT_disk (by decide)), hlow.trans hc.low, R_tc hst hc (fun q hq _ cells => ?_), R_tc hout hc (fun q hq _ cells => ?_)⟩
  · obtain rfl := q56 q hq
    simp [isT]
  · rcases q29 q hq with rfl | rfl <;> simp [isT]
end
theorem two_cells {w : World} {g b c : Nat} {h t : Int} {ok : Nat → Prop} (hr : Kd.R (Kd.int .u64) 52 w b ok (.slice (some ⟨g, 0, none⟩) 2 c) [h, t]) : w.cell? ⟨g, 0, none⟩ = some (.int .u64 h) ∧ w.cell? ⟨g, 1, none⟩ = some (.int .u64 t) := by
  have hC := (Kd.R_reads' hr).2.2
  obtain ⟨a0, e0, x0⟩ := Kd.at_int hC (0 : Int) (by omega) (by simp)
  obtain ⟨a1, e1, x1⟩ := Kd.at_int hC (1 : Int) (by omega) (by simp)
  cases e0; cases e1
  exact ⟨x0, x1⟩
theorem wls_new {w wq : World} {base B M Bd : Nat} {vc : Value} {D : PD} (hd : DK w base B M Bd vc D) (hb : Below w.heap.size w wq) (g h t : Int) :
    WlS w ((wq.alloc (.cells #[.pointer (some ⟨B, 0, none⟩), .int .u64 g, .int .u64 h, .int .u64 t, .slice none 0 0, .bool true, .bool false] 102)).drew) wq.heap.size B M Bd vc (.slice none 0 0) (.slice none 0 0) D g h t [] [] := by
  have hb2 := Below.alloc (Below.refl wq.heap.size wq) (Nat.le_refl _) (.cells #[.pointer (some ⟨B, 0, none⟩), .int .u64 g, .int .u64 h, .int .u64 t, .slice none 0 0, .bool true, .bool false] 102)
  have hb3 := (hb.trans (hb2.mono hb.size)).drew
  exact ⟨heap_alloc_new wq _, hb.size, (hd.low 0 (Nat.zero_le _)).chg (.of_below hb3), hb3, Kd.R_nil _ _ _ _ _, Kd.R_nil _ _ _ _ _⟩
theorem own_past {α : Type} {d : Kd α} {e b k : Nat} {w : World} {ok : Nat → Prop} {v : Value} {xs : List α} (h : d.R e w b ok v xs) (hk : w.heap.size ≤ k) : some k ≠ v.ownBlock := fun he => by
  have := Kd.R_lt h k he.symm
  omega
theorem row_past {α β : Type} {d : Kd α} {d' : Kd β} {e e' b b' : Nat} {w w7 w8 : World} {ok : Nat → Prop} {v v' : Value} {xs : List α} {ys : List β} (h : d.R e w b ok v xs) (h7 : d'.R e' w7 b' (fun k => w.heap.size ≤ k) v' ys) (hg : w7.grownBy w8 v.ownBlock) : d'.R e' w8 b' (fun k => w.heap.size ≤ k) v' ys :=
  Kd.R_grown h7 hg (fun k hk => own_past h hk)
def opErr (res : Int × Int × Int × List Int × List (List Int) × Int) : Int := res.2.2.2.2.2
def OpQ (w : World) (B M Bd : Nat) (vc : Value) (D : PD) (res : Int × Int × Int × List Int × List (List Int) × Int) (e : Ending) (w' : World) : Prop :=
  (opErr res ≠ 0 ∧ e = .returned (.tuple #[.pointer none, .slice none 0 0, .int .i64 (opErr res)]) ∧ Below w.heap.size w w') ∨
  (opErr res = 0 ∧ ∃ Wb vs vo, e = .returned (.tuple #[.pointer (some ⟨Wb, 0, none⟩), vo, .int .i64 0]) ∧ WlS w w' Wb B M Bd vc vs vo D res.1 res.2.1 res.2.2.1 res.2.2.2.1 res.2.2.2.2.1)
section
variable {w : World} {base B M Bd : Nat} {vc : Value} {D : PD} {res : Int × Int × Int × List Int × List (List Int) × Int}
theorem open_load (gl : Int × List Int × Int) (hld : loadP D = gl) (he : gl.2.2 ≠ 0) (ho : OKD D) (hl : D.cache.length ≤ 40000) (h : DK w base B M Bd vc D) :
    Calls Tryz.prog 12 #[.pointer (some ⟨B, 0, none⟩)] w (OpQ w B M Bd vc D (0, 0, 0, [], [], gl.2.2)) := by
  have HL := Aside0.mk (load_calls (w := w) hld ho.ok ho.c64 hl h)
  obtain ⟨gg, gls, ge⟩ := gl
  simp only at he HL ⊢
  unfold LdQ at HL
  have hb : (ge != 0) = true := by simpa using he
  have HE := Aside0.mk he
  clear h hld ho hl he
  go_enter Tryz.func12, Tryz.ntmps12
  go_wp2
  go_step3
  go_wp2_with (first
    | (go_at_call 49; (with_reducible refine HL.out.mono ?_); rintro e w1 ⟨A1, c1, rfl, hr, hb⟩; have HB1 := Aside0.mk hb; clear hr hb))
  rw [Exit.noGoto_ret]
  go_ret3
  exact .inl ⟨HE.out, rfl, HB1.out⟩
theorem open_len (g : Int) (l : List Int) (hld : loadP D = (g, l, 0)) (h2 : l.length ≠ 2) (ho : OKD D) (hl : D.cache.length ≤ 40000) (h : DK w base B M Bd vc D) :
    Calls Tryz.prog 12 #[.pointer (some ⟨B, 0, none⟩)] w (OpQ w B M Bd vc D (0, 0, 0, [], [], 70)) := by
  have HL := Aside0.mk (load_calls (w := w) hld ho.ok ho.c64 hl h)
  unfold LdQ at HL
  have hb : ((l.length : Int) != 2) = true := by simp; omega
  have hb2 : ((l.length : Int) == 2) = false := by simp; omega
  have hb3 : (l.length == 2) = false := by simpa using h2
  have hb4 : (l.length != 2) = true := by simpa using h2
  clear h hld ho hl
  go_enter Tryz.func12, Tryz.ntmps12
  go_wp2
  go_step3
  go_wp2_with (first
    | (go_at_call 49; (with_reducible refine HL.out.mono ?_); rintro e w1 ⟨A1, c1, rfl, hr, hb⟩; have HB1 := Aside0.mk hb; clear hr hb))
  go_quiet (fail)
  go_wp2
  rw [Exit.noGoto_ret]
  go_ret3
  exact .inl ⟨(show (70 : Int) ≠ 0 by decide), rfl, bel_drewN HB1.out _⟩
set_option maxRecDepth 100000 in
theorem open_bad (g h t r : Int) (hld : loadP D = (g, [h, t], 0)) (hr : ringP D = r) (hbad : t < h ∨ r < t - h) (hrg : (0 ≤ h ∧ h < 18446744073709551616) ∧ (0 ≤ t ∧ t < 18446744073709551616)) (ho : OKD D) (hl : D.cache.length ≤ 40000) (hd : DK w base B M Bd vc D) :
    Calls Tryz.prog 12 #[.pointer (some ⟨B, 0, none⟩)] w (OpQ w B M Bd vc D (0, 0, 0, [], [], 70)) := by
  have HL := Aside0.mk (load_calls (w := w) hld ho.ok ho.c64 hl hd)
  have hrb := ringP_le hd
  rw [hr] at hrb
  obtain ⟨hr0, hr1⟩ := hrb
  have HD := Aside0.mk hd
  have HR := Aside0.mk hr
  unfold LdQ at HL
  obtain ⟨⟨h0, h1⟩, t0, t1⟩ := hrg
  clear hd hld ho hl hr
  by_cases hth : t < h
  · clear hbad
    go_enter Tryz.func12, Tryz.ntmps12
    go_wp2
    go_step3
    go_wp2_with (first
      | (go_at_call 49; (with_reducible refine HL.out.mono ?_); rintro e w1 ⟨A1, c1, rfl, hr, hb⟩; have HB1 := Aside0.mk hb; obtain ⟨g4, c4', hv⟩ := R_addr hr (by simp); cases hv; have x0 := two_cells hr; clear hr hb))
    obtain ⟨x0, x1⟩ := x0
    go_quiet (fail)
    go_wp2
    rw [Exit.noGoto_ret]
    go_ret3
    exact .inl ⟨(show (70 : Int) ≠ 0 by decide), rfl, bel_drewN HB1.out _⟩
  · have hth' : h ≤ t := by omega
    have hrt : r < t - h := by omega
    have hrt2 : decide (r < t - h) = true := decide_eq_true hrt
    have hth2 : decide (t < h) = false := decide_eq_false hth
    clear hbad
    go_enter Tryz.func12, Tryz.ntmps12
    go_wp2
    go_step3
    go_wp2_with (first
      | (go_at_call 49; (with_reducible refine HL.out.mono ?_); rintro e w1 ⟨A1, c1, rfl, hr, hb⟩; have HB1 := Aside0.mk hb; obtain ⟨g4, c4', hv⟩ := R_addr hr (by simp); cases hv; have x0 := two_cells hr; clear hr hb))
    obtain ⟨x0, x1⟩ := x0
    have HDq := Aside0.mk (fun n => HD.out.chg (w' := w1.drewN n) (.of_below (bel_drewN HB1.out n)))
    go_quiet ((go_at_call 45; exact Calls.quiet_of_same ((ring_calls _ base B M Bd vc D r HR.out (HDq.out _)).mono fun e w' h => ⟨h.1, h.2.symm⟩)))
    go_wp2
    rw [Exit.noGoto_ret]
    go_ret3
    exact .inl ⟨(show (70 : Int) ≠ 0 by decide), rfl, bel_drewN HB1.out _⟩
set_option maxRecDepth 100000 in
set_option maxHeartbeats 4000000 in
theorem open_main (g h t r : Int) (SS : List Int) (XX : List (List Int)) (EE : Int) (hgo : openGo D r t (t - h).toNat h = (SS, XX, EE)) (hld : loadP D = (g, [h, t], 0)) (hr : ringP D = r) (hht : h ≤ t) (htr : t - h ≤ r) (hrg : (0 ≤ h ∧ h < 18446744073709551616) ∧ (0 ≤ t ∧ t < 18446744073709551616)) (ho : OKD D) (hl : D.cache.length ≤ 40000) (hd : DK w base B M Bd vc D) :
    Calls Tryz.prog 12 #[.pointer (some ⟨B, 0, none⟩)] w (OpQ w B M Bd vc D (g, h, t, SS, XX, EE)) := by
  have HGO := Aside0.mk hgo
  have HL := Aside0.mk (load_calls (w := w) hld ho.ok ho.c64 hl hd)
  have hrb := ringP_le hd
  rw [hr] at hrb
  obtain ⟨hr0, hr1⟩ := hrb
  have HD := Aside0.mk hd
  have HR := Aside0.mk hr
  have HOK := Aside0.mk ho
  have HCL := Aside0.mk hl
  unfold LdQ at HL
  obtain ⟨⟨h0, h1⟩, t0, t1⟩ := hrg
  have hth2 : decide (t < h) = false := decide_eq_false (by omega)
  have hrt2 : decide (r < t - h) = false := decide_eq_false (by omega)
  clear hd hld ho hl hr hgo
  go_enter Tryz.func12, Tryz.ntmps12
  go_wp2
  go_step3
  go_wp2_with (first
    | (go_at_call 49; (with_reducible refine HL.out.mono ?_); rintro e w1 ⟨A1, c1, rfl, hr, hb⟩; have HB1 := Aside0.mk hb; obtain ⟨g4, c4', hv⟩ := R_addr hr (by simp); cases hv; have x0 := two_cells hr; clear hr hb))
  obtain ⟨x0, x1⟩ := x0
  have HDq := Aside0.mk (fun n => HD.out.chg (w' := w1.drewN n) (.of_below (bel_drewN HB1.out n)))
  go_quiet ((go_at_call 45; exact Calls.quiet_of_same ((ring_calls _ base B M Bd vc D r HR.out (HDq.out _)).mono fun e w' h => ⟨h.1, h.2.symm⟩)))
  go_wp2
  have y0 : (w1.drewN nq).drew.cell? ⟨g4, 0, none⟩ = some (.int .u64 h) := x0
  have y1 : (w1.drewN nq).drew.cell? ⟨g4, 1, none⟩ = some (.int .u64 t) := x1
  have HBQ := Aside0.mk (bel_drewN HB1.out nq)
  obtain ⟨wq, hwq⟩ : ∃ wq, w1.drewN nq = wq := ⟨_, rfl⟩
  rw [hwq] at HBQ y0 y1 ⊢
  clear hwq x0 x1
  refine Fork.wp_fork (Fork.Lo.rel 0) [] [] (.one 0 0 (.one 1 0 (.one 2 0 (.one 3 0 (.one 5 0 (.one 6 0 (.one 4 1 (.one 7 1 (.one 8 0 (.one 9 2 (.one 10 0 .nil))))))))))) (by kernel_rfl) (by kernel_rfl) ?_
  generalize hops : List.toArray (_ : List Oper) = ops
  have HO := Aside0.mk hops
  clear hops
  iterate 6 ((refine Fork.plain (Fork.at_ HO.out rfl) _ rfl (fun W => by go_simp; exact rfl) ?_); simp only [Act.put, List.setIfInBounds_toArray, List.set_cons_succ, List.set_cons_zero])
  refine Fork.reads (Fork.at_ HO.out rfl) _ rfl (fun W hW => Arr.ex_load1 rfl rfl (by kernel_rfl) (Fork.bel_cell hW (by assumption))) ?_
  simp only [Act.put, List.setIfInBounds_toArray, List.set_cons_succ, List.set_cons_zero]
  refine Fork.reads (Fork.at_ HO.out rfl) _ rfl (fun W hW => Arr.ex_load1 rfl rfl (by kernel_rfl) (Fork.bel_cell hW (by assumption))) ?_
  simp only [Act.put, List.setIfInBounds_toArray, List.set_cons_succ, List.set_cons_zero]
  ((refine Fork.plain (Fork.at_ HO.out rfl) _ rfl (fun W => by go_simp; exact rfl) ?_); simp only [Act.put, List.setIfInBounds_toArray, List.set_cons_succ, List.set_cons_zero])
  refine Fork.step (Fork.at_ HO.out rfl) (fun K hK => ?_)
  go_simp
  refine hK _ _ (.of_new (Below.alloc (Below.refl _ _) (Nat.le_refl _) _) (Nat.zero_le _)) ?_
  clear hK K
  try simp only [Act.put, List.setIfInBounds_toArray, List.set_cons_succ, List.set_cons_zero]
  ((refine Fork.plain (Fork.at_ HO.out rfl) _ rfl (fun W => by go_simp; exact rfl) ?_); simp only [Act.put, List.setIfInBounds_toArray, List.set_cons_succ, List.set_cons_zero])
  refine Fork.done ?_
  go_wp2
  go_step3
  go_wp2
  have HS0 := Aside0.mk (wls_new HD.out HBQ.out g h t)
  obtain ⟨Wb, hWb⟩ : ∃ Wb, wq.heap.size = Wb := ⟨_, rfl⟩
  obtain ⟨w4, hw4⟩ : ∃ w4, (wq.alloc (.cells #[.pointer (some ⟨B, 0, none⟩), .int .u64 g, .int .u64 h, .int .u64 t, .slice none 0 0, .bool true, .bool false] 102)).drew = w4 := ⟨_, rfl⟩
  rw [hw4, hWb] at HS0
  rw [hw4, hWb]
  have HT0 := Aside0.mk (show (openGo D r t (t - h).toNat h).2.2 = EE ∧ (EE = 0 → [] ++ (openGo D r t (t - h).toNat h).1 = SS ∧ [] ++ (openGo D r t (t - h).toNat h).2.1 = XX) from by rw [HGO.out]; exact ⟨rfl, fun _ => ⟨rfl, rfl⟩⟩)
  have HP0 := Aside0.mk (show h + ((t - h).toNat : Int) = t by omega)
  clear hw4 hWb y0 y1 HL HDq HGO
  go_loopg [9, 10] (t - h).toNat (fun kq v9 v10 w' => ∃ (p : Int) (f : Nat) (S : List Int) (X : List (List Int)) (vs : Value), v10 = .int .u64 p ∧ Aside0 (p + (kq : Int) = t) ∧ Aside0 (h ≤ p) ∧ Aside0 (kq ≤ f) ∧ Aside0 (S.length ≤ 4094 ∧ (S.length : Int) ≤ p - h) ∧ Aside0 (X.length = S.length) ∧ Aside0 (WlS w w' Wb B M Bd vc vs v9 D g h t S X) ∧ Aside0 ((openGo D r t f p).2.2 = EE ∧ (EE = 0 → S ++ (openGo D r t f p).1 = SS ∧ X ++ (openGo D r t f p).2.1 = XX)))
  case atStart => exact ⟨h, (t - h).toNat, [], [], .slice none 0 0, rfl, HP0, ⟨Int.le_refl _⟩, ⟨Nat.le_refl _⟩, ⟨by simp⟩, ⟨rfl⟩, HS0, HT0⟩
  case round =>
    obtain ⟨p, f, S, X, vs, rfl, HP, HPH, HF, HSL, HXL, HS, HT⟩ := hrel
    clear HS0 HT0 HP0
    obtain ⟨As, cs, rfl⟩ := Kd.R_slice HS.out.st
    obtain ⟨Ao, co, rfl⟩ := Kd.R_slice HS.out.out
    obtain ⟨⟨q0, q1, q2, q3, q4, q5, q6⟩, _⟩ := cells7 HS.out.blk
    have hpt : p ≤ t := by have := HP.out; omega
    have hp0 : 0 ≤ p := by have := HPH.out; omega
    by_cases hk0 : gk = 0
    · subst hk0
      have hpe : p = t := by have := HP.out; omega
      have hpe1 : (p == t) = true := by simpa using hpe
      have hEE : EE = 0 ∧ S = SS ∧ X = XX := by
        obtain ⟨e1, e2⟩ := HT.out
        have h0 : openGo D r t f p = ([], [], 0) := by
          cases f with
          | zero => unfold openGo; rw [if_pos hpe]
          | succ f => unfold openGo; rw [if_pos hpe]
        rw [h0] at e1 e2
        subst e1
        obtain ⟨e3, e4⟩ := e2 rfl
        exact ⟨rfl, by simpa using e3, by simpa using e4⟩
      obtain ⟨rfl, rfl, rfl⟩ := hEE
      clear hpe
      go_wp2
      try rw [Exit.noGoto_ret]
      go_ret3
      exact .inr ⟨rfl, Wb, _, _, rfl, HS.out⟩
    · obtain ⟨f', rfl⟩ : ∃ f', f = f' + 1 := ⟨f - 1, by have := HF.out; omega⟩
      have hpn : ¬ p = t := by have := HP.out; omega
      have hpe1 : (p == t) = false := by simpa using hpn
      have hgk : (t - p).toNat = gk := by have := HP.out; omega
      obtain ⟨x, nx, e, hrc⟩ : ∃ x nx e, recGo D r p (t - p).toNat [] p = (x, nx, e) := ⟨_, _, _, rfl⟩
      have hT2 := HT.out
      unfold openGo at hT2
      rw [if_neg hpn, hrc] at hT2
      simp only at hT2
      have HREC := Aside0.mk (record_calls wr Wb B M Bd vc D As S.length cs g h t true false r p (t - p).toNat (x, nx, e) HR.out (by have := HP.out; have := HPH.out; omega) ⟨hp0, by omega, by omega⟩ (by have := HP.out; have := HPH.out; omega) hrc HOK.out HCL.out HS.out.dk ⟨HS.out.blk⟩)
      unfold RcQ at HREC
      simp only at HREC
      have hlt : p < t := by omega
      clear q0 q1 q2 q3 q4 q5 q6
      obtain ⟨⟨q0, q1, q2, q3, q4, q5, q6⟩, _⟩ := cells7 HS.out.blk
      by_cases he : e = 0
      · subst he
        have HNX := Aside0.mk (recGo_next D r p (fun q hq => readP_64 HS.out.dk HOK.out.c64 (s := (readP D q).1) (by rw [← hq])) (t - p).toNat [] p (Int.le_refl _) (by simp) (by rw [hrc]))
        rw [hrc] at HNX
        simp only at HNX
        have HT3 := Aside0.mk (show (openGo D r t f' nx).2.2 = EE ∧ (EE = 0 → (S ++ [p]) ++ (openGo D r t f' nx).1 = SS ∧ (X ++ [x]) ++ (openGo D r t f' nx).2.1 = XX) from by
          simpa using hT2)
        have HSL8 := Aside0.mk (show (S.length + 1) * 8 ≤ 140737488355328 by have := HSL.out.1; omega)
        have HXL8 := Aside0.mk (show (X.length + 1) * 24 ≤ 140737488355328 by have := HSL.out.1; have := HXL.out; omega)
        clear hT2 hrc hpn
        go_wp2_with (first
          | (go_at_call 50; (with_reducible refine HREC.out.mono ?_); rintro e w7 ⟨A7, c7, rfl, hr, hb⟩; have HX7 := Aside0.mk hr; have HW7 := Aside0.mk hb; have HS7 := Aside0.mk (HS.out.fresh hb); obtain ⟨⟨z0, z1, z2, z3, z4, z5, z6⟩, _⟩ := cells7 HS7.out.blk; clear hr hb)
          | ((with_reducible refine gate_builtin (b := .append) (xs := #[.tmp 82, .tmp 84]) rfl ?_); at_builtin; go_loud (refine Kd.R_append (Kd.int .u64) (W := w7) (w0 := w7) w.heap.size rfl (.tmp 82) (.tmp 84) 98 52 (.int .u64 0) 8 rfl Tryz.underlying98 info56 rfl (by decide) (by decide) _ S p [.int .u64 p] (fun _ => True) (fun _ => False) rfl rfl rfl (fun _ h => h.elim) (fun _ _ => trivial) HS7.out.st (Below.refl _ _) HS7.out.low.size HSL8.out ?_); intro v8 w8 ho hb hg hat; obtain ⟨A8, n8, c8, rfl⟩ := R_slice3 ho; obtain ⟨b8, d8, l8, o8⟩ := HS7.out.turnS hg ho; have HO8 := Aside0.mk (And.intro b8 (And.intro d8 (And.intro l8 (And.intro o8 ho)))); have HX8 := Aside0.mk (row_past HS.out.st HX7.out hg); clear b8 d8 l8 o8 ho hb hg hat)
          | ((with_reducible refine gate_builtin (b := .append) (xs := #[.tmp 86, .tmp 88]) rfl ?_); at_builtin; go_loud (refine Kd.R_append bytesK (W := w8) (w0 := w8) w.heap.size rfl (.tmp 86) (.tmp 88) 32 58 (.slice none 0 0) 24 rfl Tryz.underlying32 info29e rfl (by decide) (by decide) _ X x [.slice A7 x.length c7] (fun _ => True) (fun k => wr.heap.size ≤ k) rfl rfl ⟨_, rfl, Kd.R_lower HX8.out HS.out.low.size⟩ (fun k hk => ⟨trivial, own_past HS.out.out hk⟩) (fun _ _ => trivial) HO8.out.2.2.2.1 (Below.refl _ _) HO8.out.2.2.1.size HXL8.out ?_); intro v9 w9 ho hb hg hat; obtain ⟨b9, d9, l9, s9⟩ := outs_turn HO8.out.1 HO8.out.2.1 HO8.out.2.2.1 HO8.out.2.2.2.2 HO8.out.2.2.2.1 hg; have HO9 := Aside0.mk (starts_put b9 HS.out.hW d9 l9 s9 ho); obtain ⟨⟨y0, y1, y2, y3, y4, y5, y6⟩, k2, k4, k5, k6⟩ := cells7 b9; clear b9 d9 l9 s9 ho hb hg hat))
        have hnx := HNX.out
        go_roundg (t - nx).toNat
        case rel => exact ⟨nx, f', S ++ [p], X ++ [x], _, rfl, ⟨by omega⟩, ⟨by have := HPH.out; omega⟩, ⟨by have := HF.out; omega⟩, ⟨by have := HSL.out; have := HPH.out; rw [List.length_append, List.length_singleton]; omega⟩, ⟨by rw [List.length_append, List.length_append, HXL.out]; rfl⟩, HO9, HT3⟩
        case measure => omega
      · have hb : (e != 0) = true := by simpa using he
        have hEE : EE = e := by
          rw [if_pos he] at hT2
          exact hT2.1.symm
        have HEE := Aside0.mk (And.intro he hEE)
        clear hT2 hrc hpn he hEE
        go_wp2_with (first
          | (go_at_call 50; (with_reducible refine HREC.out.mono ?_); rintro e w7 ⟨A7, c7, rfl, hr, hb⟩; have HW7 := Aside0.mk (HS.out.low.trans (hb.mono HS.out.low.size)); clear hr hb))
        try rw [Exit.noGoto_ret]
        go_ret3
        obtain ⟨k1, rfl⟩ := HEE.out
        exact .inl ⟨k1, rfl, HW7.out⟩
end
theorem pickL_in (u v : Int × List Int × Int) (P : Int × List Int → Prop) (h0 : P (0, [])) (hu : P (u.1, u.2.1)) (hv : P (v.1, v.2.1)) : P ((pickL u v).1, (pickL u v).2.1) := by
  have key : ∀ (st : Bool × Int × List Int) (u : Int × List Int × Int), P (st.2.1, st.2.2) → P (u.1, u.2.1) → P ((stepL st u).2.1, (stepL st u).2.2) := by
    intro st u h1 h2
    unfold stepL
    split
    · exact h2
    · exact h1
  unfold pickL
  split
  · exact key _ _ (key _ _ h0 hu) hv
  · exact h0
def okL (x : Int × List Int) : Prop := (0 ≤ x.1 ∧ x.1 < 18446744073709551616) ∧ ∀ n ∈ x.2, 0 ≤ n ∧ n < 18446744073709551616
theorem loadP_in {D : PD} (h : OKD D) : okL ((loadP D).1, (loadP D).2.1) := by
  have nil : okL (0, []) := ⟨by simp only; omega, fun n hn => by cases hn⟩
  have un : ∀ b, isBytes b → okL ((unP b).1, (unP b).2.1) := fun b hb => by
    obtain ⟨h1, _, h3, _⟩ := unP_bytes b hb (g := (unP b).1) (l := (unP b).2.1) (e := (unP b).2.2) rfl
    exact ⟨h1, h3⟩
  unfold loadP
  split
  · exact nil
  · split
    · exact nil
    · exact pickL_in _ _ okL nil (un _ (readP_bytes h.ok 0)) (un _ (readP_bytes h.ok 1))
theorem open_calls {w : World} {base B M Bd : Nat} {vc : Value} {D : PD} {res : Int × Int × Int × List Int × List (List Int) × Int} (hres : openP D = res) (ho : OKD D) (hl : D.cache.length ≤ 40000) (hd : DK w base B M Bd vc D) :
    Calls Tryz.prog 12 #[.pointer (some ⟨B, 0, none⟩)] w (OpQ w B M Bd vc D res) := by
  subst hres
  have hin := loadP_in ho
  obtain ⟨g, l, e, hld⟩ : ∃ g l e, loadP D = (g, l, e) := ⟨_, _, _, rfl⟩
  rw [hld] at hin
  unfold openP
  rw [hld]
  simp only
  by_cases he : e = 0
  · subst he
    rw [if_neg (by simp)]
    match l, hld, hin with
    | [], hld, _ => exact open_len g [] hld (by simp) ho hl hd
    | [x], hld, _ => exact open_len g [x] hld (by simp) ho hl hd
    | [h, t], hld, hin =>
      have h1 := hin.2 h (by simp)
      have h2 := hin.2 t (by simp)
      simp only
      split
      · rename_i hb
        exact open_bad g h t (ringP D) hld rfl hb ⟨h1, h2⟩ ho hl hd
      · rename_i hb
        exact open_main g h t (ringP D) _ _ _ rfl hld rfl (by omega) (by omega) ⟨h1, h2⟩ ho hl hd
    | x :: y :: z :: r, hld, _ => exact open_len g (x :: y :: z :: r) hld (by simp) ho hl hd
  · rw [if_pos he]
    exact open_load (g, l, e) hld he ho hl hd
end Go.Proofs.YtlepcmljmibdnaaGreat
namespace Go.Proofs.YtlepcmljmibdnaaGreat
open Go.RowKit Go.Proofs.YtlepcmljmibdnaaGreatW.PrintWords Go.Proofs.YtlepcmljmibdnaaGreatW.PrintLast Go.Proofs.YtlepcmljmibdnaaGreatW.PrintMore PWalOpens
open PStoreRecords (S66 k66 rd_T66 at_T66 z66 k66_mkM)
set_option linter.unusedVariables false
set_option linter.unusedSimpArgs false
theorem rdB_facts {xs out r : List Int} {bad b' : Bool} {mx : Int} (h : isBytes xs) (e : rdB xs bad mx = (out, r, b')) : isBytes out ∧ isBytes r ∧ (b' = true → r = []) ∧ r.length ≤ xs.length ∧ out.length ≤ xs.length := by
  obtain ⟨n, q, c, hn⟩ : ∃ n q c, rdN xs bad mx = (n, q, c) := ⟨_, _, _, rfl⟩
  obtain ⟨h1, h2, h3⟩ := rdN_bytes h hn
  have h4 := rdN_le xs bad mx
  unfold rdB at e
  rw [hn] at e h4
  simp only at e h4
  split at e
  · cases e
    exact ⟨(fun x hx => by cases hx), (fun x hx => by cases hx), fun _ => rfl, Nat.zero_le _, Nat.zero_le _⟩
  · cases e
    refine ⟨h1.take _, h1.drop _, (fun h => by cases h), ?_, ?_⟩
    · rw [List.length_drop]; omega
    · rw [List.length_take]; omega
def rdPut (xs : List Int) (bad : Bool) : S66 × List Int × Bool :=
  (⟨strOfNums (rdB xs bad 60000).1, (rdB (rdN (rdB xs bad 60000).2.1 (rdB xs bad 60000).2.2 1).2.1 (rdN (rdB xs bad 60000).2.1 (rdB xs bad 60000).2.2 1).2.2 60000).1, (rdN (rdB xs bad 60000).2.1 (rdB xs bad 60000).2.2 1).1 == 1⟩,
    (rdB (rdN (rdB xs bad 60000).2.1 (rdB xs bad 60000).2.2 1).2.1 (rdN (rdB xs bad 60000).2.1 (rdB xs bad 60000).2.2 1).2.2 60000).2)
def ofGo : Nat → List Int → Bool → List S66 → Option (List S66 × List Int × Bool)
  | 0, xs, bad, acc => some (acc, xs, bad)
  | k + 1, xs, bad, acc => if (rdPut xs bad).1.f2 = true ∧ 0 < (rdPut xs bad).1.f1.length then none else ofGo k (rdPut xs bad).2.1 (rdPut xs bad).2.2 (acc ++ [(rdPut xs bad).1])
def ofHd (b : List Int) : Int × List Int × Bool := rdN b false 1
def ofCt (b : List Int) : Int × List Int × Bool := rdN (ofHd b).2.1 (ofHd b).2.2 4096
def ofR (b : List Int) : Option (List S66 × List Int × Bool) → Bool × List S66 × Int
  | none => (false, [], 80)
  | some (l, r, bad) => if bad = true ∨ 0 < r.length then (false, [], 80) else ((ofHd b).1 == 1, l, 0)
def sofP (b : List Int) : Bool × List S66 × Int := ofR b (ofGo (ofCt b).1.toNat (ofCt b).2.1 (ofCt b).2.2 [])
def SofQ (w : World) (b : List Int) (e : Ending) (w' : World) : Prop :=
  ∃ A c, e = .returned (.tuple #[.bool (sofP b).1, .slice A (sofP b).2.1.length c, .int .i64 (sofP b).2.2]) ∧ Kd.R k66 66 w' w.heap.size (fun _ => True) (.slice A (sofP b).2.1.length c) (sofP b).2.1 ∧ Below w.heap.size w w'
theorem gx_tc {w0 w w' : World} {base B : Nat} {xs : List Int} {bad : Bool} (h : GX w base B xs bad) (hb : w0.heap.size ≤ base) (hc : Chg w w' (fun k => k = B)) : TC w0.heap.size (isT 179) w w' := by
  have hlt := h.lt
  have hB := h.hB
  obtain ⟨A, c, hk, _⟩ := h
  exact TC.of_chg hc (by omega) fun k hk1 _ => by
    subst hk1
    exact ⟨by omega, _, hk.blk, by simp [isT]⟩
theorem info66 : (Tryz.prog.info? 66).map (fun i => (i.zero, i.size, i.bytes)) = some (some (.agg #[.string ⟨#[]⟩, .slice none 0 0, .bool false]), k66.sz, 48) := by kernel_rfl
theorem sofP_early {b : List Int} (h : ofGo (ofCt b).1.toNat (ofCt b).2.1 (ofCt b).2.2 [] = none) : sofP b = (false, [], 80) := by
  unfold sofP
  rw [h]
  rfl
theorem sofP_late {b : List Int} {l : List S66} {r : List Int} {bad : Bool} (h : ofGo (ofCt b).1.toNat (ofCt b).2.1 (ofCt b).2.2 [] = some (l, r, bad)) : sofP b = if bad = true ∨ 0 < r.length then (false, [], 80) else ((ofHd b).1 == 1, l, 0) := by
  unfold sofP
  rw [h]
  rfl
/-- a round's box, with its three cells -/
theorem box_c {w : World} {g : Nat} {a0 a1 a2 : Value} (h : w.heap[g]? = some (.cells #[a0, a1, a2] 66 (0, 0))) : w.cell? ⟨g, 0, none⟩ = some a0 ∧ w.cell? ⟨g, 1, none⟩ = some a1 ∧ w.cell? ⟨g, 2, none⟩ = some a2 ∧ w.frozen? ⟨g, 1, none⟩ = false ∧ w.frozen? ⟨g, 2, none⟩ = false := by
  refine ⟨?_, ?_, ?_, ?_, ?_⟩ <;> simp [World.cell?, World.frozen?, h]
theorem chg_set {w : World} {g i : Nat} {u : Value} : Chg w (w.setCell ⟨g, i, none⟩ u) (fun k => k = g) := ((Only.refl w g).set (i := i) u).chg fun _ h => h
theorem sof_err (w : World) (b : List Int) (w' : World) (hP : sofP b = (false, [], 80)) (hb : Below w.heap.size w w') : SofQ w b (.returned (.tuple #[.bool false, .slice none 0 0, .int .i64 80])) w' := by
  unfold SofQ
  rw [hP]
  exact ⟨none, 0, rfl, Kd.R_nil _ _ _ _ _, hb⟩
theorem of_move {w wr wF : World} {B : Nat} {xs : List Int} {bad : Bool} {v : Value} {acc : List S66} (hG : GX wr w.heap.size B xs bad) (hR : Kd.R k66 66 wr w.heap.size (fun k => B < k) v acc) (hB : Below w.heap.size w wr) (hc : Chg wr wF (fun k => k = B ∨ wr.heap.size ≤ k)) : Kd.R k66 66 wF w.heap.size (fun k => B < k) v acc ∧ Below w.heap.size w wF := by
  refine ⟨Kd.R_mono (Kd.R_move (Kd.R_bound hR) fun k hk => ?_) (fun _ hk => hk.1), hB.trans (hc.below hB.size fun k hk => ?_)⟩
  · obtain ⟨hlt, _, _, q, hq, cells, hce⟩ := hk
    exact hc.block k (Array.getElem?_eq_some_iff.1 hce).1 (fun h => h.elim (fun e => by omega) (fun e => absurd (Array.getElem?_eq_some_iff.1 hce).1 (by omega)))
  · rcases hk with rfl | hk
    · exact hG.hB
    · exact Nat.le_trans hB.size hk
theorem set_size {w : World} {g i : Nat} {u : Value} : (w.setCell ⟨g, i, none⟩ u).heap.size = w.heap.size := by
  simp [World.setCell]
theorem of_val {w9 : World} {g B m base : Nat} {a0 a1 a2 v u : Value} {xs : List Int} (hb : w9.heap[g]? = some (.cells #[a0, a1, a2] 66 (0, 0))) (hr : Kd.R (Kd.int .u8) 5 w9 m (fun k => m ≤ k) v xs) (hm : B ≤ m) (hbase : base ≤ B) : Kd.R (Kd.int .u8) 5 (w9.setCell ⟨g, 1, none⟩ u) base (fun k => B ≤ k) v xs :=
  Kd.R_mono (Kd.R_lower (Kd.R_set hr hb (fun q hq => by simp at hq; rcases hq with h | h; (simp [h]); cases h) 1 u) (Nat.le_trans hbase hm)) (fun k hk => Nat.le_trans hm hk)
set_option maxRecDepth 100000 in
set_option maxHeartbeats 4000000 in
theorem sof_calls (w : World) (A : Option Addr) (c : Nat) (b : List Int) (hl : b.length ≤ 900000) (hby : isBytes b) (hn : A = none → b.length = 0 ∧ c = 0) (hC : (Kd.int .u8).C w A b.length b) :
    Calls Tryz.prog 32 #[.slice A b.length c] w (SofQ w b) := by
  have HRD := Aside0.mk (gread_calls w A c b (by omega) hn hC)
  obtain ⟨n1, x1, bad1, hd⟩ : ∃ n1 x1 bad1, ofHd b = (n1, x1, bad1) := ⟨_, _, _, rfl⟩
  obtain ⟨n2, x2, bad2, hct⟩ : ∃ n2 x2 bad2, ofCt b = (n2, x2, bad2) := ⟨_, _, _, rfl⟩
  have hd' : rdN b false 1 = (n1, x1, bad1) := hd
  have hct' : rdN x1 bad1 4096 = (n2, x2, bad2) := by have h := hct; unfold ofCt at h; rw [hd] at h; exact h
  obtain ⟨p1, p2, p3⟩ := rdN_bytes hby hd'
  obtain ⟨p4, p5, p6⟩ := rdN_bytes p1 hct'
  have l1 := rdN_le b false 1
  rw [hd'] at l1
  have l2 := rdN_le x1 bad1 4096
  rw [hct'] at l2
  simp only at l1 l2
  have hr2 := rdN_range (bad := bad1) p1 (by decide : (0 : Int) ≤ 4096) (by decide)
  rw [hct'] at hr2
  simp only at hr2
  have HD := Aside0.mk hd
  have HD1 := Aside0.mk hd'
  have HCT1 := Aside0.mk hct'
  have HBY := Aside0.mk hby
  have HBY1 := Aside0.mk p1
  obtain ⟨m, rfl⟩ := Int.eq_ofNat_of_zero_le p6
  have HG0 := Aside0.mk (show ofGo m x2 bad2 [] = ofGo (ofCt b).1.toNat (ofCt b).2.1 (ofCt b).2.2 [] by rw [hct]; rfl)
  have HBY2 := Aside0.mk p4
  have HNB2 := Aside0.mk p5
  have HL2 := Aside0.mk (show x2.length ≤ 900000 by omega)
  have hm4 : (m : Int) ≤ 4096 := hr2.2
  clear hd hct hd' hct' p1 p2 p3 p4 p5 l1 l2 hr2 hn hC hby
  go_enter Tryz.func32, Tryz.ntmps32
  go_wp2_with (first
    | (go_at_call 66; (with_reducible refine HRD.out.mono ?_); rintro e w1 ⟨B, rfl, hg, hb⟩; have HG1 := Aside0.mk hg; have HB1 := Aside0.mk hb; clear hg hb)
    | (go_at_call 67; (with_reducible refine (gFlag_any HBY.out HD1.out HG1.out).mono ?_); rintro e w2 ⟨rfl, hg, hc⟩; have HG2 := Aside0.mk hg; have HB2 := Aside0.mk (HB1.out.trans (gx_tc HG1.out (Nat.le_refl _) hc).low); clear hg hc)
    | (go_at_call 68; (with_reducible refine (gN_any _ _ _ 4096 _ _ _ _ _ (by decide) HBY1.out HCT1.out HG2.out).mono ?_); rintro e w3 ⟨rfl, hg, hc⟩; have HG3 := Aside0.mk hg; have HB3 := Aside0.mk (HB2.out.trans (gx_tc HG2.out (Nat.le_refl _) hc).low); clear hg hc))
  go_loopg [2, 3, 6] m (fun kq v2 v3 v6 w' => v2 = .bool (n1 == 1) ∧ ∃ (k : Nat) (xs : List Int) (bad : Bool) (acc : List S66) (A0 : Option Addr) (c0 : Nat), v6 = .int .u64 (k : Int) ∧ v3 = .slice A0 acc.length c0 ∧ Aside0 (k = kq) ∧ Aside0 (acc.length + k ≤ 4096) ∧ Aside0 (ofGo k xs bad acc = ofGo (ofCt b).1.toNat (ofCt b).2.1 (ofCt b).2.2 []) ∧ Aside0 (isBytes xs) ∧ Aside0 (bad = true → xs = []) ∧ Aside0 (xs.length ≤ 900000) ∧ Aside0 (GX w' w.heap.size B xs bad) ∧ Aside0 (Kd.R k66 66 w' w.heap.size (fun k => B < k) (.slice A0 acc.length c0) acc) ∧ Aside0 (Below w.heap.size w w'))
  case atStart => exact ⟨rfl, m, x2, bad2, [], none, 0, rfl, rfl, ⟨rfl⟩, ⟨by simp; omega⟩, HG0, HBY2, HNB2, HL2, HG3, ⟨Kd.R_nil _ _ _ _ _⟩, HB3⟩
  case round =>
    clear HG1 HB1 HG2 HB2 HG3 HB3 HRD HD1 HCT1 HBY HBY1 HBY2 HNB2 HL2 HG0 hm4
    obtain ⟨rfl, k, xs, bad, acc, A0, c0, rfl, rfl, HK, HAK, HGO, HBY, HNB, HLX, HG, HR, HB⟩ := hrel
    cases k with
    | zero =>
      have hk0 := HK.out
      subst hk0
      obtain ⟨v, hv⟩ : ∃ v : Int, (if bad = true ∨ 0 < xs.length then 20 else 0) = v := ⟨_, rfl⟩
      have HEN := Aside0.mk (gEnd_any v hv HG.out)
      have hgo := HGO.out
      have hP := sofP_late (b := b) (l := acc) (r := xs) (bad := bad) hgo.symm
      by_cases hbx : bad = true ∨ 0 < xs.length
      · rw [if_pos hbx] at hv hP
        subst hv
        have HP := Aside0.mk hP
        clear hP hbx hgo
        go_wp2_with (first
          | (go_at_call 70; (with_reducible refine HEN.out.mono ?_); rintro e w5 ⟨rfl, rfl⟩))
        go_ret3
        exact sof_err w b _ HP.out HB.out
      · rw [if_neg hbx] at hv hP
        subst hv
        have HP := Aside0.mk hP
        clear hP hbx hgo
        go_wp2_with (first
          | (go_at_call 70; (with_reducible refine HEN.out.mono ?_); rintro e w5 ⟨rfl, rfl⟩))
        go_ret3
        unfold SofQ
        rw [HP.out, HD.out]
        exact ⟨A0, c0, rfl, Kd.R_mono HR.out (fun _ _ => trivial), HB.out⟩
    | succ k =>
      obtain ⟨o1, y1, d1, e1⟩ : ∃ o1 y1 d1, rdB xs bad 60000 = (o1, y1, d1) := ⟨_, _, _, rfl⟩
      obtain ⟨f2, y2, d2, e2⟩ : ∃ f2 y2 d2, rdN y1 d1 1 = (f2, y2, d2) := ⟨_, _, _, rfl⟩
      obtain ⟨o3, y3, d3, e3⟩ : ∃ o3 y3 d3, rdB y2 d2 60000 = (o3, y3, d3) := ⟨_, _, _, rfl⟩
      obtain ⟨b1, b2, b3, b4, b5⟩ := rdB_facts HBY.out e1
      obtain ⟨b6, b7, b8⟩ := rdN_bytes b2 e2
      have b9 := rdN_le y1 d1 1
      rw [e2] at b9
      simp only at b9
      obtain ⟨c1, c2, c3, c4, c5⟩ := rdB_facts b6 e3
      have hput : rdPut xs bad = (⟨strOfNums o1, o3, f2 == 1⟩, y3, d3) := by unfold rdPut; rw [e1]; simp only; rw [e2]; simp only; rw [e3]
      have hgo := HGO.out
      rw [show ofGo (k + 1) xs bad acc = if (rdPut xs bad).1.f2 = true ∧ 0 < (rdPut xs bad).1.f1.length then none else ofGo k (rdPut xs bad).2.1 (rdPut xs bad).2.2 (acc ++ [(rdPut xs bad).1]) from rfl, hput] at hgo
      simp only at hgo
      have HE1 := Aside0.mk (gB_any (w := wr) ⟨by decide, by decide⟩ HBY.out HLX.out e1 HG.out)
      have HE2 := Aside0.mk e2
      have HE3 := Aside0.mk e3
      have HB2' := Aside0.mk b2
      have HB6' := Aside0.mk b6
      have HL2' := Aside0.mk (show y2.length ≤ 900000 by have := HLX.out; omega)
      have HL3' := Aside0.mk (show y3.length ≤ 900000 by have := HLX.out; omega)
      have HBY3 := Aside0.mk c2
      have HNB3 := Aside0.mk c3
      have ho3 : (o3.length : Int) ≤ 900000 := by have := HLX.out; omega
      have HALN := Aside0.mk (show (acc.length + 1) * 48 ≤ 140737488355328 by have := HAK.out; omega)
      have HPAST := Aside0.mk (fun k (hk : wr.heap.size ≤ k) => own_past HR.out hk)
      have hk64 : ((k : Int) + 1) ≤ 4096 := by have := HAK.out; omega
      clear e1 e2 e3 b1 b2 b3 b4 b5 b6 b7 b8 b9 c1 c2 c3 c4 c5 hput
      have hstep1 : ∀ (A5 : Option Addr) (c5 : Nat) (w5 : World), Kd.R (Kd.int .u8) 5 w5 wr.heap.size (fun k => wr.heap.size ≤ k) (.slice A5 o1.length c5) o1 → (convert 58 9 (.slice A5 o1.length c5)).run Tryz.prog w5 = .ok (.string (strOfNums o1)) w5 := fun A5 c5 w5 h => Kd.C_string Tryz.underlying58 Tryz.underlying5 Tryz.underlying9 (Kd.R_reads' h).2.2
      have HCS := Aside0.mk hstep1
      clear hstep1
      by_cases hf : (f2 == 1) = true
      · by_cases hlen : 0 < o3.length
        · rw [if_pos ⟨hf, hlen⟩] at hgo
          have HP := Aside0.mk (sofP_early hgo.symm)
          have hlen2 : decide ((0 : Int) < (o3.length : Int)) = true := decide_eq_true (by omega)
          clear hgo
          go_wp2_with (first
          | (go_at_call 69; (with_reducible refine HE1.out.mono ?_); rintro e w5 ⟨A5, c5, rfl, hr, hg, hc⟩; have hcs := HCS.out A5 c5 w5 hr; have HG5 := Aside0.mk hg; have HC5 := Aside0.mk (hc.mono (S' := fun k => k = B ∨ wr.heap.size ≤ k) fun _ h => .inl h); have HA5 := Aside0.mk (Below.alloc (Below.refl w5.heap.size w5) (Nat.le_refl _) (.cells #[.string (strOfNums o1), .slice none 0 0, .bool false] 66)); clear hr hg hc HE1)
          | (go_at_call 67; (with_reducible refine (gFlag_any HB2'.out HE2.out (HG5.out.keep (S := fun _ => False) (.of_below HA5.out) (fun _ _ h => h))).mono ?_); rintro e w7 ⟨rfl, hg, hc⟩; have HG7 := Aside0.mk hg; have HC7 := Aside0.mk ((HC5.out.trans (.of_below HA5.out)).trans (hc.mono (S' := fun k => k = B ∨ wr.heap.size ≤ k) fun _ h => .inl h)); have hbx := (hc.block w5.heap.size (by rw [alloc_size]; omega) (Nat.ne_of_gt HG5.out.lt)).trans (heap_alloc_new w5 _); have HBX := Aside0.mk hbx; obtain ⟨z0, z1, z2, g1, g2⟩ := box_c hbx; clear hg hc hbx)
          | (go_at_call 69; (with_reducible refine (gB_any (w := w7.setCell ⟨w5.heap.size, 2, none⟩ (.bool true)) ⟨by decide, by decide⟩ HB6'.out HL2'.out HE3.out (HG7.out.keep chg_set (fun k hk e => absurd (Nat.lt_of_le_of_lt hk HG5.out.lt) (by rw [e]; exact Nat.lt_irrefl _)))).mono ?_); rintro e w9 ⟨A9, c9, rfl, hr, hg, hc⟩; have HG9 := Aside0.mk hg; have HR9 := Aside0.mk hr; have HC9 := Aside0.mk ((HC7.out.trans (chg_set.mono (fun k (e : k = w5.heap.size) => Or.inr (by rw [e]; exact HC5.out.size)))).trans (hc.mono (S' := fun k => k = B ∨ wr.heap.size ≤ k) fun _ h => .inl h)); have hbx := (hc.block w5.heap.size (Array.getElem?_eq_some_iff.1 (set7 HBX.out 2 (.bool true))).1 (Nat.ne_of_gt HG5.out.lt)).trans (set7 HBX.out 2 (.bool true)); have HBX9 := Aside0.mk hbx; obtain ⟨t0, t1, t2, g3, g4⟩ := box_c hbx; have HBXF := Aside0.mk (set7 hbx 1 (.slice A9 o3.length c9)); obtain ⟨s0, s1, s2, g5, g6⟩ := box_c HBXF.out; have HCF := Aside0.mk (HC9.out.trans (chg_set.mono (fun k (e : k = w5.heap.size) => Or.inr (by rw [e]; exact HC5.out.size)) : Chg w9 (w9.setCell ⟨w5.heap.size, 1, none⟩ (.slice A9 o3.length c9)) (fun k => k = B ∨ wr.heap.size ≤ k))); clear hr hg hc hbx))
          go_ret3
          exact sof_err w b _ HP.out (of_move HG.out HR.out HB.out HCF.out).2
        · rw [if_neg (fun h => hlen h.2), hf] at hgo
          have HGO2 := Aside0.mk hgo
          have hlen2 : decide ((0 : Int) < (o3.length : Int)) = false := decide_eq_false (by omega)
          have hlen3 : decide (0 < o3.length) = false := decide_eq_false hlen
          clear hlen
          clear hgo
          go_wp2_with (first
          | (go_at_call 69; (with_reducible refine HE1.out.mono ?_); rintro e w5 ⟨A5, c5, rfl, hr, hg, hc⟩; have hcs := HCS.out A5 c5 w5 hr; have HG5 := Aside0.mk hg; have HC5 := Aside0.mk (hc.mono (S' := fun k => k = B ∨ wr.heap.size ≤ k) fun _ h => .inl h); have HA5 := Aside0.mk (Below.alloc (Below.refl w5.heap.size w5) (Nat.le_refl _) (.cells #[.string (strOfNums o1), .slice none 0 0, .bool false] 66)); clear hr hg hc HE1)
          | (go_at_call 67; (with_reducible refine (gFlag_any HB2'.out HE2.out (HG5.out.keep (S := fun _ => False) (.of_below HA5.out) (fun _ _ h => h))).mono ?_); rintro e w7 ⟨rfl, hg, hc⟩; have HG7 := Aside0.mk hg; have HC7 := Aside0.mk ((HC5.out.trans (.of_below HA5.out)).trans (hc.mono (S' := fun k => k = B ∨ wr.heap.size ≤ k) fun _ h => .inl h)); have hbx := (hc.block w5.heap.size (by rw [alloc_size]; omega) (Nat.ne_of_gt HG5.out.lt)).trans (heap_alloc_new w5 _); have HBX := Aside0.mk hbx; obtain ⟨z0, z1, z2, g1, g2⟩ := box_c hbx; clear hg hc hbx)
          | (go_at_call 69; (with_reducible refine (gB_any (w := w7.setCell ⟨w5.heap.size, 2, none⟩ (.bool true)) ⟨by decide, by decide⟩ HB6'.out HL2'.out HE3.out (HG7.out.keep chg_set (fun k hk e => absurd (Nat.lt_of_le_of_lt hk HG5.out.lt) (by rw [e]; exact Nat.lt_irrefl _)))).mono ?_); rintro e w9 ⟨A9, c9, rfl, hr, hg, hc⟩; have HG9 := Aside0.mk hg; have HR9 := Aside0.mk hr; have HC9 := Aside0.mk ((HC7.out.trans (chg_set.mono (fun k (e : k = w5.heap.size) => Or.inr (by rw [e]; exact HC5.out.size)))).trans (hc.mono (S' := fun k => k = B ∨ wr.heap.size ≤ k) fun _ h => .inl h)); have hbx := (hc.block w5.heap.size (Array.getElem?_eq_some_iff.1 (set7 HBX.out 2 (.bool true))).1 (Nat.ne_of_gt HG5.out.lt)).trans (set7 HBX.out 2 (.bool true)); have HBX9 := Aside0.mk hbx; obtain ⟨t0, t1, t2, g3, g4⟩ := box_c hbx; have HBXF := Aside0.mk (set7 hbx 1 (.slice A9 o3.length c9)); obtain ⟨s0, s1, s2, g5, g6⟩ := box_c HBXF.out; have HCF := Aside0.mk (HC9.out.trans (chg_set.mono (fun k (e : k = w5.heap.size) => Or.inr (by rw [e]; exact HC5.out.size)) : Chg w9 (w9.setCell ⟨w5.heap.size, 1, none⟩ (.slice A9 o3.length c9)) (fun k => k = B ∨ wr.heap.size ≤ k))); clear hr hg hc hbx)
          | ((with_reducible refine gate_builtin (b := .append) (xs := #[.tmp 36, .tmp 38]) rfl ?_); at_builtin; go_loud (refine Kd.R_append k66 (W := w9.setCell ⟨w5.heap.size, 1, none⟩ (.slice A9 o3.length c9)) (w0 := w9.setCell ⟨w5.heap.size, 1, none⟩ (.slice A9 o3.length c9)) w.heap.size rfl (.tmp 36) (.tmp 38) 57 66 (.agg #[.string ⟨#[]⟩, .slice none 0 0, .bool false]) 48 rfl Tryz.underlying57 info66 rfl (by decide) (by decide) (.slice A0 acc.length c0) acc ⟨strOfNums o1, o3, true⟩ [.string (strOfNums o1), .slice A9 o3.length c9, .bool true] (fun k => B < k) (fun k => wr.heap.size ≤ k) rfl (by rw [set_size]; rfl) (k66_mkM _ _ _ ⟨strOfNums o1, o3, true⟩ (of_val HBX9.out HR9.out (Nat.le_trans HC5.out.size (Nat.le_trans (Nat.le_of_lt (Array.getElem?_eq_some_iff.1 HBX.out).1) (by rw [set_size]; exact Nat.le_refl _))) HB.out.size)) (fun k hk => ⟨Nat.lt_of_lt_of_le HG.out.lt hk, HPAST.out k hk⟩) (fun k hk => Nat.lt_of_lt_of_le HG.out.lt (Nat.le_trans HCF.out.size hk)) (of_move HG.out HR.out HB.out HCF.out).1 (Below.refl _ _) (Nat.le_trans HB.out.size HCF.out.size) HALN.out ?_); intro v1 w10 ho hb hg hat; have HGF := Aside0.mk (HG9.out.keep chg_set (fun k hk e => absurd (Nat.lt_of_le_of_lt hk HG5.out.lt) (by rw [e]; exact Nat.lt_irrefl _)) : GX (w9.setCell ⟨w5.heap.size, 1, none⟩ (.slice A9 o3.length c9)) w.heap.size B y3 d3); have HG10 := Aside0.mk (HGF.out.keep (chg_grown hg fun _ h => h) (fun k hk e => absurd (HR.out.1 k e.symm) (Nat.not_lt.2 hk))); have HR10 := Aside0.mk ho; have HB10 := Aside0.mk ((of_move HG.out HR.out HB.out HCF.out).2.trans hb); obtain ⟨A10, c10, hv10⟩ := Kd.R_slice ho; subst hv10; clear ho hb hg hat))
          have hk1 := HK.out
          obtain ⟨gq, rfl⟩ : ∃ gq, gk = gq + 1 := ⟨gk - 1, by omega⟩
          go_roundg gq
          case rel => exact ⟨rfl, k, y3, d3, acc ++ [⟨strOfNums o1, o3, true⟩], A10, c10, by go_num, by rw [List.length_append, List.length_singleton], ⟨by omega⟩, ⟨by rw [List.length_append, List.length_singleton]; have := HAK.out; omega⟩, HGO2, HBY3, HNB3, HL3', HG10, HR10, HB10⟩
          case measure => omega
      · have hf : (f2 == 1) = false := by simpa using hf
        rw [if_neg (fun h => by rw [hf] at h; cases h.1), hf] at hgo
        have HGO2 := Aside0.mk hgo
        clear hgo
        go_wp2_with (first
        | (go_at_call 69; (with_reducible refine HE1.out.mono ?_); rintro e w5 ⟨A5, c5, rfl, hr, hg, hc⟩; have hcs := HCS.out A5 c5 w5 hr; have HG5 := Aside0.mk hg; have HC5 := Aside0.mk (hc.mono (S' := fun k => k = B ∨ wr.heap.size ≤ k) fun _ h => .inl h); have HA5 := Aside0.mk (Below.alloc (Below.refl w5.heap.size w5) (Nat.le_refl _) (.cells #[.string (strOfNums o1), .slice none 0 0, .bool false] 66)); clear hr hg hc HE1)
        | (go_at_call 67; (with_reducible refine (gFlag_any HB2'.out HE2.out (HG5.out.keep (S := fun _ => False) (.of_below HA5.out) (fun _ _ h => h))).mono ?_); rintro e w7 ⟨rfl, hg, hc⟩; have HG7 := Aside0.mk hg; have HC7 := Aside0.mk ((HC5.out.trans (.of_below HA5.out)).trans (hc.mono (S' := fun k => k = B ∨ wr.heap.size ≤ k) fun _ h => .inl h)); have hbx := (hc.block w5.heap.size (by rw [alloc_size]; omega) (Nat.ne_of_gt HG5.out.lt)).trans (heap_alloc_new w5 _); have HBX := Aside0.mk hbx; obtain ⟨z0, z1, z2, g1, g2⟩ := box_c hbx; clear hg hc hbx)
        | (go_at_call 69; (with_reducible refine (gB_any (w := w7.setCell ⟨w5.heap.size, 2, none⟩ (.bool false)) ⟨by decide, by decide⟩ HB6'.out HL2'.out HE3.out (HG7.out.keep chg_set (fun k hk e => absurd (Nat.lt_of_le_of_lt hk HG5.out.lt) (by rw [e]; exact Nat.lt_irrefl _)))).mono ?_); rintro e w9 ⟨A9, c9, rfl, hr, hg, hc⟩; have HG9 := Aside0.mk hg; have HR9 := Aside0.mk hr; have HC9 := Aside0.mk ((HC7.out.trans (chg_set.mono (fun k (e : k = w5.heap.size) => Or.inr (by rw [e]; exact HC5.out.size)))).trans (hc.mono (S' := fun k => k = B ∨ wr.heap.size ≤ k) fun _ h => .inl h)); have hbx := (hc.block w5.heap.size (Array.getElem?_eq_some_iff.1 (set7 HBX.out 2 (.bool false))).1 (Nat.ne_of_gt HG5.out.lt)).trans (set7 HBX.out 2 (.bool false)); have HBX9 := Aside0.mk hbx; obtain ⟨t0, t1, t2, g3, g4⟩ := box_c hbx; have HBXF := Aside0.mk (set7 hbx 1 (.slice A9 o3.length c9)); obtain ⟨s0, s1, s2, g5, g6⟩ := box_c HBXF.out; have HCF := Aside0.mk (HC9.out.trans (chg_set.mono (fun k (e : k = w5.heap.size) => Or.inr (by rw [e]; exact HC5.out.size)) : Chg w9 (w9.setCell ⟨w5.heap.size, 1, none⟩ (.slice A9 o3.length c9)) (fun k => k = B ∨ wr.heap.size ≤ k))); clear hr hg hc hbx)
        | ((with_reducible refine gate_builtin (b := .append) (xs := #[.tmp 36, .tmp 38]) rfl ?_); at_builtin; go_loud (refine Kd.R_append k66 (W := w9.setCell ⟨w5.heap.size, 1, none⟩ (.slice A9 o3.length c9)) (w0 := w9.setCell ⟨w5.heap.size, 1, none⟩ (.slice A9 o3.length c9)) w.heap.size rfl (.tmp 36) (.tmp 38) 57 66 (.agg #[.string ⟨#[]⟩, .slice none 0 0, .bool false]) 48 rfl Tryz.underlying57 info66 rfl (by decide) (by decide) (.slice A0 acc.length c0) acc ⟨strOfNums o1, o3, false⟩ [.string (strOfNums o1), .slice A9 o3.length c9, .bool false] (fun k => B < k) (fun k => wr.heap.size ≤ k) rfl (by rw [set_size]; rfl) (k66_mkM _ _ _ ⟨strOfNums o1, o3, false⟩ (of_val HBX9.out HR9.out (Nat.le_trans HC5.out.size (Nat.le_trans (Nat.le_of_lt (Array.getElem?_eq_some_iff.1 HBX.out).1) (by rw [set_size]; exact Nat.le_refl _))) HB.out.size)) (fun k hk => ⟨Nat.lt_of_lt_of_le HG.out.lt hk, HPAST.out k hk⟩) (fun k hk => Nat.lt_of_lt_of_le HG.out.lt (Nat.le_trans HCF.out.size hk)) (of_move HG.out HR.out HB.out HCF.out).1 (Below.refl _ _) (Nat.le_trans HB.out.size HCF.out.size) HALN.out ?_); intro v1 w10 ho hb hg hat; have HGF := Aside0.mk (HG9.out.keep chg_set (fun k hk e => absurd (Nat.lt_of_le_of_lt hk HG5.out.lt) (by rw [e]; exact Nat.lt_irrefl _)) : GX (w9.setCell ⟨w5.heap.size, 1, none⟩ (.slice A9 o3.length c9)) w.heap.size B y3 d3); have HG10 := Aside0.mk (HGF.out.keep (chg_grown hg fun _ h => h) (fun k hk e => absurd (HR.out.1 k e.symm) (Nat.not_lt.2 hk))); have HR10 := Aside0.mk ho; have HB10 := Aside0.mk ((of_move HG.out HR.out HB.out HCF.out).2.trans hb); obtain ⟨A10, c10, hv10⟩ := Kd.R_slice ho; subst hv10; clear ho hb hg hat))
        have hk1 := HK.out
        obtain ⟨gq, rfl⟩ : ∃ gq, gk = gq + 1 := ⟨gk - 1, by omega⟩
        go_roundg gq
        case rel => exact ⟨rfl, k, y3, d3, acc ++ [⟨strOfNums o1, o3, false⟩], A10, c10, by go_num, by rw [List.length_append, List.length_singleton], ⟨by omega⟩, ⟨by rw [List.length_append, List.length_singleton]; have := HAK.out; omega⟩, HGO2, HBY3, HNB3, HL3', HG10, HR10, HB10⟩
        case measure => omega
end Go.Proofs.YtlepcmljmibdnaaGreat
namespace Go.Proofs.YtlepcmljmibdnaaGreat
open Go.RowKit Go.Proofs.YtlepcmljmibdnaaGreatW.PrintWords Go.Proofs.YtlepcmljmibdnaaGreatW.PrintLast Go.Proofs.YtlepcmljmibdnaaGreatW.PrintMore PWalOpens
open PStoreRecords (S66 k66 rd_T66 at_T66 z66 k66_mkM)
set_option linter.unusedVariables false
set_option linter.unusedSimpArgs false
end Go.Proofs.YtlepcmljmibdnaaGreat
namespace Go.Proofs.YtlepcmljmibdnaaGreat
open Go.RowKit Go.Proofs.YtlepcmljmibdnaaGreatW.PrintWords Go.Proofs.YtlepcmljmibdnaaGreatW.PrintLast Go.Proofs.YtlepcmljmibdnaaGreatW.PrintMore PWalOpens
open PStoreRecords (S66 k66 rd_T66 at_T66 z66)
set_option linter.unusedVariables false
set_option linter.unusedSimpArgs false
section
variable {w : World} {base B c : Nat} {A : Option Addr}
end
end Go.Proofs.YtlepcmljmibdnaaGreat
namespace Go.Proofs.YtlepcmljmibdnaaGreat
open Go.RowKit Go.Proofs.YtlepcmljmibdnaaGreatW.PrintWords Go.Proofs.YtlepcmljmibdnaaGreatW.PrintLast Go.Proofs.YtlepcmljmibdnaaGreatW.PrintMore PWalOpens
open PStoreRecords (S66 k66 rd_T66 at_T66 z66)
set_option linter.unusedVariables false
set_option linter.unusedSimpArgs false
theorem str_bytesOf (s : ByteArray) : strOfNums (bytesOf s) = s := by
  have h1 := str_list (bytesOf s)
  rw [ByteArray.toList_eq] at h1
  have h2 : (bytesOf s).map (fun n => UInt8.ofNat n.toNat) = s.data.toList := by
    unfold bytesOf
    rw [List.map_map]
    conv => rhs; rw [← List.map_id s.data.toList]
    apply List.map_congr_left
    intro b _
    simp
  rw [h2] at h1
  exact ByteArray.ext (Array.ext' h1)
theorem bytesOf_bytes (s : ByteArray) : isBytes (bytesOf s) := by
  intro x hx
  unfold bytesOf at hx
  obtain ⟨b, _, rfl⟩ := List.mem_map.1 hx
  have := b.toNat_lt
  omega
theorem flag_enc (is : Bool) : flagB is = encN (if is then 1 else 0) := by
  cases is <;> simp [flagB, encN]
theorem rdB_text (b r : List Int) (h : b.length ≤ 60000) : rdB (textB b ++ r) false 60000 = (b, r, false) := by
  unfold rdB textB
  rw [List.append_assoc, rdN_enc (b.length : Int) 60000 (b ++ r) (by omega) (by omega) (by omega)]
  simp only
  rw [if_neg (by rw [List.length_append]; simp; omega), Int.toNat_natCast]
  simp
theorem rdN_flag (is : Bool) (r : List Int) : rdN (flagB is ++ r) false 1 = ((if is then 1 else 0), r, false) := by
  rw [flag_enc]
  cases is
  · exact rdN_enc 0 1 r (by omega) (by omega) (by omega)
  · exact rdN_enc 1 1 r (by omega) (by omega) (by omega)
def normP (p : S66) : S66 := ⟨p.f0, if p.f2 then [] else p.f1, p.f2⟩
theorem rdPut_put (p : S66) (r : List Int) (h : p.f0.size ≤ 60000 ∧ p.f1.length ≤ 60000) : rdPut (putB p ++ r) false = (normP p, r, false) := by
  unfold rdPut putB
  rw [List.append_assoc, List.append_assoc, rdB_text (bytesOf p.f0) _ (by rw [bytesOf_length]; exact h.1)]
  try simp only
  rw [rdN_flag]
  try simp only
  rw [rdB_text _ r (by split <;> first | exact h.2 | simp), str_bytesOf]
  unfold normP
  cases p.f2 <;> simp
theorem ofGo_puts : ∀ (l : List S66) (r : List Int) (acc : List S66), (∀ p ∈ l, p.f0.size ≤ 60000 ∧ p.f1.length ≤ 60000) → ofGo l.length (l.flatMap putB ++ r) false acc = some (acc ++ l.map normP, r, false)
  | [], r, acc, h => by simp [ofGo]
  | p :: l, r, acc, h => by
    have hp := rdPut_put p (l.flatMap putB ++ r) (h p (by simp))
    rw [List.flatMap_cons, List.append_assoc, List.length_cons]
    rw [show ofGo (l.length + 1) (putB p ++ (l.flatMap putB ++ r)) false acc = if (rdPut (putB p ++ (l.flatMap putB ++ r)) false).1.f2 = true ∧ 0 < (rdPut (putB p ++ (l.flatMap putB ++ r)) false).1.f1.length then none else ofGo l.length (rdPut (putB p ++ (l.flatMap putB ++ r)) false).2.1 (rdPut (putB p ++ (l.flatMap putB ++ r)) false).2.2 (acc ++ [(rdPut (putB p ++ (l.flatMap putB ++ r)) false).1]) from rfl, hp]
    simp only
    rw [if_neg (by unfold normP; intro h; obtain ⟨h1, h2⟩ := h; simp only at h1 h2; rw [if_pos h1] at h2; simp at h2), ofGo_puts l r _ (fun q hq => h q (by simp [hq]))]
    simp
theorem sofP_rec (all : Bool) (l : List S66) (hl : l.length ≤ 4096) (h : ∀ p ∈ l, p.f0.size ≤ 60000 ∧ p.f1.length ≤ 60000) : sofP (recB all l) = (all, l.map normP, 0) := by
  have e0 : recB all l = flagB all ++ (encN (l.length : Int) ++ (l.flatMap putB ++ [])) := by
    unfold recB recH
    rw [List.take_length, List.append_nil, List.append_assoc]
  have e1 : ofHd (recB all l) = ((if all then 1 else 0), encN (l.length : Int) ++ (l.flatMap putB ++ []), false) := by
    unfold ofHd
    rw [e0, rdN_flag]
  have e2 : ofCt (recB all l) = ((l.length : Int), l.flatMap putB ++ [], false) := by
    unfold ofCt
    rw [e1]
    exact rdN_enc (l.length : Int) 4096 _ (by omega) (by omega) (by omega)
  have e3 : ofGo (ofCt (recB all l)).1.toNat (ofCt (recB all l)).2.1 (ofCt (recB all l)).2.2 [] = some (l.map normP, [], false) := by
    rw [e2]
    simp only [Int.toNat_natCast]
    rw [ofGo_puts l [] [] h]
    simp
  rw [sofP_late e3, if_neg (by simp), e1]
  cases all <;> simp
theorem putB_bytes (p : S66) (hp : isBytes p.f1) : isBytes (putB p) := by
  have ht : ∀ b, isBytes b → isBytes (textB b) := fun b hb x hx => by
    unfold textB at hx
    rcases List.mem_append.1 hx with h | h
    · exact encN_bytes _ (by omega) x h
    · exact hb x h
  intro x hx
  unfold putB at hx
  rcases List.mem_append.1 hx with h | h
  · exact ht _ (bytesOf_bytes _) x h
  · rcases List.mem_append.1 h with h | h
    · unfold flagB at h
      rw [List.mem_singleton] at h
      rw [h]
      split <;> omega
    · refine ht _ ?_ x h
      split
      · exact fun x hx => by cases hx
      · exact hp
theorem recB_bytes (all : Bool) (l : List S66) (h : ∀ p ∈ l, isBytes p.f1) : isBytes (recB all l) := by
  intro x hx
  unfold recB recH at hx
  rw [List.take_length] at hx
  rcases List.mem_append.1 hx with hx | hx
  · rcases List.mem_append.1 hx with hx | hx
    · unfold flagB at hx
      rw [List.mem_singleton] at hx
      rw [hx]
      split <;> omega
    · exact encN_bytes _ (by omega) x hx
  · obtain ⟨p, hp, hx⟩ := List.mem_flatMap.1 hx
    exact putB_bytes p (h p hp) x hx
end Go.Proofs.YtlepcmljmibdnaaGreat
namespace Go.Fork
open Go.RowKit Go.Calm
section
variable {P : Program} {ops : Array Oper} {ro : Option Nat} {n : Nat}
def NoOut (Q : Exit → Act → World → Prop) : Exit → Act → World → Prop
  | .outgrown, _, _ => False
  | e, a, w => Q e a w
theorem noOut {Q : Exit → Act → World → Prop} {a : Act} {w : World} (h : Q .normal a w) : NoOut Q .normal a w := h
theorem not_out (Q : Exit → Act → World → Prop) : ¬ LetsOut (NoPanic (NoOut Q)) := fun ⟨_, _, h⟩ => h
theorem uponIn_of {o : Oper} {a : Act} {next next' : Act → World → Prop} {Q : Exit → Act → World → Prop} (hn : ∀ a w, next a w → next' a w) {r : Result Next} (h : o.upon P a next Q r) : o.uponIn { Fence.wide with round := ro } n P a next' Q r := by
  cases r with
  | ok x w' =>
    cases x <;> simp only [Oper.upon, Oper.uponIn] at h ⊢ <;>
      first
        | exact hn _ _ h
        | exact ⟨by simp [Fence.wide], (show CallsIn Fence.wide _ _ _ _ _ _ from callsIn_wide.2 (h.mono fun e w'' he => by cases e <;> first | exact hn _ _ he | exact he))⟩
        | exact ⟨by simp [Fence.wide], fun c cs _ => let ⟨v, w'', r, s⟩ := h c cs; ⟨v, w'', hn _ _ r, stepsIn_wide.2 s⟩⟩
        | exact h.elim
  | halt x w' => cases x <;> simp only [Oper.upon, Oper.uponIn] at h ⊢ <;> exact h
theorem wpOpsIn_of {Q : Exit → Act → World → Prop} (hQ : ¬ LetsOut Q) (hd : ∀ (i : Nat) (o : Oper) c, ops[i]? = some o → o.op ≠ .defer c) : ∀ (is : List Nat) (a : Act) (w : World), wpOps P ops Q is a w → wpOpsIn { Fence.wide with round := ro } n P ops Q is a w
  | [], _, _, h => h
  | i :: rest, a, w, h => by
    simp only [wpOps, wpOpsIn] at h ⊢
    cases ho : ops[i]? with
    | none => simp only [ho] at h ⊢; exact wpOpsIn_of hQ hd rest a w h
    | some o =>
      simp only [ho] at h ⊢
      by_cases hw : Region.wanted o (yielded ops a.tmps) = true
      · rw [if_pos hw] at h ⊢
        rcases h with h | h
        · refine ⟨fun _ _ => trivial, ?_⟩
          rw [Oper.semAt_eq _ _ _ (fun c => hd i o c ho)]
          exact uponIn_of (wpOpsIn_of hQ hd rest) h
        · exact absurd h.2 hQ
      · rw [if_neg hw] at h ⊢
        exact ⟨fun _ _ => trivial, wpOpsIn_of hQ hd rest _ w h⟩
def noDefer (ops : List Oper) : Bool := ops.all fun o => match o.op with
  | .defer _ => false
  | _ => true
theorem noDefer_spec {os : List Oper} (h : noDefer os = true) (i : Nat) (o : Oper) c (hi : os.toArray[i]? = some o) : o.op ≠ .defer c := by
  intro hc
  have hm : o ∈ os := by
    rw [List.getElem?_toArray] at hi
    exact List.mem_of_getElem? hi
  have := List.all_eq_true.1 h o hm
  rw [hc] at this
  cases this
end
section
variable {P : Program} {ro : Option Nat} {n : Nat} {Q : Exit → Act → World → Prop}
theorem wpIn_forkR {id : Nat} {a : Act} {w : World} {os : List Oper} {G : World → World → Prop} (hG : Rel G) (xs ys : List Nat) (t : Tr) (hm : P.follows .mixedOrders = true)
    (hB : (Region.noSelect os.toArray && t.len == os.length && okT .any os.toArray xs ys (Array.replicate os.length false) t && noDefer os) = true)
    (h : wpT P os.toArray (NoPanic (NoOut Q)) G xs ys t a w.drew) : (Code.region id os.toArray true).wpIn { Fence.wide with round := ro } n P Q a w := by
  simp only [Bool.and_eq_true, beq_iff_eq] at hB
  obtain ⟨hB, hd⟩ := hB
  have h0 : (Code.region id os.toArray true).wpIn { Fence.wide with round := ro } n P (NoPanic (NoOut Q)) a w := by
    refine wpIn_region_draw fun t' => wpOpsIn_of (not_out Q) (noDefer_spec hd) _ _ _ ?_
    simp only [Region.schedule, hm, Bool.true_or, if_true]
    have h1 := anyG_of_wpT (md := .any) hG hB.1.1 (fun c a w hp => hp) t (Array.replicate os.length false) a w.drew (closed_none _) hB.2 h
    have h2 := wpAny_of_G _ _ _ _ h1
    rw [hB.1.2] at h2
    exact wpAny_sound os.toArray.size t' _ a _ (by simpa using h2)
  exact Code.wpIn_mono (fun e a w h => by cases e <;> first | exact h | exact (h : False).elim) h0
theorem wpIn_fork {l : Nat} {id : Nat} {a : Act} {w : World} {os : List Oper} {G : World → World → Prop} (hG : Rel G) (xs ys : List Nat) (t : Tr) (hm : P.follows .mixedOrders = true)
    (hB : (Region.noSelect os.toArray && t.len == os.length && okT .any os.toArray xs ys (Array.replicate os.length false) t && noDefer os) = true)
    (h : wpT P os.toArray (NoPanic (NoOut Q)) G xs ys t a w.drew) : (Code.region id os.toArray true).wpIn (Fence.wide.inRound l) n P Q a w := wpIn_forkR (ro := some l) hG xs ys t hm hB h
theorem wpIn_fork0 {id : Nat} {a : Act} {w : World} {os : List Oper} {G : World → World → Prop} (hG : Rel G) (xs ys : List Nat) (t : Tr) (hm : P.follows .mixedOrders = true)
    (hB : (Region.noSelect os.toArray && t.len == os.length && okT .any os.toArray xs ys (Array.replicate os.length false) t && noDefer os) = true)
    (h : wpT P os.toArray (NoPanic (NoOut Q)) G xs ys t a w.drew) : (Code.region id os.toArray true).wpIn Fence.wide n P Q a w := wpIn_forkR (ro := none) hG xs ys t hm hB h
end
end Go.Fork
namespace Go.Proofs.YtlepcmljmibdnaaGreat
open Go.RowKit Go.Proofs.YtlepcmljmibdnaaGreatW.PrintWords Go.Proofs.YtlepcmljmibdnaaGreatW.PrintLast Go.Proofs.YtlepcmljmibdnaaGreatW.PrintMore PWalOpens
set_option linter.unusedVariables false
set_option linter.unusedSimpArgs false
attribute [local go_sem] Oper.semAt_some
theorem chunk_calls (w : World) (A : Option Addr) (n c : Nat) :
    Calls Tryz.prog 106 #[.slice A n c, .int .i64 64] w fun e w' => e = .returned (.func (.func 137) #[] #[.pointer (some ⟨w.heap.size, 0, none⟩), .pointer (some ⟨w.heap.size + 1, 0, none⟩)]) ∧
      w' = (w.alloc (.cells #[.slice A n c] 58)).alloc (.cells #[.int .i64 64] 3) := by
  go_enter Tryz.func106, Tryz.ntmps106
  go_wp2
  exact bodyPost_ret (results_tmp rfl _ _ _) rfl ⟨rfl, rfl⟩
def cutV (ad : Addr) (N i : Nat) : Value := .slice (some (ad.add (64 * i))) (min 64 (N - 64 * i)) (min 64 (N - 64 * i))
def KpX (X : Nat) (c1 c2 : Obj) (W W' : World) : Prop := (W.heap[X]? = some c1 → W'.heap[X]? = some c1) ∧ (W.heap[X + 1]? = some c2 → W'.heap[X + 1]? = some c2)
def boxS (ad : Addr) (N c : Nat) : Obj := .cells #[.slice (some ad) N c] 58
def boxN : Obj := .cells #[.int .i64 64] 3
theorem box_cell {w : World} {b : Nat} {v : Value} {t : Nat} (h : w.heap[b]? = some (.cells #[v] t)) : w.cell? ⟨b, 0, none⟩ = some v := by
  unfold World.cell?
  simp [h]
set_option maxRecDepth 100000 in
set_option maxHeartbeats 2000000 in
theorem chunk_in (n : Nat) (hn : 1 ≤ n) (l X N c : Nat) (ad : Addr) (hN : 0 < N ∧ N ≤ 1000000) (hc : N ≤ c) (J Jx : List (Fin ((N + 63) / 64)) → World → Prop) (W : World)
    (hd : ∀ pre W, J pre W → J pre W.drew)
    (hY : ∀ pre (x : Fin ((N + 63) / 64)) W, J pre W → pre.length < (N + 63) / 64 → YieldAt Fence.wide (n - 1) Tryz.prog l #[cutV ad N x.val] W fun e W' =>
      (e = .returned (.bool true) ∧ J (pre ++ [x]) W' ∧ KpX X (boxS ad N c) boxN W W') ∨ (e = .returned (.bool false) ∧ Jx (pre ++ [x]) W'))
    (h1 : W.heap[X]? = some (boxS ad N c)) (h2 : W.heap[X + 1]? = some boxN) (h0 : J [] W) :
    CallsIn Fence.wide n Tryz.prog 137 #[.func (.yield l) #[] #[], .pointer (some ⟨X, 0, none⟩), .pointer (some ⟨X + 1, 0, none⟩)] W fun e W' => (∃ v, e = .returned v) ∧
      ((∃ ys, ys = List.finRange ((N + 63) / 64) ∧ J ys W') ∨ (∃ pre, (∃ k, pre = (List.finRange ((N + 63) / 64)).take k) ∧ Jx pre W')) := by
  obtain ⟨K, hK⟩ : ∃ K, (N + 63) / 64 = K := ⟨_, rfl⟩
  revert J Jx
  rw [hK]
  intro J Jx hd hY h0
  refine callsIn_of_wp Tryz.func137 rfl trivial ?_ rfl
  simp only [Tryz.ntmps137, List.size_toArray, List.length_cons, List.length_nil, Nat.reduceAdd, Nat.reduceSub, Array.replicate_succ, Array.replicate_zero, List.push_toArray, List.append_toArray, List.nil_append, List.cons_append]
  gi_wp2
  gi_loopw [4] (fun i wr => ∃ k : Nat, k ≤ K ∧ i = .int .i64 (64 * (k : Int)) ∧ J ((List.finRange K).take k) wr ∧ wr.heap[X]? = some (boxS ad N c) ∧ wr.heap[X + 1]? = some boxN)
    (fun i _ => 64 * K - (intOf i).toNat)
  case atStart => exact ⟨0, Nat.zero_le _, rfl, h0, h1, h2⟩
  case round =>
    obtain ⟨k, hk, rfl, hJs, hx1, hx2⟩ := hrel
    have hc1 : wr.cell? ⟨X, 0, none⟩ = some (.slice (some ad) N c) := box_cell hx1
    have hc2 : wr.cell? ⟨X + 1, 0, none⟩ = some (.int .i64 64) := box_cell hx2
    by_cases hlt : k < K
    · have hlt' : decide (64 * (k : Int) < (N : Int)) = true := by simp; omega

      obtain ⟨m, hm⟩ : ∃ m, min 64 (N - 64 * k) = m := ⟨_, rfl⟩
      have hm0 : 1 ≤ m ∧ m ≤ 64 ∧ m ≤ N - 64 * k := by omega
      have HT : (64 * (k : Int)).toNat = 64 * k := by omega
      have HM : (if ((N - 64 * k : Nat) : Int) < 64 then ((N - 64 * k : Nat) : Int) else 64) = (m : Int) := by split <;> omega
      obtain ⟨fn, tmps, assign, body, hy, hR⟩ := hY _ ⟨k, hlt⟩ wr.drew (hd _ _ hJs) (by rw [List.length_take, List.length_finRange]; omega)
      rw [show cutV ad N (⟨k, hlt⟩ : Fin K).val = .slice (some (ad.add (64 * k))) m m from by unfold cutV; simp only [hm]] at hy
      gi_wp2
      refine Fork.wpIn_fork0 (Fork.Lo.rel 0) [] [] (.one 2 0 (.one 0 1 (.one 1 1 (.one 3 0 (.one 4 0 (.one 5 0 (.one 6 0 .nil))))))) (by kernel_rfl) (by kernel_rfl) ?_
      generalize hops : List.toArray (_ : List Oper) = ops
      have HO := Aside0.mk hops
      clear hops
      ((refine Fork.plain (Fork.at_ HO.out rfl) _ rfl (fun W => by go_simp; exact rfl) ?_); simp only [Act.put, List.setIfInBounds_toArray, List.set_cons_succ, List.set_cons_zero])
      refine Fork.reads (Fork.at_ HO.out rfl) _ rfl (fun W hW => Arr.ex_load1 rfl rfl (by kernel_rfl) (Fork.bel_cell hW (by assumption))) ?_
      simp only [Act.put, List.setIfInBounds_toArray, List.set_cons_succ, List.set_cons_zero]
      refine Fork.reads (Fork.at_ HO.out rfl) _ rfl (fun W hW => Arr.ex_load1 rfl rfl (by kernel_rfl) (Fork.bel_cell hW (by assumption))) ?_
      simp only [Act.put, List.setIfInBounds_toArray, List.set_cons_succ, List.set_cons_zero]
      refine Fork.plain (Fork.at_ HO.out rfl) _ rfl (fun W => by go_simp; rw [if_pos ⟨by omega, by omega⟩, if_neg (by omega)]) ?_
      simp only [Act.put, List.setIfInBounds_toArray, List.set_cons_succ, List.set_cons_zero]
      iterate 3 ((refine Fork.plain (Fork.at_ HO.out rfl) _ rfl (fun W => by go_simp; exact rfl) ?_); simp only [Act.put, List.setIfInBounds_toArray, List.set_cons_succ, List.set_cons_zero])
      refine Fork.done ?_
      refine Fork.noOut ?_
      gi_wp2
      refine hR.mono ?_
      rintro e W3 (⟨rfl, hJ3, hk3⟩ | ⟨rfl, hJx3⟩)
      · have y1 := hk3.1 hx1
        have y2 := hk3.2 hx2
        have yc1 := box_cell y1
        have yc2 := box_cell y2
        gi_wp2
        go_roundw
        case rel => exact ⟨k + 1, by omega, by congr 1, by rw [List.take_succ_eq_append_getElem (by simpa using hlt)]; simpa using hJ3, y1, y2⟩
        case measure => simp [intOf]; omega
      · gi_wp2
        refine bodyPost_ret (results_none rfl _ _ _) rfl ?_
        exact ⟨⟨_, rfl⟩, .inr ⟨_, ⟨k + 1, by rw [List.take_succ_eq_append_getElem (by simpa using hlt)]; simp⟩, hJx3⟩⟩
    · have hlt' : decide (64 * (k : Int) < (N : Int)) = false := by simp; omega
      obtain rfl : k = K := by omega
      gi_wp2
      go_end0
      exact ⟨⟨_, rfl⟩, .inl ⟨_, rfl, by rw [List.take_of_length_le (by simp)] at hJs; exact hJs⟩⟩
theorem grown_drew (w : World) : w.grownBy w.drew none := ⟨rfl, rfl, rfl, Nat.le_refl _, fun _ _ _ => rfl⟩
theorem chunk_stops (n : Nat) (hn : 1 ≤ n) (X N c : Nat) (ad : Addr) (hN : 0 < N ∧ N ≤ 1000000) (hc : N ≤ c) (w : World) (h1 : w.heap[X]? = some (boxS ad N c)) (h2 : w.heap[X + 1]? = some boxN) :
    SeqStopsK Fence.wide n Tryz.prog 137 #[.pointer (some ⟨X, 0, none⟩), .pointer (some ⟨X + 1, 0, none⟩)] (fun x : Fin ((N + 63) / 64) => #[cutV ad N x.val]) (KpX X (boxS ad N c) boxN) (fun ys => ys = List.finRange ((N + 63) / 64)) (fun pre => ∃ k, pre = (List.finRange ((N + 63) / 64)).take k) ((N + 63) / 64) w := by
  intro l J Jx W hW hJ hJx hY h0
  exact chunk_in n hn l X N c ad hN hc J Jx W (fun pre W' h => hJ pre W' W'.drew none h (grown_drew W') (fun r e => by cases e)) hY
    ((hW.block X (Array.getElem?_eq_some_iff.1 h1).1).trans h1) ((hW.block (X + 1) (Array.getElem?_eq_some_iff.1 h2).1).trans h2) h0
theorem kpX_t {X : Nat} {c1 c2 : Obj} {a b c : World} (h : KpX X c1 c2 a b) (k : KpX X c1 c2 b c) : KpX X c1 c2 a c := ⟨fun e => k.1 (h.1 e), fun e => k.2 (h.2 e)⟩
theorem kpX_b {X : Nat} {ad : Addr} {N c : Nat} (W : World) (l : Nat) (o o' : Obj) (ho : W.heap[l]? = some o) (hc : o.isCells = false) : KpX X (boxS ad N c) boxN W (W.putObj l o') := by
  have hput : ∀ k, k ≠ l → (W.putObj l o').heap[k]? = W.heap[k]? := fun k hk => by
    simp only [World.putObj]
    rw [Array.getElem?_setIfInBounds_ne (by omega)]
  refine ⟨fun e => ?_, fun e => ?_⟩
  · rw [hput X (fun e' => by subst e'; rw [ho] at e; cases e; cases hc)]; exact e
  · rw [hput (X + 1) (fun e' => by subst e'; rw [ho] at e; cases e; cases hc)]; exact e
theorem kpX_keep {X : Nat} {c1 c2 : Obj} {a b : World} (h1 : b.heap[X]? = a.heap[X]?) (h2 : b.heap[X + 1]? = a.heap[X + 1]?) : KpX X c1 c2 a b := ⟨fun e => h1.trans e, fun e => h2.trans e⟩
end Go.Proofs.YtlepcmljmibdnaaGreat
namespace Go.Proofs.YtlepcmljmibdnaaGreat
open Go.RowKit Go.Proofs.YtlepcmljmibdnaaGreatW.PrintWords Go.Proofs.YtlepcmljmibdnaaGreatW.PrintLast Go.Proofs.YtlepcmljmibdnaaGreatW.PrintMore PWalOpens
attribute [local go_sem] max2_int min2_int max_two min_two
set_option linter.unusedVariables false
set_option linter.unusedSimpArgs false
section
variable {w : World} {Wb B M Bd : Nat} {vc vs : Value} {D : PD} {gen head tail : Int} {made over : Bool}
/-- a wal's block, its starts whatever -/
def WlC (w : World) (Wb B : Nat) (gen head tail : Int) (vs : Value) (made over : Bool) : Prop :=
  w.heap[Wb]? = some (.cells #[.pointer (some ⟨B, 0, none⟩), .int .u64 gen, .int .u64 head, .int .u64 tail, vs, .bool made, .bool over] 102 (0, 0))
theorem wok_calls (h : WlC w Wb B gen head tail vs made over) : Calls Tryz.prog 54 #[.pointer (some ⟨Wb, 0, none⟩)] w fun e w' => e = .returned (.bool (made && !over)) ∧ w = w' := by
  obtain ⟨⟨q0, q1, q2, q3, q4, q5, q6⟩, _⟩ := cells7 h
  cases made <;> cases over <;>
  · go_enter Tryz.func54, Tryz.ntmps54
    go_wp2
    go_ret
    exact ⟨rfl, rfl⟩
theorem wfree_calls (r f : Int) (hr : ringP D = r) (hf : r - (tail - head) = f) (ht : 0 ≤ head ∧ head ≤ tail ∧ tail < 18446744073709551616 ∧ tail - head ≤ 4094) (h : WlC w Wb B gen head tail vs true over) (hd : DK w 0 B M Bd vc D) :
    Calls Tryz.prog 28 #[.pointer (some ⟨Wb, 0, none⟩)] w fun e w' => e = .returned (.int .i64 f) ∧ w' = w.drew := by
  subst hf
  have HR := Aside0.mk (ring_calls w.drew 0 B M Bd vc D r hr (hd.chg (.of_below (Below.refl _ _).drew)))
  obtain ⟨⟨q0, q1, q2, q3, q4, q5, q6⟩, _⟩ := cells7 h
  obtain ⟨t0, t1, t2, t3⟩ := ht
  have r0 : 0 ≤ r ∧ r ≤ 4094 := by rw [← hr]; exact ringP_le hd
  obtain ⟨r0, r1⟩ := r0
  have u0 : 0 ≤ tail - head := by omega
  have u1 : tail - head ≤ 4094 := by omega
  have W1 := Aside0.mk (show IntKind.u64.wrap (tail - head) = tail - head from IntWalk.u64_in _ (by omega))
  have W2 := Aside0.mk (show IntKind.i64.wrap (tail - head) = tail - head from IntWalk.i64_in _ (by omega))
  have W3 := Aside0.mk (show IntKind.i64.wrap (r - (tail - head)) = r - (tail - head) from IntWalk.i64_in _ (by omega))
  clear hr hd h
  go_enter Tryz.func28, Tryz.ntmps28
  go_wp2
  refine Fork.wp_fork (Fork.Lo.rel 0) [] [] (.one 0 0 (.one 1 0 (.one 2 0 (.one 5 0 (.one 6 0 (.one 7 0 (.one 9 0 (.one 10 0 (.one 11 0 (.one 3 1 (.one 8 1 (.one 12 1 (.one 13 0 (.one 14 0 (.one 4 2 (.one 15 0 (.one 16 0 .nil))))))))))))))))) (by kernel_rfl) (by kernel_rfl) ?_
  generalize hops : List.toArray (_ : List Oper) = ops
  have HO := Aside0.mk hops
  clear hops
  iterate 9 ((refine Fork.plain (Fork.at_ HO.out rfl) _ rfl (fun W => by go_simp; exact rfl) ?_); simp only [Act.put, List.setIfInBounds_toArray, List.set_cons_succ, List.set_cons_zero])
  refine Fork.reads (Fork.at_ HO.out rfl) _ rfl (fun W hW => Arr.ex_load1 rfl rfl (by kernel_rfl) (Fork.bel_cell hW (by assumption))) ?_
  simp only [Act.put, List.setIfInBounds_toArray, List.set_cons_succ, List.set_cons_zero]
  refine Fork.reads (Fork.at_ HO.out rfl) _ rfl (fun W hW => Arr.ex_load1 rfl rfl (by kernel_rfl) (Fork.bel_cell hW (by assumption))) ?_
  simp only [Act.put, List.setIfInBounds_toArray, List.set_cons_succ, List.set_cons_zero]
  refine Fork.reads (Fork.at_ HO.out rfl) _ rfl (fun W hW => Arr.ex_load1 rfl rfl (by kernel_rfl) (Fork.bel_cell hW (by assumption))) ?_
  simp only [Act.put, List.setIfInBounds_toArray, List.set_cons_succ, List.set_cons_zero]
  iterate 2 ((refine Fork.plain (Fork.at_ HO.out rfl) _ rfl (fun W => by go_simp; exact rfl) ?_); simp only [Act.put, List.setIfInBounds_toArray, List.set_cons_succ, List.set_cons_zero])
  refine Fork.step (Fork.at_ HO.out rfl) (fun K hK => ?_)
  go_simp
  refine HR.out.mono ?_
  rintro e w' ⟨rfl, rfl⟩
  refine hK _ _ (.of_new (Below.refl _ _) (Nat.zero_le _)) ?_
  clear hK K
  try simp only [Act.put, List.setIfInBounds_toArray, List.set_cons_succ, List.set_cons_zero]
  iterate 2 ((refine Fork.plain (Fork.at_ HO.out rfl) _ rfl (fun W => by go_simp; exact rfl) ?_); simp only [Act.put, List.setIfInBounds_toArray, List.set_cons_succ, List.set_cons_zero])
  refine Fork.done ?_
  go_wp2
  go_ret
  rw [W1.out, W2.out, W3.out]
  exact ⟨rfl, rfl⟩
theorem wend_same (x : Int) (hx : x = 2 ∨ x = 51) : Calls Tryz.prog 56 #[.pointer (some ⟨Wb, 0, none⟩), .int .i64 x] w fun e w' => e = .returned (.int .i64 x) ∧ w = w' := by
  rcases hx with rfl | rfl <;>
  · go_enter Tryz.func56, Tryz.ntmps56
    go_wp2
    go_ret
    exact ⟨rfl, rfl⟩
theorem wend_over (x : Int) (hx : x ≠ 2 ∧ x ≠ 51) (h : WlC w Wb B gen head tail vs made over) : Calls Tryz.prog 56 #[.pointer (some ⟨Wb, 0, none⟩), .int .i64 x] w fun e w' => e = .returned (.int .i64 50) ∧ w' = w.setCell ⟨Wb, 6, none⟩ (.bool true) := by
  obtain ⟨⟨q0, q1, q2, q3, q4, q5, q6⟩, k2, k4, k5, k6⟩ := cells7 h
  have h1 : (x != 2) = true := by simp; exact hx.1
  have h2 : (x != 51) = true := by simp; exact hx.2
  have h3 : (x == 2) = false := by simp; exact hx.1
  have h4 : (x == 51) = false := by simp; exact hx.2
  go_enter Tryz.func56, Tryz.ntmps56
  go_wp2
  go_ret
  exact ⟨rfl, rfl⟩
theorem WlC.overed (h : WlC w Wb B gen head tail vs made over) : WlC (w.setCell ⟨Wb, 6, none⟩ (.bool true)) Wb B gen head tail vs made true := by
  unfold WlC at h ⊢
  exact set7 h 6 _
end
end Go.Proofs.YtlepcmljmibdnaaGreat
