/- Parts of one proof, joined: Qm, Xk, Qn, Zd, Zm, Zo, Zp, Zq, Zr, Zs. Conditions: those of each statement. -/
import Derived.Test.YtlepcmljmibdnaaGreatSr10
import Derived.Test.YtlepcmljmibdnaaGreatSr7
import Derived.Deep.DeepCutAuto
import Derived.Shelf.SlMaps.Clone
namespace Go.Proofs.YtlepcmljmibdnaaGreat
open Go.RowKit Go.Proofs.YtlepcmljmibdnaaGreatW.PrintWords Go.Proofs.YtlepcmljmibdnaaGreatW.PrintLast Go.Proofs.YtlepcmljmibdnaaGreatW.PrintMore PWalOpens
set_option linter.unusedVariables false
set_option linter.unusedSimpArgs false
/-- a deed, on both sides -/
def Deed2 (w0 : World) (D : PD) (X : RX) (r gen head tail : Int) (S : List Int) (L : List Rec) (over : Bool) (f g : Nat) (args : List Value) : Prop :=
  ∃ D' X' code gen' head' tail' S' L' over' R', Live D' X' r gen' head' tail' S' L' over' R' ∧ gen' ≤ gen + 1 ∧ tail' ≤ tail + 42 ∧
    (∀ (w : World) (Wb B M Bd : Nat) (vc vs : Value), Below w0.heap.size w0 w → WV w0.heap.size w Wb B M Bd vc vs D gen head tail S over → Calls Tryz.prog f (.pointer (some ⟨Wb, 0, none⟩) :: args).toArray w (WdQ w0.heap.size w Wb B M Bd D' code gen' head' tail' S' over')) ∧
    (∀ (w : World) (Rb R : Nat) (vS vC vB vL : Value), Below w0.heap.size w0 w → RV w0.heap.size w Rb R vS vC vB (.slice none 0 0) vL X gen tail L over → Calls Tryz.prog g (.pointer (some ⟨Rb, 0, none⟩) :: args).toArray w (RdQ w0.heap.size w Rb R vS vB X' code gen' tail' L' over'))
section
variable {w0 : World} {D : PD} {X : RX} {r gen head tail : Int} {S : List Int} {L : List Rec} {over : Bool} {R : List (List Int)}
end
end Go.Proofs.YtlepcmljmibdnaaGreat
namespace Go.Proofs.YtlepcmljmibdnaaGreat
open Go.RowKit Go.Proofs.YtlepcmljmibdnaaGreatW.PrintWords Go.Proofs.YtlepcmljmibdnaaGreatW.PrintLast Go.Proofs.YtlepcmljmibdnaaGreatW.PrintMore PWalOpens
set_option linter.unusedVariables false
set_option linter.unusedSimpArgs false
section
variable {w0 w : World} {B M Bd R : Nat} {vc vS vC vB : Value} {D D' : PD} {X X' : RX}
end
end Go.Proofs.YtlepcmljmibdnaaGreat
namespace Go.Fork
open Go.RowKit Go.Calm
theorem acts {P : Program} {ops : Array Oper} {Q : Exit → Act → World → Prop} {G : World → World → Prop} {xs ys : List Nat} {a : Act} {w : World} {i : Nat} {rest : Tr} {o : Oper} (ho : ops[i]? = some o) (hw : Region.wanted o (yielded ops a.tmps) = true)
    (h : ∀ K : Act → World → Prop, (∀ a' w', Grow G xs ys i w w' → wpT P ops Q G xs ys rest a' w' → K a' w') → o.wp P a w K Q) :
    wpT P ops Q G xs ys (.one i 2 rest) a w := step ho fun K hK => by rw [if_pos hw]; exact h K hK
end Go.Fork
namespace Go.Proofs.YtlepcmljmibdnaaGreat
open Go.RowKit Go.Proofs.YtlepcmljmibdnaaGreatW.PrintWords Go.Proofs.YtlepcmljmibdnaaGreatW.PrintLast Go.Proofs.YtlepcmljmibdnaaGreatW.PrintMore PWalOpens
set_option linter.unusedVariables false
set_option linter.unusedSimpArgs false
/-! ### a deed -/
structure WDeed where
  kind : Int
  l : List (List Int)
  n : Int
  keep : List Bool
def zD : WDeed := ⟨0, [], 0, []⟩
def kD : Kd WDeed := Kd.iso (Kd.pair (Kd.int .i64) (Kd.pair (Kd.slice 58 bytesK) (Kd.pair (Kd.int .i64) (Kd.slice 4 Kd.bool)))) (fun x : WDeed => (x.kind, x.l, x.n, x.keep))
def rd_D (xs : List WDeed) (i : Int) : WDeed := xs.getD i.toNat zD
/-! ### what a deed may change -/
def isWR (M Bd : Nat) (k : Nat) (o : Obj) : Prop := isWD M Bd k o ∨ isRW k o
/-! ### both wals -/
structure Pr (w0 w : World) (Wb B M Bd : Nat) (vc vs : Value) (D : PD) (gen head tail : Int) (S : List Int) (over : Bool) (Rb R : Nat) (vS vC vB vL : Value) (X : RX) (rgen rtail : Int) (L : List Rec) (rover : Bool) : Prop where
  wv : WV w0.heap.size w Wb B M Bd vc vs D gen head tail S over
  rv : RV w0.heap.size w Rb R vS vC vB (.slice none 0 0) vL X rgen rtail L rover
  low : Below w0.heap.size w0 w
section
variable {w0 w w' : World} {Wb B M Bd Rb R : Nat} {vc vs vS vC vB vL : Value} {D D' : PD} {X X' : RX} {gen head tail rgen rtail gen' head' tail' code : Int} {S S' : List Int} {L L' : List Rec} {over rover over' : Bool} {args : List Value} {f : Nat}
end
section
variable {w0 : World} {D : PD} {X : RX} {r gen head tail : Int} {S : List Int} {L : List Rec} {over : Bool} {R : List (List Int)}
end
/-- what holds at the head of each round: v7 .. the slots -/
def DoesI (w : World) (B M Bd R : Nat) (vS vB : Value) (r : Int) (i : Nat) (v7 v8 v9 v12 : Value) (w' : World) : Prop :=
  ∃ (e : Int) (Wb Rb : Nat) (vc vs vC vL : Value) (D : PD) (X : RX) (gen head tail : Int) (S : List Int) (L : List Rec) (over : Bool) (Rl : List (List Int)),
    v7 = .int .i64 e ∧ v8 = .int .i64 e ∧ v9 = .pointer (some ⟨Wb, 0, none⟩) ∧ v12 = .pointer (some ⟨Rb, 0, none⟩) ∧ Aside0 (Live D X r gen head tail S L over Rl) ∧
      Aside0 (Pr w w' Wb B M Bd vc vs D gen head tail S over Rb R vS vC vB vL X gen tail L over) ∧ Aside0 (gen ≤ i ∧ tail ≤ 42 * i)
end Go.Proofs.YtlepcmljmibdnaaGreat
namespace Go.Proofs.YtlepcmljmibdnaaGreat
open Go.RowKit Go.Proofs.YtlepcmljmibdnaaGreatW.PrintWords Go.Proofs.YtlepcmljmibdnaaGreatW.PrintLast Go.Proofs.YtlepcmljmibdnaaGreatW.PrintMore PWalOpens
open PStoreRecords (S66 k66 rd_T66 at_T66 z66)
set_option linter.unusedVariables false
set_option linter.unusedSimpArgs false
theorem tcRelU (b : Nat) : Fork.Rel (TC b (isT 5)) := ⟨TC.refl b _, fun h k => h.trans k⟩
theorem tc_cellU {b : Nat} {T : Nat → Obj → Prop} {w W : World} {g off : Nat} {o : Obj} {v : Value} (hW : TC b T w W) (hb : w.heap[g]? = some o) (hT : ¬ T g o) (hc : w.cell? ⟨g, off, none⟩ = some v) : W.cell? ⟨g, off, none⟩ = some v := by
  have h := hW.blk g o hb hT
  unfold World.cell? at hc ⊢
  rw [hb] at hc
  rw [h]
  exact hc
theorem notU {k : Nat} (c : Array Value) : ¬ isT 5 k (.cells c 66 (0, 0)) := by simp [isT]
theorem RT.tc {w w' : World} {base : Nat} {v v' : Value} {xs ys : List Int} (h : RT w w' base v v' ys) (hR : Kd.R (Kd.int .u8) 5 w base (fun _ => True) v xs) (hb : base ≤ w.heap.size) : TC base (isT 5) w w' :=
  TC.of_chg h.chg hb fun k hk hlt => by
    obtain ⟨inner, ho⟩ := Kd.R_own hR
    obtain ⟨cells, hc⟩ := own_typed ho k hk.symm
    exact ⟨own_base ho k hk.symm, _, hc, by simp [isT]⟩
set_option maxRecDepth 100000 in
set_option maxHeartbeats 4000000 in
theorem rrecord_calls (w : World) (all : Bool) (A : Option Addr) (c : Nat) (l : List S66) (hl : l.length ≤ c) (hs : ∀ p ∈ l, p.f0.size ≤ 60000 ∧ p.f1.length ≤ 60000) (ht : (recB all l).length ≤ 600000) (hC : k66.C w A l.length l) :
    Calls Tryz.prog 35 #[.bool all, .slice A l.length c] w fun e w' => ∃ v', e = .returned v' ∧ Kd.R (Kd.int .u8) 5 w' w.heap.size (fun _ => True) v' (recB all l) ∧ Below w.heap.size w w' := by
  have HC := Aside0.mk hC
  have HS := Aside0.mk hs
  have HT := Aside0.mk ht
  have hm := hC.2.1
  have HF1 := Aside0.mk (rFlag_row (w0 := w) all (Nat.zero_le _) (Below.refl w.heap.size w) (Kd.R_nil _ _ _ _ _))
  have HLN := Aside0.mk (show (0 : Int) ≤ (l.length : Int) ∧ (l.length : Int) < 18446744073709551616 by omega)
  clear hC hs ht
  have hm2 : (l.length : Int) ≤ 9223372036854775807 := by omega
  go_enter Tryz.func35, Tryz.ntmps35
  go_wp2_with (first
    | (go_at_call 80; (with_reducible refine HF1.out.mono ?_); rintro e w1 ⟨v1, rfl, ht⟩; have HT1 := Aside0.mk ht; obtain ⟨A1, n1, c1, rfl⟩ := R_slice3 ht.R; clear ht)
    | (go_at_call 79; (with_reducible refine (rN_row (w0 := w) (l.length : Int) HLN.out.1 (by simp [flagB]) HT1.out.low HT1.out.R).mono ?_); rintro e w2 ⟨v2, rfl, ht⟩; have HT2 := Aside0.mk (HT1.out.trans ht); obtain ⟨A2, n2, c2, rfl⟩ := R_slice3 ht.R; clear ht))
  go_loopg [5, 16] l.length (fun kq v5 v16 w' => ∃ (i : Nat) (A0 : Option Addr) (n0 c0 : Nat), v16 = .int .i64 (i : Int) ∧ v5 = .slice A0 n0 c0 ∧ Aside0 (i + kq = l.length) ∧ Aside0 (Kd.R (Kd.int .u8) 5 w' w.heap.size (fun _ => True) (.slice A0 n0 c0) (recH all l i)) ∧ Aside0 (Below w.heap.size w w'))
  case atStart => exact ⟨0, A2, n2, c2, rfl, rfl, ⟨by omega⟩, ⟨by have := HT2.out.R; unfold recH; rw [List.take_zero]; simpa using this⟩, ⟨HT2.out.low⟩⟩
  case round =>
    clear HT1 HT2 HF1
    obtain ⟨i, A0, n0, c0, rfl, rfl, HI, HK, HB⟩ := hrel
    by_cases hi : i < l.length
    · obtain ⟨ad, A1, c1, e, x0, x1, x2, hl1, hc1⟩ := at_T66 HC.out (i : Int) (by omega) (by omega)
      subst e
      have hx := rd_getT l i hi
      generalize rd_T66 l (i : Int) = x at x0 x1 x2 hl1 hc1 hx
      rw [Int.toNat_natCast] at x0 x1 x2
      replace x0 := (HB.out.cell (World.block_lt_of_cell? w _ x0)).trans x0
      replace x1 := (HB.out.cell (World.block_lt_of_cell? w _ x1)).trans x1
      replace x2 := (HB.out.cell (World.block_lt_of_cell? w _ x2)).trans x2
      have hsz := HS.out x (List.mem_of_getElem? hx)
      have HSUC := Aside0.mk (recH_succ all l i x hx)
      have hlen := recH_len all l (i + 1)
      rw [HSUC.out, List.length_append] at hlen
      have hT := HT.out
      obtain ⟨s, b, gone⟩ := x
      simp only at x0 x1 x2 hl1 hc1 hsz
      have kb := print_bytes (P := Tryz.prog) 9 58 5 Tryz.underlying9 Tryz.underlying58 Tryz.underlying5 s
      have HBL := Aside0.mk (bytesOf_length s)
      have hput : (putB ⟨s, b, gone⟩).length ≤ 600000 - (recH all l i).length := by omega
      have HL1 := Aside0.mk (show (recH all l i).length ≤ 700000 ∧ s.size ≤ 90000 by omega)
      have HL2 := Aside0.mk (show (recH all l i ++ textB (bytesOf s)).length ≤ 1000000 by
        rw [List.length_append]; unfold putB at hput; simp only [List.length_append] at hput; omega)
      have HL3 := Aside0.mk (show (recH all l i ++ textB (bytesOf s) ++ flagB gone).length ≤ 700000 by
        rw [List.length_append, List.length_append]; unfold putB at hput; simp only [List.length_append] at hput; omega)
      have HBS := Aside0.mk (show b.length ≤ 90000 by omega)
      have HCB := Aside0.mk hc1
      obtain ⟨O, hO⟩ : ∃ O, Obj.cells #[.string s, .slice A1 b.length c1, .bool gone] 66 (0, 0) = O := ⟨_, rfl⟩
      have hbel := (Below.alloc (Below.refl wr.heap.size wr) (Nat.le_refl _) (.cells #[.string s, .slice A1 b.length c1, .bool gone] 66)).drew
      have hbox : (wr.alloc (.cells #[.string s, .slice A1 b.length c1, .bool gone] 66)).drew.heap[wr.heap.size]? = some (.cells #[.string s, .slice A1 b.length c1, .bool gone] 66 (0, 0)) := heap_alloc_new wr _
      have HBX := Aside0.mk hbox
      have HY0 := Aside0.mk (show (wr.alloc (.cells #[.string s, .slice A1 b.length c1, .bool gone] 66)).drew.cell? ⟨wr.heap.size, 0, none⟩ = some (.string s) by unfold World.cell?; rw [hbox]; rfl)
      have HY1 := Aside0.mk (show (wr.alloc (.cells #[.string s, .slice A1 b.length c1, .bool gone] 66)).drew.cell? ⟨wr.heap.size, 1, none⟩ = some (.slice A1 b.length c1) by unfold World.cell?; rw [hbox]; rfl)
      have HY2 := Aside0.mk (show (wr.alloc (.cells #[.string s, .slice A1 b.length c1, .bool gone] 66)).drew.cell? ⟨wr.heap.size, 2, none⟩ = some (.bool gone) by unfold World.cell?; rw [hbox]; rfl)
      have HBA := Aside0.mk (HB.out.trans (hbel.mono HB.out.size))
      have HRA := Aside0.mk (RT.refl (Kd.R_below HK.out hbel))
      have HBW := Aside0.mk (HBA.out.trans ((bytes_below1 (wr.alloc (.cells #[.string s, .slice A1 b.length c1, .bool gone] 66)).drew s).mono HBA.out.size))
      have HRB := Aside0.mk (HRA.out.fresh (bytes_below1 _ s) HBA.out.size)
      have HNF := Aside0.mk (show ∀ w', Chg (Lib.bytesWorld (wr.alloc (.cells #[.string s, .slice A1 b.length c1, .bool gone] 66)).drew 5 s) w' (fun k => some k = (Value.slice A0 n0 c0).ownBlock) → (Kd.int .u8).C w' (some ⟨wr.heap.size + 1, 0, none⟩) s.size (bytesOf s) from fun w' hc => by
        have hlt : ¬ some (wr.alloc (.cells #[.string s, .slice A1 b.length c1, .bool gone] 66)).drew.heap.size = (Value.slice A0 n0 c0).ownBlock := fun h => by
          obtain ⟨inner, ho⟩ := Kd.R_own HRA.out.R
          exact absurd (own_lt ho _ h.symm) (Nat.lt_irrefl _)
        have := bytes_C (by omega) hlt hc
        rwa [bytesOf_length, show (wr.alloc (.cells #[.string s, .slice A1 b.length c1, .bool gone] 66)).drew.heap.size = wr.heap.size + 1 from alloc_size _ _] at this)
      clear hlen hT hput hsz hx hc1 hbel hl1 hbox hO O
      go_wp2
      refine Fork.wp_fork (tcRelU w.heap.size) [3, 4, 7] [] (.one 0 0 (.one 1 0 (.one 5 0 (.one 2 3 (.one 6 3 (.one 3 2 (.one 4 2 (.one 7 2 (.one 8 0 .nil))))))))) (by kernel_rfl) (by kernel_rfl) ?_
      generalize hops : List.toArray (_ : List Oper) = ops
      have HO := Aside0.mk hops
      clear hops
      iterate 3 ((refine Fork.plain (Fork.at_ HO.out rfl) _ rfl (fun W => by go_simp; exact rfl) ?_); simp only [Act.put, List.setIfInBounds_toArray, List.set_cons_succ, List.set_cons_zero])
      refine Fork.olds (Fork.at_ HO.out rfl) _ rfl (fun W hW => Arr.ex_load1 rfl rfl (by kernel_rfl) (tc_cellU hW HBX.out (notU _) HY0.out)) ?_
      simp only [Act.put, List.setIfInBounds_toArray, List.set_cons_succ, List.set_cons_zero]
      refine Fork.olds (Fork.at_ HO.out rfl) _ rfl (fun W hW => Arr.ex_load1 rfl rfl (by kernel_rfl) (tc_cellU hW HBX.out (notU _) HY2.out)) ?_
      simp only [Act.put, List.setIfInBounds_toArray, List.set_cons_succ, List.set_cons_zero]
      refine Fork.step (Fork.at_ HO.out rfl) (fun K hK => ?_)
      go_simp
      refine hK _ _ (.of_old (TC.of_below (bytes_below1 _ s) HBA.out.size) rfl) ?_
      clear hK K
      try simp only [Act.put, List.setIfInBounds_toArray, List.set_cons_succ, List.set_cons_zero]
      refine Fork.step (Fork.at_ HO.out rfl) (fun K hK => ?_)
      go_simp
      refine (rB_row (w0 := w) (bytesOf s) _ s.size _ HBL.out HL1.out HBW.out HRB.out.R HNF.out).mono ?_
      rintro r w5 ⟨v5, rfl, ht⟩
      refine hK _ _ (.of_old (ht.tc HRB.out.R HBW.out.size) rfl) ?_
      clear hK K
      have HT5 := Aside0.mk (HRB.out.trans ht)
      have HB5 := Aside0.mk (HBW.out.trans ht.low)
      obtain ⟨A5, n5, c5, rfl⟩ := R_slice3 ht.R
      clear ht
      try simp only [Act.put, List.setIfInBounds_toArray, List.set_cons_succ, List.set_cons_zero]
      refine Fork.step (Fork.at_ HO.out rfl) (fun K hK => ?_)
      go_simp
      refine (rFlag_row (w0 := w) gone HL2.out HB5.out HT5.out.R).mono ?_
      rintro r w6 ⟨v6, rfl, ht⟩
      refine hK _ _ (.of_old (ht.tc HT5.out.R HB5.out.size) rfl) ?_
      clear hK K
      have HT6 := Aside0.mk (HT5.out.trans ht)
      have HB6 := Aside0.mk (HB5.out.trans ht.low)
      obtain ⟨A6, n6, c6, rfl⟩ := R_slice3 ht.R
      clear ht
      try simp only [Act.put, List.setIfInBounds_toArray, List.set_cons_succ, List.set_cons_zero]
      ((refine Fork.plain (Fork.at_ HO.out rfl) _ rfl (fun W => by go_simp; exact rfl) ?_); simp only [Act.put, List.setIfInBounds_toArray, List.set_cons_succ, List.set_cons_zero])
      refine Fork.done ?_
      have htc := HT6.out.tc HRA.out.R HBA.out.size
      have z1 := tc_cellU htc HBX.out (notU _) HY1.out
      have z2 := tc_cellU htc HBX.out (notU _) HY2.out
      clear htc
      cases gone with
      | true =>
        go_wp2_with (first
          | (go_at_call 81; (with_reducible refine (rB_row (w0 := w) [] none 0 0 rfl ⟨HL3.out, by decide⟩ HB6.out HT6.out.R (fun w' _ => Kd.C_nil _ _)).mono ?_); rintro e w7 ⟨v7, rfl, ht⟩; have HT7 := Aside0.mk ht; have HB7 := Aside0.mk (HB6.out.trans ht.low); obtain ⟨A7, n7, c7, rfl⟩ := R_slice3 ht.R; clear ht))
        have hk1 := HI.out
        obtain ⟨gq, rfl⟩ : ∃ gq, gk = gq + 1 := ⟨gk - 1, by omega⟩
        go_roundg gq
        case rel => exact ⟨i + 1, _, _, _, by go_num, rfl, ⟨by omega⟩, ⟨by rw [HSUC.out]; have := HT7.out.R; unfold putB; simpa [List.append_assoc] using this⟩, HB7⟩
        case measure => omega
      | false =>
        go_wp2_with (first
          | (go_at_call 81; (with_reducible refine (rB_row (w0 := w) b A1 b.length c1 rfl ⟨HL3.out, HBS.out⟩ HB6.out HT6.out.R (fun w' hc => Kd.C_below HCB.out (HB6.out.trans (hc.below HB6.out.size fun k hf => by obtain ⟨inner, ho⟩ := Kd.R_own HT6.out.R; exact own_base ho k hf.symm)))).mono ?_); rintro e w7 ⟨v7, rfl, ht⟩; have HT7 := Aside0.mk ht; have HB7 := Aside0.mk (HB6.out.trans ht.low); obtain ⟨A7, n7, c7, rfl⟩ := R_slice3 ht.R; clear ht))
        have hk1 := HI.out
        obtain ⟨gq, rfl⟩ : ∃ gq, gk = gq + 1 := ⟨gk - 1, by omega⟩
        go_roundg gq
        case rel => exact ⟨i + 1, _, _, _, by go_num, rfl, ⟨by omega⟩, ⟨by rw [HSUC.out]; have := HT7.out.R; unfold putB; simpa [List.append_assoc] using this⟩, HB7⟩
        case measure => omega
    · have hi0 := HI.out
      obtain rfl : gk = 0 := by omega
      obtain rfl : i = l.length := by omega
      clear hi0
      have hm3 : ¬ ((l.length : Int) < (l.length : Int)) := by omega
      go_wp2
      go_ret
      exact ⟨_, rfl, HK.out, HB.out⟩
end Go.Proofs.YtlepcmljmibdnaaGreat
namespace Go.Proofs.YtlepcmljmibdnaaGreat
open Go.RowKit Go.Proofs.YtlepcmljmibdnaaGreatW.PrintWords Go.Proofs.YtlepcmljmibdnaaGreatW.PrintLast Go.Proofs.YtlepcmljmibdnaaGreatW.PrintMore PWalOpens
open PStoreRecords (S66 k66 rd_T66 at_T66 z66 k66_mk)
set_option linter.unusedVariables false
set_option linter.unusedSimpArgs false
theorem sof_q {w w' : World} {b : List Int} {e : Ending} {xb : Bool} {ms : List S66} {eb : Int} (hs : sofP b = (xb, ms, eb)) (h : SofQ w b e w') : ∃ A c, e = .returned (.tuple #[.bool xb, .slice A ms.length c, .int .i64 eb]) ∧ k66.C w' A ms.length ms ∧ Below w.heap.size w w' := by
  unfold SofQ at h
  rw [hs] at h
  obtain ⟨A, c, h1, h2, h3⟩ := h
  exact ⟨A, c, h1, (Kd.R_reads' h2).2.2, h3⟩
theorem ex_conv {W : World} {o : Oper} {ρ : Operand → Value} {x : Operand} {A : Option Addr} {n c : Nat} {b : List Int} (ho : o.op = .convert 58 9 x) (hx : ρ x = .slice A n c) (h : (Kd.int .u8).C W A n b) : (execOp ρ o).run Tryz.prog W = .ok (.value (.string (strOfNums b))) W := by
  have := Kd.C_string (c := c) Tryz.underlying58 Tryz.underlying5 Tryz.underlying9 h
  simp [execOp, ho, hx, this, Result.andThen]
theorem far_move {w w0 wr wF : World} {v : Value} {acc : List S66} (hR : Kd.R (farP w0) 66 wr w.heap.size (fun _ => True) v acc) (hc : Chg wr wF (fun k => wr.heap.size ≤ k)) : Kd.R (farP w0) 66 wF w.heap.size (fun _ => True) v acc :=
  Kd.R_mono (Kd.R_move (Kd.R_bound hR) fun k hk => by
    obtain ⟨_, _, _, q, hq, cells, hce⟩ := hk
    exact hc.block k (Array.getElem?_eq_some_iff.1 hce).1 (fun e => absurd (Array.getElem?_eq_some_iff.1 hce).1 (by omega))) (fun _ _ => trivial)
theorem srec_q {rb : List Int} (w : World) (all : Bool) (A : Option Addr) (c : Nat) (l : List S66) (hrb : recB all l = rb) (hl : l.length ≤ c) (hs : ∀ p ∈ l, p.f0.size ≤ 60000 ∧ p.f1.length ≤ 60000) (ht : (recB all l).length ≤ 600000) (hC : k66.C w A l.length l) :
    Calls Tryz.prog 34 #[.bool all, .slice A l.length c] w fun e w' => ∃ A' c', e = .returned (.slice A' rb.length c') ∧ (Kd.int .u8).C w' A' rb.length rb ∧ (A' = none → rb.length = 0 ∧ c' = 0) ∧ Below w.heap.size w w' := by
  subst hrb
  refine (srecord_calls w all A c l hl hs ht hC).mono ?_
  rintro e w' ⟨A', c', rfl, hr, hb⟩
  exact ⟨A', c', rfl, (Kd.R_reads' hr).2.2, fun hA => by { obtain ⟨inner, ho⟩ := Kd.R_own hr; exact own_none ho hA }, hb⟩
theorem rsrec_q {rb : List Int} (w : World) (all : Bool) (A : Option Addr) (c : Nat) (l : List S66) (hrb : recB all l = rb) (hl : l.length ≤ c) (hs : ∀ p ∈ l, p.f0.size ≤ 60000 ∧ p.f1.length ≤ 60000) (ht : (recB all l).length ≤ 600000) (hC : k66.C w A l.length l) :
    Calls Tryz.prog 35 #[.bool all, .slice A l.length c] w fun e w' => ∃ A' c', e = .returned (.slice A' rb.length c') ∧ (Kd.int .u8).C w' A' rb.length rb ∧ Below w.heap.size w w' := by
  subst hrb
  refine (rrecord_calls w all A c l hl hs ht hC).mono ?_
  rintro e w' ⟨v', rfl, hr, hb⟩
  obtain ⟨A', c', rfl⟩ := Kd.R_slice hr
  exact ⟨A', c', rfl, (Kd.R_reads' hr).2.2, hb⟩
theorem sameputs_n (w : World) (A B : Option Addr) (n c d : Nat) (l : List S66) (hn : l.length = n) (ha : k66.C w A l.length l) (hb : k66.C w B l.length l) :
    Calls Tryz.prog 36 #[.slice A n c, .slice B n d] w fun e w' => e = .returned (.bool true) ∧ Drawn0 w w' := by
  subst hn
  exact sameputs_same w A B c d l ha hb
def AwakeQ : Prop := ∀ w : World, Calls Tryz.prog 30 #[] w fun e w' => e = .returned (.bool true) ∧ Below w.heap.size w w'
theorem info66f : (Tryz.prog.info? 66).map (fun i => (i.zero, i.size, i.bytes)) = some (some (.agg #[.string ⟨#[]⟩, .slice none 0 0, .bool false]), 3, 48) := by kernel_rfl
set_option maxRecDepth 100000 in
theorem records_out (haw : AwakeQ) (all : Bool) (A1 : Option Addr) (c1 : Nat) (l : List S66) (A2 : Option Addr) (n2 c2 : Nat) (w : World) (hc1 : l.length ≤ c1) (hC1 : k66.C w A1 l.length l) (r1 : Bool) (h1 : PStoreRecords.factotumlaw08_Few.f (l.length + 1) l = some r1) (h : r1 = false ∨ 500 < n2) :
    Calls Tryz.prog 4 #[.bool all, .slice A1 l.length c1, .slice A2 n2 c2] w fun e w' => e = .returned (.bool true) ∧ Below w.heap.size w w' := by
  have HFEW := Aside0.mk (few8_at A1 c1 l r1 hc1 hC1 h1)
  have HAW := Aside0.mk (show ∀ w : World, Calls Tryz.prog 30 #[] w fun e w' => e = .returned (.bool true) ∧ Below w.heap.size w w' from haw)
  clear hc1 hC1 h1 haw
  cases r1 with
  | false =>
    clear h
    go_enter Tryz.func4, Tryz.ntmps4
    go_wp2_with (first
      | (go_at_call 30; (with_reducible refine (HAW.out _).mono ?_); rintro e w1 ⟨rfl, hb⟩; have HB1 := Aside0.mk hb; clear hb)
      | (go_at_call 31; (with_reducible refine (HFEW.out _ HB1.out).mono ?_); rintro e w2 ⟨rfl, hb⟩; have HB2 := Aside0.mk (HB1.out.trans (hb.mono HB1.out.size)); clear hb))
    go_ret
    exact ⟨rfl, HB2.out⟩
  | true =>
    have h3 : (500 : Int) < (n2 : Int) := by
      rcases h with h | h
      · cases h
      · omega
    clear h
    go_enter Tryz.func4, Tryz.ntmps4
    go_wp2_with (first
      | (go_at_call 30; (with_reducible refine (HAW.out _).mono ?_); rintro e w1 ⟨rfl, hb⟩; have HB1 := Aside0.mk hb; clear hb)
      | (go_at_call 31; (with_reducible refine (HFEW.out _ HB1.out).mono ?_); rintro e w2 ⟨rfl, hb⟩; have HB2 := Aside0.mk (HB1.out.trans (hb.mono HB1.out.size)); clear hb))
    go_ret
    exact ⟨rfl, HB2.out⟩
set_option maxRecDepth 100000 in
set_option maxHeartbeats 4000000 in
theorem records_main (haw : AwakeQ) (all : Bool) (A1 : Option Addr) (c1 : Nat) (l : List S66) (A2 : Option Addr) (c2 : Nat) (b : List Int) (w : World) (hc1 : l.length ≤ c1) (hC1 : k66.C w A1 l.length l) (h1 : PStoreRecords.factotumlaw08_Few.f (l.length + 1) l = some true) (hfew : l.length ≤ 8 ∧ ∀ p ∈ l, p.f0.size ≤ 30 ∧ p.f1.length ≤ 200) (hC2 : (Kd.int .u8).C w A2 b.length b) (hn2 : A2 = none → b.length = 0 ∧ c2 = 0) (hcap2 : b.length ≤ c2 ∧ c2 ≤ 9223372036854775807) (hbl : ∀ p ∈ l, isBytes p.f1) (hbb : isBytes b) (h500 : b.length ≤ 500) :
    Calls Tryz.prog 4 #[.bool all, .slice A1 l.length c1, .slice A2 b.length c2] w fun e w' => e = .returned (.bool true) ∧ Below w.heap.size w w' := by
  have HFEW := Aside0.mk (few8_at A1 c1 l true hc1 hC1 h1)
  have HAW := Aside0.mk (show ∀ w : World, Calls Tryz.prog 30 #[] w fun e w' => e = .returned (.bool true) ∧ Below w.heap.size w w' from haw)
  obtain ⟨xb, ms, eb, hs⟩ : ∃ xb ms eb, sofP b = (xb, ms, eb) := ⟨_, _, _, rfl⟩
  have HS := Aside0.mk hs
  have hlim : ∀ p ∈ l, p.f0.size ≤ 60000 ∧ p.f1.length ≤ 60000 := fun p hp => by have := hfew.2 p hp; omega
  have HLIM := Aside0.mk hlim
  have hrl := recB_len all l hfew
  have HRL := Aside0.mk (show (recB all l).length ≤ 600000 by omega)
  have HRL9 := Aside0.mk (show (recB all l).length ≤ 900000 by omega)
  have HRB := Aside0.mk (recB_bytes all l hbl)
  have HSR := Aside0.mk (sofP_rec all l (by omega) hlim)
  have HML := Aside0.mk (show (l.map normP).length = l.length from List.length_map _)
  have HC1 := Aside0.mk hC1
  have HC2 := Aside0.mk hC2
  have HN2 := Aside0.mk hn2
  have HCAP1 := Aside0.mk hc1
  have HCAP2 := Aside0.mk hcap2
  have HBB := Aside0.mk hbb
  have HB9 := Aside0.mk (show b.length ≤ 900000 by omega)
  have h5 : (b.length : Int) ≤ 500 := by omega
  have b5 : decide (500 < (b.length : Int)) = false := decide_eq_false (by omega)
  have hl8 : (l.length : Int) ≤ 8 := by omega
  obtain ⟨rb, hrb⟩ : ∃ rb, recB all l = rb := ⟨_, rfl⟩
  rw [hrb] at HRL9 HRB HSR
  have HRBE := Aside0.mk hrb
  clear haw hc1 hC1 h1 hfew hC2 hn2 hcap2 hbl hbb h500 hs hlim hrl hrb
  go_enter Tryz.func4, Tryz.ntmps4
  go_wp2_with (first
    | (go_at_call 30; (with_reducible refine (HAW.out _).mono ?_); rintro e w1 ⟨rfl, hb⟩; have HB1 := Aside0.mk hb; clear hb)
    | (go_at_call 31; (with_reducible refine (HFEW.out _ HB1.out).mono ?_); rintro e w2 ⟨rfl, hb⟩; have HB2 := Aside0.mk (HB1.out.trans (hb.mono HB1.out.size)); clear hb)
    | (go_at_call 33; (with_reducible refine (un_calls2 w3 A2 c2 b HB9.out HBB.out HCAP2.out (Kd.C_below HC2.out HB3.out)).mono ?_); rintro e w4 hq; obtain ⟨A4, c4, rfl, hC, hb⟩ := sof_q HS.out hq; have HB4 := Aside0.mk (HB3.out.trans (hb.mono HB3.out.size)); have HM4 := Aside0.mk hC; have HM34 := Aside0.mk (Kd.C_below HM3.out hb); clear hq hC hb)
    | (go_at_call 34; (with_reducible refine (srec_q w4 all A1 c1 l HRBE.out HCAP1.out HLIM.out HRL.out (Kd.C_below HC1.out HB4.out)).mono ?_); rintro e w5 ⟨A5, c5, rfl, hC, hN, hb⟩; have HB5 := Aside0.mk (HB4.out.trans (hb.mono HB4.out.size)); have HC5 := Aside0.mk hC; have HN5 := Aside0.mk hN; have HM45 := Aside0.mk (And.intro (Kd.C_below HM34.out hb) (Kd.C_below HM4.out hb)); clear hC hN hb)
    | (go_at_call 32; (with_reducible refine (sof_calls w5 A5 c5 rb HRL9.out HRB.out HN5.out HC5.out).mono ?_); rintro e w6 hq; obtain ⟨A6, c6, rfl, hC, hb⟩ := sof_q HSR.out hq; have HB6 := Aside0.mk (HB5.out.trans (hb.mono HB5.out.size)); have HM6 := Aside0.mk hC; have HM56 := Aside0.mk (And.intro (Kd.C_below HM45.out.1 hb) (Kd.C_below HM45.out.2 hb)); clear hq hC hb)
    | (go_at_call 32; (with_reducible refine (sof_calls w2 A2 c2 b HB9.out HBB.out HN2.out (Kd.C_below HC2.out HB2.out)).mono ?_); rintro e w3 hq; obtain ⟨A3, c3, rfl, hC, hb⟩ := sof_q HS.out hq; have HB3 := Aside0.mk (HB2.out.trans (hb.mono HB2.out.size)); have HM3 := Aside0.mk hC; clear hq hC hb))
  go_loopg [16, 51] l.length (fun kq v16 v51 w' => ∃ (i : Nat) (A0 : Option Addr) (c0 : Nat), v51 = .int .i64 (i : Int) ∧ v16 = .slice A0 i c0 ∧ Aside0 (i + kq = l.length) ∧ Aside0 (Kd.R (farP w) 66 w' w6.heap.size (fun _ => True) (.slice A0 i c0) ((l.take i).map normP)) ∧ Aside0 (Below w6.heap.size w6 w'))
  case atStart => exact ⟨0, none, 0, rfl, rfl, ⟨by omega⟩, ⟨Kd.R_nil _ _ _ _ _⟩, ⟨Below.refl _ _⟩⟩
  case round =>
    obtain ⟨i, A0, c0, rfl, rfl, HI, HR, HBi⟩ := hrel
    have HBw := Aside0.mk (HB6.out.trans (HBi.out.mono HB6.out.size))
    by_cases hi : i < l.length
    · obtain ⟨ad, Ax, cx, e, x0, x1, x2, hlx, hcx⟩ := at_T66 HC1.out (i : Int) (by omega) (by omega)
      subst e
      have hx := rd_getT l i hi
      generalize rd_T66 l (i : Int) = x at x0 x1 x2 hlx hcx hx
      rw [Int.toNat_natCast] at x0 x1 x2
      replace x0 := (HBw.out.cell (World.block_lt_of_cell? w _ x0)).trans x0
      replace x1 := (HBw.out.cell (World.block_lt_of_cell? w _ x1)).trans x1
      replace x2 := (HBw.out.cell (World.block_lt_of_cell? w _ x2)).trans x2
      have HSUC := Aside0.mk (show (l.take (i + 1)).map normP = (l.take i).map normP ++ [normP x] by rw [List.take_add_one, hx]; simp)
      have HALN := Aside0.mk (show (((l.take i).map normP).length + 1) * 48 ≤ 140737488355328 by rw [List.length_map, List.length_take]; omega)
      have HIL := Aside0.mk (show ((l.take i).map normP).length = i by rw [List.length_map, List.length_take]; omega)
      obtain ⟨s, bx, g⟩ := x
      simp only at x0 x1 x2 hlx hcx
      have HLX := Aside0.mk hlx
      have HCX := Aside0.mk hcx
      clear hlx hcx hx
      cases g with
      | true =>
        have HAL := Aside0.mk (Below.alloc (Below.refl wr.heap.size wr) (Nat.le_refl _) (.cells #[.string s, .slice none 0 0, .bool true] 66))
        have HRF := Aside0.mk (far_move HR.out (.of_below HAL.out))
        go_wp2_with (first
          | ((with_reducible refine gate_builtin (b := .append) (xs := #[.tmp 58, .tmp 60]) rfl ?_); at_builtin; go_loud (refine Kd.R_append (farP w) (W := (wr.alloc (.cells #[.string s, .slice none 0 0, .bool true] 66))) (w0 := (wr.alloc (.cells #[.string s, .slice none 0 0, .bool true] 66))) w6.heap.size rfl (.tmp 58) (.tmp 60) 57 66 (.agg #[.string ⟨#[]⟩, .slice none 0 0, .bool false]) 48 rfl Tryz.underlying57 info66f rfl (show 0 < 3 by decide) (by decide) (.slice A0 i c0) ((l.take i).map normP) (normP ⟨s, bx, true⟩) [.string s, .slice none 0 0, .bool true] (fun _ => True) (fun _ => False) rfl (by rw [alloc_size]; rfl) (k66_mk w ⟨s, [], true⟩ (Nat.zero_le _) (Kd.C_nil _ _)) (fun _ h => h.elim) (fun _ _ => trivial) HRF.out (Below.refl _ _) (Nat.le_trans HBi.out.size HAL.out.size) HALN.out ?_); intro v1 w10 ho hb hg hat; obtain ⟨A10, c10, hv10⟩ := Kd.R_slice ho; rw [List.length_append, HIL.out] at hv10; subst hv10; have HR10 := Aside0.mk ho; have HB10 := Aside0.mk ((HBi.out.trans (HAL.out.mono HBi.out.size)).trans hb); clear ho hb hg hat))
        have hk1 := HI.out
        obtain ⟨gq, rfl⟩ : ∃ gq, gk = gq + 1 := ⟨gk - 1, by omega⟩
        go_roundg gq
        case rel => exact ⟨i + 1, A10, c10, by go_num, rfl, ⟨by omega⟩, ⟨by rw [HSUC.out]; exact HR10.out⟩, HB10⟩
        case measure => omega
      | false =>
        have HAL := Aside0.mk (Below.alloc (Below.refl wr.heap.size wr) (Nat.le_refl _) (.cells #[.string s, .slice Ax bx.length cx, .bool false] 66))
        have HRF := Aside0.mk (far_move HR.out (.of_below HAL.out))
        go_wp2_with (first
          | ((with_reducible refine gate_builtin (b := .append) (xs := #[.tmp 58, .tmp 60]) rfl ?_); at_builtin; go_loud (refine Kd.R_append (farP w) (W := (wr.alloc (.cells #[.string s, .slice Ax bx.length cx, .bool false] 66))) (w0 := (wr.alloc (.cells #[.string s, .slice Ax bx.length cx, .bool false] 66))) w6.heap.size rfl (.tmp 58) (.tmp 60) 57 66 (.agg #[.string ⟨#[]⟩, .slice none 0 0, .bool false]) 48 rfl Tryz.underlying57 info66f rfl (show 0 < 3 by decide) (by decide) (.slice A0 i c0) ((l.take i).map normP) (normP ⟨s, bx, false⟩) [.string s, .slice Ax bx.length cx, .bool false] (fun _ => True) (fun _ => False) rfl (by rw [alloc_size]; rfl) (k66_mk w ⟨s, bx, false⟩ HLX.out HCX.out) (fun _ h => h.elim) (fun _ _ => trivial) HRF.out (Below.refl _ _) (Nat.le_trans HBi.out.size HAL.out.size) HALN.out ?_); intro v1 w10 ho hb hg hat; obtain ⟨A10, c10, hv10⟩ := Kd.R_slice ho; rw [List.length_append, HIL.out] at hv10; subst hv10; have HR10 := Aside0.mk ho; have HB10 := Aside0.mk ((HBi.out.trans (HAL.out.mono HBi.out.size)).trans hb); clear ho hb hg hat))
        have hk1 := HI.out
        obtain ⟨gq, rfl⟩ : ∃ gq, gk = gq + 1 := ⟨gk - 1, by omega⟩
        go_roundg gq
        case rel => exact ⟨i + 1, A10, c10, by go_num, rfl, ⟨by omega⟩, ⟨by rw [HSUC.out]; exact HR10.out⟩, HB10⟩
        case measure => omega
    · have hi0 := HI.out
      obtain rfl : gk = 0 := by omega
      obtain rfl : i = l.length := by omega
      clear hi0
      have hm : ¬ ((l.length : Int) < (l.length : Int)) := by omega
      have HT0 := Aside0.mk (show (l.take l.length).map normP = l.map normP by rw [List.take_length])
      have HMW := Aside0.mk (show k66.C wr A0 (l.map normP).length (l.map normP) from by have h := HR.out; rw [HT0.out] at h; exact farP_C (Kd.R_reads' h).2.2 HBw.out)
      have HM3r := Aside0.mk (Kd.C_below HM56.out.1 HBi.out)
      have HM4r := Aside0.mk (Kd.C_below HM56.out.2 HBi.out)
      have HM6r := Aside0.mk (Kd.C_below HM6.out HBi.out)
      have HBX := Aside0.mk HBw.out.drew
      have HBD := Aside0.mk (Below.refl wr.heap.size wr).drew
      go_wp2
      refine Fork.wp_fork (Fork.Lo.rel 0) [] [] (.one 0 0 (.one 1 0 (.one 4 0 (.one 5 0 (.one 2 2 (.one 3 1 (.one 6 2 (.one 7 1 (.one 8 0 (.one 9 0 (.one 10 0 (.one 11 0 (.one 12 0 (.one 13 0 (.one 14 0 (.one 15 0 (.one 16 0 (.one 17 2 (.one 18 0 (.one 19 0 (.one 20 0 (.one 21 0 (.one 22 0 (.one 23 0 (.one 24 0 (.one 25 0 (.one 26 0 (.one 27 0 (.one 28 0 (.one 29 0 (.one 30 0 (.one 31 0 (.one 32 2 (.one 33 0 (.one 34 0 (.one 35 0 (.one 36 0 (.one 37 0 (.one 38 0 .nil))))))))))))))))))))))))))))))))))))))) (by kernel_rfl) (by kernel_rfl) ?_
      generalize hops : List.toArray (_ : List Oper) = ops
      have HO := Aside0.mk hops
      clear hops
      iterate 4 ((refine Fork.plain (Fork.at_ HO.out rfl) _ rfl (fun W => by go_simp; exact rfl) ?_); simp only [Act.put, List.setIfInBounds_toArray, List.set_cons_succ, List.set_cons_zero])
      refine Fork.step (Fork.at_ HO.out rfl) (fun K hK => ?_)
      go_simp
      refine (srec_q _ all A1 c1 l HRBE.out HCAP1.out HLIM.out HRL.out (Kd.C_below HC1.out HBX.out)).mono ?_
      rintro r w7 ⟨A7, c7, rfl, hC, hN, hb⟩
      refine hK _ _ (.of_new hb (Nat.zero_le _)) ?_
      clear hK K
      have HC7 := Aside0.mk hC
      have HB7 := Aside0.mk (HBX.out.trans (hb.mono HBX.out.size))
      have HD7 := Aside0.mk (HBD.out.trans hb)
      clear hC hN hb
      try simp only [Act.put, List.setIfInBounds_toArray, List.set_cons_succ, List.set_cons_zero]
      refine Fork.reads (Fork.at_ HO.out rfl) _ rfl (fun W hW => ex_conv rfl rfl (Kd.C_below HC7.out hW)) ?_
      simp only [Act.put, List.setIfInBounds_toArray, List.set_cons_succ, List.set_cons_zero]
      refine Fork.step (Fork.at_ HO.out rfl) (fun K hK => ?_)
      go_simp
      refine (rsrec_q _ all A1 c1 l HRBE.out HCAP1.out HLIM.out HRL.out (Kd.C_below HC1.out HB7.out)).mono ?_
      rintro r w8 ⟨A8, c8, rfl, hC, hb⟩
      refine hK _ _ (.of_new hb (Nat.zero_le _)) ?_
      clear hK K
      have HC8 := Aside0.mk hC
      have HB8 := Aside0.mk (HB7.out.trans (hb.mono HB7.out.size))
      have HD8 := Aside0.mk (HD7.out.trans (hb.mono HD7.out.size))
      clear hC hb
      try simp only [Act.put, List.setIfInBounds_toArray, List.set_cons_succ, List.set_cons_zero]
      refine Fork.reads (Fork.at_ HO.out rfl) _ rfl (fun W hW => ex_conv rfl rfl (Kd.C_below HC8.out hW)) ?_
      simp only [Act.put, List.setIfInBounds_toArray, List.set_cons_succ, List.set_cons_zero]
      iterate 2 ((refine Fork.plain (Fork.at_ HO.out rfl) _ rfl (fun W => by go_simp; exact rfl) ?_); simp only [Act.put, List.setIfInBounds_toArray, List.set_cons_succ, List.set_cons_zero])
      refine Fork.plain (Fork.at_ HO.out rfl) _ (by have q := Fork.at_ (i := 9) HO.out rfl; simp [Region.wanted, yielded, q, undef]) (fun W => by go_simp; exact rfl) ?_
      simp only [Act.put, List.setIfInBounds_toArray, List.set_cons_succ, List.set_cons_zero]
      refine Fork.plain (Fork.at_ HO.out rfl) _ (by have q := Fork.at_ (i := 9) HO.out rfl; simp [Region.wanted, yielded, q, undef]) (fun W => by go_simp; exact rfl) ?_
      simp only [Act.put, List.setIfInBounds_toArray, List.set_cons_succ, List.set_cons_zero]
      refine Fork.plain (Fork.at_ HO.out rfl) _ (by have q := Fork.at_ (i := 9) HO.out rfl; simp [Region.wanted, yielded, q, undef]) (fun W => by go_simp; exact rfl) ?_
      simp only [Act.put, List.setIfInBounds_toArray, List.set_cons_succ, List.set_cons_zero]
      iterate 2 ((refine Fork.plain (Fork.at_ HO.out rfl) _ rfl (fun W => by go_simp; exact rfl) ?_); simp only [Act.put, List.setIfInBounds_toArray, List.set_cons_succ, List.set_cons_zero])
      refine Fork.plain (Fork.at_ HO.out rfl) _ (by have q := Fork.at_ (i := 14) HO.out rfl; simp [Region.wanted, yielded, q, undef]) (fun W => by go_simp; exact rfl) ?_
      simp only [Act.put, List.setIfInBounds_toArray, List.set_cons_succ, List.set_cons_zero]
      refine Fork.plain (Fork.at_ HO.out rfl) _ (by have q := Fork.at_ (i := 14) HO.out rfl; simp [Region.wanted, yielded, q, undef]) (fun W => by go_simp; exact rfl) ?_
      simp only [Act.put, List.setIfInBounds_toArray, List.set_cons_succ, List.set_cons_zero]
      refine Fork.acts (Fork.at_ HO.out rfl) (by have q := Fork.at_ (i := 14) HO.out rfl; simp [Region.wanted, yielded, q, undef]) (fun K hK => ?_)
      go_simp
      refine (sameputs_n _ A3 A4 ms.length c3 c4 ms rfl (Kd.C_below HM3r.out HD8.out) (Kd.C_below HM4r.out HD8.out)).mono ?_
      rintro r w9 ⟨rfl, hd⟩
      refine hK _ _ (.of_new hd.below (Nat.zero_le _)) ?_
      clear hK K
      have HB9 := Aside0.mk (HB8.out.trans (hd.below.mono HB8.out.size))
      have HD9 := Aside0.mk (HD8.out.trans (hd.below.mono HD8.out.size))
      clear hd
      try simp only [Act.put, List.setIfInBounds_toArray, List.set_cons_succ, List.set_cons_zero]
      iterate 2 ((refine Fork.plain (Fork.at_ HO.out rfl) _ rfl (fun W => by go_simp; exact rfl) ?_); simp only [Act.put, List.setIfInBounds_toArray, List.set_cons_succ, List.set_cons_zero])
      refine Fork.plain (Fork.at_ HO.out rfl) _ (by have q := Fork.at_ (i := 19) HO.out rfl; simp [Region.wanted, yielded, q, undef]) (fun W => by go_simp; exact rfl) ?_
      simp only [Act.put, List.setIfInBounds_toArray, List.set_cons_succ, List.set_cons_zero]
      refine Fork.plain (Fork.at_ HO.out rfl) _ (by have q := Fork.at_ (i := 19) HO.out rfl; simp [Region.wanted, yielded, q, undef]) (fun W => by go_simp; exact rfl) ?_
      simp only [Act.put, List.setIfInBounds_toArray, List.set_cons_succ, List.set_cons_zero]
      refine Fork.plain (Fork.at_ HO.out rfl) _ (by have q := Fork.at_ (i := 19) HO.out rfl; simp [Region.wanted, yielded, q, undef]) (fun W => by go_simp; exact rfl) ?_
      simp only [Act.put, List.setIfInBounds_toArray, List.set_cons_succ, List.set_cons_zero]
      iterate 2 ((refine Fork.plain (Fork.at_ HO.out rfl) _ rfl (fun W => by go_simp; exact rfl) ?_); simp only [Act.put, List.setIfInBounds_toArray, List.set_cons_succ, List.set_cons_zero])
      refine Fork.plain (Fork.at_ HO.out rfl) _ (by have q := Fork.at_ (i := 24) HO.out rfl; simp [Region.wanted, yielded, q, undef]) (fun W => by go_simp; exact rfl) ?_
      simp only [Act.put, List.setIfInBounds_toArray, List.set_cons_succ, List.set_cons_zero]
      refine Fork.plain (Fork.at_ HO.out rfl) _ (by have q := Fork.at_ (i := 24) HO.out rfl; simp [Region.wanted, yielded, q, undef]) (fun W => by go_simp; exact rfl) ?_
      simp only [Act.put, List.setIfInBounds_toArray, List.set_cons_succ, List.set_cons_zero]
      refine Fork.plain (Fork.at_ HO.out rfl) _ (by have q := Fork.at_ (i := 24) HO.out rfl; simp [Region.wanted, yielded, q, undef]) (fun W => by go_simp; exact rfl) ?_
      simp only [Act.put, List.setIfInBounds_toArray, List.set_cons_succ, List.set_cons_zero]
      iterate 2 ((refine Fork.plain (Fork.at_ HO.out rfl) _ rfl (fun W => by go_simp; exact rfl) ?_); simp only [Act.put, List.setIfInBounds_toArray, List.set_cons_succ, List.set_cons_zero])
      refine Fork.plain (Fork.at_ HO.out rfl) _ (by have q := Fork.at_ (i := 29) HO.out rfl; simp [Region.wanted, yielded, q, undef]) (fun W => by go_simp; exact rfl) ?_
      simp only [Act.put, List.setIfInBounds_toArray, List.set_cons_succ, List.set_cons_zero]
      refine Fork.plain (Fork.at_ HO.out rfl) _ (by have q := Fork.at_ (i := 29) HO.out rfl; simp [Region.wanted, yielded, q, undef]) (fun W => by go_simp; exact rfl) ?_
      simp only [Act.put, List.setIfInBounds_toArray, List.set_cons_succ, List.set_cons_zero]
      refine Fork.acts (Fork.at_ HO.out rfl) (by have q := Fork.at_ (i := 29) HO.out rfl; simp [Region.wanted, yielded, q, undef]) (fun K hK => ?_)
      go_simp
      refine (sameputs_n _ A6 A0 l.length c6 c0 (l.map normP) HML.out (Kd.C_below HM6r.out HD9.out) (Kd.C_below HMW.out HD9.out)).mono ?_
      rintro r w11 ⟨rfl, hd⟩
      refine hK _ _ (.of_new hd.below (Nat.zero_le _)) ?_
      clear hK K
      have HB11 := Aside0.mk (HB9.out.trans (hd.below.mono HB9.out.size))
      clear hd
      try simp only [Act.put, List.setIfInBounds_toArray, List.set_cons_succ, List.set_cons_zero]
      iterate 2 ((refine Fork.plain (Fork.at_ HO.out rfl) _ rfl (fun W => by go_simp; exact rfl) ?_); simp only [Act.put, List.setIfInBounds_toArray, List.set_cons_succ, List.set_cons_zero])
      refine Fork.plain (Fork.at_ HO.out rfl) _ (by have q := Fork.at_ (i := 34) HO.out rfl; simp [Region.wanted, yielded, q, undef]) (fun W => by go_simp; exact rfl) ?_
      simp only [Act.put, List.setIfInBounds_toArray, List.set_cons_succ, List.set_cons_zero]
      refine Fork.plain (Fork.at_ HO.out rfl) _ (by have q := Fork.at_ (i := 34) HO.out rfl; simp [Region.wanted, yielded, q, undef]) (fun W => by go_simp; exact rfl) ?_
      simp only [Act.put, List.setIfInBounds_toArray, List.set_cons_succ, List.set_cons_zero]
      iterate 2 ((refine Fork.plain (Fork.at_ HO.out rfl) _ rfl (fun W => by go_simp; exact rfl) ?_); simp only [Act.put, List.setIfInBounds_toArray, List.set_cons_succ, List.set_cons_zero])
      refine Fork.done ?_
      go_wp2
      go_ret
      exact ⟨rfl, HB11.out⟩
theorem records_walk (haw : AwakeQ) (all : Bool) (A1 : Option Addr) (c1 : Nat) (l : List S66) (A2 : Option Addr) (c2 : Nat) (b : List Int) (w : World) (hc1 : l.length ≤ c1) (hC1 : k66.C w A1 l.length l) (hC2 : (Kd.int .u8).C w A2 b.length b) (hn2 : A2 = none → b.length = 0 ∧ c2 = 0) (hcap2 : b.length ≤ c2 ∧ c2 ≤ 9223372036854775807) (hbl : ∀ p ∈ l, isBytes p.f1) (hbb : isBytes b) :
    Calls Tryz.prog 4 #[.bool all, .slice A1 l.length c1, .slice A2 b.length c2] w fun e w' => e = .returned (.bool true) ∧ Below w.heap.size w w' := by
  obtain ⟨r1, h1, q1⟩ := few8_f l hC1.2.1
  by_cases h : r1 = false ∨ 500 < b.length
  · exact records_out haw all A1 c1 l A2 b.length c2 w hc1 hC1 r1 h1 h
  · obtain rfl : r1 = true := by cases r1 with
      | false => exact absurd (.inl rfl) h
      | true => rfl
    exact records_main haw all A1 c1 l A2 c2 b w hc1 hC1 h1 (q1 rfl) hC2 hn2 hcap2 hbl hbb (by omega)
end Go.Proofs.YtlepcmljmibdnaaGreat
namespace Go.Proofs.YtlepcmljmibdnaaGreat
open Go.RowKit Go.Proofs.YtlepcmljmibdnaaGreatW.PrintWords Go.Proofs.YtlepcmljmibdnaaGreatW.PrintLast Go.Proofs.YtlepcmljmibdnaaGreatW.PrintMore PWalOpens
set_option linter.unusedVariables false
set_option linter.unusedSimpArgs false
theorem rec0 : recB true [] = [1, 0] := by decide
/-- Add, on a disk that does not die -/
theorem real_add {w0 : World} {D : PD} {S : Int → List Int} {r g head tail : Int} {R : List (List Int)} (h : WInv D S r g head tail R) {X : List (List Int)} (hX : RecsOK X) (hf : needs X ≤ r - (tail - head)) (ht : tail < 18446744073709550000) (hg : g < 18446744073709551614) (hr : r ≤ 4094) (hR : R.length ≤ 100000) :
    ∃ D2 S2, WInv D2 S2 r (g + 1) head (tail + needs X) (R ++ X) ∧ ∀ (w : World) (Wb B M Bd : Nat) (vc vs : Value) (A : Option Addr) (c : Nat), WV w0.heap.size w Wb B M Bd vc vs D g head tail (startsP head R) false → (∀ W, TC w0.heap.size (isWD M Bd) w W → bytesK.C W A X.length X) →
      Calls Tryz.prog 15 #[.pointer (some ⟨Wb, 0, none⟩), .slice A X.length c] w (WdQ w0.heap.size w Wb B M Bd D2 0 (g + 1) head (tail + needs X) (startsP head (R ++ X)) false) := by
  have hns := needs_le (R := X) (fun b hb => (hX.each b hb).2)
  have hlen := hX.len
  have hle := h.le
  have h0 := h.h0
  have g0 := h.g0
  have hfit := h.fit
  obtain ⟨D1, D2, S2, k1, k2, k3, k4⟩ := h.add hX hf (by omega) (by omega)
  refine ⟨D2, S2, k4, fun w Wb B M Bd vc vs A c hv hT => ?_⟩
  refine (add_calls (c := c) h.ring hX rfl k1 k3 (by omega) (by omega) (by omega) (by rw [h.cache]; decide) (by omega) (by rw [starts_len, starts_len]; omega) hv hT).mono ?_
  rintro x w2 ⟨htc, vc', vs', _, _, q3, _⟩
  obtain ⟨rfl, hv2⟩ := q3 rfl rfl
  refine ⟨rfl, htc, vc', vs', ?_⟩
  rw [startsP_app, ← run_tail h.run]
  exact hv2
/-- one text in a literal, under what a wal's deeds may change -/
theorem lit_one_tc {n0 M Bd : Nat} {w W : World} {v : Value} {A : Option Addr} {c : Nat} {b : List Int} {base : Nat} {ok : Nat → Prop} (hR : Kd.R (Kd.int .u8) 5 w base ok (.slice A b.length c) b) (hcap : b.length ≤ c) (hc : TC n0 (isWD M Bd) (w.alloc (.cells #[.slice A b.length c] 58)) W) : bytesK.C W (some ⟨w.heap.size, 0, none⟩) 1 [b] := by
  have hb := Below.alloc (Below.refl w.heap.size w) (Nat.le_refl _) (.cells #[.slice A b.length c] 58)
  have h := hc.blk _ _ (heap_alloc_new w (.cells #[.slice A b.length c] 58)) (by simp [isWD, isDisk, isT])
  have hR2 := R_tc (Kd.R_below hR hb) hc (fun q hq _ cells => by
    simp at hq
    rcases hq with h | h
    · rw [h]; simp [isWD, isDisk, isT]
    · cases h)
  refine ⟨rfl, by omega, fun _ => ⟨_, rfl, fun j p hj => ?_⟩⟩
  have hj0 : j = 0 := by have := (List.getElem?_eq_some_iff.1 hj).1; simp at this; omega
  subst hj0
  simp at hj
  subst hj
  refine ⟨[.slice A b.length c], rfl, ⟨_, c, rfl, hcap, (Kd.R_reads' hR2).2.2⟩, fun i u hu => ?_⟩
  have hi0 : i = 0 := by have := (List.getElem?_eq_some_iff.1 hu).1; simp at this; omega
  subst hi0
  simp at hu
  subst hu
  have e : (⟨w.heap.size, 0, none⟩ : Addr).add (0 * 1 + 0) = ⟨w.heap.size, 0, none⟩ := by unfold Addr.add; simp
  show W.cell? ((⟨w.heap.size, 0, none⟩ : Addr).add (0 * 1 + 0)) = _
  rw [e]
  unfold World.cell?
  rw [h]
  rfl
theorem lit_10 {n0 M Bd : Nat} {w W : World} {A : Option Addr} {c : Nat} {base : Nat} {ok : Nat → Prop} (hR : Kd.R (Kd.int .u8) 5 w base ok (.slice A 2 c) [1, 0]) (hcap : 2 ≤ c) (hc : TC n0 (isWD M Bd) (w.alloc (.cells #[.slice A 2 c] 58)) W) : bytesK.C W (some ⟨w.heap.size, 0, none⟩) 1 [[1, 0]] :=
  lit_one_tc (v := .nilIface) (b := [1, 0]) hR hcap hc
theorem srec0 (w : World) : Calls Tryz.prog 34 #[.bool true, .slice none 0 0] w fun e w' => ∃ A c, e = .returned (.slice A 2 c) ∧ Kd.R (Kd.int .u8) 5 w' w.heap.size (fun _ => True) (.slice A 2 c) [1, 0] ∧ 2 ≤ c ∧ Below w.heap.size w w' := by
  refine (srecord_calls w true none 0 [] (by simp) (fun p hp => by cases hp) (by rw [rec0]; decide) (Kd.C_nil _ _)).mono ?_
  rw [rec0]
  rintro e w' ⟨A, c, rfl, hr, hb⟩
  exact ⟨A, c, rfl, Kd.R_mono hr (fun _ _ => trivial), (Kd.Q_reads' (Kd.Q_of_R hr)).2.1, hb⟩
theorem recs0 : RecsOK [[1, 0]] := ⟨by decide, fun b hb => by simp at hb; subst hb; exact ⟨fun x hx => by simp at hx; omega, by decide⟩⟩
set_option maxRecDepth 100000 in
theorem sformat_calls {w0 w : World} {B M Bd : Nat} {vc : Value} (n : Int) (hn : 10 ≤ n ∧ n ≤ 1002) (hd : DK w w0.heap.size B M Bd vc (newP n)) (hb : Below w0.heap.size w0 w) :
    Calls Tryz.prog 37 #[.pointer (some ⟨B, 0, none⟩)] w fun e w' => e = .returned (.int .i64 0) ∧ ∃ D2 S2 vc', WInv D2 S2 (n - 2) 1 0 (needs [[1, 0]]) [[1, 0]] ∧ DK w' w0.heap.size B M Bd vc' D2 ∧ Below w0.heap.size w0 w' := by
  obtain ⟨D1, S1, hf, i1⟩ := winv_start (n := n) (r := n - 2) (by omega) (by omega)
  have hnd : needs [[1, 0]] = 1 := by decide
  obtain ⟨D2, S2, i2, hadd⟩ := real_add (w0 := w0) i1 recs0 (by omega) (by omega) (by omega) (by omega) (by simp)
  have HW := Aside0.mk (at_wformat 0 hf (by show 0 ≤ 800; decide) (At.refl hd))
  have HD := Aside0.mk hd
  have HB := Aside0.mk hb
  have HI1 := Aside0.mk i1
  have HI2 := Aside0.mk i2
  have HADD := Aside0.mk (show ∀ (w : World) (Wb B M Bd : Nat) (vc vs : Value) (A : Option Addr) (c : Nat), WV w0.heap.size w Wb B M Bd vc vs D1 0 0 0 [] false → (∀ W, TC w0.heap.size (isWD M Bd) w W → bytesK.C W A 1 [[1, 0]]) → Calls Tryz.prog 15 #[.pointer (some ⟨Wb, 0, none⟩), .slice A 1 c] w (WdQ w0.heap.size w Wb B M Bd D2 0 (0 + 1) 0 (0 + needs [[1, 0]]) (startsP 0 ([] ++ [[1, 0]])) false) from hadd)
  have HO1 := Aside0.mk i1.open_
  have HC1 := Aside0.mk (show D1.cache.length ≤ 1000 by rw [i1.cache]; decide)
  clear hf hn hd hb i1 i2 hadd hnd
  go_enter Tryz.func37, Tryz.ntmps37
  go_wp2_with (first
    | (go_at_call 10; (with_reducible refine HW.out.mono ?_); rintro e w1 ⟨rfl, vc1, ha⟩; have HD1 := Aside0.mk (At.based HD.out ha); have HB1 := Aside0.mk (HB.out.trans (HD.out.tc ha.chg).low); clear ha)
    | (go_at_call 12; (with_reducible refine (open_calls HO1.out HI1.out.ok HC1.out HD1.out).mono ?_); rintro e w2 hq; obtain ⟨Wb, vs, vo, rfl, hv, hb, hr⟩ := op_ok (n0 := w0.heap.size) hq rfl HB1.out.size HD1.out; have HV2 := Aside0.mk (show WV w0.heap.size w2 Wb B M Bd vc1 vs D1 0 0 0 [] false from hv); have HB2 := Aside0.mk (HB1.out.trans (hb.mono HB1.out.size)); obtain ⟨Ao, co, hvo⟩ := Kd.R_slice hr; subst hvo; clear hq hv hb hr)
    | (go_at_call 34; (with_reducible refine (srec0 w2).mono ?_); rintro e w3 ⟨A3, c3, rfl, hr, hc, hb⟩; have HR3 := Aside0.mk hr; have HCC := Aside0.mk hc; have HV3 := Aside0.mk ((HV2.out.fresh hb).fresh (Below.alloc (Below.refl w3.heap.size w3) (Nat.le_refl _) (.cells #[.slice A3 2 c3] 58))); have HB3 := Aside0.mk ((HB2.out.trans (hb.mono HB2.out.size)).trans ((Below.alloc (Below.refl w3.heap.size w3) (Nat.le_refl _) (.cells #[.slice A3 2 c3] 58)).mono (Nat.le_trans HB2.out.size hb.size))); clear hr hc hb)
    | (go_at_call 15; (with_reducible refine (HADD.out _ Wb B M Bd vc1 vs _ 1 HV3.out (fun W hc => lit_10 HR3.out HCC.out hc)).mono ?_); rintro e w4 ⟨rfl, ht, vc4, vs4, hv⟩; have HV4 := Aside0.mk hv; have HB4 := Aside0.mk (HB3.out.trans ht.low); clear ht hv))
  go_ret
  exact ⟨rfl, D2, S2, vc4, by have := HI2.out; simpa using this, HV4.out.dk, HB4.out⟩
end Go.Proofs.YtlepcmljmibdnaaGreat
namespace Go.Proofs.YtlepcmljmibdnaaGreat
open Go.RowKit Go.Proofs.YtlepcmljmibdnaaGreatW.PrintWords Go.Proofs.YtlepcmljmibdnaaGreatW.PrintLast Go.Proofs.YtlepcmljmibdnaaGreatW.PrintMore PWalOpens
set_option linter.unusedVariables false
set_option linter.unusedSimpArgs false
end Go.Proofs.YtlepcmljmibdnaaGreat
namespace Go.Proofs.YtlepcmljmibdnaaGreat
open Go.RowKit Go.Proofs.YtlepcmljmibdnaaGreatW.PrintWords Go.Proofs.YtlepcmljmibdnaaGreatW.PrintLast Go.Proofs.YtlepcmljmibdnaaGreatW.PrintMore PWalOpens
open PStoreRecords (S66 k66)
set_option linter.unusedVariables false
set_option linter.unusedSimpArgs false
/-! ### plain -/
abbrev KLt (a b : ByteArray) : Prop := a.data.toList < b.data.toList
theorem klt_tri (a b : ByteArray) : KLt a b ∨ a = b ∨ KLt b a := by
  by_cases h : a.data.toList < b.data.toList
  · exact .inl h
  · by_cases k : b.data.toList < a.data.toList
    · exact .inr (.inr k)
    · refine .inr (.inl ?_)
      have e := List.le_antisymm (List.not_lt.1 k) (List.not_lt.1 h)
      cases a; cases b
      simp only at e
      have := Array.toList_inj.1 e
      rw [this]
theorem klt_irrefl (a : ByteArray) : ¬ KLt a a := List.lt_irrefl _
theorem klt_trans {a b c : ByteArray} (h : KLt a b) (k : KLt b c) : KLt a c := List.lt_trans h k
theorem klt_asymm {a b : ByteArray} (h : KLt a b) : ¬ KLt b a := fun k => klt_irrefl _ (klt_trans h k)
theorem klt_ne {a b : ByteArray} (h : KLt a b) : a ≠ b := fun e => klt_irrefl b (e ▸ h)
def kvP (k : ByteArray) (b : List Int) : S66 := ⟨k, b, false⟩
structure SL (L : List S66) : Prop where
  pw : L.Pairwise fun a b => KLt a.f0 b.f0
  here : ∀ p ∈ L, p.f2 = false
instance (a b : ByteArray) : Decidable (KLt a b) := inferInstanceAs (Decidable (a.data.toList < b.data.toList))
def insK (q : S66) : List S66 → List S66
  | [] => [kvP q.f0 q.f1]
  | x :: l => if KLt q.f0 x.f0 then kvP q.f0 q.f1 :: x :: l else if x.f0 = q.f0 then kvP q.f0 q.f1 :: l else x :: insK q l
def delK (k : ByteArray) (L : List S66) : List S66 := L.filter fun p => decide (p.f0 ≠ k)
def hap1 (L : List S66) (p : S66) : List S66 := if p.f2 then delK p.f0 L else insK p L
def hapL (L : List S66) (ps : List S66) : List S66 := ps.foldl hap1 L
def lkL (L : List S66) (k : ByteArray) : Option S66 := L.find? fun p => decide (p.f0 = k)
theorem SL.nil : SL [] := ⟨.nil, fun _ h => by cases h⟩
theorem SL.uniq {L : List S66} (h : SL L) {p q : S66} (hp : p ∈ L) (hq : q ∈ L) (e : p.f0 = q.f0) : p = q := by
  have hw := h.pw
  clear h
  induction L with
  | nil => cases hp
  | cons x l ih =>
    rw [List.pairwise_cons] at hw
    rcases List.mem_cons.1 hp with hp | hp <;> rcases List.mem_cons.1 hq with hq | hq
    · rw [hp, hq]
    · rw [hp] at e; exact absurd e (klt_ne (hw.1 _ hq))
    · rw [hq] at e; exact absurd e.symm (klt_ne (hw.1 _ hp))
    · exact ih hp hq hw.2
theorem mem_insK_ {L : List S66} (hw : L.Pairwise fun a b => KLt a.f0 b.f0) (q p : S66) : p ∈ insK q L ↔ p = kvP q.f0 q.f1 ∨ (p ∈ L ∧ p.f0 ≠ q.f0) := by
  induction L with
  | nil => simp [insK]
  | cons x l ih =>
    rw [List.pairwise_cons] at hw
    unfold insK
    split
    · rename_i hlt
      constructor
      · intro hp
        rcases List.mem_cons.1 hp with rfl | hp
        · exact .inl rfl
        · refine .inr ⟨hp, ?_⟩
          rcases List.mem_cons.1 hp with rfl | hp
          · exact (klt_ne hlt).symm
          · exact (klt_ne (klt_trans hlt (hw.1 p hp))).symm
      · rintro (rfl | ⟨hp, _⟩)
        · exact List.mem_cons_self ..
        · exact List.mem_cons_of_mem _ hp
    · rename_i hlt
      split
      · rename_i he
        constructor
        · intro hp
          rcases List.mem_cons.1 hp with rfl | hp
          · exact .inl rfl
          · exact .inr ⟨List.mem_cons_of_mem _ hp, fun e => klt_irrefl x.f0 (by have := hw.1 p hp; rwa [e, ← he] at this)⟩
        · rintro (rfl | ⟨hp, hne⟩)
          · exact List.mem_cons_self ..
          · rcases List.mem_cons.1 hp with rfl | hp
            · exact absurd he hne
            · exact List.mem_cons_of_mem _ hp
      · rename_i he
        rw [List.mem_cons, ih hw.2]
        constructor
        · rintro (rfl | h | ⟨h, hne⟩)
          · exact .inr ⟨List.mem_cons_self .., he⟩
          · exact .inl h
          · exact .inr ⟨List.mem_cons_of_mem _ h, hne⟩
        · rintro (h | ⟨h, hne⟩)
          · exact .inr (.inl h)
          · rcases List.mem_cons.1 h with rfl | h
            · exact .inl rfl
            · exact .inr (.inr ⟨h, hne⟩)
theorem mem_insK {L : List S66} (h : SL L) (q p : S66) : p ∈ insK q L ↔ p = kvP q.f0 q.f1 ∨ (p ∈ L ∧ p.f0 ≠ q.f0) := mem_insK_ h.pw q p
theorem SL.ins {L : List S66} (h : SL L) (q : S66) : SL (insK q L) := by
  refine ⟨?_, fun p hp => ?_⟩
  · have hh := h
    obtain ⟨hw, hf⟩ := h
    clear hf
    induction L with
    | nil => simp [insK]
    | cons x l ih =>
      have hl : SL l := ⟨(List.pairwise_cons.1 hw).2, fun p hp => hh.here p (List.mem_cons_of_mem _ hp)⟩
      rw [List.pairwise_cons] at hw
      unfold insK
      split
      · rename_i hlt
        refine List.pairwise_cons.2 ⟨fun p hp => ?_, List.pairwise_cons.2 hw⟩
        rcases List.mem_cons.1 hp with rfl | hp
        · exact hlt
        · exact klt_trans hlt (hw.1 p hp)
      · split
        · rename_i he
          refine List.pairwise_cons.2 ⟨fun p hp => ?_, hw.2⟩
          show KLt q.f0 p.f0
          rw [← he]; exact hw.1 p hp
        · rename_i hlt he
          refine List.pairwise_cons.2 ⟨fun p hp => ?_, ih hl hw.2⟩
          rcases (mem_insK hl q p).1 hp with rfl | ⟨hp, _⟩
          · rcases klt_tri q.f0 x.f0 with h | h | h
            · exact absurd h hlt
            · exact absurd h.symm he
            · exact h
          · exact hw.1 p hp
  · rcases (mem_insK h q p).1 hp with rfl | ⟨hp, _⟩
    · rfl
    · exact h.here p hp
theorem SL.del {L : List S66} (h : SL L) (k : ByteArray) : SL (delK k L) :=
  ⟨h.pw.filter _, fun p hp => h.here p ((List.mem_filter.1 hp).1)⟩
theorem mem_delK {L : List S66} {k : ByteArray} {p : S66} : p ∈ delK k L ↔ p ∈ L ∧ p.f0 ≠ k := by
  unfold delK
  rw [List.mem_filter, decide_eq_true_eq]
/-! ### in memory -/
/-- bytes in memory of one's own -/
def BV (w : World) (base : Nat) (u : Value) (b : List Int) : Prop := ∃ A c, u = .slice A b.length c ∧ b.length ≤ c ∧ Kd.R (Kd.int .u8) 5 w base (fun _ => True) (.slice A b.length c) b
theorem BV.below {w w' : World} {base : Nat} {u : Value} {b : List Int} (h : BV w base u b) (hb : Below w.heap.size w w') : BV w' base u b := by
  obtain ⟨A, c, e, hc, h⟩ := h
  exact ⟨A, c, e, hc, Kd.R_below h hb⟩
theorem q5s : ∀ q, q ∈ 5 :: (Kd.int .u8).E → q = 5 := by
  intro q hq
  rw [show 5 :: (Kd.int .u8).E = [5] from rfl] at hq
  simpa using hq
theorem BV.chg {w w' : World} {base : Nat} {u : Value} {b : List Int} {S : Nat → Prop} (h : BV w base u b) (hc : Chg w w' S) (hs : ∀ k, S k → k < w.heap.size → ∀ cells, w.heap[k]? ≠ some (.cells cells 5 (0, 0))) : BV w' base u b := by
  obtain ⟨A, c, e, hcap, h⟩ := h
  refine ⟨A, c, e, hcap, Kd.R_mono (Kd.R_move (Kd.R_bound h) fun k hk => ?_) (fun _ hk => hk.1)⟩
  obtain ⟨_, _, hlt, q, hq, cells, hce⟩ := hk
  obtain rfl := q5s q hq
  exact hc.block k hlt fun hS => hs k hS hlt cells hce
theorem BV.tc {w w' : World} {base base' : Nat} {u : Value} {b : List Int} {T : Nat → Obj → Prop} (h : BV w base u b) (hc : TC base' T w w') (ht : ∀ k cells, ¬ T k (.cells cells 5 (0, 0))) : BV w' base u b := by
  obtain ⟨A, c, e, hcap, h⟩ := h
  exact ⟨A, c, e, hcap, R_tc h hc (fun q hq k cells => by obtain rfl := q5s q hq; exact ht k cells)⟩
/-- block M of w is a map with the puts L -/
def MapV (w : World) (base M : Nat) (L : List S66) : Prop :=
  base ≤ M ∧ SL L ∧ ∃ es cl, w.heap[M]? = some (.map es cl) ∧ MapKept.Stamped es cl ∧ (es.toList.map (·.key)).Perm (L.map fun p => Value.string p.f0) ∧ ∀ x ∈ es.toList, ∀ p ∈ L, x.key = .string p.f0 → BV w base x.val p.f1
theorem MapV.lt {w : World} {base M : Nat} {L : List S66} (h : MapV w base M L) : M < w.heap.size := by
  obtain ⟨_, _, es, cl, hb, _⟩ := h
  exact (Array.getElem?_eq_some_iff.1 hb).1
theorem MapV.below {w w' : World} {base M : Nat} {L : List S66} (h : MapV w base M L) (hb : Below w.heap.size w w') : MapV w' base M L := by
  have hlt := h.lt
  obtain ⟨h0, hL, es, cl, hbk, hst, hp, hv⟩ := h
  exact ⟨h0, hL, es, cl, (hb.block M hlt).trans hbk, hst, hp, fun x hx p hp e => (hv x hx p hp e).below hb⟩
theorem MapV.tc {w w' : World} {base base' M : Nat} {L : List S66} {T : Nat → Obj → Prop} (h : MapV w base M L) (hc : TC base' T w w') (hM : ∀ es cl, ¬ T M (.map es cl)) (ht : ∀ k cells, ¬ T k (.cells cells 5 (0, 0))) : MapV w' base M L := by
  obtain ⟨h0, hL, es, cl, hbk, hst, hp, hv⟩ := h
  exact ⟨h0, hL, es, cl, hc.blk M _ hbk (hM _ _), hst, hp, fun x hx p hp e => (hv x hx p hp e).tc hc ht⟩
section
variable {w w' : World} {base M : Nat} {L : List S66}
theorem mapV_keys {es : Array MapEntry} (hp : (es.toList.map (·.key)).Perm (L.map fun p => Value.string p.f0)) {x : MapEntry} (hx : x ∈ es.toList) : ∃ p ∈ L, x.key = .string p.f0 := by
  have h : x.key ∈ L.map fun p => Value.string p.f0 := hp.mem_iff.1 (List.mem_map.2 ⟨x, hx, rfl⟩)
  obtain ⟨p, hp, e⟩ := List.mem_map.1 h
  exact ⟨p, hp, e.symm⟩
theorem mapV_at {es : Array MapEntry} (hp : (es.toList.map (·.key)).Perm (L.map fun p => Value.string p.f0)) {p : S66} (h : p ∈ L) : ∃ x ∈ es.toList, x.key = .string p.f0 := by
  have h : Value.string p.f0 ∈ es.toList.map (·.key) := hp.mem_iff.2 (List.mem_map.2 ⟨p, h, rfl⟩)
  obtain ⟨x, hx, e⟩ := List.mem_map.1 h
  exact ⟨x, hx, e⟩
theorem SL.knodup (h : SL L) : (L.map fun p => Value.string p.f0).Nodup := by
  rw [List.nodup_iff_pairwise_ne, List.pairwise_map]
  exact h.pw.imp fun hlt e => klt_ne hlt (Value.string.inj e)
open Classical in
/-- what the entries say -/
noncomputable def entF (es : Array MapEntry) (v : Value) : Option Value := (es.toList.find? fun x => decide (x.key = v)).map (·.val)
theorem rep_of {es : Array MapEntry} (hL : SL L) (hp : (es.toList.map (·.key)).Perm (L.map fun p => Value.string p.f0)) : Mp.Rep .string es (entF es) := by
  classical
  have hn : (es.toList.map (·.key)).Nodup := hp.nodup_iff.2 hL.knodup
  refine ⟨fun x hx => ?_, hn, fun x hx => ?_, fun k v hv => ?_⟩
  · obtain ⟨p, _, e⟩ := mapV_keys hp hx
    rw [e]; trivial
  · unfold entF
    cases hf : es.toList.find? fun y => decide (y.key = x.key) with
    | none =>
      have := List.find?_eq_none.1 hf x hx
      simp at this
    | some y =>
      have h1 := List.find?_some hf
      have h2 := List.mem_of_find?_eq_some hf
      simp only [decide_eq_true_eq] at h1
      obtain ⟨i, hi⟩ := List.mem_iff_getElem?.1 hx
      obtain ⟨j, hj⟩ := List.mem_iff_getElem?.1 h2
      have e1 : (es.toList.map (·.key))[i]? = some x.key := by rw [List.getElem?_map, hi]; rfl
      have e2 : (es.toList.map (·.key))[j]? = some x.key := by rw [List.getElem?_map, hj]; simp [h1]
      have := Mp.nodup_at hn e1 e2
      subst this
      rw [hi] at hj
      cases hj
      rfl
  · unfold entF at hv
    cases hf : es.toList.find? fun y => decide (y.key = k) with
    | none => rw [hf] at hv; cases hv
    | some y =>
      have h1 := List.find?_some hf
      simp only [decide_eq_true_eq] at h1
      exact ⟨y, List.mem_of_find?_eq_some hf, h1⟩
/-- from what the entries say to the list -/
theorem mapV_mk (h0 : base ≤ M) (hL : SL L) {es : Array MapEntry} {cl : Nat} {f : Value → Option Value} (hb : w.heap[M]? = some (.map es cl)) (hst : MapKept.Stamped es cl) (hr : Mp.Rep .string es f) (h1 : ∀ p ∈ L, ∃ u, f (.string p.f0) = some u ∧ BV w base u p.f1) (h2 : ∀ v u, f v = some u → ∃ p ∈ L, v = .string p.f0) : MapV w base M L := by
  refine ⟨h0, hL, es, cl, hb, hst, (List.perm_ext_iff_of_nodup hr.nodup hL.knodup).2 fun v => ?_, fun x hx p hp e => ?_⟩
  · constructor
    · intro hv
      obtain ⟨x, hx, rfl⟩ := List.mem_map.1 hv
      obtain ⟨p, hp, e⟩ := h2 _ _ (hr.to_ x hx)
      exact List.mem_map.2 ⟨p, hp, e.symm⟩
    · intro hv
      obtain ⟨p, hp, rfl⟩ := List.mem_map.1 hv
      obtain ⟨u, hu, _⟩ := h1 p hp
      obtain ⟨x, hx, e⟩ := hr.of_ _ _ hu
      exact List.mem_map.2 ⟨x, hx, e⟩
  · obtain ⟨u, hu, hB⟩ := h1 p hp
    have := hr.to_ x hx
    rw [e, hu] at this
    cases this
    exact hB
theorem MapV.parts (h : MapV w base M L) : base ≤ M ∧ SL L ∧ ∃ es cl f, w.heap[M]? = some (.map es cl) ∧ MapKept.Stamped es cl ∧ Mp.Rep .string es f ∧ (∀ p ∈ L, ∃ u, f (.string p.f0) = some u ∧ BV w base u p.f1) ∧ (∀ v u, f v = some u → ∃ p ∈ L, v = .string p.f0) := by
  obtain ⟨h0, hL, es, cl, hb, hst, hp, hv⟩ := h
  have hr := rep_of hL hp
  refine ⟨h0, hL, es, cl, entF es, hb, hst, hr, fun p hpL => ?_, fun v u hu => ?_⟩
  · obtain ⟨x, hx, e⟩ := mapV_at hp hpL
    exact ⟨x.val, by rw [← e]; exact hr.to_ x hx, hv x hx p hpL e⟩
  · obtain ⟨x, hx, rfl⟩ := hr.of_ v u hu
    exact mapV_keys hp hx
theorem turned_chg {w w' : World} {r : Nat} (h : Mp.Turned w w' r) : Chg w w' (fun k => k = r) := .turned h rfl
theorem mapV_map {w : World} {es : Array MapEntry} {cl : Nat} (hb : w.heap[M]? = some (.map es cl)) : ∀ k, k = M → k < w.heap.size → ∀ cells, w.heap[k]? ≠ some (.cells cells 5 (0, 0)) := by
  intro k hk _ cells h
  subst hk
  rw [hb] at h
  cases h
/-- s.vals[k] = v -/
theorem MapV.upd {p : S66} {u : Value} (h : MapV w base M L) (hu : BV w base u p.f1) :
    ∃ w', (Instr.mapUpdate 146 (.map (some M)) (.string p.f0) u).run Tryz.prog w = .ok () w' ∧ Chg w w' (fun k => k = M) ∧ MapV w' base M (insK p L) := by
  obtain ⟨h0, hL, es, cl, f, hb, hst, hr, h1, h2⟩ := h.parts
  have hkey : MapKept.IsKey .string (.string p.f0) := trivial
  obtain ⟨w', hrun, htu, es', cl', hb', hr'⟩ := Mp.run_update (P := Tryz.prog) (t := 146) (kt := 9) (et := 58) (d := .string) ⟨es, cl, hb, hr⟩ Tryz.underlying146 Tryz.underlying9 hkey u
  obtain ⟨es2, cl2, hb2, hst2, _⟩ := MapKept.mapUpdate_keeps Tryz.underlying146 Tryz.underlying9 hb hst hr.isK hkey hrun
  rw [hb'] at hb2
  cases hb2
  have hc := turned_chg htu
  have hmv := mapV_map hb
  refine ⟨w', hrun, hc, mapV_mk h0 (hL.ins p) hb' hst2 hr' (fun q hq => ?_) (fun v x hx => ?_)⟩
  · rcases (mem_insK hL p q).1 hq with rfl | ⟨hq, hne⟩
    · exact ⟨u, Mp.upd_at _ _ _, hu.chg hc hmv⟩
    · obtain ⟨x, hx, hB⟩ := h1 q hq
      exact ⟨x, by rw [Mp.upd_ne _ _ (fun e => hne (Value.string.inj e))]; exact hx, hB.chg hc hmv⟩
  · by_cases e : v = .string p.f0
    · exact ⟨kvP p.f0 p.f1, (mem_insK hL p _).2 (.inl rfl), e⟩
    · rw [Mp.upd_ne _ _ e] at hx
      obtain ⟨q, hq, rfl⟩ := h2 v x hx
      exact ⟨q, (mem_insK hL p q).2 (.inr ⟨hq, fun e2 => e (by rw [e2])⟩), rfl⟩
/-- delete(s.vals, k) -/
theorem MapV.del {k : ByteArray} {ty : TypeId} (h : MapV w base M L) :
    ∃ w', (Builtin.delete_ #[146, 9] ty #[.map (some M), .string k]).run Tryz.prog w = .ok (.tuple #[]) w' ∧ Chg w w' (fun k => k = M) ∧ MapV w' base M (delK k L) := by
  obtain ⟨h0, hL, es, cl, f, hb, hst, hr, h1, h2⟩ := h.parts
  have hkey : MapKept.IsKey .string (.string k) := trivial
  obtain ⟨w', hrun, htu, es', cl', hb', hr'⟩ := Mp.run_delete (P := Tryz.prog) (t := 146) (kt := 9) (et := 58) (d := .string) (ty := ty) ⟨es, cl, hb, hr⟩ Tryz.underlying146 Tryz.underlying9 hkey
  obtain ⟨es2, cl2, hb2, hst2, _⟩ := MapKept.delete_keeps Tryz.underlying146 Tryz.underlying9 hb hst hr.isK hkey hrun
  rw [hb'] at hb2
  cases hb2
  have hc := turned_chg htu
  have hmv := mapV_map hb
  refine ⟨w', hrun, hc, mapV_mk h0 (hL.del k) hb' hst2 hr' (fun q hq => ?_) (fun v x hx => ?_)⟩
  · obtain ⟨hq, hne⟩ := mem_delK.1 hq
    obtain ⟨x, hx, hB⟩ := h1 q hq
    exact ⟨x, by rw [Mp.del_ne _ (fun e => hne (Value.string.inj e))]; exact hx, hB.chg hc hmv⟩
  · by_cases e : v = .string k
    · subst e; rw [Mp.del_at] at hx; cases hx
    · rw [Mp.del_ne _ e] at hx
      obtain ⟨q, hq, rfl⟩ := h2 v x hx
      exact ⟨q, mem_delK.2 ⟨hq, fun e2 => e (by rw [e2])⟩, rfl⟩
/-- clear(s.vals) -/
theorem MapV.clear {ty : TypeId} (h : MapV w base M L) :
    ∃ w', (Builtin.clear_ #[146] ty #[.map (some M)]).run Tryz.prog w = .ok (.tuple #[]) w' ∧ Chg w w' (fun k => k = M) ∧ MapV w' base M [] := by
  obtain ⟨h0, hL, es, cl, f, hb, hst, hr, h1, h2⟩ := h.parts
  obtain ⟨w', hrun, htu, c2, hb'⟩ : ∃ w', (Builtin.clear_ #[146] ty #[.map (some M)]).run Tryz.prog w = .ok (.tuple #[]) w' ∧ Mp.Turned w w' M ∧ ∃ c2, w'.heap[M]? = some (.map #[] c2) :=
    ⟨_, by simp [Builtin.clear_, run_underlying Tryz.underlying146, MapKept.run_getObj_map hb, MapKept.run_setObj_map _ hb, Result.andThen]; try rfl, Mp.turned_set _, _, (MapKept.heap_set hb).1⟩
  exact ⟨w', hrun, turned_chg htu, h0, .nil, #[], c2, hb', MapKept.stamped_empty _, .nil, fun x hx => by cases hx⟩
/-- s.vals[k] -/
theorem MapV.look (h : MapV w base M L) (k : ByteArray) :
    (∃ p u, p ∈ L ∧ p.f0 = k ∧ BV w base u p.f1 ∧ (Instr.lookup 146 (.map (some M)) (.string k) false).run Tryz.prog w = .ok u w ∧ (Instr.lookup 146 (.map (some M)) (.string k) true).run Tryz.prog w = .ok (.tuple #[u, .bool true]) w) ∨
    ((∀ p ∈ L, p.f0 ≠ k) ∧ (Instr.lookup 146 (.map (some M)) (.string k) false).run Tryz.prog w = .ok (.slice none 0 0) w ∧ (Instr.lookup 146 (.map (some M)) (.string k) true).run Tryz.prog w = .ok (.tuple #[.slice none 0 0, .bool false]) w) := by
  obtain ⟨h0, hL, es, cl, f, hb, hst, hr, h1, h2⟩ := h.parts
  have hkey : MapKept.IsKey .string (.string k) := trivial
  have hz : (zeroValue 58).run Tryz.prog w = .ok (.slice none 0 0) w := Tryz.zeroValue58 w
  rcases Mp.find hr hkey with ⟨e1, e2⟩ | ⟨j, e, e1, e2, e3, e4⟩
  · refine .inr ⟨fun p hp e => ?_, ?_, ?_⟩
    · obtain ⟨u, hu, _⟩ := h1 p hp
      rw [e, e2] at hu
      cases hu
    · simp [Instr.lookup, run_underlying Tryz.underlying146, MapKept.run_getObj_map hb, MapKept.run_checkKey Tryz.underlying9 hkey, MapKept.run_findKey Tryz.underlying9 e1, hz, Result.andThen]
    · simp [Instr.lookup, run_underlying Tryz.underlying146, MapKept.run_getObj_map hb, MapKept.run_checkKey Tryz.underlying9 hkey, MapKept.run_findKey Tryz.underlying9 e1, hz, Result.andThen]
  · obtain ⟨p, hp, ep⟩ := h2 _ _ e4
    obtain rfl := Value.string.inj ep
    obtain ⟨u, hu, hB⟩ := h1 p hp
    rw [e4] at hu
    cases hu
    refine .inl ⟨p, e.val, hp, rfl, hB, ?_, ?_⟩
    · simp [Instr.lookup, run_underlying Tryz.underlying146, MapKept.run_getObj_map hb, MapKept.run_checkKey Tryz.underlying9 hkey, MapKept.run_findKey Tryz.underlying9 e1, Result.andThen]
    · simp [Instr.lookup, run_underlying Tryz.underlying146, MapKept.run_getObj_map hb, MapKept.run_checkKey Tryz.underlying9 hkey, MapKept.run_findKey Tryz.underlying9 e1, Result.andThen]
theorem MapV.empty (hb : base ≤ w.heap.size) : MapV (w.alloc (.map #[] 0)) base w.heap.size [] :=
  ⟨hb, .nil, #[], 0, (MapKept.heap_alloc w _).1, MapKept.stamped_empty _, .nil, fun x hx => by cases hx⟩
end
end Go.Proofs.YtlepcmljmibdnaaGreat
namespace Go.Proofs.YtlepcmljmibdnaaGreat
open Go.RowKit Go.Proofs.YtlepcmljmibdnaaGreatW.PrintWords Go.Proofs.YtlepcmljmibdnaaGreatW.PrintLast Go.Proofs.YtlepcmljmibdnaaGreatW.PrintMore PWalOpens
open PStoreRecords (S66 k66 rd_T66 at_T66 z66)
set_option linter.unusedVariables false
set_option linter.unusedSimpArgs false
theorem clone_none' (w : World) (c : Nat) : Calls Tryz.prog 86 #[.slice none 0 c] w fun e w' => ∃ A' c', e = .returned (.slice A' 0 c') ∧ Kd.R (Kd.int .u8) 5 w' w.heap.size (fun k => w.heap.size ≤ k) (.slice A' 0 c') [] ∧ Below w.heap.size w w' := by
  have hq := run_eql_slice_nil29 w none 0 c
  simp only [Option.isNone_none] at hq
  go_enter Tryz.func86, Tryz.ntmps86
  go_wp2
  go_ret
  exact ⟨none, 0, rfl, Kd.R_nil _ _ _ _ _, Below.refl _ _⟩
theorem clone_all (w : World) (A : Option Addr) (c : Nat) (b : List Int) (hl : b.length ≤ 1000000) (hC : (Kd.int .u8).C w A b.length b) :
    Calls Tryz.prog 86 #[.slice A b.length c] w fun e w' => ∃ A' c', e = .returned (.slice A' b.length c') ∧ Kd.R (Kd.int .u8) 5 w' w.heap.size (fun k => w.heap.size ≤ k) (.slice A' b.length c') b ∧ Below w.heap.size w w' := by
  cases A with
  | none =>
    obtain rfl : b = [] := by
      cases b with
      | nil => rfl
      | cons x l =>
        obtain ⟨ad, e, _⟩ := hC.2.2 (by simp)
        cases e
    exact clone_none' w c
  | some ad => exact clone_any w (some ad) c b hl (fun h => by cases h) hC
/-- every cell that was there is as it was -/
def Cst (w w' : World) : Prop := ∀ p v, w.cell? p = some v → w'.cell? p = some v
theorem C_cells {α : Type} {d : Kd α} {w w' : World} {A : Option Addr} {n : Nat} {xs : List α} (hc : Cst w w') (hK : ∀ x cs, d.K w x cs → d.K w' x cs) (h : d.C w A n xs) : d.C w' A n xs :=
  ⟨h.1, h.2.1, fun hp => by
    obtain ⟨ad, e, f⟩ := h.2.2 hp
    exact ⟨ad, e, fun j p hj => by
      obtain ⟨cs, h1, h2, h3⟩ := f j p hj
      exact ⟨cs, h1, hK _ _ h2, fun i u hu => hc _ _ (h3 i u hu)⟩⟩⟩
theorem C8_cells {w w' : World} {A : Option Addr} {n : Nat} {xs : List Int} (hc : Cst w w') (h : (Kd.int .u8).C w A n xs) : (Kd.int .u8).C w' A n xs := C_cells hc (fun _ _ h => h) h
theorem Cst.of_map {w w' : World} {M : Nat} {es : Array MapEntry} {cl : Nat} (hM : w.heap[M]? = some (.map es cl)) (hc : Chg w w' (fun k => k = M)) : Cst w w' := fun p v h => by
  have hlt := World.block_lt_of_cell? w _ h
  have hb := hc.block p.block hlt (fun e => by
    unfold World.cell? at h
    rw [e, hM] at h
    cases h)
  unfold World.cell? at h ⊢
  rw [hb]
  exact h
theorem BV.of_clone {w w' : World} {base : Nat} {A : Option Addr} {c : Nat} {b : List Int} (h : Kd.R (Kd.int .u8) 5 w' w.heap.size (fun k => w.heap.size ≤ k) (.slice A b.length c) b) (hb : base ≤ w.heap.size) : BV w' base (.slice A b.length c) b :=
  ⟨A, c, rfl, (Kd.R_reads' h).2.1, Kd.R_mono (Kd.R_lower h hb) (fun _ _ => trivial)⟩
theorem hapL_take {L l : List S66} {i : Nat} {x : S66} (hx : l[i]? = some x) : hapL L (l.take (i + 1)) = hap1 (hapL L (l.take i)) x := by
  unfold hapL
  rw [List.take_add_one, hx, List.foldl_append]
  rfl
set_option maxRecDepth 100000 in
set_option maxHeartbeats 4000000 in
theorem happen_calls (w : World) {base M Sb : Nat} {L l : List S66} {v0 : Value} {A : Option Addr} {c : Nat} (hs : w.heap[Sb]? = some (.cells #[v0, .map (some M)] 148 (0, 0))) (hC : k66.C w A l.length l) (hz : ∀ p ∈ l, p.f1.length ≤ 1000000) (hM : MapV w base M L) :
    Calls Tryz.prog 82 #[.pointer (some ⟨Sb, 0, none⟩), .slice A l.length c] w fun e w' => e = .returned (.tuple #[]) ∧ MapV w' base M (hapL L l) ∧ Chg w w' (fun k => k = M) := by
  have hm := hC.2.1
  have hm2 : (l.length : Int) ≤ 9223372036854775807 := by omega
  have HC := Aside0.mk hC
  have HZ := Aside0.mk hz
  have HS := Aside0.mk hs
  obtain ⟨es0, cl0, hb0⟩ : ∃ es cl, w.heap[M]? = some (.map es cl) := by obtain ⟨_, _, es, cl, h, _⟩ := hM; exact ⟨es, cl, h⟩
  have HB0 := Aside0.mk hb0
  have hne : Sb ≠ M := fun e => by rw [e, hb0] at hs; cases hs
  have HNE := Aside0.mk hne
  have HM := Aside0.mk hM
  have hbm := hM.1
  have hlt := hM.lt
  have HBS := Aside0.mk (show base ≤ w.heap.size by omega)
  clear hC hz hs hb0 hne hM hbm hlt hm
  go_enter Tryz.func82, Tryz.ntmps82
  go_wp2
  go_loopg [8] l.length (fun kq v8 w' => ∃ (i : Nat), v8 = .int .i64 (i : Int) ∧ Aside0 (i + kq = l.length) ∧ Aside0 (MapV w' base M (hapL L (l.take i))) ∧ Aside0 (Chg w w' (fun k => k = M)))
  case atStart => exact ⟨0, rfl, ⟨by omega⟩, HM, ⟨Chg.refl _ _⟩⟩
  case round =>
    obtain ⟨i, rfl, HI, HMV, HCH⟩ := hrel
    by_cases hi : i < l.length
    · obtain ⟨ad, A1, c1, e, x0, x1, x2, hl1, hc1⟩ := at_T66 HC.out (i : Int) (by omega) (by omega)
      subst e
      have hx := rd_getT l i hi
      generalize rd_T66 l (i : Int) = x at x0 x1 x2 hl1 hc1 hx
      rw [Int.toNat_natCast] at x0 x1 x2
      have HCS := Aside0.mk (Cst.of_map HB0.out HCH.out)
      replace x0 := HCS.out _ _ x0
      replace x1 := HCS.out _ _ x1
      replace x2 := HCS.out _ _ x2
      have HSUC := Aside0.mk (hapL_take (L := L) hx)
      have HXL := Aside0.mk (HZ.out x (List.mem_of_getElem? hx))
      obtain ⟨s, b, gone⟩ := x
      simp only at x0 x1 x2 hl1 hc1
      have hbel := (Below.alloc (Below.refl wr.heap.size wr) (Nat.le_refl _) (.cells #[.string s, .slice A1 b.length c1, .bool gone] 66)).drew
      have HBEL := Aside0.mk hbel
      have HMD := Aside0.mk (HMV.out.below hbel)
      have HCB := Aside0.mk (Kd.C_below (C8_cells HCS.out hc1) hbel)
      have hsb : (wr.alloc (.cells #[.string s, .slice A1 b.length c1, .bool gone] 66)).drew.heap[Sb]? = some (.cells #[v0, .map (some M)] 148 (0, 0)) := by
        have h1 := (HCH.out.block Sb (Array.getElem?_eq_some_iff.1 HS.out).1 HNE.out).trans HS.out
        exact (hbel.block Sb (Array.getElem?_eq_some_iff.1 h1).1).trans h1
      have hbox : (wr.alloc (.cells #[.string s, .slice A1 b.length c1, .bool gone] 66)).drew.heap[wr.heap.size]? = some (.cells #[.string s, .slice A1 b.length c1, .bool gone] 66 (0, 0)) := heap_alloc_new wr _
      obtain ⟨y0, y1, y2, _⟩ := box_c hbox
      obtain ⟨q0, q1, _⟩ := cells2 hsb
      have hk1 := HI.out
      clear hx hc1 hbel hl1 hsb hbox
      cases gone with
      | true =>
        obtain ⟨w2, hrun, hch, hmv⟩ := HMD.out.del (k := s) (ty := 0)
        have HR := Aside0.mk hrun
        have HCH2 := Aside0.mk hch
        have HMV2 := Aside0.mk hmv
        clear hrun hch hmv
        go_wp2
        refine Fork.wp_fork (Fork.Lo.rel 0) [6] [6] (.one 0 0 (.one 1 0 (.one 2 0 (.one 4 0 (.one 3 1 (.one 5 1 (.one 6 2 .nil))))))) (by kernel_rfl) (by kernel_rfl) ?_
        generalize hops : List.toArray (_ : List Oper) = ops
        have HO := Aside0.mk hops
        clear hops
        iterate 4 ((refine Fork.plain (Fork.at_ HO.out rfl) _ rfl (fun W => by go_simp; exact rfl) ?_); simp only [Act.put, List.setIfInBounds_toArray, List.set_cons_succ, List.set_cons_zero])
        refine Fork.reads (Fork.at_ HO.out rfl) _ rfl (fun W hW => Arr.ex_load1 rfl rfl (by kernel_rfl) (Fork.bel_cell hW (by assumption))) ?_
        simp only [Act.put, List.setIfInBounds_toArray, List.set_cons_succ, List.set_cons_zero]
        refine Fork.reads (Fork.at_ HO.out rfl) _ rfl (fun W hW => Arr.ex_load1 rfl rfl (by kernel_rfl) (Fork.bel_cell hW (by assumption))) ?_
        simp only [Act.put, List.setIfInBounds_toArray, List.set_cons_succ, List.set_cons_zero]
        refine Fork.step (Fork.at_ HO.out rfl) (fun K hK => ?_)
        go_simp
        rw [HR.out]
        refine hK _ _ (.of_any rfl rfl) ?_
        clear hK K
        try simp only [Act.put, List.setIfInBounds_toArray, List.set_cons_succ, List.set_cons_zero]
        refine Fork.done ?_
        go_wp2
        obtain ⟨gq, rfl⟩ : ∃ gq, gk = gq + 1 := ⟨gk - 1, by omega⟩
        go_roundg gq
        case rel => exact ⟨i + 1, by go_num, ⟨by omega⟩, ⟨by rw [HSUC.out]; exact HMV2.out⟩, ⟨(HCH.out.trans (.of_below HBEL.out)).trans HCH2.out⟩⟩
        case measure => omega
      | false =>
        go_wp2
        refine Fork.wp_fork (Fork.Lo.rel 0) [9] [9] (.one 0 0 (.one 1 0 (.one 2 0 (.one 4 0 (.one 6 0 (.one 3 1 (.one 5 1 (.one 7 1 (.one 8 2 (.one 9 2 .nil)))))))))) (by kernel_rfl) (by kernel_rfl) ?_
        generalize hops : List.toArray (_ : List Oper) = ops
        have HO := Aside0.mk hops
        clear hops
        iterate 5 ((refine Fork.plain (Fork.at_ HO.out rfl) _ rfl (fun W => by go_simp; exact rfl) ?_); simp only [Act.put, List.setIfInBounds_toArray, List.set_cons_succ, List.set_cons_zero])
        refine Fork.reads (Fork.at_ HO.out rfl) _ rfl (fun W hW => Arr.ex_load1 rfl rfl (by kernel_rfl) (Fork.bel_cell hW (by assumption))) ?_
        simp only [Act.put, List.setIfInBounds_toArray, List.set_cons_succ, List.set_cons_zero]
        refine Fork.reads (Fork.at_ HO.out rfl) _ rfl (fun W hW => Arr.ex_load1 rfl rfl (by kernel_rfl) (Fork.bel_cell hW (by assumption))) ?_
        simp only [Act.put, List.setIfInBounds_toArray, List.set_cons_succ, List.set_cons_zero]
        refine Fork.reads (Fork.at_ HO.out rfl) _ rfl (fun W hW => Arr.ex_load1 rfl rfl (by kernel_rfl) (Fork.bel_cell hW (by assumption))) ?_
        simp only [Act.put, List.setIfInBounds_toArray, List.set_cons_succ, List.set_cons_zero]
        refine Fork.step (Fork.at_ HO.out rfl) (fun K hK => ?_)
        go_simp
        refine (clone_all _ A1 c1 b HXL.out HCB.out).mono ?_
        rintro r w5 ⟨A5, c5, rfl, hr, hb⟩
        refine hK _ _ (.of_new hb (Nat.zero_le _)) ?_
        clear hK K
        have HB5 := Aside0.mk hb
        obtain ⟨w6, hrun, hch, hmv⟩ := (HMD.out.below hb).upd (p := ⟨s, b, false⟩) (BV.of_clone hr (Nat.le_trans HBS.out (Nat.le_trans HCH.out.size HBEL.out.size)))
        have HR := Aside0.mk hrun
        have HCH2 := Aside0.mk hch
        have HMV2 := Aside0.mk hmv
        clear hr hb hrun hch hmv
        try simp only [Act.put, List.setIfInBounds_toArray, List.set_cons_succ, List.set_cons_zero]
        refine Fork.step (Fork.at_ HO.out rfl) (fun K hK => ?_)
        go_simp
        rw [HR.out]
        refine hK _ _ (.of_any rfl rfl) ?_
        clear hK K
        try simp only [Act.put, List.setIfInBounds_toArray, List.set_cons_succ, List.set_cons_zero]
        refine Fork.done ?_
        go_wp2
        obtain ⟨gq, rfl⟩ : ∃ gq, gk = gq + 1 := ⟨gk - 1, by omega⟩
        go_roundg gq
        case rel => exact ⟨i + 1, by go_num, ⟨by omega⟩, ⟨by rw [HSUC.out]; exact HMV2.out⟩, ⟨((HCH.out.trans (.of_below HBEL.out)).trans (.of_below HB5.out)).trans HCH2.out⟩⟩
        case measure => omega
    · have hi0 := HI.out
      obtain rfl : gk = 0 := by omega
      obtain rfl : i = l.length := by omega
      clear hi0
      have hm3 : ¬ ((l.length : Int) < (l.length : Int)) := by omega
      go_wp2
      go_end0
      exact ⟨rfl, by have := HMV.out; rwa [List.take_length] at this, HCH.out⟩
end Go.Proofs.YtlepcmljmibdnaaGreat
namespace Go.Proofs.YtlepcmljmibdnaaGreat
open Go.RowKit Go.Proofs.YtlepcmljmibdnaaGreatW.PrintWords Go.Proofs.YtlepcmljmibdnaaGreatW.PrintLast Go.Proofs.YtlepcmljmibdnaaGreatW.PrintMore PWalOpens
open PStoreRecords (S66 k66 rd_T66 at_T66 z66)
set_option linter.unusedVariables false
set_option linter.unusedSimpArgs false
theorem ex_smclone {o : Oper} {a : Act} (W : World) {x : Operand} {M : Nat} {es : Array MapEntry} {clock : Nat} (ho : o.op = .call { callee := .value (.func 138), args := #[x], argTypes := #[20] }) (hx : a.eval x = .iface 146 (.map (some M))) (hb : W.heap[M]? = some (.map es clock)) :
    (execOp a.eval o).run Tryz.prog W = .ok (.value (.iface 146 (.map (some W.heap.size)))) (W.alloc (.map es clock)) := by
  have h1 := run_maps_clone_sl (P := Tryz.prog) W 146 hb
  have h2 := run_callFunc_extern Tryz.func138 (by kernel_rfl) (by kernel_rfl) (by kernel_rfl) (e := Extern.MapsClone.clone) (by kernel_rfl) #[.iface 146 (.map (some M))] W
  rw [h1] at h2
  simp only [Result.andThen_ok] at h2
  have hf : a.eval (.func 138) = .func (.func 138) #[] #[] := rfl
  simp only [execOp, ho]
  simp [resolve, invoke, Deferred.ofValue, hx, hf, h2]
theorem ex_smassert {o : Oper} {ρ : Operand → Value} (W : World) {x : Operand} {v : Value} (ho : o.op = .typeAssert x 20 146 false) (hx : ρ x = .iface 146 v) : (execOp ρ o).run Tryz.prog W = .ok (.value v) W := by
  simp only [execOp, ho, hx, Sem.run_bind, run_typeAssert_map_sl W 146 20 _ _ v Tryz.underlying146, Result.andThen_ok, Sem.run_pure]
theorem smclone_calls (w : World) (M : Nat) (es : Array MapEntry) (clock : Nat) (hb : w.heap[M]? = some (.map es clock)) :
    Calls Tryz.prog 120 #[.map (some M)] w fun e w' => e = .returned (.map (some w.heap.size)) ∧ w' = w.alloc (.map es clock) := by
  have hq := run_eql_map_nil_sl (P := Tryz.prog) w 146 _ _ (some M) Tryz.underlying146
  simp only [Option.isNone_some] at hq
  have HB := Aside0.mk hb
  clear hb
  go_enter Tryz.func120, Tryz.ntmps120
  go_wp2_with (first | ((with_reducible refine gate_callee (f := 138) rfl ?_); go_loud (refine Kd.event_run rfl (ex_smclone w rfl rfl HB.out) ?_); simp only [Act.put, List.setIfInBounds_toArray, List.set_cons_succ, List.set_cons_zero]) | ((with_reducible refine gate_ (.typeAssert (.tmp 7) 20 146 false) rfl ?_); refine Kd.event_run rfl (ex_smassert _ rfl rfl) ?_; simp only [Act.put, List.setIfInBounds_toArray, List.set_cons_succ, List.set_cons_zero]))
  go_ret
  exact ⟨rfl, rfl⟩
theorem mclone_map {w : World} {base M : Nat} {L : List S66} (h : MapV w base M L) :
    Calls Tryz.prog 120 #[.map (some M)] w fun e w' => e = .returned (.map (some w.heap.size)) ∧ MapV w' base w.heap.size L ∧ Below w.heap.size w w' := by
  have hlt := h.lt
  obtain ⟨h0, hL, es, cl, hb, hst, hp, hv⟩ := h
  refine (smclone_calls w M es cl hb).mono ?_
  rintro e w' ⟨rfl, rfl⟩
  have hbl := Below.alloc (Below.refl w.heap.size w) (Nat.le_refl _) (.map es cl)
  exact ⟨rfl, ⟨by omega, hL, es, cl, (MapKept.heap_alloc w _).1, hst, hp, fun x hx p hp e => (hv x hx p hp e).below hbl⟩, hbl⟩
/-- what a key has, and whether it has something -/
def getP (L : List S66) (k : ByteArray) : List Int × Bool := match lkL L k with
  | some p => (p.f1, true)
  | none => ([], false)
theorem getP_in {L : List S66} (h : SL L) {p : S66} (hp : p ∈ L) : getP L p.f0 = (p.f1, true) := by
  unfold getP lkL
  cases hf : L.find? fun q => decide (q.f0 = p.f0) with
  | none => have := List.find?_eq_none.1 hf p hp; simp at this
  | some q =>
    have h1 := List.find?_some hf
    simp only [decide_eq_true_eq] at h1
    rw [h.uniq (List.mem_of_find?_eq_some hf) hp h1]
theorem getP_out {L : List S66} {k : ByteArray} (h : ∀ p ∈ L, p.f0 ≠ k) : getP L k = ([], false) := by
  unfold getP lkL
  cases hf : L.find? fun q => decide (q.f0 = k) with
  | none => rfl
  | some q =>
    have h1 := List.find?_some hf
    simp only [decide_eq_true_eq] at h1
    exact absurd h1 (h q (List.mem_of_find?_eq_some hf))
def GetQ (w : World) (r : List Int × Bool) (e : Ending) (w' : World) : Prop := ∃ A c, e = .returned (.tuple #[.slice A r.1.length c, .bool r.2]) ∧ Kd.R (Kd.int .u8) 5 w' w.heap.size (fun k => w.heap.size ≤ k) (.slice A r.1.length c) r.1 ∧ Below w.heap.size w w'
set_option maxRecDepth 100000 in
theorem get_calls {w : World} {Sb base M : Nat} {v0 : Option Addr} {L : List S66} (k : ByteArray) (hs : w.heap[Sb]? = some (.cells #[.pointer v0, .map (some M)] 148 (0, 0))) (hz : ∀ p ∈ L, p.f1.length ≤ 1000000) (hM : MapV w base M L) :
    Calls Tryz.prog 40 #[.pointer (some ⟨Sb, 0, none⟩), .string k] w (GetQ w (getP L k)) := by
  have HOK : Aside0 (Calls Tryz.prog 83 #[.pointer (some ⟨Sb, 0, none⟩)] w fun e w' => e = .returned (.bool true) ∧ w = w') := ⟨by
    obtain ⟨q0, q1, f0, f1⟩ := cells2 hs
    have hq := run_neq_map_nil (P := Tryz.prog) w 146 9 58 (some M) Tryz.underlying146
    simp only [Option.isNone_some, Bool.not_false] at hq
    clear hs
    go_enter Tryz.func83, Tryz.ntmps83
    go_wp2
    go_ret
    exact ⟨rfl, rfl⟩⟩
  obtain ⟨q0, q1, _⟩ := cells2 hs
  rcases hM.look k with ⟨p, u, hp, rfl, ⟨A, c, rfl, hc, hr⟩, h1, h2⟩ | ⟨hn, h1, h2⟩
  · rw [getP_in hM.2.1 hp]
    have HCL := Aside0.mk (clone_all w A c p.f1 (hz p hp) (Kd.R_reads' hr).2.2)
    generalize p.f1 = b at *
    clear hz hM h1 hs hc hr hp
    go_enter Tryz.func40, Tryz.ntmps40
    go_wp2_with (first
      | (go_at_call 83; (with_reducible refine HOK.out.mono ?_); rintro e w' ⟨rfl, rfl⟩)
      | (go_at_call 86; (with_reducible refine HCL.out.mono ?_); rintro e w' ⟨A', c', rfl, hr, hb⟩; have HR := Aside0.mk hr; have HB := Aside0.mk hb; clear hr hb))
    go_ret2
    exact ⟨A', c', rfl, HR.out, HB.out⟩
  · rw [getP_out hn]
    have HCL := Aside0.mk (clone_none' w 0)
    clear hz hM h1 hs hn
    go_enter Tryz.func40, Tryz.ntmps40
    go_wp2_with (first
      | (go_at_call 83; (with_reducible refine HOK.out.mono ?_); rintro e w' ⟨rfl, rfl⟩)
      | (go_at_call 86; (with_reducible refine HCL.out.mono ?_); rintro e w' ⟨A', c', rfl, hr, hb⟩; have HR := Aside0.mk hr; have HB := Aside0.mk hb; clear hr hb))
    go_ret2
    exact ⟨A', c', rfl, HR.out, HB.out⟩
theorem sok_any {w : World} {Sb M : Nat} {v0 : Option Addr} (hs : w.heap[Sb]? = some (.cells #[.pointer v0, .map (some M)] 148 (0, 0))) :
    Calls Tryz.prog 83 #[.pointer (some ⟨Sb, 0, none⟩)] w fun e w' => e = .returned (.bool true) ∧ w = w' := by
  obtain ⟨q0, q1, f0, f1⟩ := cells2 hs
  have hq := run_neq_map_nil (P := Tryz.prog) w 146 9 58 (some M) Tryz.underlying146
  simp only [Option.isNone_some, Bool.not_false] at hq
  clear hs
  go_enter Tryz.func83, Tryz.ntmps83
  go_wp2
  go_ret
  exact ⟨rfl, rfl⟩
end Go.Proofs.YtlepcmljmibdnaaGreat
