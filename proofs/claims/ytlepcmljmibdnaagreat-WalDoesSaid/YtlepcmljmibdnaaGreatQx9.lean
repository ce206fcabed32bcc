/- Parts of one proof, joined: Tu, Cn, Ad, Ct, Aq, Rz, St, Rm, Xa, Xb. Conditions: those of each statement. -/
import Derived.Test.YtlepcmljmibdnaaGreatQx8
import Derived.Lib.SmallJoins
import Derived.Lib.SlBytesConst
namespace Go.Proofs.YtlepcmljmibdnaaGreat
open Go.RowKit Go.Proofs.YtlepcmljmibdnaaGreatW.PrintWords Go.Proofs.YtlepcmljmibdnaaGreatW.PrintLast Go.Proofs.YtlepcmljmibdnaaGreatW.PrintMore PWalOpens
set_option linter.unusedVariables false
set_option linter.unusedSimpArgs false
/-- what a wal's deeds may change: the disk, the wal's own block -/
def isWD (o : Obj) : Prop := isDisk o ∨ isT 102 o
/-- a wal, its disk, its starts -/
structure WV (n0 : Nat) (w : World) (Wb B M Bd : Nat) (vc vs : Value) (D : PD) (gen head tail : Int) (S : List Int) (over : Bool) : Prop where
  blk : WlC w Wb B gen head tail vs true over
  hW : n0 ≤ Wb
  dk : DK w n0 B M Bd vc D
  st : Kd.R (Kd.int .u64) 52 w n0 (fun _ => True) vs S
section
variable {n0 : Nat} {w w' : World} {Wb B M Bd : Nat} {vc vs v1 : Value} {D D1 : PD} {gen head tail h1 t1 : Int} {S S1 : List Int} {over : Bool}
theorem WV.away (h : WV n0 w Wb B M Bd vc vs D gen head tail S over) : ¬ FP B M Bd vc Wb := by
  have hb := h.blk
  unfold WlC at hb
  rintro (rfl | rfl | rfl | hk)
  · rw [h.dk.blk] at hb; simp at hb
  · obtain ⟨_, _, hk, _⟩ := h.dk.kept; rw [hk] at hb; cases hb
  · obtain ⟨_, _, hk, _⟩ := h.dk.bad; rw [hk] at hb; cases hb
  · obtain ⟨inner, ho⟩ := Kd.R_own h.dk.cache
    obtain ⟨cells, hc⟩ := own_typed ho Wb hk.symm
    rw [hc] at hb; simp at hb
theorem WV.fresh (h : WV n0 w Wb B M Bd vc vs D gen head tail S over) (hb : Below w.heap.size w w') : WV n0 w' Wb B M Bd vc vs D gen head tail S over :=
  ⟨(hb.block _ (Array.getElem?_eq_some_iff.1 h.blk).1).trans h.blk, h.hW, h.dk.chg (.of_below hb), Kd.R_below h.st hb⟩
/-- the disk alone went on -/
theorem WV.disk {vc' : Value} (h : WV n0 w Wb B M Bd vc vs D gen head tail S over) (ha : At w (FP B M Bd vc) w' B M Bd vc' D1) : WV n0 w' Wb B M Bd vc' vs D1 gen head tail S over ∧ TC n0 isDisk w w' := by
  have hc := h.dk.tc ha.chg
  exact ⟨⟨hc.blk _ _ h.blk (fun e => by simp [isDisk] at e), h.hW, At.based h.dk ha, R_tc h.st hc (fun q hq cells => by
    obtain rfl := q56 q hq
    simp [isDisk])⟩, hc⟩
theorem WV.tcW (h : WV n0 w Wb B M Bd vc vs D gen head tail S over) (i : Nat) (v : Value) : TC n0 (isT 102) w (w.setCell ⟨Wb, i, none⟩ v) := TC.set (T := isT 102) h.blk rfl h.hW v
theorem WV.overed (h : WV n0 w Wb B M Bd vc vs D gen head tail S over) : WV n0 (w.setCell ⟨Wb, 6, none⟩ (.bool true)) Wb B M Bd vc vs D gen head tail S true :=
  ⟨h.blk.overed, h.hW, h.dk.tkeep (h.tcW 6 _) (isT_disk (by decide)), R_tc h.st (h.tcW 6 _) (fun q hq cells => by
    obtain rfl := q56 q hq
    simp [isT])⟩
/-- four fields turned -/
theorem WV.turned (h : WV n0 w Wb B M Bd vc vs D gen head tail S over) (hr : Kd.R (Kd.int .u64) 52 w n0 (fun _ => True) v1 S1) (g1 : Int) :
    WV n0 ((((w.setCell ⟨Wb, 1, none⟩ (.int .u64 g1)).setCell ⟨Wb, 2, none⟩ (.int .u64 h1)).setCell ⟨Wb, 3, none⟩ (.int .u64 t1)).setCell ⟨Wb, 4, none⟩ v1) Wb B M Bd vc v1 D g1 h1 t1 S1 over ∧
      TC n0 (isT 102) w ((((w.setCell ⟨Wb, 1, none⟩ (.int .u64 g1)).setCell ⟨Wb, 2, none⟩ (.int .u64 h1)).setCell ⟨Wb, 3, none⟩ (.int .u64 t1)).setCell ⟨Wb, 4, none⟩ v1) := by
  have b0 := h.blk
  unfold WlC at b0
  have b1 := set7 b0 1 (.int .u64 g1)
  have b2 := set7 b1 2 (.int .u64 h1)
  have b3 := set7 b2 3 (.int .u64 t1)
  have b4 := set7 b3 4 v1
  have c1 : TC n0 (isT 102) w (w.setCell ⟨Wb, 1, none⟩ (.int .u64 g1)) := TC.set (T := isT 102) b0 rfl h.hW _
  have c2 := c1.trans (TC.set (T := isT 102) b1 rfl h.hW (.int .u64 h1) (j := 2))
  have c3 := c2.trans (TC.set (T := isT 102) b2 rfl h.hW (.int .u64 t1) (j := 3))
  have c4 := c3.trans (TC.set (T := isT 102) b3 rfl h.hW v1 (j := 4))
  exact ⟨⟨b4, h.hW, h.dk.tkeep c4 (isT_disk (by decide)), R_tc hr c4 (fun q hq cells => by
    obtain rfl := q56 q hq
    simp [isT])⟩, c4⟩
theorem save_two (g x y e : Int) (hsv : saveP D g [x, y] = (D1, e)) (hg : 0 ≤ g ∧ g < 18446744073709551616) (hx : 0 ≤ x ∧ x < 18446744073709551616) (hy : 0 ≤ y ∧ y < 18446744073709551616) (hc : D.cache.length ≤ 900) (h : At w (FP B M Bd vc) w B M Bd vc D) :
    Calls Tryz.prog 94 #[.pointer (some ⟨B, 0, none⟩), .int .u64 g, .slice (some ⟨w.heap.size, 0, none⟩) 2 2] (w.alloc (.cells #[.int .u64 x, .int .u64 y] 52)).drew fun r w' => r = .returned (.int .i64 e) ∧ ∃ vc', At w (FP B M Bd vc) w' B M Bd vc' D1 :=
  at_save (l := [x, y]) (A := some ⟨w.heap.size, 0, none⟩) (c := 2) hsv hg (by simp; exact ⟨hx, hy⟩) (Kd.C_drew (lit_Cu w [x, y] (fun _ => False) (by simp) (fun h => h) _ (Chg.refl _ _))) hc (h.grow (.of_below ((Below.refl w.heap.size w).alloc (Nat.le_refl _) _).drew))
theorem froz {w : World} {b : Nat} {cs : Array Value} {t : Nat} (h : w.heap[b]? = some (.cells cs t (0, 0))) (i : Nat) : w.frozen? ⟨b, i, none⟩ = false := by
  unfold World.frozen?
  simp [h]
/-- what turn does: 0, or over -/
def TuQ (n0 : Nat) (w : World) (Wb B M Bd : Nat) (vs v1 : Value) (D1 : PD) (gen head tail h1 t1 : Int) (S S1 : List Int) (over : Bool) (e : Int) (r : Ending) (w' : World) : Prop :=
  TC n0 isWD w w' ∧ ∃ vc', (e = 0 → r = .returned (.int .i64 0) ∧ WV n0 w' Wb B M Bd vc' v1 D1 (gen + 1) h1 t1 S1 over) ∧ (e ≠ 0 → r = .returned (.int .i64 50) ∧ WV n0 w' Wb B M Bd vc' vs D1 gen head tail S true)
theorem turn_calls (e : Int) (hsv : saveP D (gen + 1) [h1, t1] = (D1, e)) (hg : 0 ≤ gen ∧ gen < 18446744073709551615) (hh : 0 ≤ h1 ∧ h1 < 18446744073709551616) (ht : 0 ≤ t1 ∧ t1 < 18446744073709551616) (hc : D.cache.length ≤ 900)
    (h : WV n0 w Wb B M Bd vc vs D gen head tail S over) (hr : Kd.R (Kd.int .u64) 52 w n0 (fun _ => True) v1 S1) :
    Calls Tryz.prog 57 #[.pointer (some ⟨Wb, 0, none⟩), .int .u64 h1, .int .u64 t1, v1] w (TuQ n0 w Wb B M Bd vs v1 D1 gen head tail h1 t1 S S1 over e) := by
  have HH := Aside0.mk h
  have HRR := Aside0.mk hr
  have HSV := Aside0.mk (save_two (w := w) (B := B) (M := M) (Bd := Bd) (vc := vc) (gen + 1) h1 t1 e hsv ⟨by omega, by omega⟩ hh ht hc (At.refl h.dk))
  have HWG := Aside0.mk (IntWalk.u64_in (gen + 1) (by omega))
  obtain ⟨⟨q0, q1, q2, q3, q4, q5, q6⟩, k2, k4, k5, k6⟩ := cells7 h.blk
  obtain ⟨A1, c1, rfl⟩ := Kd.R_slice hr
  have g0 : 0 ≤ gen := hg.1
  have g1 : gen < 18446744073709551615 := hg.2
  clear hsv h hr q2 q3 q4 q5 q6 k2 k4 k5 k6
  go_enter Tryz.func57, Tryz.ntmps57
  go_wp2
  refine Fork.wp_fork (Fork.Lo.rel 0) [12] [] (.one 0 0 (.one 1 0 (.one 2 0 (.one 4 0 (.one 5 0 (.one 6 0 (.one 9 0 (.one 10 0 (.one 3 1 (.one 7 1 (.one 8 0 (.one 11 2 (.one 12 2 (.one 13 0 .nil)))))))))))))) (by kernel_rfl) (by kernel_rfl) ?_
  generalize hops : List.toArray (_ : List Oper) = ops
  have HO := Aside0.mk hops
  clear hops
  iterate 8 ((refine Fork.plain (Fork.at_ HO.out rfl) _ rfl (fun W => by go_simp; exact rfl) ?_); simp only [Act.put, List.setIfInBounds_toArray, List.set_cons_succ, List.set_cons_zero])
  refine Fork.reads (Fork.at_ HO.out rfl) _ rfl (fun W hW => Arr.ex_load1 rfl rfl (by kernel_rfl) (Fork.bel_cell hW (by assumption))) ?_
  simp only [Act.put, List.setIfInBounds_toArray, List.set_cons_succ, List.set_cons_zero]
  refine Fork.reads (Fork.at_ HO.out rfl) _ rfl (fun W hW => Arr.ex_load1 rfl rfl (by kernel_rfl) (Fork.bel_cell hW (by assumption))) ?_
  simp only [Act.put, List.setIfInBounds_toArray, List.set_cons_succ, List.set_cons_zero]
  ((refine Fork.plain (Fork.at_ HO.out rfl) _ rfl (fun W => by go_simp; exact rfl) ?_); simp only [Act.put, List.setIfInBounds_toArray, List.set_cons_succ, List.set_cons_zero])
  refine Fork.step (Fork.at_ HO.out rfl) (fun K hK => ?_)
  go_simp
  refine hK _ _ (.of_new ((Below.refl _ _).alloc (Nat.le_refl _) _) (Nat.zero_le _)) ?_
  clear hK K
  try simp only [Act.put, List.setIfInBounds_toArray, List.set_cons_succ, List.set_cons_zero]
  refine Fork.step (Fork.at_ HO.out rfl) (fun K hK => ?_)
  go_simp
  rw [HWG.out]
  (with_reducible refine HSV.out.mono ?_)
  rintro er w5 ⟨rfl, vc5, hd5⟩
  refine hK _ _ (Fork.Grow.of_old (Fork.Lo.zero hd5.chg.os hd5.chg.tape hd5.chg.output) rfl) ?_
  clear hK K
  have HD5 := Aside0.mk (HH.out.disk hd5)
  clear hd5
  try simp only [Act.put, List.setIfInBounds_toArray, List.set_cons_succ, List.set_cons_zero]
  ((refine Fork.plain (Fork.at_ HO.out rfl) _ rfl (fun W => by go_simp; exact rfl) ?_); simp only [Act.put, List.setIfInBounds_toArray, List.set_cons_succ, List.set_cons_zero])
  refine Fork.done ?_
  obtain ⟨⟨p0, p1, p2, p3, p4, p5, p6⟩, _⟩ := cells7 HD5.out.1.blk
  have f1 := froz HD5.out.1.blk 1
  have f2 := froz HD5.out.1.blk 2
  have f3 := froz HD5.out.1.blk 3
  have f4 := froz HD5.out.1.blk 4
  have f6 := froz HD5.out.1.blk 6
  have HR5 := Aside0.mk (R_tc HRR.out HD5.out.2 (fun q hq cells => by
    obtain rfl := q56 q hq
    simp [isDisk]))
  have HTD := Aside0.mk (show TC n0 isWD w w5 from HD5.out.2.mono fun _ h => .inl h)
  by_cases he : e = 0
  · subst he
    go_wp2
    go_ret
    have h5 := HD5.out.1.turned (h1 := h1) (t1 := t1) HR5.out (gen + 1)
    exact ⟨HTD.out.trans (h5.2.mono fun _ h => .inr h), vc5, fun _ => ⟨rfl, h5.1⟩, fun h => absurd rfl h⟩
  · have he' : (e != 0) = true := by simp; exact he
    go_wp2
    go_ret
    exact ⟨HTD.out.trans ((HD5.out.1.tcW 6 _).mono fun _ h => .inr h), vc5, fun h => absurd h he, fun _ => ⟨rfl, HD5.out.1.overed⟩⟩
end
end Go.Proofs.YtlepcmljmibdnaaGreat
namespace Go.Proofs.YtlepcmljmibdnaaGreat
open Go.RowKit Go.Proofs.YtlepcmljmibdnaaGreatW.PrintWords Go.Proofs.YtlepcmljmibdnaaGreatW.PrintLast Go.Proofs.YtlepcmljmibdnaaGreatW.PrintMore PWalOpens
set_option linter.unusedVariables false
set_option linter.unusedSimpArgs false
theorem run_eql_slice_nil57 (w : World) (a : Option Addr) (l c : Nat) : (binOp .eql 98 (.slice a l c) (.slice none 0 0)).run Tryz.prog w = .ok (.bool a.isNone) w := by
  exact Lib.run_eql_slice_nil (P := Tryz.prog) w 98 52 a l c 0 0 Tryz.underlying98
theorem clone64u_calls (w : World) (ad : Addr) (c : Nat) (b : List Int) (hl : b.length ≤ 1000000) (hC : (Kd.int .u64).C w (some ad) b.length b) :
    Calls Tryz.prog 60 #[.slice (some ad) b.length c] w fun e w' => ∃ v, e = .returned v ∧ Kd.R (Kd.int .u64) 52 w' w.heap.size (fun _ => True) v b ∧ Below w.heap.size w w' := by
  have hq := run_eql_slice_nil57 w (some ad) b.length c
  simp only [Option.isNone_some] at hq
  have HC := Aside0.mk hC
  have HL := Aside0.mk hl
  clear hC hl
  go_enter Tryz.func60, Tryz.ntmps60
  go_wp2_with (first | ((with_reducible refine gate_dst (N := 5) rfl ?_); refine Kd.R_lit (Kd.int .u64) _ 52 ?hg (N := 5) ?hd (xs := ([] : List Int)) (inner := []) (ok := fun _ => True) (okp := fun _ => True) ?hr ?hp (fun _ hk => hk) trivial (Below.refl _ _) (Nat.le_refl _) (by simp) ?_; (case hd => rfl); (case hg => rfl); (case hr => first | (go_simp; done) | (go_simp; rfl)); (case hp => exact (Reps.none _ _)); intro v10 w10 ho11 hb hg_ hnew_; clear hg_ hnew_; have HO := Aside0.mk ho11; have HB := Aside0.mk hb; clear ho11 hb) | ((with_reducible refine gate_builtin (b := .append) (xs := #[.tmp 5, .tmp 6]) rfl ?_); at_builtin; go_loud (refine Kd.R_append_rows (Kd.int .u64) (w0 := w) w.heap.size rfl (.tmp 5) (.tmp 6) 98 52 (.int .u64 0) 8 rfl Tryz.underlying98 info56 rfl (by decide) (by omega) v10 [] b (some ad) b.length c (fun _ => True) (fun _ => False) rfl rfl HO.out (Kd.C_below HC.out HB.out) (fun _ _ h => h) (fun _ h => h.elim) (fun _ _ => trivial) HB.out HB.out.size (by have := HL.out; simp; omega) ?_; intro v1 w1 ho hb hg hat; have HO1 := Aside0.mk ho; have HB1 := Aside0.mk hb; clear ho hb hg hat)))
  go_ret
  exact ⟨v1, rfl, HO1.out, HB1.out⟩
theorem grow_none (w : World) : Calls Tryz.prog 107 #[.slice none 0 0, .int .i64 0] w fun e w' => e = .returned (.slice none 0 0) ∧ w = w' := by
  go_enter Tryz.func107, Tryz.ntmps107
  go_wp2
  go_ret
  exact ⟨rfl, rfl⟩
set_option maxRecDepth 100000 in
theorem grow_some (w : World) (n : Nat) (hn : 0 < n ∧ n ≤ 1000000) : Calls Tryz.prog 107 #[.slice none 0 0, .int .i64 n] w fun e w' => ∃ v, e = .returned v ∧ Kd.R (Kd.int .u64) 52 w' w.heap.size (fun _ => True) v [] ∧ Below w.heap.size w w' := by
  have h1 : decide ((n : Int) < 0) = false := by simp
  have h2 : decide (0 < (n : Int)) = true := by simp; omega
  have hn1 : n ≤ 1000000 := hn.2
  have h3 : 0 < n := hn.1
  have HN := Aside0.mk hn
  clear hn
  go_enter Tryz.func107, Tryz.ntmps107
  go_wp2_with (first
    | ((with_reducible refine gate_builtin (b := .append) (xs := #[.tmp 20, .tmp 21]) rfl ?_); at_builtin; go_loud (refine Kd.R_append_zeros (Kd.int .u64) (w0 := w) w.heap.size rfl (.tmp 20) (.tmp 21) 98 3 52 (.int .u64 0) 8 rfl Tryz.underlying98 Tryz.underlying3 info56 rfl (by decide) (by decide) (.slice none 0 0) [] 0 (n : Int) (fun _ => True) rfl rfl rfl (fun _ _ => trivial) (Kd.R_nil _ _ _ _ _) (by omega) (Below.refl _ _) (Nat.le_refl _) (by simp; omega) ?_); intro v1 w1 ho hb hg hat; obtain ⟨A1, n1, c1, hv1⟩ := R_slice3 ho; subst hv1; have HO1 := Aside0.mk ho; have HB1 := Aside0.mk hb; clear ho hb hg hat))
  go_ret
  have h5 := Kd.R_take HO1.out (m := 0) (Nat.zero_le _)
  rw [List.take_zero] at h5
  exact ⟨_, rfl, h5, HB1.out⟩
theorem grow_calls (w : World) (n : Nat) (hn : n ≤ 1000000) : Calls Tryz.prog 107 #[.slice none 0 0, .int .i64 n] w fun e w' => ∃ v, e = .returned v ∧ Kd.R (Kd.int .u64) 52 w' w.heap.size (fun _ => True) v [] ∧ Below w.heap.size w w' := by
  by_cases h : n = 0
  · subst h
    refine (grow_none w).mono ?_
    rintro e w' ⟨rfl, rfl⟩
    exact ⟨_, rfl, Kd.R_nil _ _ _ _ _, Below.refl _ _⟩
  · exact grow_some w n ⟨by omega, hn⟩
set_option maxRecDepth 100000 in
theorem concat_calls (w : World) (b : Nat) (A1 A2 : Option Addr) (c1 c2 : Nat) (l1 l2 : List Int) (hb : w.heap[b]? = some (.cells #[.slice A1 l1.length c1, .slice A2 l2.length c2] 98 (0, 0))) (hC1 : (Kd.int .u64).C w A1 l1.length l1) (hC2 : (Kd.int .u64).C w A2 l2.length l2) (hl : l1.length + l2.length ≤ 1000000) :
    Calls Tryz.prog 58 #[.slice (some ⟨b, 0, none⟩) 2 2] w fun e w' => ∃ v, e = .returned v ∧ Kd.R (Kd.int .u64) 52 w' w.heap.size (fun _ => True) v (l1 ++ l2) ∧ Below w.heap.size w w' := by
  have HB := Aside0.mk hb
  have H1 := Aside0.mk hC1
  have H2 := Aside0.mk hC2
  have HL := Aside0.mk hl
  obtain ⟨p1, p2, _⟩ := cells2 hb
  have g1 : l1.length ≤ 1000000 := by omega
  have g2 : l2.length ≤ 1000000 := by omega
  clear hb hC1 hC2
  go_enter Tryz.func58, Tryz.ntmps58
  go_wp2
  go_loopg [3, 11] 2 (fun kq v3 v11 w' => w' = w ∧ ((kq = 2 ∧ v11 = .int .i64 0 ∧ v3 = .int .i64 0) ∨ (kq = 1 ∧ v11 = .int .i64 1 ∧ v3 = .int .i64 (l1.length : Int)) ∨ (kq = 0 ∧ v11 = .int .i64 2 ∧ v3 = .int .i64 ((l1.length : Int) + (l2.length : Int)))))
  case atStart => exact ⟨rfl, .inl ⟨rfl, rfl, rfl⟩⟩
  case round =>
    obtain ⟨hw, h⟩ := hrel
    subst wr
    rcases h with ⟨rfl, rfl, rfl⟩ | ⟨rfl, rfl, rfl⟩ | ⟨rfl, rfl, rfl⟩
    · go_wp2
      go_roundg 1
      case rel => exact ⟨rfl, .inr (.inl ⟨rfl, rfl, by simp⟩)⟩
      case measure => omega
    · go_wp2
      go_roundg 0
      case rel => exact ⟨rfl, .inr (.inr ⟨rfl, rfl, by simp⟩)⟩
      case measure => omega
    · have HG := Aside0.mk (grow_calls w (l1.length + l2.length) hl)
      rw [Int.natCast_add] at HG
      go_wp2_with (go_at_call 107; (with_reducible refine HG.out.mono ?_); rintro e w3 ⟨v3, rfl, hr, hb3⟩; have HR3 := Aside0.mk hr; have HB3 := Aside0.mk hb3; clear hr hb3)
      go_loopg [6, 27] 2 (fun kq v6 v27 wq => Aside0 (Below w.heap.size w wq) ∧ ((kq = 2 ∧ v27 = .int .i64 0 ∧ Aside0 (Kd.R (Kd.int .u64) 52 wq w.heap.size (fun _ => True) v6 [])) ∨ (kq = 1 ∧ v27 = .int .i64 1 ∧ Aside0 (Kd.R (Kd.int .u64) 52 wq w.heap.size (fun _ => True) v6 l1)) ∨ (kq = 0 ∧ v27 = .int .i64 2 ∧ Aside0 (Kd.R (Kd.int .u64) 52 wq w.heap.size (fun _ => True) v6 (l1 ++ l2)))))
      case atStart => exact ⟨HB3, .inl ⟨rfl, rfl, HR3⟩⟩
      case round =>
        obtain ⟨HBq, h⟩ := hrel
        obtain ⟨r1, r2, _⟩ := cells2 ((HBq.out.block _ (Array.getElem?_eq_some_iff.1 HB.out).1).trans HB.out)
        rcases h with ⟨rfl, rfl, HR⟩ | ⟨rfl, rfl, HR⟩ | ⟨rfl, rfl, HR⟩
        · have HZ := Aside0.mk (show (([] : List Int).length + l1.length) * 8 ≤ 140737488355328 from by simp; omega)
          obtain ⟨A6, c6, rfl⟩ := Kd.R_slice HR.out
          go_wp2_with (first | ((with_reducible refine gate_builtin (b := .append) (xs := #[.tmp 31, .tmp 32]) rfl ?_); at_builtin; go_loud (refine Kd.R_append_rows (Kd.int .u64) (W := wr) (w0 := wr) w.heap.size rfl (.tmp 31) (.tmp 32) 98 52 (.int .u64 0) 8 rfl Tryz.underlying98 info56 rfl (by decide) (by decide) _ ([] : List Int) l1 A1 l1.length c1 (fun _ => True) (fun _ => False) rfl rfl HR.out (Kd.C_below H1.out HBq.out) (fun _ _ h => h) (fun _ h => h.elim) (fun _ _ => trivial) (Below.refl _ _) HBq.out.size HZ.out ?_); intro v5 w5 ho hb hg hat; have HO5 := Aside0.mk ho; have HB5 := Aside0.mk (HBq.out.trans hb); clear ho hb hg hat))
          go_roundg 1
          case rel => exact ⟨HB5, .inr (.inl ⟨rfl, rfl, HO5⟩)⟩
          case measure => omega
        · have HZ := Aside0.mk (show (l1.length + l2.length) * 8 ≤ 140737488355328 from by omega)
          obtain ⟨A6, c6, rfl⟩ := Kd.R_slice HR.out
          go_wp2_with (first | ((with_reducible refine gate_builtin (b := .append) (xs := #[.tmp 31, .tmp 32]) rfl ?_); at_builtin; go_loud (refine Kd.R_append_rows (Kd.int .u64) (W := wr) (w0 := wr) w.heap.size rfl (.tmp 31) (.tmp 32) 98 52 (.int .u64 0) 8 rfl Tryz.underlying98 info56 rfl (by decide) (by decide) _ l1 l2 A2 l2.length c2 (fun _ => True) (fun _ => False) rfl rfl HR.out (Kd.C_below H2.out HBq.out) (fun _ _ h => h) (fun _ h => h.elim) (fun _ _ => trivial) (Below.refl _ _) HBq.out.size HZ.out ?_); intro v5 w5 ho hb hg hat; have HO5 := Aside0.mk ho; have HB5 := Aside0.mk (HBq.out.trans hb); clear ho hb hg hat))
          go_roundg 0
          case rel => exact ⟨HB5, .inr (.inr ⟨rfl, rfl, HO5⟩)⟩
          case measure => omega
        · obtain ⟨A6, c6, rfl⟩ := Kd.R_slice HR.out
          go_wp2
          go_ret
          have HRl := HR.out
          rw [List.length_append] at HRl
          exact ⟨_, rfl, HRl, HBq.out⟩
end Go.Proofs.YtlepcmljmibdnaaGreat
namespace Go.Proofs.YtlepcmljmibdnaaGreat
open Go.RowKit Go.Proofs.YtlepcmljmibdnaaGreatW.PrintWords Go.Proofs.YtlepcmljmibdnaaGreatW.PrintLast Go.Proofs.YtlepcmljmibdnaaGreatW.PrintMore PWalOpens
set_option linter.unusedVariables false
set_option linter.unusedSimpArgs false
section
variable {n0 : Nat} {w w' : World} {Wb B M Bd : Nat} {vc vs v1 : Value} {D D1 D2 : PD} {gen head tail h1 t1 : Int} {S S1 st : List Int} {over : Bool} {s e e2 : Int}
def AddQ (n0 : Nat) (w : World) (Wb B M Bd : Nat) (D1 D2 : PD) (gen head tail : Int) (S st : List Int) (s e e2 : Int) (r : Ending) (w' : World) : Prop :=
  TC n0 isWD w w' ∧ ∃ vc' vs',
    (e ≠ 0 → (e = 2 ∨ e = 51) → r = .returned (.int .i64 e) ∧ WV n0 w' Wb B M Bd vc' vs' D1 gen head tail S false) ∧
    (e ≠ 0 → (e ≠ 2 ∧ e ≠ 51) → r = .returned (.int .i64 50) ∧ WV n0 w' Wb B M Bd vc' vs' D1 gen head tail S true) ∧
    (e = 0 → e2 = 0 → r = .returned (.int .i64 0) ∧ WV n0 w' Wb B M Bd vc' vs' D2 (gen + 1) head s (S ++ st) false) ∧
    (e = 0 → e2 ≠ 0 → r = .returned (.int .i64 50) ∧ WV n0 w' Wb B M Bd vc' vs' D2 gen head tail S true)
theorem add_over (A : Option Addr) (n c : Nat) (h : WlC w Wb B gen head tail vs true true) : Calls Tryz.prog 15 #[.pointer (some ⟨Wb, 0, none⟩), .slice A n c] w fun r w' => r = .returned (.int .i64 50) ∧ w = w' := by
  have HK := Aside0.mk (wok_calls h)
  go_enter Tryz.func15, Tryz.ntmps15
  go_wp2_with (go_at_call 54; (with_reducible refine HK.out.mono ?_); rintro e w' ⟨rfl, rfl⟩)
  go_ret
  exact ⟨rfl, rfl⟩
theorem ret_code {er : Ending} {e2 : Int} {P Q : Prop} (h1 : e2 = 0 → er = .returned (.int .i64 0) ∧ P) (h2 : e2 ≠ 0 → er = .returned (.int .i64 50) ∧ Q) : ∃ x, er = .returned (.int .i64 x) := by
  by_cases h : e2 = 0
  · exact ⟨_, (h1 h).1⟩
  · exact ⟨_, (h2 h).1⟩
/-- lay, seen by the wal -/
theorem lay_wv {A : Option Addr} {c : Nat} {R : List (List Int)} {r f : Int} (hr : ringP D = r) (hR : RecsOK R) (hf : r - (tail - head) = f) (hres : layP D r f tail R = (D1, st, s, e))
    (ht : 0 ≤ head ∧ head ≤ tail ∧ tail < 18446744073709551000 ∧ tail - head ≤ 4094) (hl : D.cache.length ≤ 850) (h : WV n0 w Wb B M Bd vc vs D gen head tail S over)
    (hT : ∀ W, TC n0 isWD w W → bytesK.C W A R.length R) :
    Calls Tryz.prog 55 #[.pointer (some ⟨Wb, 0, none⟩), .slice A R.length c] w fun x w' => ∃ A' c' vc', x = .returned (.tuple #[.slice A' st.length c', .int .u64 s, .int .i64 e]) ∧ Kd.R (Kd.int .u64) 52 w' w.heap.size (fun _ => True) (.slice A' st.length c') st ∧ WV n0 w' Wb B M Bd vc' vs D1 gen head tail S over ∧ TC n0 isWD w w' := by
  refine (lay_calls A c R r f (D1, st, s, e) hr hR hf hres ht (by omega) h.blk h.away (h.dk.low 0 (Nat.zero_le _)) (fun W hc => hT W ((h.dk.tc hc).mono fun _ h => .inl h))).mono ?_
  rintro x w' ⟨v, rfl, hst, vc', ha⟩
  obtain ⟨A', c', rfl⟩ := Kd.R_slice hst
  have h5 := h.disk ha
  exact ⟨A', c', vc', rfl, hst, h5.1, h5.2.mono fun _ h => .inl h⟩
set_option maxHeartbeats 1000000 in
theorem add_calls {A : Option Addr} {c : Nat} {R : List (List Int)} {r f : Int} (hr : ringP D = r) (hR : RecsOK R) (hf : r - (tail - head) = f) (hres : layP D r f tail R = (D1, st, s, e)) (hsv : saveP D1 (gen + 1) [head, s] = (D2, e2))
    (ht : 0 ≤ head ∧ head ≤ tail ∧ tail < 18446744073709551000 ∧ tail - head ≤ 4094) (hg : 0 ≤ gen ∧ gen < 18446744073709551615) (hs : 0 ≤ s ∧ s < 18446744073709551616) (hl : D.cache.length ≤ 850) (hl1 : D1.cache.length ≤ 900) (hS : S.length + st.length ≤ 1000000) (h : WV n0 w Wb B M Bd vc vs D gen head tail S false)
    (hT : ∀ W, TC n0 isWD w W → bytesK.C W A R.length R) :
    Calls Tryz.prog 15 #[.pointer (some ⟨Wb, 0, none⟩), .slice A R.length c] w (AddQ n0 w Wb B M Bd D1 D2 gen head tail S st s e e2) := by
  obtain ⟨As, cs, rfl⟩ := Kd.R_slice h.st
  have HK := Aside0.mk (wok_calls h.blk)
  have HLY := Aside0.mk (lay_wv (c := c) hr hR hf hres ht hl h hT)
  have HH := Aside0.mk h
  have HSV := Aside0.mk hsv
  have HS := Aside0.mk hS
  have HL1 := Aside0.mk hl1
  have HHD := Aside0.mk (show 0 ≤ head ∧ head < 18446744073709551616 from by omega)
  have HN0 := Aside0.mk (show n0 ≤ w.heap.size from h.dk.base_le)
  simp only [Bool.not_false, Bool.and_self] at HK
  clear h hr hR hf hres hT hsv hS ht
  by_cases he : e = 0
  · subst he
    go_enter Tryz.func15, Tryz.ntmps15
    go_wp2_with (first
      | (go_at_call 54; (with_reducible refine HK.out.mono ?_); rintro e w' ⟨rfl, rfl⟩)
      | (go_at_call 55; (with_reducible refine HLY.out.mono ?_); rintro e w1 ⟨A1, c1, vc1, rfl, hst, hv, htc⟩; have HST := Aside0.mk hst; have HV := Aside0.mk hv; have HTC := Aside0.mk htc; clear hst hv htc))
    obtain ⟨⟨q0, q1, q2, q3, q4, q5, q6⟩, _⟩ := cells7 HV.out.blk
    clear q0 q1 q3 q5 q6
    obtain ⟨W2, hW2⟩ : ∃ W2, (w1.alloc (.cells #[.slice As S.length cs, .slice A1 st.length c1] 98)).drew = W2 := ⟨_, rfl⟩
    have HB2 := Aside0.mk (show Below w1.heap.size w1 W2 from by rw [← hW2]; exact ((Below.refl w1.heap.size w1).alloc (Nat.le_refl _) _).drew)
    have HCC := Aside0.mk (concat_calls W2 w1.heap.size As A1 cs c1 S st (by rw [← hW2]; exact heap_alloc_new w1 _) (Kd.C_below (Kd.R_reads' HV.out.st).2.2 HB2.out) (Kd.C_below (Kd.R_reads' HST.out).2.2 HB2.out) HS.out)
    have HW2 := Aside0.mk hW2
    clear hW2
    go_wp2
    refine Fork.wp_fork (Fork.Lo.rel 0) [13] [] (.one 0 0 (.one 1 0 (.one 2 0 (.one 3 0 (.one 5 0 (.one 6 0 (.one 7 0 (.one 8 0 (.one 10 0 (.one 4 1 (.one 9 1 (.one 11 2 (.one 12 2 (.one 13 2 (.one 14 0 .nil))))))))))))))) (by kernel_rfl) (by kernel_rfl) ?_
    generalize hops : List.toArray (_ : List Oper) = ops
    have HO := Aside0.mk hops
    clear hops
    iterate 9 ((refine Fork.plain (Fork.at_ HO.out rfl) _ rfl (fun W => by go_simp; exact rfl) ?_); simp only [Act.put, List.setIfInBounds_toArray, List.set_cons_succ, List.set_cons_zero])
    refine Fork.reads (Fork.at_ HO.out rfl) _ rfl (fun W hW => Arr.ex_load1 rfl rfl (by kernel_rfl) (Fork.bel_cell hW (by assumption))) ?_
    simp only [Act.put, List.setIfInBounds_toArray, List.set_cons_succ, List.set_cons_zero]
    refine Fork.reads (Fork.at_ HO.out rfl) _ rfl (fun W hW => Arr.ex_load1 rfl rfl (by kernel_rfl) (Fork.bel_cell hW (by assumption))) ?_
    simp only [Act.put, List.setIfInBounds_toArray, List.set_cons_succ, List.set_cons_zero]
    refine Fork.step (Fork.at_ HO.out rfl) (fun K hK => ?_)
    go_simp
    refine hK _ _ (.of_new ((Below.refl _ _).alloc (Nat.le_refl _) _) (Nat.zero_le _)) ?_
    clear hK K
    try simp only [Act.put, List.setIfInBounds_toArray, List.set_cons_succ, List.set_cons_zero]
    refine Fork.step (Fork.at_ HO.out rfl) (fun K hK => ?_)
    go_simp
    rw [HW2.out]
    (with_reducible refine HCC.out.mono ?_)
    rintro er w3 ⟨v3, rfl, hr3, hb3⟩
    refine hK _ _ (.of_new (by rw [HW2.out]; exact hb3) (Nat.zero_le _)) ?_
    clear hK K
    have HR3 := Aside0.mk (Kd.R_lower hr3 (Nat.le_trans HN0.out (Nat.le_trans HTC.out.low.size HB2.out.size)))
    have HV3 := Aside0.mk (HV.out.fresh (HB2.out.trans (hb3.mono HB2.out.size)))
    have HB3 := Aside0.mk (HB2.out.trans (hb3.mono HB2.out.size))
    clear hr3 hb3
    try simp only [Act.put, List.setIfInBounds_toArray, List.set_cons_succ, List.set_cons_zero]
    refine Fork.step (Fork.at_ HO.out rfl) (fun K hK => ?_)
    go_simp
    (with_reducible refine (turn_calls e2 HSV.out hg HHD.out hs HL1.out HV3.out HR3.out).mono ?_)
    rintro er w4 ⟨ht4, vc4, hq1, hq2⟩
    have HT4 := Aside0.mk (HTC.out.trans ((TC.of_below HB3.out (Nat.le_trans HN0.out HTC.out.low.size)).trans ht4))
    have HL4 := Aside0.mk (show Fork.Lo 0 w3 w4 from Fork.Lo.zero ht4.low.os ht4.low.tape ht4.low.output)
    have HQ4 := Aside0.mk (And.intro hq1 hq2)
    clear hq1 hq2 ht4
    obtain ⟨x4, rfl⟩ : ∃ x4, er = .returned (.int .i64 x4) := ret_code HQ4.out.1 HQ4.out.2
    refine hK _ _ (Fork.Grow.of_old HL4.out rfl) ?_
    clear hK K
    try simp only [Act.put, List.setIfInBounds_toArray, List.set_cons_succ, List.set_cons_zero]
    ((refine Fork.plain (Fork.at_ HO.out rfl) _ rfl (fun W => by go_simp; exact rfl) ?_); simp only [Act.put, List.setIfInBounds_toArray, List.set_cons_succ, List.set_cons_zero])
    refine Fork.done ?_
    go_wp2
    go_ret
    refine ⟨HT4.out, vc4, if e2 = 0 then v3 else .slice As S.length cs, fun h => absurd rfl h, fun h => absurd rfl h, fun _ h2 => ?_, fun _ h2 => ?_⟩
    · rw [if_pos h2]
      exact HQ4.out.1 h2
    · rw [if_neg h2]
      exact HQ4.out.2 h2
  · have he' : (e != 0) = true := by simp; exact he
    by_cases he2 : e = 2 ∨ e = 51
    · have HE := Aside0.mk (fun w => wend_same (w := w) (Wb := Wb) e he2)
      go_enter Tryz.func15, Tryz.ntmps15
      go_wp2_with (first
        | (go_at_call 54; (with_reducible refine HK.out.mono ?_); rintro e w' ⟨rfl, rfl⟩)
        | (go_at_call 55; (with_reducible refine HLY.out.mono ?_); rintro er w1 ⟨A1, c1, vc1, rfl, hst, hv, htc⟩; have HV := Aside0.mk hv; have HTC := Aside0.mk htc; clear hst hv htc)
        | (go_at_call 56; (with_reducible refine (HE.out w1).mono ?_); rintro er w' ⟨rfl, rfl⟩))
      go_ret
      exact ⟨HTC.out, vc1, .slice As S.length cs, fun _ _ => ⟨rfl, HV.out⟩, fun _ h => absurd he2 (by omega), fun h => absurd h he, fun h => absurd h he⟩
    · have HE := Aside0.mk (fun w (h : WlC w Wb B gen head tail (.slice As S.length cs) true false) => wend_over e (by omega) h)
      go_enter Tryz.func15, Tryz.ntmps15
      go_wp2_with (first
        | (go_at_call 54; (with_reducible refine HK.out.mono ?_); rintro e w' ⟨rfl, rfl⟩)
        | (go_at_call 55; (with_reducible refine HLY.out.mono ?_); rintro er w1 ⟨A1, c1, vc1, rfl, hst, hv, htc⟩; have HV := Aside0.mk hv; have HTC := Aside0.mk htc; clear hst hv htc)
        | (go_at_call 56; (with_reducible refine (HE.out w1 HV.out.blk).mono ?_); rintro er w' ⟨rfl, rfl⟩))
      go_ret
      exact ⟨HTC.out.trans ((HV.out.tcW 6 _).mono fun _ h => .inr h), vc1, .slice As S.length cs, fun _ h => absurd h he2, fun _ _ => ⟨rfl, HV.out.overed⟩, fun h => absurd h he, fun h => absurd h he⟩
end
end Go.Proofs.YtlepcmljmibdnaaGreat
namespace Go.Proofs.YtlepcmljmibdnaaGreat
open Go.RowKit Go.Proofs.YtlepcmljmibdnaaGreatW.PrintWords Go.Proofs.YtlepcmljmibdnaaGreatW.PrintLast Go.Proofs.YtlepcmljmibdnaaGreatW.PrintMore PWalOpens
set_option linter.unusedVariables false
set_option linter.unusedSimpArgs false
theorem C_drop {w : World} {ad : Addr} {xs : List Int} (h : (Kd.int .u64).C w (some ad) xs.length xs) (k : Nat) (hk : k ≤ xs.length) : (Kd.int .u64).C w (some (ad.add k)) (xs.drop k).length (xs.drop k) := by
  have hl : (xs.drop k).length = xs.length - k := List.length_drop
  refine ⟨rfl, by have := h.2.1; omega, fun h0 => ⟨_, rfl, fun j p hj => ?_⟩⟩
  obtain ⟨ad', e, hc⟩ := h.2.2 (by omega)
  cases e
  have hj' : xs[k + j]? = some p := by rw [List.getElem?_drop] at hj; exact hj
  obtain ⟨c, h1, h2, h3⟩ := hc (k + j) p hj'
  refine ⟨c, h1, h2, fun i u hu => ?_⟩
  have := h3 i u hu
  rw [add_add]
  rw [show k + (j * (Kd.int .u64).sz + i) = (k + j) * (Kd.int .u64).sz + i from by show k + (j * 1 + i) = (k + j) * 1 + i; omega]
  exact this
section
variable {n0 : Nat} {w w' : World} {Wb B M Bd : Nat} {vc vs v1 : Value} {D D1 D2 : PD} {gen head tail : Int} {S : List Int} {over : Bool} {x e : Int}
def CutQ (n0 : Nat) (w : World) (Wb B M Bd : Nat) (D1 : PD) (gen head tail x : Int) (S : List Int) (n : Nat) (e : Int) (r : Ending) (w' : World) : Prop :=
  TC n0 isWD w w' ∧ ∃ vc' vs', (e = 0 → r = .returned (.int .i64 0) ∧ WV n0 w' Wb B M Bd vc' vs' D1 (gen + 1) x tail (S.drop n) false) ∧ (e ≠ 0 → r = .returned (.int .i64 50) ∧ WV n0 w' Wb B M Bd vc' vs' D1 gen head tail S true)
theorem ret_code' {er : Ending} {e2 : Int} {P Q : Prop} (h1 : e2 = 0 → er = .returned (.int .i64 0) ∧ P) (h2 : e2 ≠ 0 → er = .returned (.int .i64 50) ∧ Q) : ∃ x, er = .returned (.int .i64 x) := by
  by_cases h : e2 = 0
  · exact ⟨_, (h1 h).1⟩
  · exact ⟨_, (h2 h).1⟩
set_option maxHeartbeats 1000000 in
theorem wcut_some (n : Nat) (hn : n < S.length) (hS : S.length ≤ 1000000) (hx : S.getD n 0 = x) (hsv : saveP D (gen + 1) [x, tail] = (D1, e)) (hg : 0 ≤ gen ∧ gen < 18446744073709551615) (hh : 0 ≤ x ∧ x < 18446744073709551616) (ht : 0 ≤ tail ∧ tail < 18446744073709551616) (hc : D.cache.length ≤ 900)
    (h : WV n0 w Wb B M Bd vc vs D gen head tail S false) :
    Calls Tryz.prog 19 #[.pointer (some ⟨Wb, 0, none⟩), .int .i64 (n : Int)] w (CutQ n0 w Wb B M Bd D1 gen head tail x S n e) := by
  have HK := Aside0.mk (wok_calls h.blk)
  simp only [Bool.not_false, Bool.and_self] at HK
  have HSV := Aside0.mk hsv
  have HCA := Aside0.mk hc
  have HN0 := Aside0.mk (show n0 ≤ w.heap.size from h.dk.base_le)
  obtain ⟨ad, cs, rfl⟩ := Kd.R_slice1 h.st (by omega)
  obtain ⟨_, hcap, hC⟩ := Kd.R_reads' h.st
  have hcn : w.cell? (ad.add n) = some (.int .u64 x) := by
    obtain ⟨ad', e', hcl⟩ := hC.2.2 (by omega)
    cases e'
    obtain ⟨cc, h1, h2, h3⟩ := hcl n x (by rw [← hx, List.getD_eq_getElem?_getD, List.getElem?_eq_getElem hn]; rfl)
    have h4 : cc = [.int .u64 x] := h2
    have h5 := h3 0 (.int .u64 x) (by rw [h4]; rfl)
    rw [show n * (Kd.int .u64).sz + 0 = n from by show n * 1 + 0 = n; omega] at h5
    exact h5
  have HCL := Aside0.mk (clone64u_calls w.drew (ad.add n) (cs - n) (S.drop n) (by rw [List.length_drop]; omega) (Kd.C_drew (C_drop hC n (by omega))))
  rw [List.length_drop] at HCL
  obtain ⟨⟨q0, q1, q2, q3, q4, q5, q6⟩, _⟩ := cells7 h.blk
  have HH := Aside0.mk h
  have n1 : (0 : Int) ≤ (n : Int) := by omega
  have n2 : (n : Int) < (S.length : Int) := by omega
  have b1 : decide ((n : Int) < 0) = false := by simp
  have b2 : decide ((S.length : Int) < (n : Int)) = false := by simp; omega
  have b3 : ((n : Int) == (S.length : Int)) = false := by simp; omega
  clear q0 q1 q2 q5 q6 h hsv hc hC hx
  go_enter Tryz.func19, Tryz.ntmps19
  go_wp2_with (go_at_call 54; (with_reducible refine HK.out.mono ?_); rintro e w' ⟨rfl, rfl⟩)
  refine Fork.wp_fork (Fork.Lo.rel 0) [19] [] (.one 0 0 (.one 1 0 (.one 2 0 (.one 3 0 (.one 5 0 (.one 8 0 (.one 9 0 (.one 10 0 (.one 12 0 (.one 13 0 (.one 14 0 (.one 16 0 (.one 4 1 (.one 6 0 (.one 7 1 (.one 11 1 (.one 15 1 (.one 17 0 (.one 18 2 (.one 19 2 (.one 20 0 .nil))))))))))))))))))))) (by kernel_rfl) (by kernel_rfl) ?_
  generalize hops : List.toArray (_ : List Oper) = ops
  have HO := Aside0.mk hops
  clear hops
  iterate 12 ((refine Fork.plain (Fork.at_ HO.out rfl) _ rfl (fun W => by go_simp; exact rfl) ?_); simp only [Act.put, List.setIfInBounds_toArray, List.set_cons_succ, List.set_cons_zero])
  refine Fork.reads (Fork.at_ HO.out rfl) _ rfl (fun W hW => Arr.ex_load1 rfl rfl (by kernel_rfl) (Fork.bel_cell hW (by assumption))) ?_
  simp only [Act.put, List.setIfInBounds_toArray, List.set_cons_succ, List.set_cons_zero]
  refine Fork.plain (Fork.at_ HO.out rfl) _ rfl (fun W => by go_simp; exact rfl) ?_
  simp only [Act.put, List.setIfInBounds_toArray, List.set_cons_succ, List.set_cons_zero]
  refine Fork.reads (Fork.at_ HO.out rfl) _ rfl (fun W hW => Arr.ex_load1 rfl rfl (by kernel_rfl) (Fork.bel_cell hW (by assumption))) ?_
  simp only [Act.put, List.setIfInBounds_toArray, List.set_cons_succ, List.set_cons_zero]
  refine Fork.reads (Fork.at_ HO.out rfl) _ rfl (fun W hW => Arr.ex_load1 rfl rfl (by kernel_rfl) (Fork.bel_cell hW (by assumption))) ?_
  simp only [Act.put, List.setIfInBounds_toArray, List.set_cons_succ, List.set_cons_zero]
  refine Fork.reads (Fork.at_ HO.out rfl) _ rfl (fun W hW => Arr.ex_load1 rfl rfl (by kernel_rfl) (Fork.bel_cell hW (by assumption))) ?_
  simp only [Act.put, List.setIfInBounds_toArray, List.set_cons_succ, List.set_cons_zero]
  refine Fork.plain (Fork.at_ HO.out rfl) _ rfl (fun W => by go_simp; rw [if_pos (by omega), if_neg (by omega)]) ?_
  simp only [Act.put, List.setIfInBounds_toArray, List.set_cons_succ, List.set_cons_zero]
  refine Fork.step (Fork.at_ HO.out rfl) (fun K hK => ?_)
  go_simp
  (with_reducible refine HCL.out.mono ?_)
  rintro er w3 ⟨v3, rfl, hr3, hb3⟩
  refine hK _ _ (.of_new hb3 (Nat.zero_le _)) ?_
  clear hK K
  have HR3 := Aside0.mk (Kd.R_lower hr3 HN0.out)
  have HV3 := Aside0.mk (HH.out.fresh ((Below.refl w.heap.size w).drew.trans hb3))
  have HB3 := Aside0.mk ((Below.refl w.heap.size w).drew.trans hb3)
  clear hr3 hb3
  try simp only [Act.put, List.setIfInBounds_toArray, List.set_cons_succ, List.set_cons_zero]
  refine Fork.step (Fork.at_ HO.out rfl) (fun K hK => ?_)
  go_simp
  (with_reducible refine (turn_calls e HSV.out hg hh ht HCA.out HV3.out HR3.out).mono ?_)
  rintro er w4 ⟨ht4, vc4, hq1, hq2⟩
  have HT4 := Aside0.mk ((TC.of_below HB3.out HN0.out).trans ht4)
  have HL4 := Aside0.mk (show Fork.Lo 0 w3 w4 from Fork.Lo.zero ht4.low.os ht4.low.tape ht4.low.output)
  have HQ4 := Aside0.mk (And.intro hq1 hq2)
  clear hq1 hq2 ht4
  obtain ⟨x4, rfl⟩ : ∃ x4, er = .returned (.int .i64 x4) := ret_code' HQ4.out.1 HQ4.out.2
  refine hK _ _ (Fork.Grow.of_old HL4.out rfl) ?_
  clear hK K
  try simp only [Act.put, List.setIfInBounds_toArray, List.set_cons_succ, List.set_cons_zero]
  ((refine Fork.plain (Fork.at_ HO.out rfl) _ rfl (fun W => by go_simp; exact rfl) ?_); simp only [Act.put, List.setIfInBounds_toArray, List.set_cons_succ, List.set_cons_zero])
  refine Fork.done ?_
  go_wp2
  go_ret
  refine ⟨HT4.out, vc4, if e = 0 then v3 else .slice (some ad) S.length cs, fun h2 => ?_, fun h2 => ?_⟩
  · rw [if_pos h2]
    exact HQ4.out.1 h2
  · rw [if_neg h2]
    exact HQ4.out.2 h2
theorem wcut_calls (n : Nat) (hn : 0 < n ∧ n < S.length) (hS : S.length ≤ 1000000) (hx : S.getD n 0 = x) (hsv : saveP D (gen + 1) [x, tail] = (D1, e)) (hg : 0 ≤ gen ∧ gen < 18446744073709551615) (hh : 0 ≤ x ∧ x < 18446744073709551616) (ht : 0 ≤ tail ∧ tail < 18446744073709551616) (hc : D.cache.length ≤ 900)
    (h : WV n0 w Wb B M Bd vc vs D gen head tail S false) :
    Calls Tryz.prog 19 #[.pointer (some ⟨Wb, 0, none⟩), .int .i64 (n : Int)] w (CutQ n0 w Wb B M Bd D1 gen head tail x S n e) := wcut_some n hn.2 hS hx hsv hg hh ht hc h
end
end Go.Proofs.YtlepcmljmibdnaaGreat
namespace Go.Proofs.YtlepcmljmibdnaaGreat
open Go.RowKit Go.Proofs.YtlepcmljmibdnaaGreatW.PrintWords Go.Proofs.YtlepcmljmibdnaaGreatW.PrintLast Go.Proofs.YtlepcmljmibdnaaGreatW.PrintMore PWalOpens
set_option linter.unusedVariables false
set_option linter.unusedSimpArgs false
theorem winv_start {n r : Int} (hm : min (max n 0) 4096 = r + 2) (hr : 1 ≤ r) : ∃ D1 S1, wformatP (newP n) = (D1, 0) ∧ WInv D1 S1 r 0 0 0 [] := by
  have r0 := rdy_new n
  rw [hm] at r0
  have hz : ∀ x ∈ [(0 : Int), 0], 0 ≤ x ∧ x < 18446744073709551616 := by intro x hx; simp at hx; omega
  obtain ⟨f1, f2, f3⟩ := r0.format (by omega) [0, 0] (by simp)
  have hring : ringP (newP n) = r := by unfold ringP; rw [r0.n]; omega
  refine ⟨_, _, ?_, f2, hr, f3, (OKD.new n).format [0, 0] hz, ?_, ?_, by omega, rfl, by omega, by omega, fun b hb => by cases hb⟩
  · unfold wformatP
    rw [hring, if_neg (by omega)]
    exact Prod.ext rfl f1
  · show unP (updS _ 0 (pad (slotB 0 [0, 0])) 0) = _
    unfold updS
    rw [if_pos rfl]
    exact unP_pad 0 [0, 0] (by omega) (by simp) hz
  · left
    show (unP (updS (updS (updS (fun _ => zsec) 0 zsec) 1 zsec) 0 (pad (slotB 0 [0, 0])) 1)).2.2 ≠ 0
    unfold updS
    rw [if_neg (by decide), if_pos rfl, unP_zsec]
    decide
theorem recs_ab : RecsOK [[97], [98]] := ⟨by decide, fun b hb => by
  simp only [List.mem_cons, List.not_mem_nil, or_false] at hb
  rcases hb with rfl | rfl
  · exact ⟨fun x hx => by simp at hx; omega, by decide⟩
  · exact ⟨fun x hx => by simp at hx; omega, by decide⟩⟩
/-- two texts, laid as a literal lays them -/
theorem box_cellm {w : World} {b : Nat} {v : Value} {t : Nat} {m : Nat × Nat} (h : w.heap[b]? = some (.cells #[v] t m)) : w.cell? ⟨b, 0, none⟩ = some v := by
  unfold World.cell?
  simp [h]
theorem two_texts {n0 : Nat} {w W : World} {b : Nat} {x y : Int} {m0 m1 : Nat × Nat} (hc : TC n0 isWD w W) (h0 : w.heap[b]? = some (.cells #[.int .u8 x] 5 m0)) (h1 : w.heap[b + 1]? = some (.cells #[.int .u8 y] 5 m1))
    (h2 : w.heap[b + 2]? = some (.cells #[.slice (some ⟨b, 0, none⟩) 1 1, .slice (some ⟨b + 1, 0, none⟩) 1 1] 58 (0, 0))) : bytesK.C W (some ⟨b + 2, 0, none⟩) 2 [[x], [y]] := by
  have hn5 : ∀ cs m, ¬ isWD (.cells cs 5 m) := fun cs m h => by simp [isWD, isDisk, isT] at h
  have hn29 : ∀ cs, ¬ isWD (.cells cs 58 (0, 0)) := fun cs h => by simp [isWD, isDisk, isT] at h
  have g0 := hc.blk _ _ h0 (hn5 _ _)
  have g1 := hc.blk _ _ h1 (hn5 _ _)
  have g2 := hc.blk _ _ h2 (hn29 _)
  have one : ∀ (k : Nat) (z : Int) (m : Nat × Nat), W.heap[k]? = some (.cells #[.int .u8 z] 5 m) → (Kd.int .u8).C W (some ⟨k, 0, none⟩) 1 [z] := fun k z m hk => ⟨rfl, by decide, fun _ => ⟨_, rfl, fun j p hj => by
    have hj0 : j = 0 := by have := (List.getElem?_eq_some_iff.1 hj).1; simp at this; omega
    subst hj0
    simp at hj
    subst hj
    refine ⟨[.int .u8 z], rfl, rfl, fun i u hu => ?_⟩
    have hi0 : i = 0 := by have := (List.getElem?_eq_some_iff.1 hu).1; simp at this; omega
    subst hi0
    simp at hu
    subst hu
    exact box_cellm hk⟩⟩
  obtain ⟨c0, c1, _⟩ := cells2 g2
  refine ⟨rfl, by decide, fun _ => ⟨_, rfl, fun j p hj => ?_⟩⟩
  have hj2 : j < 2 := (List.getElem?_eq_some_iff.1 hj).1
  have hi : ∀ (v : Value) (i : Nat) (u : Value), [v][i]? = some u → i = 0 ∧ u = v := fun v i u hu => by
    have hi0 : i = 0 := by have := (List.getElem?_eq_some_iff.1 hu).1; simp at this; omega
    subst hi0
    simp at hu
    exact ⟨rfl, hu.symm⟩
  rcases (show j = 0 ∨ j = 1 by omega) with rfl | rfl
  · simp at hj
    subst hj
    refine ⟨[.slice (some ⟨b, 0, none⟩) 1 1], rfl, ⟨_, 1, rfl, Nat.le_refl _, one b x _ g0⟩, fun i u hu => ?_⟩
    obtain ⟨rfl, rfl⟩ := hi _ i u hu
    exact c0
  · simp at hj
    subst hj
    refine ⟨[.slice (some ⟨b + 1, 0, none⟩) 1 1], rfl, ⟨_, 1, rfl, Nat.le_refl _, one (b + 1) y _ g1⟩, fun i u hu => ?_⟩
    obtain ⟨rfl, rfl⟩ := hi _ i u hu
    exact c1
section
variable {n0 : Nat} {w w' : World} {B M Bd : Nat} {vc : Value} {D : PD}
/-- Open went well -/
theorem op_ok {res : Int × Int × Int × List Int × List (List Int) × Int} {e : Ending} (h : OpQ w B M Bd vc D res e w') (h0 : opErr res = 0) (hn : n0 ≤ w.heap.size) (hd : DK w n0 B M Bd vc D) :
    ∃ Wb vs vo, e = .returned (.tuple #[.pointer (some ⟨Wb, 0, none⟩), vo, .int .i64 0]) ∧ WV n0 w' Wb B M Bd vc vs D res.1 res.2.1 res.2.2.1 res.2.2.2.1 false ∧ Below w.heap.size w w' ∧ Kd.R bytesK 58 w' w.heap.size (fun _ => True) vo res.2.2.2.2.1 := by
  rcases h with ⟨h1, _⟩ | ⟨_, Wb, vs, vo, rfl, hS⟩
  · exact absurd h0 h1
  · exact ⟨Wb, vs, vo, rfl, ⟨hS.blk, Nat.le_trans hn hS.hW, hd.chg (.of_below hS.low), Kd.R_lower hS.st hn⟩, hS.low, hS.out⟩
theorem at_base {w0 : World} (h : At w0 (fun _ => False) w B M Bd vc D) : DK w w0.heap.size B M Bd vc D :=
  h.dk.raise fun k hk => by
    by_cases hl : k < w0.heap.size
    · exact (h.fp k hl hk).elim
    · omega
end
/-- the literal's world -/
theorem lit_ab (w : World) : ∃ W, ((((w.alloc (.cells #[.int .u8 97] 5 (1, 2))).alloc (.cells #[.int .u8 98] 5 (1, 2))).alloc (.cells #[.slice (some ⟨w.heap.size, 0, none⟩) 1 1, .slice (some ⟨w.heap.size + 1, 0, none⟩) 1 1] 58)) = W) ∧ Below w.heap.size w W ∧
    W.heap[w.heap.size]? = some (.cells #[.int .u8 97] 5 (1, 2)) ∧ W.heap[w.heap.size + 1]? = some (.cells #[.int .u8 98] 5 (1, 2)) ∧ W.heap[w.heap.size + 2]? = some (.cells #[.slice (some ⟨w.heap.size, 0, none⟩) 1 1, .slice (some ⟨w.heap.size + 1, 0, none⟩) 1 1] 58 (0, 0)) := by
  refine ⟨_, rfl, (((Below.refl w.heap.size w).alloc (Nat.le_refl _) _).alloc (by simp) _).alloc (by simp <;> omega) _, ?_, ?_, ?_⟩
  · rw [Below.heap_alloc _ _ _ (by simp <;> omega), Below.heap_alloc _ _ _ (by simp)]
    exact heap_alloc_new w _
  · rw [Below.heap_alloc _ _ _ (by simp)]
    have := heap_alloc_new (w.alloc (.cells #[.int .u8 97] 5 (1, 2))) (.cells #[.int .u8 98] 5 (1, 2))
    rwa [World.size_alloc] at this
  · have := heap_alloc_new ((w.alloc (.cells #[.int .u8 97] 5 (1, 2))).alloc (.cells #[.int .u8 98] 5 (1, 2))) (.cells #[.slice (some ⟨w.heap.size, 0, none⟩) 1 1, .slice (some ⟨w.heap.size + 1, 0, none⟩) 1 1] 58)
    rwa [World.size_alloc, World.size_alloc] at this
theorem one_text {w : World} {base : Nat} {v : Value} {b : List Int} (h : Kd.R bytesK 58 w base (fun _ => True) v [b]) : ∃ ad A0 c c0, v = .slice (some ad) 1 c ∧ w.cell? ad = some (.slice A0 b.length c0) ∧ (convert 58 9 (.slice A0 b.length c0)).run Tryz.prog w = .ok (.string (strOfNums b)) w := by
  obtain ⟨ad, c, rfl⟩ := Kd.R_slice1 h (by simp)
  obtain ⟨_, _, hC⟩ := Kd.R_reads' h
  obtain ⟨ad', A0, c0, e, h1, h2, h3⟩ := texts_at hC 0 (by simp)
  cases e
  exact ⟨ad, A0, c, c0, rfl, h1, Kd.C_string Tryz.underlying58 Tryz.underlying5 Tryz.underlying9 h3⟩
theorem str98 : strOfNums [98] = { data := #[98] } := by decide
set_option maxRecDepth 100000 in
theorem awake7_calls (w : World) : Calls Tryz.prog 7 #[] w fun e w' => e = .returned (.bool true) ∧ Below w.heap.size w w' := by
  obtain ⟨D1, S1, hf, i1⟩ := winv_start (n := 8) (r := 6) (by decide) (by decide)
  have hn : needs [[97], [98]] = 2 := by decide
  obtain ⟨Da, D2, S2, ha, hac, hs2, i2⟩ := i1.add recs_ab (by rw [hn]; decide) (by rw [hn]; decide) (by decide)
  rw [hn] at ha hs2 i2
  obtain ⟨D3, S3, hs3, i3⟩ := i2.cut (k := 1) (x := 1) (by decide) (by decide) (by decide) (by decide)
  have HF := Aside0.mk hf
  have HO1 := Aside0.mk i1.open_
  have HO3 := Aside0.mk i3.open_
  have HI1 := Aside0.mk i1
  have HI2 := Aside0.mk i2
  have HI3 := Aside0.mk i3
  have HA := Aside0.mk ha
  have HAC := Aside0.mk hac
  have HS2 := Aside0.mk hs2
  have HS3 := Aside0.mk hs3
  have HC0 := Aside0.mk (show (newP 8).cache.length ≤ 800 by decide)
  have HC1 := Aside0.mk (show D1.cache.length ≤ 850 by rw [i1.cache]; decide)
  have HC2 := Aside0.mk (show D2.cache.length ≤ 900 by rw [i2.cache]; decide)
  have HC3 := Aside0.mk (show D3.cache.length ≤ 1000 by rw [i3.cache]; decide)
  clear hf i1 i2 i3 ha hac hs2 hs3 hn
  have hcv := fun (w : World) (C : Array Value) (n c : Nat) => Lib.run_convert_bytes_const (P := Tryz.prog) w 58 5 C n c Tryz.underlying58 Tryz.underlying5
  have hcv2 := fun (w : World) (o : Obj) (C : Array Value) (n c : Nat) => (by have h := Lib.run_convert_bytes_const (P := Tryz.prog) (w.alloc o) 58 5 C n c Tryz.underlying58 Tryz.underlying5; rw [World.size_alloc] at h; exact h : (convert 58 58 (.slice (some ⟨w.heap.size + 1, 0, none⟩) n c)).run Tryz.prog ((w.alloc o).alloc (.cells C 5)) = .ok (.slice (some ⟨w.heap.size + 1, 0, none⟩) n c) ((w.alloc o).alloc (.cells C 5 (C.size, C.size + 1)))) --.underlying29 Tryz.underlying5
  go_enter Tryz.func7, Tryz.ntmps7
  go_wp2_with (first
    | (go_at_call 8; (with_reducible refine (new_at w w 8 (Below.refl _ _)).mono ?_); rintro e w1 ⟨B, M, Bd, rfl, hd⟩; have HD1 := Aside0.mk hd; clear hd)
    | (go_at_call 10; (with_reducible refine (at_wformat 0 HF.out HC0.out HD1.out).mono ?_); rintro e w2 ⟨rfl, vc2, hd⟩; have HD2 := Aside0.mk hd; clear hd)
    | (go_at_call 12; (with_reducible refine (open_calls HO1.out HI1.out.ok (Nat.le_trans HC1.out (by decide)) HD2.out.dk).mono ?_); rintro e w3 hq; obtain ⟨Wb, vs, vo, rfl, hv, hb, hr⟩ := op_ok (n0 := w.heap.size) hq rfl HD2.out.below.size (at_base HD2.out); have HV3 := Aside0.mk hv; have HB3 := Aside0.mk (HD2.out.below.trans (hb.mono HD2.out.below.size)); clear hq hv hb hr))
  obtain ⟨W3, hW3, hb3, k0, k1, k2⟩ := lit_ab w3
  rw [hW3]
  have HT3 := Aside0.mk (fun (W : World) (hc : TC w.heap.size isWD W3 W) => two_texts hc k0 k1 k2)
  have HV3' := Aside0.mk (HV3.out.fresh hb3)
  have HB3' := Aside0.mk (HB3.out.trans (hb3.mono HB3.out.size))
  have HADD := Aside0.mk (show Calls Tryz.prog 15 #[.pointer (some ⟨Wb, 0, none⟩), .slice (some ⟨w3.heap.size + 1 + 1, 0, none⟩) 2 2] W3 (AddQ w.heap.size W3 Wb B M Bd Da D2 0 0 0 (startsP 0 []) (startsP 0 [[97], [98]]) (0 + 2) 0 0) from
    add_calls (R := [[97], [98]]) (A := some ⟨w3.heap.size + 1 + 1, 0, none⟩) (c := 2) HI1.out.ring recs_ab rfl HA.out HS2.out (by decide) (by decide) (by decide) HC1.out (Nat.le_trans HAC.out (by decide)) (by decide) HV3'.out HT3.out)
  clear hb3 k0 k1 k2
  (with_reducible refine HADD.out.mono ?_)
  rintro er w4 ⟨ht4, vc4, vs4, _, _, hq, _⟩
  obtain ⟨rfl, hv4⟩ := hq rfl rfl
  have HT4 := Aside0.mk ht4
  have HV4 := Aside0.mk hv4
  have HCUT := Aside0.mk (show Calls Tryz.prog 19 #[.pointer (some ⟨Wb, 0, none⟩), .int .i64 1] w4 (CutQ w.heap.size w4 Wb B M Bd D3 (0 + 1) 0 (0 + 2) 1 (startsP 0 [] ++ startsP 0 [[97], [98]]) 1 0) from
    wcut_calls 1 (by decide) (by decide) (by decide) HS3.out (by decide) (by decide) (by decide) HC2.out HV4.out)
  clear ht4 hv4 hq
  go_wp2_with (first
    | (go_at_call 19; (with_reducible refine HCUT.out.mono ?_); rintro er w5 ⟨ht5, vc5, vs5, hq5, _⟩; obtain ⟨rfl, hv5⟩ := hq5 rfl; have HT5 := Aside0.mk ht5; have HV5 := Aside0.mk hv5; clear ht5 hv5 hq5)
    | (go_at_call 12; (with_reducible refine (open_calls HO3.out HI3.out.ok HC3.out HV5.out.dk).mono ?_); rintro er w6 hq6; obtain ⟨Wb6, vs6, vo6, rfl, hv6, hb6, hr6⟩ := op_ok (n0 := w.heap.size) hq6 rfl HV5.out.dk.base_le HV5.out.dk; have HB6 := Aside0.mk hb6; have HR6 := Aside0.mk (show Kd.R bytesK 58 w6 w5.heap.size (fun _ => True) vo6 [[98]] from hr6); clear hq6 hv6 hb6 hr6; obtain ⟨ad6, A0, c6, c0, hvo, hcc, hst6⟩ := one_text HR6.out; subst hvo; rw [str98] at hst6; have hst7 : (convert 58 9 (.slice A0 1 c0)).run Tryz.prog w6 = .ok (.string { data := #[98] }) w6 := hst6; clear hst6))
  go_ret
  have hb := HB3'.out.trans (HT4.out.low.trans HT5.out.low)
  exact ⟨rfl, hb.trans (HB6.out.mono hb.size)⟩
end Go.Proofs.YtlepcmljmibdnaaGreat
namespace Go.Proofs.YtlepcmljmibdnaaGreat
open Go.RowKit Go.Proofs.YtlepcmljmibdnaaGreatW.PrintWords Go.Proofs.YtlepcmljmibdnaaGreatW.PrintLast Go.Proofs.YtlepcmljmibdnaaGreatW.PrintMore PWalOpens
set_option linter.unusedVariables false
set_option linter.unusedSimpArgs false
theorem rframe_long (w : World) (A : Option Addr) (n c : Nat) (hl : 60000 < n) : Calls Tryz.prog 104 #[.slice A n c] w fun e w' => e = .returned (.slice none 0 0) ∧ w = w' := by
  have b1 : decide (60000 < (n : Int)) = true := by simp; omega
  go_enter Tryz.func104, Tryz.ntmps104
  go_wp2
  go_ret
  exact ⟨rfl, rfl⟩
theorem lowB2 (n : Int) : lowB n 2 = [n / 256 % 256, n % 256] := by
  simp [lowB]
theorem lit_R (w : World) (base : Nat) (hb : base ≤ w.heap.size) (xs : List Int) (hm : xs.length ≤ 1000000) : Kd.R (Kd.int .u8) 5 (w.alloc (.cells (encs (Value.int .u8) xs).toArray 5)) base (fun k => base ≤ k) (.slice (some ⟨w.heap.size, 0, none⟩) xs.length xs.length) xs := by
  have h2 := World.ownsRow_lit (base := base) (e := 5) (size := 1) w (encs (Value.int .u8) xs).toArray xs.length hb (by simp [maxLen]; omega) (by simp [encs])
  exact Kd.R_of_own (enc := Value.int .u8) (h1 := fun _ => rfl) (by simpa using h2) (fun k hk => by
    have : w.heap.size = k := by simpa [Value.ownBlock] using hk
    omega)
set_option maxRecDepth 100000 in
theorem rframe_calls (w : World) (A : Option Addr) (c : Nat) (b : List Int) (hb : isBytes b) (hl : b.length ≤ 60000) (hC : (Kd.int .u8).C w A b.length b) :
    Calls Tryz.prog 104 #[.slice A b.length c] w fun e w' => ∃ A' c', e = .returned (.slice A' (b.length + 7) c') ∧ Below w.heap.size w w' ∧ OwnB w' w.heap.size (.slice A' (b.length + 7) c') (frameB b) := by
  have b1 : decide (60000 < (b.length : Int)) = false := by simp; omega
  have b2 : (0 : Int) ≤ (b.length : Int) := by omega
  have b3 : (b.length : Int) ≤ 60000 := by omega
  have HC := Aside0.mk hC
  have HF := Aside0.mk (show factotumref01_Fixed.f 9 [] (b.length : Int) 2 = some (lenB b) from by
    rw [show (2 : Int) = ((2 : Nat) : Int) from rfl, fixedF [] (b.length : Int) 2 (by omega) (by decide), lowB2]; rfl)
  have HL1 := Aside0.mk (show ((lenB b).length + b.length) * 1 ≤ 140737488355328 from by simp [lenB] <;> omega)
  obtain ⟨fs, hfs⟩ : ∃ fs, lenB b ++ b = fs := ⟨_, rfl⟩
  have HBY := Aside0.mk (show isBytes fs from by rw [← hfs]; exact lenB_bytes hb)
  have HLF := Aside0.mk (show fs.length = b.length + 2 from by rw [← hfs]; simp [lenB] <;> omega)
  have HCRC := Aside0.mk (sum32_f fs HBY.out (by rw [HLF.out]; omega))
  obtain ⟨hk0, hk1⟩ := crcB_lt fs
  have HFX := Aside0.mk (show factotumref01_Fixed.f 9 ([165] ++ fs) (crcB fs) 4 = some (frameB b) from by
    rw [show (4 : Int) = ((4 : Nat) : Int) from rfl, fixedF ([165] ++ fs) (crcB fs) 4 (by omega) (by rw [List.length_append, HLF.out]; simp <;> omega), lowB4]
    unfold frameB
    rw [hfs]
    rfl)
  have HLA := Aside0.mk (show (([165] : List Int).length + fs.length) * 1 ≤ 140737488355328 from by rw [HLF.out]; simp <;> omega)
  obtain ⟨cq, hcq⟩ : ∃ cq, crcB fs = cq := ⟨_, rfl⟩
  rw [hcq] at hk0 hk1 HCRC HFX
  have HFSE := Aside0.mk hfs
  clear hC hfs
  go_enter Tryz.func104, Tryz.ntmps104
  go_wp2_with (first
    | (go_at_call 119; go_loud (refine (factotumref01_Fixed.calls 9 (fun k => w.heap.size ≤ k) (.slice none 0 0) [] (b.length : Int) 2 (lenB b) w w (Below.refl _ _) (Kd.R_nil _ _ _ _ _) HF.out).mono ?_); rintro e w3 ⟨v3, rfl, hr, hb3, _⟩; have HB3 := Aside0.mk hb3; have HR3 := Aside0.mk (show OwnB w3 w.heap.size v3 _ from Kd.R_mono hr (fun k hk => hk.elim id (fun hk => hk))); clear hr hb3)
    | ((with_reducible refine gate_builtin (b := .append) (xs := #[.tmp 10, .tmp 11]) rfl ?_); at_builtin; go_loud (refine Kd.R_append_rows (Kd.int .u8) (W := w3) (w0 := w3) w.heap.size rfl (.tmp 10) (.tmp 11) 58 5 (.int .u8 0) 1 rfl Tryz.underlying58 info5w rfl (by decide) (by decide) _ (lenB b) b A b.length c (fun k => w.heap.size ≤ k) (fun _ => False) rfl rfl HR3.out (Kd.C_below HC.out HB3.out) (fun _ _ h => h) (fun _ h => h.elim) (fun k hk => Nat.le_trans HB3.out.size hk) (Below.refl _ _) HB3.out.size HL1.out ?_); intro v4 w4 ho hb4 hg hat; rw [HFSE.out] at ho; obtain ⟨A4, c4, hv4⟩ := Kd.R_slice ho; subst hv4; have HR4 := Aside0.mk ho; have HB4 := Aside0.mk (HB3.out.trans hb4); clear ho hb4 hg hat)
    | ((with_reducible refine gate_builtin (b := .append) (xs := #[.tmp 13, .tmp 14]) rfl ?_); at_builtin; have HLR := lit_R w4 w.heap.size HB4.out.size [165] (by decide); go_loud (refine Kd.R_append_rows (Kd.int .u8) (W := w4.alloc (.cells #[.int .u8 165] 5)) (w0 := w4.alloc (.cells #[.int .u8 165] 5)) w.heap.size rfl (.tmp 13) (.tmp 14) 58 5 (.int .u8 0) 1 rfl Tryz.underlying58 info5w rfl (by decide) (by decide) _ [165] fs A4 fs.length c4 (fun k => w.heap.size ≤ k) (fun _ => False) rfl rfl HLR (Kd.C_alloc (Kd.R_reads' HR4.out).2.2 _) (fun _ _ h => h) (fun _ h => h.elim) (fun k hk => Nat.le_trans (Nat.le_trans HB4.out.size (by simp)) hk) (Below.refl _ _) (Nat.le_trans HB4.out.size (by simp)) HLA.out ?_); intro v5 w5 ho hb5 hg hat; have HR5 := Aside0.mk ho; have HB5 := Aside0.mk hb5; have HG5 := Aside0.mk hg; clear ho hb5 hg hat))
  have HB5' := Aside0.mk ((HB4.out.alloc HB4.out.size _).trans HB5.out)
  have HC5 := Aside0.mk (Kd.C_below (Kd.R_reads' HR4.out).2.2 (((Below.refl w4.heap.size w4).alloc (Nat.le_refl _) (.cells #[.int .u8 165] 5)).grown HG5.out (by simp) (fun k hk => by cases (show some w4.heap.size = some k from hk); exact Nat.le_refl _)))
  have HLFS := Aside0.mk (show fs.length ≤ c4 from (Kd.R_reads' HR4.out).2.1)
  go_wp2_with (first
    | (go_at_call 136; (with_reducible refine (factotumref01_Sum32.calls (fs.length + 10) A4 c4 fs cq _ HC5.out HLFS.out HCRC.out).mono ?_); rintro e w7 ⟨rfl, hd⟩; obtain ⟨nd, rfl⟩ := hd.out; have HR7 := Aside0.mk (Kd.R_below HR5.out (drewN_below w5 nd)); have HB7 := Aside0.mk (bel_drewN HB5'.out nd))
    | (go_at_call 119; go_loud (refine (factotumref01_Fixed.calls 9 (fun k => w.heap.size ≤ k) _ ([165] ++ fs) cq 4 (frameB b) w (w5.drewN nd) HB7.out HR7.out HFX.out).mono ?_); rintro e w8 ⟨v8, rfl, hr, hb8, _⟩; have HB8 := Aside0.mk hb8; have HR8 := Aside0.mk hr; clear hr hb8))
  obtain ⟨A8, c8, hv8⟩ := Kd.R_slice HR8.out
  subst hv8
  go_ret
  have h9 := frameB_len b
  refine ⟨A8, c8, ?_, HB8.out, ?_⟩
  · rw [← h9]
    rfl
  · rw [← h9]
    exact Kd.R_mono HR8.out (fun k hk => hk.elim id (fun hk => Nat.le_trans HB7.out.size hk))
theorem rneed_calls (w : World) (A : Option Addr) (c : Nat) (b : List Int) (m : Int) (hm : needN b = m) (hb : isBytes b) (hl : b.length ≤ 1000000) (hC : (Kd.int .u8).C w A b.length b) :
    Calls Tryz.prog 108 #[.slice A b.length c] w fun e w' => e = .returned (.int .i64 m) ∧ Below w.heap.size w w' := by
  by_cases h : 60000 < b.length
  · have HF := Aside0.mk (rframe_long w A b.length c h)
    have HM := Aside0.mk (show m = 0 from by rw [← hm]; unfold needN; rw [if_pos h])
    clear hm
    go_enter Tryz.func108, Tryz.ntmps108
    go_wp2_with (go_at_call 104; (with_reducible refine HF.out.mono ?_); rintro e w3 ⟨rfl, rfl⟩)
    go_ret
    rw [HM.out]
    exact ⟨rfl, Below.refl _ _⟩
  · have HF := Aside0.mk (rframe_calls w A c b hb (by omega) hC)
    obtain ⟨k, hk⟩ : ∃ k : Nat, b.length + 7 = k := ⟨_, rfl⟩
    have hk0 : k ≤ 60007 := by omega
    have HM := Aside0.mk (show ((k : Int) + 63) / 64 = m from by
      rw [← hm]
      unfold needN
      rw [if_neg h]
      omega)
    rw [hk] at HF
    clear hm hk
    go_enter Tryz.func108, Tryz.ntmps108
    go_wp2_with (go_at_call 104; (with_reducible refine HF.out.mono ?_); rintro e w3 ⟨A3, c3, rfl, hb3, _⟩; have HB3 := Aside0.mk hb3; clear hb3)
    go_ret
    rw [HM.out]
    exact ⟨rfl, HB3.out⟩
end Go.Proofs.YtlepcmljmibdnaaGreat
namespace Go.Proofs.YtlepcmljmibdnaaGreat
open Go.RowKit Go.Proofs.YtlepcmljmibdnaaGreatW.PrintWords Go.Proofs.YtlepcmljmibdnaaGreatW.PrintLast Go.Proofs.YtlepcmljmibdnaaGreatW.PrintMore PWalOpens
set_option linter.unusedVariables false
set_option linter.unusedSimpArgs false
def txt (x : List Int) : List UInt8 := (strOfNums x).toList
def sameT (a b : List (List Int)) : Bool := decide (a.map txt = b.map txt)
theorem sameT_refl (a : List (List Int)) : sameT a a = true := decide_eq_true rfl
theorem texts_step {a b : List (List Int)} {i : Nat} {x y : List Int} (hx : a[i]? = some x) (hy : b[i]? = some y) (h : txt x ≠ txt y) : a.map txt ≠ b.map txt := fun e => by
  have := congrArg (fun l : List (List UInt8) => l[i]?) e
  simp only [List.getElem?_map, hx, hy, Option.map_some, Option.some.injEq] at this
  exact h this
theorem sametexts_calls (w : World) (A B : Option Addr) (c d : Nat) (a b : List (List Int)) (q : Bool) (hq : sameT a b = q) (hl : a.length ≤ 1000000 ∧ b.length ≤ 1000000) (ha : bytesK.C w A a.length a) (hb : bytesK.C w B b.length b) :
    Calls Tryz.prog 25 #[.slice A a.length c, .slice B b.length d] w fun e w' => e = .returned (.bool q) ∧ Drawn0 w w' := by
  have HA := Aside0.mk ha
  have HB := Aside0.mk hb
  have hl1 := hl.1
  clear ha hb
  by_cases he : a.length = b.length
  · have c0 : ((a.length : Int) == (b.length : Int)) = true := by simp; omega
    have c1 : ((a.length : Int) != (b.length : Int)) = false := by simp; omega
    have c2 : (a.length == b.length) = true := by simpa using he
    have HE := Aside0.mk he
    have HQ := Aside0.mk hq
    clear he hq hl
    go_enter Tryz.func25, Tryz.ntmps25
    go_wp2
    go_loopg [13] a.length (fun kq v13 w' => ∃ i : Nat, v13 = .int .i64 (i : Int) ∧ Aside0 (i + kq = a.length) ∧ Aside0 (∀ j x y, j < i → a[j]? = some x → b[j]? = some y → txt x = txt y) ∧ Drawn0 w w')
    case atStart => exact ⟨0, rfl, ⟨by omega⟩, ⟨fun j x y h => by omega⟩, Drawn0.refl _⟩
    case round =>
      obtain ⟨i, rfl, HI, HZ, ⟨m1, rfl⟩⟩ := hrel
      clear c0 c1 c2
      by_cases hi : i < a.length
      · have hib : i < b.length := by have := HE.out; omega
        obtain ⟨x, hx⟩ : ∃ x, a[i]? = some x := ⟨_, List.getElem?_eq_getElem hi⟩
        obtain ⟨y, hy⟩ : ∃ y, b[i]? = some y := ⟨_, List.getElem?_eq_getElem hib⟩
        obtain ⟨a2, A2, c2', e, x0, hc2, hC2⟩ := texts_at HA.out i hi
        subst e
        obtain ⟨b2, B2, d2', e, y0, hd2, hD2⟩ := texts_at HB.out i hib
        subst e
        rw [show a.getD i [] = x by simp [List.getD, hx]] at x0 hc2 hC2
        rw [show b.getD i [] = y by simp [List.getD, hy]] at y0 hd2 hD2
        have hcvx : ∀ k, (convert 58 9 (.slice A2 x.length c2')).run Tryz.prog (w.drewN k) = .ok (.string (strOfNums x)) (w.drewN k) := fun k => Kd.C_string Tryz.underlying58 Tryz.underlying5 Tryz.underlying9 (Kd.C_below hC2 (bel_drewN (Below.refl _ _) k))
        have hcvy : ∀ k, (convert 58 9 (.slice B2 y.length d2')).run Tryz.prog (w.drewN k) = .ok (.string (strOfNums y)) (w.drewN k) := fun k => Kd.C_string Tryz.underlying58 Tryz.underlying5 Tryz.underlying9 (Kd.C_below hD2 (bel_drewN (Below.refl _ _) k))
        clear hc2 hC2 hd2 hD2
        have HX := Aside0.mk hx
        have HY := Aside0.mk hy
        have hi1 : (i : Int) < (a.length : Int) := by omega
        have hi2 : (i : Int) < (b.length : Int) := by omega
        have hi0 : (0 : Int) ≤ (i : Int) := by omega
        clear hx hy
        by_cases h : txt x = txt y
        · have hb0 : ((strOfNums x).toList == (strOfNums y).toList) = true := by simpa [txt] using h
          have hb1 : ((strOfNums x).toList != (strOfNums y).toList) = false := by simpa [txt] using h
          have HXY := Aside0.mk h
          clear h
          go_wp2
          go_quiet (fail)
          go_wp2
          have hk1 := HI.out
          obtain ⟨gq, rfl⟩ : ∃ gq, gk = gq + 1 := ⟨gk - 1, by omega⟩
          go_roundg gq
          case rel => exact ⟨i + 1, by go_num, ⟨by omega⟩, ⟨fun j u v hj hu hv => by
            by_cases hji : j = i
            · subst hji; rw [HX.out] at hu; rw [HY.out] at hv; rw [← Option.some.inj hu, ← Option.some.inj hv]; exact HXY.out
            · exact HZ.out j u v (by omega) hu hv⟩, by repeat (first | exact Drawn0.refl _ | apply Drawn0.step)⟩
          case measure => omega
        · have hb0 : ((strOfNums x).toList == (strOfNums y).toList) = false := by simpa [txt] using h
          have hb1 : ((strOfNums x).toList != (strOfNums y).toList) = true := by simpa [txt] using h
          have HR := Aside0.mk (show q = false from by rw [← HQ.out]; exact decide_eq_false (texts_step HX.out HY.out h))
          clear h
          go_wp2
          go_quiet (fail)
          go_wp2
          go_ret
          rw [HR.out]
          exact ⟨rfl, by repeat (first | exact Drawn0.refl _ | apply Drawn0.step)⟩
      · have hi0 := HI.out
        obtain rfl : gk = 0 := by omega
        obtain rfl : i = a.length := by omega
        clear hi0
        have hm : ¬ ((a.length : Int) < (a.length : Int)) := by omega
        have HR := Aside0.mk (show q = true from by
          rw [← HQ.out]
          refine decide_eq_true (List.ext_getElem? fun j => ?_)
          rw [List.getElem?_map, List.getElem?_map]
          by_cases hj : j < a.length
          · have h1 : a[j]? = some a[j] := List.getElem?_eq_getElem hj
            have h2 : b[j]? = some (b[j]'(by have := HE.out; omega)) := List.getElem?_eq_getElem (by have := HE.out; omega)
            rw [h1, h2]
            exact congrArg some (HZ.out j _ _ hj h1 h2)
          · rw [List.getElem?_eq_none (by omega), List.getElem?_eq_none (by have := HE.out; omega)])
        go_wp2
        go_ret
        rw [HR.out]
        exact ⟨rfl, by repeat (first | exact Drawn0.refl _ | apply Drawn0.step)⟩
  · have c0 : ((a.length : Int) == (b.length : Int)) = false := by simp; omega
    have c1 : ((a.length : Int) != (b.length : Int)) = true := by simp; omega
    have c2 : (a.length == b.length) = false := by simpa using he
    have HR := Aside0.mk (show q = false from by rw [← hq]; exact decide_eq_false (fun e => he (by have := congrArg List.length e; simpa using this)))
    clear he hq hl
    go_enter Tryz.func25, Tryz.ntmps25
    go_wp2
    go_ret
    rw [HR.out]
    exact ⟨rfl, Drawn0.refl _⟩
end Go.Proofs.YtlepcmljmibdnaaGreat
namespace Go.Proofs.YtlepcmljmibdnaaGreat
open Go.RowKit Go.Proofs.YtlepcmljmibdnaaGreatW.PrintWords Go.Proofs.YtlepcmljmibdnaaGreatW.PrintLast Go.Proofs.YtlepcmljmibdnaaGreatW.PrintMore PWalOpens
set_option linter.unusedVariables false
set_option linter.unusedSimpArgs false
def rringX (X : RX) : Int := max ((X.S.length : Int) - 2) 0
theorem rring_calls (w : World) (base R : Nat) (vS vC vB : Value) (X : RX) (r : Int) (hr : rringX X = r) (h : RK w base R vS vC vB X) :
    Calls Tryz.prog 47 #[.pointer (some ⟨R, 0, none⟩)] w fun e w' => e = .returned (.int .u64 r) ∧ w = w' := by
  obtain ⟨⟨h0, h1, h2, h3, h4⟩, _⟩ := cells5 h.blk
  obtain ⟨A, c, rfl⟩ := Kd.R_slice h.S
  have hn := h.ok.hn
  unfold rringX at hr
  obtain ⟨n, hnn⟩ : ∃ n : Nat, X.S.length = n := ⟨_, rfl⟩
  rw [hnn] at h0 hn hr
  clear h h1 h2 h3 h4 hnn
  by_cases h2 : n < 2
  · have HR := Aside0.mk (show r = 0 by omega)
    have b1 : decide ((n : Int) < 2) = true := by simp; omega
    clear hr
    go_enter Tryz.func47, Tryz.ntmps47
    go_wp2
    go_ret
    rw [HR.out]
    exact ⟨rfl, rfl⟩
  · have HR := Aside0.mk (show r = (n : Int) - 2 by omega)
    have b1 : decide ((n : Int) < 2) = false := by simp; omega
    have b2 : (2 : Int) ≤ (n : Int) := by omega
    have b3 : (n : Int) ≤ 4096 := by omega
    clear hr
    go_enter Tryz.func47, Tryz.ntmps47
    go_wp2
    go_ret
    rw [HR.out]
    exact ⟨rfl, rfl⟩
theorem lit_Ct {w w' : World} {base : Nat} {T : Obj → Prop} (xs : List Int) (hx : xs.length ≤ 1000000) (hT : ∀ cs, ¬ T (.cells cs 52 (0, 0))) (hc : TC base T (w.alloc (.cells (encs (Value.int .u64) xs).toArray 52)) w') :
    (Kd.int .u64).C w' (some ⟨w.heap.size, 0, none⟩) xs.length xs := by
  have h := hc.blk _ _ (heap_alloc_new w (.cells (encs (Value.int .u64) xs).toArray 52)) (hT _)
  refine Kd.C_of_reads (d := (0 : Int)) (h1 := fun _ => rfl) (enc := Value.int .u64) ⟨rfl, by omega, fun _ => ⟨_, rfl, fun j hj => ?_⟩⟩
  have e : (⟨w.heap.size, 0, none⟩ : Addr).add j = ⟨w.heap.size, j, none⟩ := by unfold Addr.add; split <;> simp_all
  rw [e, cell_of_row w' w.heap.size j _ 52 (0, 0) h]
  have := encs_get (enc := Value.int .u64) (d := (0 : Int)) xs j hj
  simpa using this
def rwformatX (X : RX) : RX × Int := if rringX X < 1 then (X, 51) else rformatX X [0, 0]
section
variable {w : World} {base R : Nat} {vS vC vB : Value} {X X1 : RX} {e : Int}
theorem not56 (cs : Array Value) : ¬ isRef (.cells cs 52 (0, 0)) := by simp [isRef]
theorem rformat_two (hf : rformatX X [0, 0] = (X1, e)) (hc : X.cache.length ≤ 800) (h : RK w base R vS vC vB X) :
    Calls Tryz.prog 48 #[.pointer (some ⟨R, 0, none⟩), .slice (some ⟨w.heap.size, 0, none⟩) 2 2] (w.alloc (.cells #[.int .u64 0, .int .u64 0] 52)) (RvQ w base R vS vB X1 e) := by
  have ht : TC base isRef w (w.alloc (.cells #[.int .u64 0, .int .u64 0] 52)) := TC.alloc (TC.refl _ _ _) _ h.base_le
  refine (rformat_calls (l := [0, 0]) (A := some ⟨w.heap.size, 0, none⟩) (c := 2) hf hc (by simp) (fun w' hc' => lit_Ct (w := w) [0, 0] (by decide) not56 hc') (h.fresh ((Below.refl w.heap.size w).alloc (Nat.le_refl _) _))).mono ?_
  rintro x w2 ⟨rfl, h1, h2⟩
  exact ⟨rfl, ht.trans h1, h2⟩
theorem rwformat_calls (hf : rwformatX X = (X1, e)) (hc : X.cache.length ≤ 800) (h : RK w base R vS vC vB X) :
    Calls Tryz.prog 11 #[.pointer (some ⟨R, 0, none⟩)] w (RvQ w base R vS vB X1 e) := by
  unfold rwformatX at hf
  obtain ⟨r, hr⟩ : ∃ r, rringX X = r := ⟨_, rfl⟩
  rw [hr] at hf
  have HR := Aside0.mk (rring_calls w base R vS vC vB X r hr h)
  have HA := Aside0.mk h
  have HC := Aside0.mk hc
  clear h hr hc
  by_cases h1 : r < 1
  · rw [if_pos h1] at hf
    cases hf
    go_enter Tryz.func11, Tryz.ntmps11
    go_wp2_with (go_at_call 47; (with_reducible refine HR.out.mono ?_); rintro e w' ⟨rfl, rfl⟩)
    go_ret
    exact ⟨rfl, TC.refl _ _ _, vC, HA.out⟩
  · rw [if_neg h1] at hf
    have HF := Aside0.mk hf
    have h1' : 1 ≤ r := by omega
    clear hf h1
    go_enter Tryz.func11, Tryz.ntmps11
    go_wp2_with (first
      | (go_at_call 47; (with_reducible refine HR.out.mono ?_); rintro e w' ⟨rfl, rfl⟩)
      | (go_at_call 48; (with_reducible refine (rformat_two HF.out HC.out HA.out).mono ?_); rintro e w2 ⟨rfl, ht, vC2, hd⟩; have HT2 := Aside0.mk ht; have HD2 := Aside0.mk hd; clear ht hd))
    go_ret
    exact ⟨rfl, HT2.out, vC2, HD2.out⟩
end
end Go.Proofs.YtlepcmljmibdnaaGreat
namespace Go.Proofs.YtlepcmljmibdnaaGreat
open Go.RowKit Go.Proofs.YtlepcmljmibdnaaGreatW.PrintWords Go.Proofs.YtlepcmljmibdnaaGreatW.PrintLast Go.Proofs.YtlepcmljmibdnaaGreatW.PrintMore PWalOpens
set_option linter.unusedVariables false
set_option linter.unusedSimpArgs false
def UrQ (w : World) (b : List Int) (e : Ending) (w' : World) : Prop :=
  ∃ A' c', e = .returned (.tuple #[.slice A' (unF b).1.length c', .int .i64 (unF b).2.1, .int .i64 (unF b).2.2]) ∧ (Kd.int .u8).C w' A' (unF b).1.length (unF b).1 ∧ Below w.heap.size w w'
theorem ur_bad {w w' : World} {b : List Int} {e : Ending} (hu : unF b = ([], 0, 40)) (he : e = .returned (.tuple #[.slice none 0 0, .int .i64 0, .int .i64 40])) (hb : Below w.heap.size w w') : UrQ w b e w' := by
  unfold UrQ
  rw [hu]
  exact ⟨none, 0, he, Kd.C_nil _ _, hb⟩
theorem ur_short (w : World) (A : Option Addr) (c : Nat) (b : List Int) (hl : b.length < 3) : Calls Tryz.prog 53 #[.slice A b.length c] w (UrQ w b) := by
  have hu : unF b = ([], 0, 40) := by unfold unF unV; rw [if_neg]; simp; omega
  have b1 : decide ((b.length : Int) < 3) = true := by simp; omega
  go_enter Tryz.func53, Tryz.ntmps53
  go_wp2
  go_ret3
  exact ur_bad hu rfl (Below.refl _ _)
/-- when the frame that b's head tells is b's beginning -/
theorem unF_same {b : List Int} (hb : isBytes b) (hn : frN b ≤ 60000) (hl : frN b + 7 ≤ b.length) : unF b = if frameB ((b.drop 3).take (frN b)) = b.take (7 + frN b) then ((b.drop 3).take (frN b), 7 + (frN b : Int), 0) else ([], 0, 40) := by
  have hbl : ((b.drop 3).take (frN b)).length = frN b := by rw [List.length_take, List.length_drop]; omega
  unfold unF
  by_cases he : frameB ((b.drop 3).take (frN b)) = b.take (7 + frN b)
  · rw [if_pos he, if_pos ((unV_iff hb).2 ⟨_, by omega, by rw [he]; exact List.take_prefix _ _, rfl⟩)]
  · rw [if_neg he, if_neg]
    intro hv
    obtain ⟨x, hx, hp, hxx⟩ := (unV_iff hb).1 hv
    subst hxx
    refine he ?_
    have := List.prefix_iff_eq_take.1 hp
    rw [frameB_len, hbl] at this
    rw [Nat.add_comm 7]
    exact this
theorem own_string {w : World} {b n c : Nat} {A : Option Addr} {xs : List Int} {s : ByteArray} (h : OwnB w b (.slice A n c) xs) (hs : strOfNums xs = s) : (convert 58 9 (.slice A n c)).run Tryz.prog w = .ok (.string s) w := by
  obtain ⟨rfl, _, hC⟩ := Kd.R_reads' h
  subst hs
  exact Kd.C_string Tryz.underlying58 Tryz.underlying5 Tryz.underlying9 hC
theorem part_string {w : World} {n c : Nat} {A : Option Addr} {xs : List Int} {s : ByteArray} (h : (Kd.int .u8).C w A n xs) (hs : strOfNums xs = s) : (convert 58 9 (.slice A n c)).run Tryz.prog w = .ok (.string s) w := by
  obtain rfl : xs.length = n := h.1
  subst hs
  exact Kd.C_string Tryz.underlying58 Tryz.underlying5 Tryz.underlying9 h
set_option maxRecDepth 100000 in
theorem ur_main (w : World) (A : Option Addr) (c : Nat) (b : List Int) (hl : 3 ≤ b.length) (hl2 : b.length ≤ 1000000) (hby : isBytes b) (hcap : b.length ≤ c) (hc63 : c ≤ 9223372036854775807) (hC : (Kd.int .u8).C w A b.length b) : Calls Tryz.prog 53 #[.slice A b.length c] w (UrQ w b) := by
  have h1 : decide ((b.length : Int) < 3) = false := by simp; omega
  obtain ⟨ad, e1, x1⟩ := Kd.at_int hC (1 : Int) (by omega) (by omega)
  subst e1
  obtain ⟨ad2, e2, x2⟩ := Kd.at_int hC (2 : Int) (by omega) (by omega)
  cases e2
  obtain ⟨p1, p2⟩ := rd_byte hby 1
  obtain ⟨p3, p4⟩ := rd_byte hby 2
  obtain ⟨k1, hk1⟩ := Int.eq_ofNat_of_zero_le p1
  obtain ⟨k2, hk2⟩ := Int.eq_ofNat_of_zero_le p3
  have hk1' : rd b 1 = (k1 : Int) := hk1
  have hk2' : rd b 2 = (k2 : Int) := hk2
  rw [hk1', show ad.add (Int.toNat 1) = { block := ad.block, off := ad.off + 1 } from rfl] at x1
  rw [hk2', show ad.add (Int.toNat 2) = { block := ad.block, off := ad.off + 2 } from rfl] at x2
  have hfr : frN b = k1 * 256 + k2 := by unfold frN; rw [hk1', hk2']; omega
  have q1 : k1 < 256 := by rw [hk1] at p2; omega
  have q2 : k2 < 256 := by rw [hk2] at p4; omega
  obtain ⟨n, hnn⟩ : ∃ n, k1 * 256 + k2 = n := ⟨_, rfl⟩
  rw [hnn] at hfr
  have hsum : (k1 : Int) * 256 + (k2 : Int) = (n : Int) := by omega
  have q1' : (k1 : Int) < 256 := by omega
  have q2' : (k2 : Int) < 256 := by omega
  have hl1 : 1 < b.length := by omega
  have hl2' : 2 < b.length := by omega
  have hI1 : (1 : Int) < (b.length : Int) := by omega
  have hI2 : (2 : Int) < (b.length : Int) := by omega
  have HC := Aside0.mk hC
  have HFR := Aside0.mk hfr
  have HBY := Aside0.mk hby
  have HW1 := Aside0.mk (IntWalk.i64_in ((k1 : Int) * 256) (by omega))
  have HW2 := Aside0.mk (IntWalk.i64_in ((k1 : Int) * 256 + (k2 : Int)) (by omega))
  clear hC hk1 hk2 hk1' hk2' p1 p2 p3 p4 hfr hby
  by_cases hn6 : 60000 < n
  · have HU := Aside0.mk (show unF b = ([], 0, 40) from by unfold unF unV; rw [HFR.out, if_neg]; simp; omega)
    have hn6' : (60000 : Int) < (n : Int) := by omega
    clear hn6
    go_enter Tryz.func53, Tryz.ntmps53
    go_wp2_with fail
    go_quiet (fail)
    go_wp2_with fail
    go_ret3
    exact ur_bad HU.out rfl (bel_drewN (Below.refl _ _) _)
  by_cases hn7 : b.length < n + 7
  · have HU := Aside0.mk (show unF b = ([], 0, 40) from by unfold unF unV; rw [HFR.out, if_neg]; simp; omega)
    have hn6' : (n : Int) ≤ 60000 := by omega
    have hn7' : (b.length : Int) < 7 + (n : Int) := by omega
    clear hn6 hn7
    go_enter Tryz.func53, Tryz.ntmps53
    go_wp2_with fail
    go_quiet (fail)
    go_wp2_with fail
    go_ret3
    exact ur_bad HU.out rfl (bel_drewN (Below.refl _ _) _)
  have hn6' : (n : Int) ≤ 60000 := by omega
  have hn7' : 7 + (n : Int) ≤ (b.length : Int) := by omega
  have hn8' : (n : Int) + 7 ≤ (c : Int) := by omega
  have hc3 : ¬ c = 3 := by omega
  have hUF := unF_same HBY.out (by rw [HFR.out]; omega) (by rw [HFR.out]; omega)
  rw [HFR.out] at hUF
  obtain ⟨bd, hbd⟩ : ∃ bd, (b.drop 3).take n = bd := ⟨_, rfl⟩
  obtain ⟨bt, hbt⟩ : ∃ bt, b.take (7 + n) = bt := ⟨_, rfl⟩
  rw [hbd, hbt] at hUF
  have hbl : bd.length = n := by rw [← hbd, List.length_take, List.length_drop]; omega
  have htl : bt.length = 7 + n := by rw [← hbt, List.length_take]; omega
  have hB1 := Kd.C_drop (m := 3) HC.out (by omega) hcap
  rw [if_neg hc3] at hB1
  have hB2 := Kd.C_take (m := n) hB1 (by rw [List.length_drop]; omega)
  rw [hbd, hbl] at hB2
  have HB := Aside0.mk (show (Kd.int .u8).C w (some { block := ad.block, off := ad.off + 3 }) n bd from hB2)
  have hT2 := Kd.C_take (m := 7 + n) HC.out (by omega)
  rw [hbt, htl] at hT2
  have HT := Aside0.mk (show (Kd.int .u8).C w (some ad) (7 + n) bt from hT2)
  have HBB := Aside0.mk (show isBytes bd from by rw [← hbd]; exact (HBY.out.drop 3).take _)
  have HTB := Aside0.mk (show isBytes bt from by rw [← hbt]; exact HBY.out.take _)
  have HBL := Aside0.mk hbl
  have HTL := Aside0.mk htl
  have HUF := Aside0.mk hUF
  have HFRM := Aside0.mk (fun (w' : World) (hb : Below w.heap.size w w') => (by
    have h := rframe_calls w' (some { block := ad.block, off := ad.off + 3 }) (c - 3) bd HBB.out (by rw [HBL.out]; omega) (by rw [HBL.out]; exact Kd.C_below HB.out hb)
    rw [HBL.out] at h
    exact h : Calls Tryz.prog 104 #[.slice (some { block := ad.block, off := ad.off + 3 }) n (c - 3)] w' fun e w2 => ∃ A' c', e = .returned (.slice A' (n + 7) c') ∧ Below w'.heap.size w' w2 ∧ OwnB w2 w'.heap.size (.slice A' (n + 7) c') (frameB bd)))
  have HFL := Aside0.mk (show (frameB bd).length = n + 7 from by rw [frameB_len, HBL.out])
  have hse := str_eq (frameB bd) bt (frameB_bytes HBB.out) HTB.out
  obtain ⟨s1, hs1⟩ : ∃ s1, strOfNums (frameB bd) = s1 := ⟨_, rfl⟩
  obtain ⟨s2, hs2⟩ : ∃ s2, strOfNums bt = s2 := ⟨_, rfl⟩
  rw [hs1, hs2] at hse
  have HS1 := Aside0.mk hs1
  have HS2 := Aside0.mk hs2
  have e7 : 3 + n - 3 = n := by omega
  have hw3 : IntKind.i64.wrap (3 + (n : Int)) = 3 + (n : Int) := IntWalk.i64_in _ (by omega)
  have hw7 : IntKind.i64.wrap (7 + (n : Int)) = 7 + (n : Int) := IntWalk.i64_in _ (by omega)
  have hm3 : max (3 + (n : Int)) 0 = 3 + (n : Int) := by omega
  have hm7 : max (7 + (n : Int)) 0 = 7 + (n : Int) := by omega
  have ht3 : (3 + (n : Int)).toNat = 3 + n := by omega
  have ht7 : (7 + (n : Int)).toNat = 7 + n := by omega
  have k3 : 3 + (n : Int) ≤ (c : Int) := by omega
  have k7 : 7 + (n : Int) ≤ (c : Int) := by omega
  have k30 : (0 : Int) ≤ 3 + (n : Int) := by omega
  have k70 : (0 : Int) ≤ 7 + (n : Int) := by omega
  have k33 : (3 : Int) ≤ 3 + (n : Int) := by omega
  clear hn6 hn7 hUF hbd hbt hbl htl hB1 hB2 hT2 hs1 hs2
  by_cases hq : frameB bd = bt
  · have hse' : (s1.toList == s2.toList) = true := by rw [hse]; simpa using hq
    have hse2 : (s1.toList != s2.toList) = false := by simp only [bne, hse']; rfl
    have HU := Aside0.mk (show unF b = (bd, 7 + (n : Int), 0) from by rw [HUF.out, if_pos hq])
    clear hse hq
    go_enter Tryz.func53, Tryz.ntmps53
    go_wp2_with fail
    go_quiet (fail)
    go_wp2_with fail
    obtain ⟨wq, hwq⟩ : ∃ wq, w.drewN nq = wq := ⟨_, rfl⟩
    have HBQ := Aside0.mk (show Below w.heap.size w wq from by rw [← hwq]; exact bel_drewN (Below.refl _ _) _)
    rw [hwq]
    clear hwq
    refine Fork.wp_fork (Fork.Lo.rel 0) [] [] (.one 0 0 (.one 1 0 (.one 2 0 (.one 3 0 (.one 6 0 (.one 7 0 (.one 8 0 (.one 9 0 (.one 10 1 (.one 4 2 (.one 5 1 (.one 11 0 .nil)))))))))))) (by kernel_rfl) (by kernel_rfl) ?_
    generalize hops : List.toArray (_ : List Oper) = ops
    have HO := Aside0.mk hops
    clear hops
    iterate 8 ((refine Fork.plain (Fork.at_ HO.out rfl) _ rfl (fun W => by go_simp; exact rfl) ?_); simp only [Act.put, List.setIfInBounds_toArray, List.set_cons_succ, List.set_cons_zero])
    refine Fork.reads (Fork.at_ HO.out rfl) _ rfl (fun W hW => by have q := part_string (c := c) (Kd.C_below (Kd.C_below HT.out HBQ.out.drew) hW) HS2.out; go_simp; exact rfl) ?_
    simp only [Act.put, List.setIfInBounds_toArray, List.set_cons_succ, List.set_cons_zero]
    refine Fork.step (Fork.at_ HO.out rfl) (fun K hK => ?_)
    go_simp
    refine (HFRM.out _ (by first | exact HBQ.out | exact HBQ.out.drew)).mono ?_
    rintro er w3 ⟨A3, c3, rfl, hb, ho⟩
    refine hK _ _ (.of_new hb (Nat.zero_le _)) ?_
    clear hK K
    have HO3 := Aside0.mk ho
    have HB3 := Aside0.mk (show Below w.heap.size w w3 from (by first | exact HBQ.out.trans (hb.mono HBQ.out.size) | exact HBQ.out.drew.trans (hb.mono HBQ.out.drew.size)))
    clear hb ho
    try simp only [Act.put, List.setIfInBounds_toArray, List.set_cons_succ, List.set_cons_zero]
    refine Fork.reads (Fork.at_ HO.out rfl) _ rfl (fun W hW => by have q := own_string (Kd.R_below HO3.out hW) HS1.out; go_simp; exact rfl) ?_
    simp only [Act.put, List.setIfInBounds_toArray, List.set_cons_succ, List.set_cons_zero]
    ((refine Fork.plain (Fork.at_ HO.out rfl) _ rfl (fun W => by go_simp; exact rfl) ?_); simp only [Act.put, List.setIfInBounds_toArray, List.set_cons_succ, List.set_cons_zero])
    refine Fork.done ?_
    go_wp2_with fail
    go_ret3
    unfold UrQ
    rw [HU.out]
    simp only
    rw [HBL.out]
    exact ⟨_, c - 3, rfl, Kd.C_below HB.out HB3.out, HB3.out⟩
  · have hse' : (s1.toList == s2.toList) = false := by rw [hse]; simpa using hq
    have hse2 : (s1.toList != s2.toList) = true := by simp only [bne, hse']; rfl
    have HU := Aside0.mk (show unF b = ([], 0, 40) from by rw [HUF.out, if_neg hq])
    clear hse hq
    go_enter Tryz.func53, Tryz.ntmps53
    go_wp2_with fail
    go_quiet (fail)
    go_wp2_with fail
    obtain ⟨wq, hwq⟩ : ∃ wq, w.drewN nq = wq := ⟨_, rfl⟩
    have HBQ := Aside0.mk (show Below w.heap.size w wq from by rw [← hwq]; exact bel_drewN (Below.refl _ _) _)
    rw [hwq]
    clear hwq
    refine Fork.wp_fork (Fork.Lo.rel 0) [] [] (.one 0 0 (.one 1 0 (.one 2 0 (.one 3 0 (.one 6 0 (.one 7 0 (.one 8 0 (.one 9 0 (.one 10 1 (.one 4 2 (.one 5 1 (.one 11 0 .nil)))))))))))) (by kernel_rfl) (by kernel_rfl) ?_
    generalize hops : List.toArray (_ : List Oper) = ops
    have HO := Aside0.mk hops
    clear hops
    iterate 8 ((refine Fork.plain (Fork.at_ HO.out rfl) _ rfl (fun W => by go_simp; exact rfl) ?_); simp only [Act.put, List.setIfInBounds_toArray, List.set_cons_succ, List.set_cons_zero])
    refine Fork.reads (Fork.at_ HO.out rfl) _ rfl (fun W hW => by have q := part_string (c := c) (Kd.C_below (Kd.C_below HT.out HBQ.out.drew) hW) HS2.out; go_simp; exact rfl) ?_
    simp only [Act.put, List.setIfInBounds_toArray, List.set_cons_succ, List.set_cons_zero]
    refine Fork.step (Fork.at_ HO.out rfl) (fun K hK => ?_)
    go_simp
    refine (HFRM.out _ (by first | exact HBQ.out | exact HBQ.out.drew)).mono ?_
    rintro er w3 ⟨A3, c3, rfl, hb, ho⟩
    refine hK _ _ (.of_new hb (Nat.zero_le _)) ?_
    clear hK K
    have HO3 := Aside0.mk ho
    have HB3 := Aside0.mk (show Below w.heap.size w w3 from (by first | exact HBQ.out.trans (hb.mono HBQ.out.size) | exact HBQ.out.drew.trans (hb.mono HBQ.out.drew.size)))
    clear hb ho
    try simp only [Act.put, List.setIfInBounds_toArray, List.set_cons_succ, List.set_cons_zero]
    refine Fork.reads (Fork.at_ HO.out rfl) _ rfl (fun W hW => by have q := own_string (Kd.R_below HO3.out hW) HS1.out; go_simp; exact rfl) ?_
    simp only [Act.put, List.setIfInBounds_toArray, List.set_cons_succ, List.set_cons_zero]
    ((refine Fork.plain (Fork.at_ HO.out rfl) _ rfl (fun W => by go_simp; exact rfl) ?_); simp only [Act.put, List.setIfInBounds_toArray, List.set_cons_succ, List.set_cons_zero])
    refine Fork.done ?_
    go_wp2_with fail
    go_ret3
    exact ur_bad HU.out rfl HB3.out
theorem ur_calls (w : World) (A : Option Addr) (c : Nat) (b : List Int) (hl2 : b.length ≤ 1000000) (hby : isBytes b) (h : SB w A c b) : Calls Tryz.prog 53 #[.slice A b.length c] w (UrQ w b) := by
  by_cases hl : b.length < 3
  · exact ur_short w A c b hl
  · exact ur_main w A c b (by omega) hl2 hby h.cap h.c63 h.C
end Go.Proofs.YtlepcmljmibdnaaGreat
namespace Go.Proofs.YtlepcmljmibdnaaGreat
open Go.RowKit Go.Proofs.YtlepcmljmibdnaaGreatW.PrintWords Go.Proofs.YtlepcmljmibdnaaGreatW.PrintLast Go.Proofs.YtlepcmljmibdnaaGreatW.PrintMore PWalOpens
set_option linter.unusedVariables false
set_option linter.unusedSimpArgs false
def recK : Kd (List Int × Int × Int) := Kd.pair bytesK (Kd.pair (Kd.int .u64) (Kd.int .u64))
abbrev Rec := List Int × Int × Int
theorem q138 : ∀ q, q ∈ 112 :: recK.E → q = 112 ∨ q = 5 := by
  intro q hq
  rw [show 112 :: recK.E = [112, 5] from rfl] at hq
  simpa using hq
theorem info138 : (Tryz.prog.info? 112).map (fun i => (i.zero, i.size, i.bytes)) = some (some (.agg #[.slice none 0 0, .int .u64 0, .int .u64 0]), recK.sz, 40) := by kernel_rfl
theorem rec_M {w : World} {b base : Nat} {A : Option Addr} {c : Nat} {f t : Int} {s : List Int} (h : Kd.R (Kd.int .u8) 5 w b (fun _ => True) (.slice A s.length c) s) (hb : base ≤ b) : recK.M w base (fun k => b ≤ k) (s, f, t) [.slice A s.length c, .int .u64 f, .int .u64 t] :=
  ⟨[.slice A s.length c], [.int .u64 f, .int .u64 t], rfl, ⟨_, rfl, Kd.R_lower (Kd.R_mono (Kd.R_bound h) (fun k hk => hk.2.1)) hb⟩, ⟨[.int .u64 f], [.int .u64 t], rfl, rfl, rfl⟩⟩
theorem ex_row1_rec (W : World) {o : Oper} {ρ : Operand → Value} {x : Operand} {u v z : Value} (ho : o.op = .buildSlice 53 1 #[(0, x)]) (hx : ρ x = .agg #[u, v, z]) :
    (execOp ρ o).run Tryz.prog W = .ok (.value (.slice (some ⟨W.heap.size, 0, none⟩) 1 1)) (W.alloc (.cells #[u, v, z] 112)) := by
  obtain ⟨i, h1, h2⟩ := Option.map_eq_some_iff.1 info138
  simp only [Prod.mk.injEq] at h2
  obtain ⟨hz, hs, _⟩ := h2
  have hs' : i.size = 3 := hs
  have h := Arr.ex_row1 (P := Tryz.prog) (W := W) (ρ := ρ) ho Tryz.underlying53 h1 hz (by omega) (by omega) (by rw [hx, hs']; rfl)
  rw [hx] at h
  exact h
/-- the reference's loop: k sectors to go from p on; the record under way began at fr -/
def ropenGo (X : RX) (r : Int) : Nat → Int → Int → List Int → List Rec → List Rec × Int
  | 0, _, _, all, L => if 0 < all.length then ([], 70) else (L, 0)
  | k + 1, p, fr, all, L =>
    if (rreadX X (sectP r p)).2 ≠ 0 then ([], (rreadX X (sectP r p)).2) else
      if (unF (all ++ (rreadX X (sectP r p)).1)).2.2 = 0 then ropenGo X r k (p + 1) (p + 1) [] (L ++ [((unF (all ++ (rreadX X (sectP r p)).1)).1, fr, p + 1)])
      else ropenGo X r k (p + 1) fr (all ++ (rreadX X (sectP r p)).1) L
def ropenX (X : RX) : Int × Int × List Rec × Int :=
  if (rloadX X).2.2 ≠ 0 then (0, 0, [], (rloadX X).2.2) else
    match (rloadX X).2.1 with
    | [h, t] => if t < h ∨ rringX X < t - h then (0, 0, [], 70) else
        ((rloadX X).1, t, (ropenGo X (rringX X) (t - h).toNat h h [] []).1, (ropenGo X (rringX X) (t - h).toNat h h [] []).2)
    | _ => (0, 0, [], 70)
/-- a wal of the reference's, new, seen from w; va: a row that is not among the records' -/
structure RwS (w w' : World) (Rb R : Nat) (va vL : Value) (gen tail : Int) (L : List Rec) : Prop where
  blk : w'.heap[Rb]? = some (.cells #[.pointer (some ⟨R, 0, none⟩), .int .u64 gen, .int .u64 tail, vL, .bool false] 55 (0, 0))
  hW : w.heap.size ≤ Rb
  low : Below w.heap.size w w'
  L : Kd.R recK 112 w' w.heap.size (fun k => some k ≠ va.ownBlock) vL L
def OwQ (w : World) (R : Nat) (res : Int × Int × List Rec × Int) (e : Ending) (w' : World) : Prop :=
  (res.2.2.2 ≠ 0 ∧ e = .returned (.tuple #[.pointer none, .int .i64 res.2.2.2]) ∧ Below w.heap.size w w') ∨
  (res.2.2.2 = 0 ∧ ∃ Rb vL, e = .returned (.tuple #[.pointer (some ⟨Rb, 0, none⟩), .int .i64 0]) ∧ RwS w w' Rb R (.slice none 0 0) vL res.1 res.2.1 res.2.2.1)
/-- what a disk's readings are -/
structure RdX (X : RX) : Prop where
  bytes : ∀ a, isBytes (rreadX X a).1
  full : ∀ a, (rreadX X a).2 = 0 → (rreadX X a).1.length = 64
  most : ∀ a, (rreadX X a).1.length ≤ 64
  cache : X.cache.length ≤ 1000
section
variable {w : World} {base R : Nat} {vS vC vB : Value} {X : RX}
theorem rload_any {r : Int × List Int × Int} (hr : rloadX X = r) (hx : RdX X) (h : RK w base R vS vC vB X) : Calls Tryz.prog 51 #[.pointer (some ⟨R, 0, none⟩)] w (LdQ w r) :=
  rload_calls hr (hx.bytes 0) (hx.bytes 1) ⟨hx.most 0, hx.most 1⟩ hx.cache h
theorem row_load (gl : Int × List Int × Int) (hld : rloadX X = gl) (he : gl.2.2 ≠ 0) (hx : RdX X) (h : RK w base R vS vC vB X) :
    Calls Tryz.prog 13 #[.pointer (some ⟨R, 0, none⟩)] w (OwQ w R (0, 0, [], gl.2.2)) := by
  obtain ⟨g, l, e⟩ := gl
  have HL := Aside0.mk (rload_any (w := w) hld hx h)
  unfold LdQ at HL
  simp only at HL he
  have hb : (e != 0) = true := by simpa using he
  clear h hld hx
  go_enter Tryz.func13, Tryz.ntmps13
  go_wp2_with (first
    | (go_at_call 51; (with_reducible refine HL.out.mono ?_); rintro e w1 ⟨A1, c1, rfl, hr, hb⟩; have HB1 := Aside0.mk hb; clear hr hb))
  go_ret2
  exact .inl ⟨he, rfl, HB1.out⟩
theorem row_len (g : Int) (l : List Int) (hld : rloadX X = (g, l, 0)) (h2 : l.length ≠ 2) (hx : RdX X) (h : RK w base R vS vC vB X) :
    Calls Tryz.prog 13 #[.pointer (some ⟨R, 0, none⟩)] w (OwQ w R (0, 0, [], 70)) := by
  have HL := Aside0.mk (rload_any (w := w) hld hx h)
  unfold LdQ at HL
  have hb : ((l.length : Int) != 2) = true := by simp; omega
  have hb2 : ((l.length : Int) == 2) = false := by simp; omega
  have hb3 : (l.length == 2) = false := by simpa using h2
  have hb4 : (l.length != 2) = true := by simpa using h2
  clear h hld hx
  go_enter Tryz.func13, Tryz.ntmps13
  go_wp2_with (first
    | (go_at_call 51; (with_reducible refine HL.out.mono ?_); rintro e w1 ⟨A1, c1, rfl, hr, hb⟩; have HB1 := Aside0.mk hb; clear hr hb))
  go_quiet (fail)
  go_wp2
  go_ret2
  exact .inl ⟨(show (70 : Int) ≠ 0 by decide), rfl, bel_drewN HB1.out _⟩
set_option maxRecDepth 100000 in
theorem row_bad (g h t r : Int) (hld : rloadX X = (g, [h, t], 0)) (hr : rringX X = r) (hbad : t < h ∨ r < t - h) (hrg : (0 ≤ h ∧ h < 18446744073709551616) ∧ (0 ≤ t ∧ t < 18446744073709551616)) (hx : RdX X) (hd : RK w base R vS vC vB X) :
    Calls Tryz.prog 13 #[.pointer (some ⟨R, 0, none⟩)] w (OwQ w R (0, 0, [], 70)) := by
  have HL := Aside0.mk (rload_any (w := w) hld hx hd)
  have hrb : 0 ≤ r ∧ r ≤ 4094 := by have := hd.ok.hn; rw [← hr]; unfold rringX; omega
  obtain ⟨hr0, hr1⟩ := hrb
  have HD := Aside0.mk hd
  have HR := Aside0.mk hr
  unfold LdQ at HL
  obtain ⟨⟨h0, h1⟩, t0, t1⟩ := hrg
  clear hd hld hx hr
  by_cases hth : t < h
  · clear hbad
    go_enter Tryz.func13, Tryz.ntmps13
    go_wp2_with (first
      | (go_at_call 51; (with_reducible refine HL.out.mono ?_); rintro e w1 ⟨A1, c1, rfl, hr, hb⟩; have HB1 := Aside0.mk hb; obtain ⟨g4, c4', hv⟩ := R_addr hr (by simp); cases hv; have x0 := two_cells hr; clear hr hb))
    obtain ⟨x0, x1⟩ := x0
    go_quiet (fail)
    go_wp2
    go_ret2
    exact .inl ⟨(show (70 : Int) ≠ 0 by decide), rfl, bel_drewN HB1.out _⟩
  · have hth' : h ≤ t := by omega
    have hrt : r < t - h := by omega
    have hrt2 : decide (r < t - h) = true := decide_eq_true hrt
    have hth2 : decide (t < h) = false := decide_eq_false hth
    clear hbad
    go_enter Tryz.func13, Tryz.ntmps13
    go_wp2_with (first
      | (go_at_call 51; (with_reducible refine HL.out.mono ?_); rintro e w1 ⟨A1, c1, rfl, hr, hb⟩; have HB1 := Aside0.mk hb; obtain ⟨g4, c4', hv⟩ := R_addr hr (by simp); cases hv; have x0 := two_cells hr; clear hr hb))
    obtain ⟨x0, x1⟩ := x0
    have HDq := Aside0.mk (fun n => (HD.out.fresh (HB1.out)).fresh (bel_drewN (Below.refl w1.heap.size w1) n))
    go_quiet ((go_at_call 47; exact Calls.quiet_of_same ((rring_calls _ base R vS vC vB X r HR.out (HDq.out _)).mono fun e w' h => ⟨h.1, h.2.symm⟩)))
    go_wp2
    go_ret2
    exact .inl ⟨(show (70 : Int) ≠ 0 by decide), rfl, bel_drewN HB1.out _⟩
end
end Go.Proofs.YtlepcmljmibdnaaGreat
