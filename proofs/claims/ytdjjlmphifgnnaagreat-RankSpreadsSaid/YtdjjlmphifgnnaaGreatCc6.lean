/- Parts of one proof, joined: Rkb, Tka, Tkb, Rkc. Conditions: those of each statement. -/
import Derived.Test.YtdjjlmphifgnnaaGreatCc5
import Derived.Lib.SliceRun
import Derived.Laws.Entries
namespace Go.Proofs.YtdjjlmphifgnnaaGreat
open Go.RowKit Go.Sort Go.Proofs.YtdjjlmphifgnnaaGreatW.PrintWords Go.Proofs.YtdjjlmphifgnnaaGreatW.PrintLast Go.Proofs.YtdjjlmphifgnnaaGreatW.PrintMore
open Flt (nanP canP keyP)
set_option linter.unusedVariables false
set_option linter.unusedSimpArgs false
/-- draws, and blocks behind all others -/
def Gr (w w' : World) : Prop := ∃ n os, w' = grow (w.drewN n) os
theorem Gr.refl (w : World) : Gr w w := ⟨0, #[], by rw [grow_empty]; rfl⟩
theorem Gr.trans {a b c : World} (h : Gr a b) (k : Gr b c) : Gr a c := by
  obtain ⟨n, os, rfl⟩ := h
  obtain ⟨m, os', rfl⟩ := k
  refine ⟨n + m, os ++ os', ?_⟩
  show grow (grow ((a.drewN n).drewN m) os) os' = _
  rw [grow_grow, World.drewN_drewN]
theorem Gr.of_drawn {w w' : World} (h : Drawn0 w w') : Gr w w' := by
  obtain ⟨n, rfl⟩ := h
  exact ⟨n, #[], by rw [grow_empty]⟩
theorem Gr.drew {w w' : World} (h : Gr w w') : Gr w w'.drew := h.trans (Gr.of_drawn (Drawn0.step (Drawn0.refl _) 1))
theorem Gr.alloc {w w' : World} (h : Gr w w') (o : Obj) : Gr w (w'.alloc o) := by
  refine h.trans ⟨0, #[o], ?_⟩
  rw [alloc_eq_grow]
  rfl
theorem Gr.below {w w' : World} (h : Gr w w') : Below w.heap.size w w' := by
  obtain ⟨n, os, rfl⟩ := h
  have h1 := (Drawn0.mk ⟨n, rfl⟩ : Drawn0 w (w.drewN n)).below
  refine ⟨h1.os, h1.tape, h1.output, by rw [size_grow]; exact Nat.le_trans h1.size (Nat.le_add_right _ _), fun i hi => ?_⟩
  show (grow (w.drewN n) os).heap[i]? = w.heap[i]?
  rw [heap_grow_old _ _ (show i < (w.drewN n).heap.size from hi)]
  rfl
theorem grRel : Fork.Rel Gr := ⟨Gr.refl, fun h k => h.trans k⟩
set_option maxHeartbeats 2000000 in
set_option maxRecDepth 100000 in
theorem order1_calls (x y : Tk Value) (w : World) : Calls Tryz.prog 18 #[.agg (tkC x).toArray, .agg (tkC y).toArray] w fun e w' => e = .returned (.int .i64 (ordI x y)) ∧ Gr w w' := by
  have HKA := Aside0.mk (fun w => key_calls x.rank.b x.rank.lt w)
  have HKB := Aside0.mk (fun w => key_calls y.rank.b y.rank.lt w)
  have HC1 := Aside0.mk (fun w => compare_calls (keyP x.rank.b) (keyP y.rank.b) w)
  have HC2 := Aside0.mk (fun w => compare_calls x.id y.id w)
  go_enter Tryz.func18, Tryz.ntmps18
  go_wp2
  have f1 : ((w.alloc (.cells (tkC x).toArray 36)).alloc (.cells (tkC y).toArray 36)).drew.cell? ⟨w.heap.size, 4, none⟩ = some (.float .f64 x.rank.b) := by simp [go_sem, tkC]
  have f2 : ((w.alloc (.cells (tkC x).toArray 36)).alloc (.cells (tkC y).toArray 36)).drew.cell? ⟨w.heap.size + 1, 4, none⟩ = some (.float .f64 y.rank.b) := by simp [go_sem, tkC]
  have f3 : ((w.alloc (.cells (tkC x).toArray 36)).alloc (.cells (tkC y).toArray 36)).drew.cell? ⟨w.heap.size, 0, none⟩ = some (.int .u64 (x.id : Int)) := by simp [go_sem, tkC]
  have f4 : ((w.alloc (.cells (tkC x).toArray 36)).alloc (.cells (tkC y).toArray 36)).drew.cell? ⟨w.heap.size + 1, 0, none⟩ = some (.int .u64 (y.id : Int)) := by simp [go_sem, tkC]
  have HG := Aside0.mk (((Gr.refl w).alloc (.cells (tkC x).toArray 36)).alloc (.cells (tkC y).toArray 36)).drew
  refine Fork.wp_fork grRel [] [] (.one 0 0 (.one 3 0 (.one 7 0 (.one 9 0 (.one 1 1 (.one 4 1 (.one 8 1 (.one 10 1 (.one 2 2 (.one 5 2 (.one 6 2 (.one 11 2 (.one 12 2 (.one 13 2 (.one 14 0 .nil))))))))))))))) (by kernel_rfl) (by kernel_rfl) ?_
  generalize hops : List.toArray (_ : List Oper) = ops
  have HO := Aside0.mk hops
  clear hops
  iterate 4 ((refine Fork.plain (Fork.at_ HO.out rfl) _ rfl (fun W => by go_simp; exact rfl) ?_); simp only [Act.put, List.setIfInBounds_toArray, List.set_cons_succ, List.set_cons_zero])
  refine Fork.reads (Fork.at_ HO.out rfl) _ rfl (fun W hW => Arr.ex_load1 rfl rfl (by kernel_rfl) (Fork.bel_cell hW (by assumption))) ?_
  simp only [Act.put, List.setIfInBounds_toArray, List.set_cons_succ, List.set_cons_zero]
  refine Fork.reads (Fork.at_ HO.out rfl) _ rfl (fun W hW => Arr.ex_load1 rfl rfl (by kernel_rfl) (Fork.bel_cell hW (by assumption))) ?_
  simp only [Act.put, List.setIfInBounds_toArray, List.set_cons_succ, List.set_cons_zero]
  refine Fork.reads (Fork.at_ HO.out rfl) _ rfl (fun W hW => Arr.ex_load1 rfl rfl (by kernel_rfl) (Fork.bel_cell hW (by assumption))) ?_
  simp only [Act.put, List.setIfInBounds_toArray, List.set_cons_succ, List.set_cons_zero]
  refine Fork.reads (Fork.at_ HO.out rfl) _ rfl (fun W hW => Arr.ex_load1 rfl rfl (by kernel_rfl) (Fork.bel_cell hW (by assumption))) ?_
  simp only [Act.put, List.setIfInBounds_toArray, List.set_cons_succ, List.set_cons_zero]
  refine Fork.step (Fork.at_ HO.out rfl) (fun K hK => ?_)
  go_simp
  refine (HKA.out _).mono ?_
  rintro r w3 ⟨rfl, hd⟩
  refine hK _ _ ⟨fun _ => Gr.of_drawn hd, fun _ => hd.below⟩ ?_
  clear hK K
  have HG3 := Aside0.mk (HG.out.trans (Gr.of_drawn hd))
  clear hd f1 f2 f3 f4
  try simp only [Act.put, List.setIfInBounds_toArray, List.set_cons_succ, List.set_cons_zero]
  refine Fork.step (Fork.at_ HO.out rfl) (fun K hK => ?_)
  go_simp
  refine (HKB.out _).mono ?_
  rintro r w4 ⟨rfl, hd⟩
  refine hK _ _ ⟨fun _ => Gr.of_drawn hd, fun _ => hd.below⟩ ?_
  clear hK K
  have HG4 := Aside0.mk (HG3.out.trans (Gr.of_drawn hd))
  clear hd
  try simp only [Act.put, List.setIfInBounds_toArray, List.set_cons_succ, List.set_cons_zero]
  refine Fork.step (Fork.at_ HO.out rfl) (fun K hK => ?_)
  go_simp
  refine (HC1.out _).mono ?_
  rintro r w5 ⟨rfl, hd⟩
  refine hK _ _ ⟨fun _ => Gr.of_drawn hd, fun _ => hd.below⟩ ?_
  clear hK K
  have HG5 := Aside0.mk (HG4.out.trans (Gr.of_drawn hd))
  clear hd
  try simp only [Act.put, List.setIfInBounds_toArray, List.set_cons_succ, List.set_cons_zero]
  refine Fork.step (Fork.at_ HO.out rfl) (fun K hK => ?_)
  go_simp
  refine (HC2.out _).mono ?_
  rintro r w6 ⟨rfl, hd⟩
  refine hK _ _ ⟨fun _ => Gr.of_drawn hd, fun _ => hd.below⟩ ?_
  clear hK K
  have HG6 := Aside0.mk (HG5.out.trans (Gr.of_drawn hd))
  clear hd
  try simp only [Act.put, List.setIfInBounds_toArray, List.set_cons_succ, List.set_cons_zero]
  refine Fork.step (Fork.at_ HO.out rfl) (fun K hK => ?_)
  go_simp
  have ha := (Below.refl w6.heap.size w6).alloc (Nat.le_refl _) (.cells #[.int .i64 (cmpI (keyP x.rank.b) (keyP y.rank.b)), .int .i64 (cmpI x.id y.id)] 3)
  refine hK _ _ ⟨fun _ => (Gr.refl w6).alloc _, fun _ => ha⟩ ?_
  clear hK K
  have HG7 := Aside0.mk (HG6.out.alloc (.cells #[.int .i64 (cmpI (keyP x.rank.b) (keyP y.rank.b)), .int .i64 (cmpI x.id y.id)] 3))
  have HOR : Aside0 (Calls Tryz.prog 19 #[.slice (some ⟨w6.heap.size, 0, none⟩) 2 2] (w6.alloc (.cells #[.int .i64 (cmpI (keyP x.rank.b) (keyP y.rank.b)), .int .i64 (cmpI x.id y.id)] 3)) fun e w' => e = .returned (.int .i64 (ordI x y)) ∧ Drawn0 (w6.alloc (.cells #[.int .i64 (cmpI (keyP x.rank.b) (keyP y.rank.b)), .int .i64 (cmpI x.id y.id)] 3)) w') := Aside0.mk (or_calls (cmpI (keyP x.rank.b) (keyP y.rank.b)) (cmpI x.id y.id) w6.heap.size 2 (w6.alloc (.cells #[.int .i64 (cmpI (keyP x.rank.b) (keyP y.rank.b)), .int .i64 (cmpI x.id y.id)] 3)) (by simp [go_sem]) (by simp [go_sem]))
  clear ha
  try simp only [Act.put, List.setIfInBounds_toArray, List.set_cons_succ, List.set_cons_zero]
  refine Fork.step (Fork.at_ HO.out rfl) (fun K hK => ?_)
  go_simp
  refine HOR.out.mono ?_
  rintro r w8 ⟨rfl, hd⟩
  refine hK _ _ ⟨fun _ => Gr.of_drawn hd, fun _ => hd.below⟩ ?_
  clear hK K
  have HG8 := Aside0.mk (HG7.out.trans (Gr.of_drawn hd))
  clear hd
  try simp only [Act.put, List.setIfInBounds_toArray, List.set_cons_succ, List.set_cons_zero]
  ((refine Fork.plain (Fork.at_ HO.out rfl) _ rfl (fun W => by go_simp; exact rfl) ?_); simp only [Act.put, List.setIfInBounds_toArray, List.set_cons_succ, List.set_cons_zero])
  refine Fork.done ?_
  go_wp2
  go_ret
  exact ⟨rfl, HG8.out⟩
theorem order1_lays (blk off size : Nat) (w0 : World) : CmpLays Tryz.prog 18 #[] tkC 7 ordI blk off size w0 := by
  intro m os dk hdk x y
  have h := order1_calls x y (sortWorldK tkC 7 w0 blk off m dk os)
  exact h.mono fun e w' ⟨he, q, os', hw⟩ => ⟨he, q, os', hw⟩
end Go.Proofs.YtdjjlmphifgnnaaGreat
namespace Go.Proofs.YtdjjlmphifgnnaaGreat
open Go.RowKit Go.Sort Go.Proofs.YtdjjlmphifgnnaaGreatW.PrintWords Go.Proofs.YtdjjlmphifgnnaaGreatW.PrintLast Go.Proofs.YtdjjlmphifgnnaaGreatW.PrintMore
open Flt (nanP canP keyP)
set_option linter.unusedVariables false
set_option linter.unusedSimpArgs false
theorem infoS : (Tryz.prog.info? 9).map (fun i => (i.zero, i.size, i.bytes)) = some (some (.string ⟨#[]⟩), 1, 16) := by kernel_rfl
theorem run_eql_slice_nilS (w : World) (a : Option Addr) (l c : Nat) : (binOp .eql 34 (.slice a l c) (.slice none 0 0)).run Tryz.prog w = .ok (.bool a.isNone) w := by
  exact Lib.run_eql_slice_nil (P := Tryz.prog) w 34 9 a l c 0 0 Tryz.underlying34
theorem cloneS_calls (w : World) (ad : Addr) (c : Nat) (b : List ByteArray) (hl : b.length ≤ 1000000) (hC : Kd.string.C w (some ad) b.length b) :
    Calls Tryz.prog 16 #[.slice (some ad) b.length c] w fun e w' => ∃ v, e = .returned v ∧ Kd.R Kd.string 9 w' w.heap.size (fun _ => True) v b ∧ Below w.heap.size w w' := by
  have hq := run_eql_slice_nilS w (some ad) b.length c
  simp only [Option.isNone_some] at hq
  have HC := Aside0.mk hC
  have HL := Aside0.mk hl
  clear hC hl
  go_enter Tryz.func16, Tryz.ntmps16
  go_wp2_with (first | ((with_reducible refine gate_dst (N := 5) rfl ?_); refine Kd.R_lit Kd.string _ 9 ?hg (N := 5) ?hd (xs := ([] : List ByteArray)) (inner := []) (ok := fun _ => True) (okp := fun _ => True) ?hr ?hp (fun _ hk => hk) trivial (Below.refl _ _) (Nat.le_refl _) (by simp) ?_; (case hd => rfl); (case hg => rfl); (case hr => first | (go_simp; done) | (go_simp; rfl)); (case hp => exact (Reps.none _ _)); intro v10 w10 ho11 hb hg_ hnew_; clear hg_ hnew_; have HO := Aside0.mk ho11; have HB := Aside0.mk hb; clear ho11 hb) | ((with_reducible refine gate_builtin (b := .append) (xs := #[.tmp 5, .tmp 6]) rfl ?_); at_builtin; go_loud (refine Kd.R_append_rows Kd.string (w0 := w) w.heap.size rfl (.tmp 5) (.tmp 6) 34 9 (.string ⟨#[]⟩) 16 rfl Tryz.underlying34 infoS rfl (by decide) (by omega) v10 [] b (some ad) b.length c (fun _ => True) (fun _ => False) rfl rfl HO.out (Kd.C_below HC.out HB.out) (fun _ _ h => h) (fun _ h => h.elim) (fun _ _ => trivial) HB.out HB.out.size (by have := HL.out; simp; omega) ?_; intro v1 w1 ho hb hg hat; have HO1 := Aside0.mk ho; have HB1 := Aside0.mk hb; clear ho hb hg hat)))
  go_ret
  exact ⟨v1, rfl, HO1.out, HB1.out⟩
theorem cloneS_none (w : World) (c : Nat) : Calls Tryz.prog 16 #[.slice none 0 c] w fun e w' => e = .returned (.slice none 0 0) ∧ w = w' := by
  have hq := run_eql_slice_nilS w none 0 c
  simp only [Option.isNone_none] at hq
  go_enter Tryz.func16, Tryz.ntmps16
  go_wp2
  go_ret
  exact ⟨rfl, rfl⟩
/-- slices.Clone of any tags -/
theorem cloneS_any (w : World) (A : Option Addr) (c : Nat) (b : List ByteArray) (hl : b.length ≤ 1000000) (hC : Kd.string.C w A b.length b) :
    Calls Tryz.prog 16 #[.slice A b.length c] w fun e w' => ∃ A' c', e = .returned (.slice A' b.length c') ∧ Kd.R Kd.string 9 w' w.heap.size (fun k => w.heap.size ≤ k) (.slice A' b.length c') b ∧ Below w.heap.size w w' := by
  cases A with
  | none =>
    obtain rfl : b = [] := by
      rcases Nat.eq_zero_or_pos b.length with h | h
      · exact List.eq_nil_of_length_eq_zero h
      · obtain ⟨ad, e, _⟩ := hC.2.2 h
        cases e
    refine (cloneS_none w c).mono ?_
    rintro e w' ⟨rfl, rfl⟩
    exact ⟨none, 0, rfl, Kd.R_nil _ _ _ _ _, Below.refl _ _⟩
  | some ad =>
    refine (cloneS_calls w ad c b hl hC).mono ?_
    rintro e w' ⟨v, rfl, hR, hb⟩
    obtain ⟨A', c', rfl⟩ := Kd.R_slice hR
    exact ⟨A', c', rfl, Kd.R_mono (Kd.R_bound hR) (fun k hk => hk.2.1), hb⟩
/-! ### kinds -/
/-- a slice, as a value -/
structure Sl where
  A : Option Addr
  n : Nat
  c : Nat
instance : Inhabited Sl := ⟨⟨none, 0, 0⟩⟩
def Sl.v (s : Sl) : Value := .slice s.A s.n s.c
/-- a task as it is read, with its tags -/
abbrev Tsk := Tk (List ByteArray)
/-- a task, its tags told as they lie and as they read -/
abbrev TX := Tk (Sl × List ByteArray)
def kT : Kd Tsk := Kd.iso (Kd.pair (Kd.int .u64) (Kd.pair (Kd.int .u64) (Kd.pair Kd.string (Kd.pair Kd.bool (Kd.pair kF (Kd.pair kF (Kd.slice 9 Kd.string))))))) (fun x : Tsk => ((x.id : Int), (x.list : Int), x.title, x.done, x.rank, x.est, x.tags))
def tkX (x : TX) : List Value := tkC (x.map fun t => t.1.v)
theorem kT_open {w : World} {x : Tsk} {cs : List Value} (h : kT.K w x cs) : ∃ A c, cs = tkC (x.map fun _ => .slice A x.tags.length c) ∧ x.tags.length ≤ c ∧ Kd.string.C w A x.tags.length x.tags := by
  obtain ⟨_, _, rfl, rfl, ⟨_, _, rfl, rfl, ⟨_, _, rfl, rfl, ⟨_, _, rfl, rfl, ⟨_, _, rfl, rfl, ⟨_, _, rfl, rfl, ⟨A1, c1, rfl, l1, g1⟩⟩⟩⟩⟩⟩⟩ := h
  exact ⟨A1, c1, rfl, l1, g1⟩
theorem kT_mk (w : World) (x : Tsk) {A : Option Addr} {c : Nat} (l1 : x.tags.length ≤ c) (g1 : Kd.string.C w A x.tags.length x.tags) : kT.K w x (tkC (x.map fun _ => .slice A x.tags.length c)) :=
  ⟨[.int .u64 (x.id : Int)], _, rfl, rfl, [.int .u64 (x.list : Int)], _, rfl, rfl, [.string x.title], _, rfl, rfl, [.bool x.done], _, rfl, rfl, [.float .f64 x.rank.b], _, rfl, rfl, [.float .f64 x.est.b], _, rfl, rfl, A, c, rfl, l1, g1⟩
theorem tkX_one (x : TX) (u : Value) (hu : u ∈ tkX x) : u.oneCell' = true := by
  simp [tkX, tkC, Tk.map, Sl.v] at hu
  rcases hu with rfl | rfl | rfl | rfl | rfl | rfl | rfl <;> rfl
theorem tkX_len (x : TX) : (tkX x).length = 7 := rfl
def rawT : Kd TX where
  sz := 7
  E := []
  K := fun _ x cs => cs = tkX x
  M := fun _ _ _ x cs => cs = tkX x
  K_len := by rintro _ _ _ rfl; rfl
  K_one := by
    rintro _ x _ rfl u hu
    exact tkX_one x u hu
  K_below := fun _ h => h
  K_of_M := fun h => h
  M_mono := fun _ h => h
  M_bound := fun h => h
  M_move := fun _ h => h
  M_lower := fun _ h => h
def deep (x : TX) : Tsk := x.map Prod.snd
/-- a task's tags, in an elder world -/
def FarT (w0 : World) (x : TX) : Prop := x.tags.1.n = x.tags.2.length ∧ x.tags.2.length ≤ x.tags.1.c ∧ Kd.string.C w0 x.tags.1.A x.tags.2.length x.tags.2
theorem FarT.below {w0 w1 : World} {x : TX} (h : FarT w0 x) (hb : Below w0.heap.size w0 w1) : FarT w1 x := by
  exact ⟨h.1, h.2.1, Kd.C_below h.2.2 hb⟩
theorem rawT_get {w : World} {A : Option Addr} {xs : List TX} (h : rawT.C w A xs.length xs) {i : Nat} {x : TX} (hx : xs[i]? = some x) : ∃ ad, A = some ad ∧ w.cell? (ad.add (i * 7)) = some (.int .u64 (x.id : Int)) ∧ w.cell? ⟨(ad.add (i * 7)).block, (ad.add (i * 7)).off + 1, none⟩ = some (.int .u64 (x.list : Int)) ∧ w.cell? ⟨(ad.add (i * 7)).block, (ad.add (i * 7)).off + 2, none⟩ = some (.string x.title) ∧ w.cell? ⟨(ad.add (i * 7)).block, (ad.add (i * 7)).off + 3, none⟩ = some (.bool x.done) ∧ w.cell? ⟨(ad.add (i * 7)).block, (ad.add (i * 7)).off + 4, none⟩ = some (.float .f64 x.rank.b) ∧ w.cell? ⟨(ad.add (i * 7)).block, (ad.add (i * 7)).off + 5, none⟩ = some (.float .f64 x.est.b) ∧ w.cell? ⟨(ad.add (i * 7)).block, (ad.add (i * 7)).off + 6, none⟩ = some x.tags.1.v := by
  have hlt := (List.getElem?_eq_some_iff.1 hx).1
  obtain ⟨ad, c, e, _, hK, hc0⟩ := Kd.C_get h x (i : Int) (by omega) (by omega)
  rw [Int.toNat_natCast, List.getD_eq_getElem?_getD, hx] at hK
  subst hK
  have hc : ∀ j u, (tkX x)[j]? = some u → w.cell? (ad.add (i * 7 + j)) = some u := by
    intro j u hj
    have := hc0 j u hj
    rwa [Int.toNat_natCast] at this
  exact ⟨ad, e, hc 0 _ rfl, by rw [← add_field _ _ 1 (by omega)]; exact hc 1 _ rfl, by rw [← add_field _ _ 2 (by omega)]; exact hc 2 _ rfl, by rw [← add_field _ _ 3 (by omega)]; exact hc 3 _ rfl, by rw [← add_field _ _ 4 (by omega)]; exact hc 4 _ rfl, by rw [← add_field _ _ 5 (by omega)]; exact hc 5 _ rfl, by rw [← add_field _ _ 6 (by omega)]; exact hc 6 _ rfl⟩
def zT : Tsk := ⟨0, 0, .empty, false, default, default, []⟩
def mkX (p : Tsk) (v : Sl) : TX := p.map fun t => (v, t)
theorem deep_mkX (p : Tsk) (v : Sl) : deep (mkX p v) = p := rfl
theorem rawT_of {w : World} {A : Option Addr} {l : List Tsk} (h : kT.C w A l.length l) : ∃ xs : List TX, xs.map deep = l ∧ rawT.C w A xs.length xs ∧ ∀ x ∈ xs, FarT w x := by
  have hv : ∀ p : Tsk, ∀ i : Nat, ∃ v : Sl, l[i]? = some p → FarT w (mkX p v) ∧ ∃ ad, A = some ad ∧ ∀ j u, (tkX (mkX p v))[j]? = some u → w.cell? (ad.add (i * 7 + j)) = some u := by
    intro p i
    by_cases hi : l[i]? = some p
    · obtain ⟨ad, e, hc⟩ := h.2.2 (by have := (List.getElem?_eq_some_iff.1 hi).1; omega)
      obtain ⟨c, h1, h2, h3⟩ := hc i p hi
      obtain ⟨A1, c1, rfl, l1, g1⟩ := kT_open h2
      exact ⟨⟨A1, p.tags.length, c1⟩, fun _ => ⟨⟨rfl, l1, g1⟩, ad, e, h3⟩⟩
    · exact ⟨default, fun e => absurd e hi⟩
  obtain ⟨f, hf⟩ : ∃ f : Tsk → Nat → Sl, ∀ p i, l[i]? = some p → FarT w (mkX p (f p i)) ∧ ∃ ad, A = some ad ∧ ∀ j u, (tkX (mkX p (f p i)))[j]? = some u → w.cell? (ad.add (i * 7 + j)) = some u := ⟨fun p i => Classical.choose (hv p i), fun p i => Classical.choose_spec (hv p i)⟩
  refine ⟨(List.range l.length).map (fun i => mkX (l.getD i zT) (f (l.getD i zT) i)), ?_, ⟨rfl, ?_, fun h0 => ?_⟩, ?_⟩
  · refine List.ext_getElem? fun i => ?_
    rw [List.map_map, List.getElem?_map]
    by_cases hi : i < l.length
    · rw [List.getElem?_range hi, List.getElem?_eq_getElem hi]
      show some (deep (mkX (l.getD i zT) (f (l.getD i zT) i))) = _
      rw [deep_mkX, List.getD_eq_getElem?_getD, List.getElem?_eq_getElem hi]
      rfl
    · rw [List.getElem?_eq_none (by simpa using hi), List.getElem?_eq_none (by simpa using hi)]
      rfl
  · rw [List.length_map, List.length_range]; exact h.2.1
  · rw [List.length_map, List.length_range] at h0
    obtain ⟨ad, e, hc⟩ := h.2.2 h0
    refine ⟨ad, e, fun j p hj => ?_⟩
    rw [List.getElem?_map] at hj
    obtain ⟨i, hi, rfl⟩ := Option.map_eq_some_iff.1 hj
    obtain ⟨hlt, hi⟩ := List.getElem?_eq_some_iff.1 hi
    rw [List.length_range] at hlt
    rw [List.getElem_range] at hi
    subst hi
    have hx : l[j]? = some (l.getD j zT) := by rw [List.getD_eq_getElem?_getD, List.getElem?_eq_getElem hlt]; rfl
    obtain ⟨h1, ad', e', h2⟩ := hf _ _ hx
    rw [e] at e'
    injection e' with e'
    subst e'
    exact ⟨_, rfl, rfl, h2⟩
  · intro x hx
    obtain ⟨i, hi, rfl⟩ := List.mem_map.1 hx
    have hlt := List.mem_range.1 hi
    exact (hf _ _ (by rw [List.getD_eq_getElem?_getD, List.getElem?_eq_getElem hlt]; rfl)).1
theorem rawT_to {w0 w : World} {A : Option Addr} {n : Nat} {xs : List TX} (h : rawT.C w A n xs) (hf : ∀ x ∈ xs, FarT w x) : kT.C w A n (xs.map deep) := by
  refine ⟨by rw [List.length_map]; exact h.1, h.2.1, fun h0 => ?_⟩
  obtain ⟨ad, e, hc⟩ := h.2.2 h0
  refine ⟨ad, e, fun j p hj => ?_⟩
  rw [List.getElem?_map] at hj
  obtain ⟨x, hx, rfl⟩ := Option.map_eq_some_iff.1 hj
  obtain ⟨c, h1, rfl, h3⟩ := hc j x hx
  obtain ⟨e1, hcap, hC⟩ := hf x (List.mem_of_getElem? hx)
  have e2 : tkX x = tkC ((deep x).map fun _ => .slice x.tags.1.A (deep x).tags.length x.tags.1.c) := by
    unfold tkX
    show tkC ⟨x.id, x.list, x.title, x.done, x.rank, x.est, .slice x.tags.1.A x.tags.1.n x.tags.1.c⟩ = _
    rw [e1]
    rfl
  refine ⟨_, h1, ?_, h3⟩
  rw [e2]
  exact kT_mk w (deep x) hcap hC
end Go.Proofs.YtdjjlmphifgnnaaGreat
namespace Go.Proofs.YtdjjlmphifgnnaaGreat
open Go.Shelf Go.RowKit Go.Sort Go.Proofs.YtdjjlmphifgnnaaGreatW.PrintWords Go.Proofs.YtdjjlmphifgnnaaGreatW.PrintLast Go.Proofs.YtdjjlmphifgnnaaGreatW.PrintMore
open Stb (mrg Pre Sorted stb)
set_option linter.unusedVariables false
set_option linter.unusedSimpArgs false
/-! ### rows of cells -/
theorem reps_at {α : Type} {k : Nat} {enc : α → List Value} (hk : ∀ x, (enc x).length = k) (h0 : 0 < k) {xs : List α} {cs : List Value} (h : Reps (fun x c => c = enc x) k xs cs) {t : Nat} (ht : t < xs.length * k) : ∃ x, xs[t / k]? = some x ∧ cs[t]? = (enc x)[t % k]? := by
  have hlt : t / k < xs.length := (Nat.div_lt_iff_lt_mul h0).2 ht
  obtain ⟨x, hx⟩ : ∃ x, xs[t / k]? = some x := ⟨xs[t / k]'hlt, List.getElem?_eq_getElem _⟩
  refine ⟨x, hx, ?_⟩
  have e := h.2 _ _ hx
  have e2 : enc x = (cs.drop (t / k * k)).take k := e.symm
  rw [e2, List.getElem?_take_of_lt (Nat.mod_lt _ h0), List.getElem?_drop, Nat.div_add_mod']
theorem reps_unique {α : Type} {k : Nat} {enc : α → List Value} (hk : ∀ x, (enc x).length = k) (h0 : 0 < k) {xs : List α} {cs ds : List Value} (h : Reps (fun x c => c = enc x) k xs cs) (h' : Reps (fun x c => c = enc x) k xs ds) : cs = ds := by
  refine List.ext_getElem? fun t => ?_
  by_cases ht : t < xs.length * k
  · obtain ⟨x, hx, e⟩ := reps_at hk h0 h ht
    obtain ⟨y, hy, e'⟩ := reps_at hk h0 h' ht
    rw [hx] at hy
    injection hy with hy
    subst hy
    rw [e, e']
  · rw [List.getElem?_eq_none (by rw [h.1]; omega), List.getElem?_eq_none (by rw [h'.1]; omega)]
theorem flatK_reps {α : Type} [Inhabited α] {k : Nat} {enc : α → List Value} (hk : ∀ x, (enc x).length = k) (h0 : 0 < k) (d : Array α) : Reps (fun x c => c = enc x) k d.toList (flatK enc k d).toList := by
  have hs : (flatK enc k d).toList.length = d.toList.length * k := by simp [flatK]
  refine ⟨hs, fun j p hj => ?_⟩
  have hlt := (List.getElem?_eq_some_iff.1 hj).1
  have hb : j * k + k ≤ d.toList.length * k := by
    have := Nat.mul_le_mul_right k (show j + 1 ≤ d.toList.length from hlt)
    rwa [Nat.add_mul, Nat.one_mul] at this
  refine List.ext_getElem? fun i => ?_
  by_cases hi : i < k
  · rw [List.getElem?_take_of_lt hi, List.getElem?_drop]
    have e1 : (j * k + i) / k = j := by rw [Nat.mul_comm, Nat.mul_add_div h0, Nat.div_eq_of_lt hi, Nat.add_zero]
    have e2 : (j * k + i) % k = i := by rw [Nat.mul_comm, Nat.mul_add_mod, Nat.mod_eq_of_lt hi]
    have hd : d[j]! = p := by
      rw [Array.getElem?_toList] at hj
      rw [getElem!_def, hj]
    have h3 : j * k + i < d.size * k := by rw [← Array.length_toList]; omega
    rw [Array.getElem?_toList]
    unfold flatK
    rw [Array.getElem?_map, Array.getElem?_range, if_pos h3]
    simp only [Option.map_some, e1, e2, hd]
    rw [List.getElem?_eq_getElem (by rw [hk]; exact hi), getElem!_pos _ _ (by rw [hk]; exact hi)]
  · rw [List.getElem?_eq_none (by rw [List.length_take, List.length_drop]; omega), List.getElem?_eq_none (by rw [hk]; omega)]
theorem holdsK_of_cells {α : Type} [Inhabited α] {k : Nat} {enc : α → List Value} {w : World} {g e : Nat} {cur : Array Value} {xs : List α} (hk : ∀ x, (enc x).length = k) (h0 : 0 < k) (hb : w.heap[g]? = some (.cells cur e (0, 0))) (hr : Reps (fun x c => c = enc x) k xs (cur.toList.take (xs.length * k))) : HoldsK enc k w g 0 xs.toArray := by
  have hf := flatK_reps hk h0 xs.toArray
  have e1 := reps_unique hk h0 hr hf
  intro j hj
  have hs : (flatK enc k xs.toArray).size = xs.length * k := by simp [flatK]
  rw [hs] at hj
  refine ⟨?_, by simp [World.frozen?, hb]⟩
  have e2 : cur[j]? = (flatK enc k xs.toArray)[j]? := by
    rw [← Array.getElem?_toList, ← Array.getElem?_toList, ← e1, List.getElem?_take_of_lt hj]
  rw [Nat.zero_add]
  show w.cell? ⟨g, j, none⟩ = some (flatK enc k xs.toArray)[j]!
  unfold World.cell?
  rw [hb]
  show cur[j]? = _
  rw [e2, getElem!_pos _ _ (by rw [hs]; exact hj), Array.getElem?_eq_getElem]
theorem cells_of_sorted {α : Type} [Inhabited α] {k : Nat} {enc : α → List Value} {w w' : World} {g e : Nat} {cur : Array Value} {ys : List α} (hk : ∀ x, (enc x).length = k) (h0 : 0 < k) (hb : w.heap[g]? = some (.cells cur e (0, 0))) (hl : ys.length * k ≤ cur.size) (S : SWK enc k w g 0 ys.toArray w') :
    ∃ cur', w'.heap[g]? = some (.cells cur' e (0, 0)) ∧ cur'.size = cur.size ∧ Reps (fun x c => c = enc x) k ys (cur'.toList.take (ys.length * k)) ∧ w'.os = w.os ∧ w'.tape = w.tape ∧ w'.output = w.output ∧ w.heap.size ≤ w'.heap.size ∧ ∀ i, i < w.heap.size → i ≠ g → w'.heap[i]? = w.heap[i]? := by
  obtain ⟨n, os, rfl⟩ := S
  have hg : g < w.heap.size := (Array.getElem?_eq_some_iff.1 hb).1
  have hs : (flatK enc k ys.toArray).size = ys.length * k := by simp [flatK]
  have hm : (putRowK enc k (Sort.ahead w n) g 0 ys.toArray).heap[g]? = some (.cells (putCells id 0 (flatK enc k ys.toArray) cur) e (0, 0)) := by
    show (w.heap.modify g (onCells (putCells id 0 (flatK enc k ys.toArray))))[g]? = _
    rw [Array.getElem?_modify, if_pos rfl, hb]
    rfl
  refine ⟨putCells id 0 (flatK enc k ys.toArray) cur, ?_, by simp [putCells], ?_, rfl, rfl, rfl, ?_, fun i hi hne => ?_⟩
  · unfold sortWorldK
    rw [heap_grow_old _ _ (by rw [size_putRowK]; exact hg)]
    exact hm
  · have e1 : (putCells id 0 (flatK enc k ys.toArray) cur).toList.take (ys.length * k) = (flatK enc k ys.toArray).toList := by
      refine List.ext_getElem? fun t => ?_
      by_cases ht : t < ys.length * k
      · rw [List.getElem?_take_of_lt ht, Array.getElem?_toList, Array.getElem?_toList]
        unfold putCells
        rw [Array.getElem?_mapIdx, Array.getElem?_eq_getElem (show t < cur.size by omega)]
        simp only [Option.map_some, Nat.zero_le, true_and, Nat.zero_add, Nat.sub_zero, id]
        rw [if_pos (by rw [hs]; exact ht), getElem!_pos _ _ (by rw [hs]; exact ht), Array.getElem?_eq_getElem]
      · rw [List.getElem?_eq_none (by rw [List.length_take]; omega), List.getElem?_eq_none (by rw [Array.length_toList, hs]; omega)]
    rw [e1]
    exact flatK_reps hk h0 ys.toArray
  · unfold sortWorldK
    rw [size_grow, size_putRowK]
    exact Nat.le_add_right _ _
  · unfold sortWorldK
    rw [heap_grow_old _ _ (by rw [size_putRowK]; exact hi)]
    show (w.heap.modify g (onCells (putCells id 0 (flatK enc k ys.toArray))))[i]? = _
    rw [Array.getElem?_modify, if_neg (Ne.symm hne)]
/-! ### a stable sort, element by element -/
theorem mrg_map {α β : Type} {le : β → β → Bool} {le' : α → α → Bool} (f : α → β) (h : ∀ a b, le (f a) (f b) = le' a b) : ∀ (n : Nat) (xs ys : List α), xs.length + ys.length ≤ n → mrg le (xs.map f) (ys.map f) = (mrg le' xs ys).map f := by
  intro n
  induction n with
  | zero =>
    intro xs ys hn
    obtain rfl : xs = [] := List.eq_nil_of_length_eq_zero (by omega)
    rw [List.map_nil, Stb.mrg_nil, Stb.mrg_nil]
  | succ n ih =>
    intro xs ys hn
    cases xs with
    | nil => rw [List.map_nil, Stb.mrg_nil, Stb.mrg_nil]
    | cons x xs =>
      cases ys with
      | nil => rw [List.map_nil, Stb.mrg_nil2, Stb.mrg_nil2]
      | cons y ys =>
        simp only [List.length_cons] at hn
        rw [List.map_cons, List.map_cons, Stb.mrg_cons, Stb.mrg_cons, h]
        have e1 := ih xs (y :: ys) (by simp; omega)
        have e2 := ih (x :: xs) ys (by simp; omega)
        rw [List.map_cons] at e1 e2
        split
        · rw [e1, List.map_cons]
        · rw [e2, List.map_cons]
theorem stb_map {α β : Type} {le : β → β → Bool} {le' : α → α → Bool} (f : α → β) (h : ∀ a b, le (f a) (f b) = le' a b) (L : List α) : stb le (L.map f) = (stb le' L).map f := by
  refine Stb.snoc_ind (motive := fun L => stb le (L.map f) = (stb le' L).map f) L rfl ?_
  intro l x ih
  rw [List.map_append, List.map_cons, List.map_nil, Stb.stb_snoc, Stb.stb_snoc, ih]
  exact mrg_map f h _ (stb le' l) [x] (Nat.le_refl _)
/-! ### rows of tasks -/
theorem kT_M_open {w : World} {base : Nat} {ok : Nat → Prop} {x : Tsk} {cs : List Value} (h : kT.M w base ok x cs) : ∃ s : Sl, cs = tkX (mkX x s) ∧ Kd.R Kd.string 9 w base ok s.v x.tags := by
  obtain ⟨_, _, rfl, rfl, ⟨_, _, rfl, rfl, ⟨_, _, rfl, rfl, ⟨_, _, rfl, rfl, ⟨_, _, rfl, rfl, ⟨_, _, rfl, rfl, ⟨v, rfl, hR⟩⟩⟩⟩⟩⟩⟩ := h
  obtain ⟨A, c, e⟩ := Kd.R_slice hR
  exact ⟨⟨A, x.tags.length, c⟩, by rw [e]; rfl, by rw [e] at hR; exact hR⟩
theorem kT_M_mk {w : World} {base : Nat} {ok : Nat → Prop} {x : TX} (h : Kd.R Kd.string 9 w base ok x.tags.1.v x.tags.2) : kT.M w base ok (deep x) (tkX x) :=
  ⟨[.int .u64 (x.id : Int)], _, rfl, rfl, [.int .u64 (x.list : Int)], _, rfl, rfl, [.string x.title], _, rfl, rfl, [.bool x.done], _, rfl, rfl, [.float .f64 x.rank.b], _, rfl, rfl, [.float .f64 x.est.b], _, rfl, rfl, x.tags.1.v, rfl, h⟩
theorem rows_open {w : World} {base : Nat} {ok : Nat → Prop} {l : List Tsk} {inner : List Value} (h : Reps (kT.M w base ok) 7 l inner) : ∃ xs : List TX, xs.map deep = l ∧ Reps (fun x c => c = tkX x) 7 xs inner ∧ ∀ x ∈ xs, Kd.R Kd.string 9 w base ok x.tags.1.v x.tags.2 := by
  have hv : ∀ p : Tsk, ∀ i : Nat, ∃ s : Sl, l[i]? = some p → (inner.drop (i * 7)).take 7 = tkX (mkX p s) ∧ Kd.R Kd.string 9 w base ok s.v p.tags := by
    intro p i
    by_cases hi : l[i]? = some p
    · obtain ⟨s, h1, h2⟩ := kT_M_open (h.2 _ _ hi)
      exact ⟨s, fun _ => ⟨h1, h2⟩⟩
    · exact ⟨default, fun e => absurd e hi⟩
  obtain ⟨f, hf⟩ : ∃ f : Tsk → Nat → Sl, ∀ p i, l[i]? = some p → (inner.drop (i * 7)).take 7 = tkX (mkX p (f p i)) ∧ Kd.R Kd.string 9 w base ok (f p i).v p.tags := ⟨fun p i => Classical.choose (hv p i), fun p i => Classical.choose_spec (hv p i)⟩
  have hx : ∀ i, i < l.length → l[i]? = some (l.getD i zT) := fun i hi => by rw [List.getD_eq_getElem?_getD, List.getElem?_eq_getElem hi]; rfl
  refine ⟨(List.range l.length).map (fun i => mkX (l.getD i zT) (f (l.getD i zT) i)), ?_, ⟨by rw [List.length_map, List.length_range]; exact h.1, fun j p hj => ?_⟩, fun x hm => ?_⟩
  · refine List.ext_getElem? fun i => ?_
    rw [List.map_map, List.getElem?_map]
    by_cases hi : i < l.length
    · rw [List.getElem?_range hi, hx i hi]
      rfl
    · rw [List.getElem?_eq_none (by simpa using hi), List.getElem?_eq_none (by simpa using hi)]
      rfl
  · rw [List.getElem?_map] at hj
    obtain ⟨i, hi, rfl⟩ := Option.map_eq_some_iff.1 hj
    obtain ⟨hlt, hi⟩ := List.getElem?_eq_some_iff.1 hi
    rw [List.length_range] at hlt
    rw [List.getElem_range] at hi
    subst hi
    exact (hf _ _ (hx j hlt)).1
  · obtain ⟨i, hi, rfl⟩ := List.mem_map.1 hm
    exact (hf _ _ (hx i (List.mem_range.1 hi))).2
theorem rows_shut {w : World} {base : Nat} {ok : Nat → Prop} {xs : List TX} {inner : List Value} (h : Reps (fun x c => c = tkX x) 7 xs inner) (ho : ∀ x ∈ xs, Kd.R Kd.string 9 w base ok x.tags.1.v x.tags.2) : Reps (kT.M w base ok) 7 (xs.map deep) inner := by
  refine ⟨by rw [List.length_map]; exact h.1, fun j p hj => ?_⟩
  rw [List.getElem?_map] at hj
  obtain ⟨x, hx, rfl⟩ := Option.map_eq_some_iff.1 hj
  have e := h.2 _ _ hx
  simp only at e
  rw [e]
  exact kT_M_mk (ho x (List.mem_of_getElem? hx))
theorem orderX_lays (blk off size : Nat) (w0 : World) : CmpLays Tryz.prog 18 #[] tkX 7 ordI blk off size w0 := by
  intro m os dk hdk x y
  have h := order1_calls (x.map fun t => t.1.v) (y.map fun t => t.1.v) (sortWorldK tkX 7 w0 blk off m dk os)
  exact h.mono fun e w' ⟨he, q, os', hw⟩ => ⟨he, q, os', hw⟩
def Grw (w w' : World) (row : Option Nat) : Prop := w.grownBy w' row
set_option maxHeartbeats 1000000 in
theorem sortR (w : World) (base : Nat) (ok : Nat → Prop) (v : Value) (l : List Tsk) (h : Kd.R kT 36 w base ok v l) (hl : l.length ≤ 100000) : Calls Tryz.prog 17 #[v, .func (.func 18) #[] #[]] w fun e w' =>
    e = .returned (.tuple #[]) ∧ Kd.R kT 36 w' base ok v (stb tle l) ∧ w.grownBy w' v.ownBlock := by
  obtain ⟨h0, inner, ho, hr⟩ := h
  rcases ho.2 with ⟨rfl, hn⟩ | ⟨g, cap, cur, rfl, hbg, hg, hcap, hmax, hcs, htk⟩
  · obtain rfl : l = [] := List.eq_nil_of_length_eq_zero hn
    refine (sortStable_none none 0 _ w).mono ?_
    rintro e w' ⟨rfl, rfl⟩
    exact ⟨rfl, Kd.R_nil _ _ _ _ _, grown_of_below (Below.refl _ _) _⟩
  · obtain ⟨xs, rfl, hx, hown⟩ := rows_open hr
    rw [List.length_map] at *
    have hlen : ∀ x, (tkX x).length = 7 := fun _ => rfl
    rw [← htk] at hx
    have hH := holdsK_of_cells hlen (by decide) hg hx
    have hglt : g < w.heap.size := (Array.getElem?_eq_some_iff.1 hg).1
    have RK : RowK tkX 7 w g 0 xs.toArray := ⟨hlen, tkX_one, hH, hglt⟩
    have hsz : xs.toArray.size = xs.length := by simp
    refine (sortStable_calls 7 Tryz.isAgg36 Tryz.sizeOf36 tkX ordI tle_pre 18 #[] g 0 cap xs.toArray w xs.length (enters_of Tryz.func18 (by kernel_rfl) rfl) (orderX_lays g 0 xs.length w) RK hsz (by omega) xs w rfl (SWK.start hH)).mono ?_
    rintro e w' ⟨rfl, S⟩
    have hyl : (stb (leOf ordI) xs).length = xs.length := Stb.stb_length xs
    obtain ⟨cur', c1, c2, c3, c4, c5, c6, c7, c8⟩ := cells_of_sorted hlen (by decide) hg (by rw [hyl, hcs]; exact Nat.mul_le_mul_right _ hcap) S
    have hg2 : w.grownBy w' (some g) := ⟨c4, c5, c6, c7, fun i hi hne => c8 i hi (fun e => hne (by rw [e]))⟩
    have hst : stb tle (xs.map deep) = (stb (leOf ordI) xs).map deep := stb_map deep (fun _ _ => rfl) xs
    have hmem : ∀ y ∈ stb (leOf ordI) xs, y ∈ xs := fun y hy => (Stb.stb_perm xs).mem_iff.1 hy
    rw [hst]
    rw [hyl] at c3
    refine ⟨rfl, ⟨h0, cur'.toList.take (xs.length * 7), ⟨?_, .inr ⟨g, cap, cur', ?_, hbg, c1, ?_, hmax, by rw [c2, hcs], ?_⟩⟩, rows_shut c3 fun y hy => ?_⟩, hg2⟩
    · rw [List.length_map, hyl, c3.1, hyl]
      rfl
    · rw [List.length_map, hyl]
    · rw [List.length_map, hyl]; exact hcap
    · rw [List.length_map, hyl]
      rfl
    · have hR := Kd.R_bound (hown y (hmem y hy))
      exact Kd.R_mono (Kd.R_move hR fun k hk => c8 k hk.2.2.1 (fun e => hk.1.2 (by rw [e]; rfl))) (fun k hk => hk.1)
end Go.Proofs.YtdjjlmphifgnnaaGreat
namespace Go.Proofs.YtdjjlmphifgnnaaGreat
open Go.RowKit Go.Sort Go.Proofs.YtdjjlmphifgnnaaGreatW.PrintWords Go.Proofs.YtdjjlmphifgnnaaGreatW.PrintLast Go.Proofs.YtdjjlmphifgnnaaGreatW.PrintMore
open Stb (mrg Pre Sorted stb)
set_option linter.unusedVariables false
set_option linter.unusedSimpArgs false
theorem infoT : (Tryz.prog.info? 36).map (fun i => (i.zero, i.size, i.bytes)) = some (some (.agg #[.int .u64 0, .int .u64 0, .string ⟨#[]⟩, .bool false, .float .f64 0, .float .f64 0, .slice none 0 0]), kT.sz, 80) := by kernel_rfl
theorem heap_setCell_ne (w : World) (B o : Nat) (v : Value) {k : Nat} (h : k ≠ B) : (w.setCell ⟨B, o, none⟩ v).heap[k]? = w.heap[k]? := by
  rw [setCell_eq]
  show (w.heap.modify B _)[k]? = _
  rw [Array.getElem?_modify, if_neg (Ne.symm h)]
theorem heap_setCell_at (w : World) (B o : Nat) (v : Value) {c : Array Value} {e : TypeId} {fr : Nat × Nat} (h : w.heap[B]? = some (.cells c e fr)) : (w.setCell ⟨B, o, none⟩ v).heap[B]? = some (.cells (c.setIfInBounds o v) e fr) := by
  rw [setCell_eq]
  show (w.heap.modify B _)[B]? = _
  rw [Array.getElem?_modify, if_pos rfl, h]
  rfl
theorem R_slice3 {α : Type} {d : Kd α} {e : Nat} {w : World} {base : Nat} {ok : Nat → Prop} {v : Value} {xs : List α} (h : Kd.R d e w base ok v xs) : ∃ A n c, v = .slice A n c := by
  obtain ⟨A, c, rfl⟩ := Kd.R_slice h
  exact ⟨A, _, c, rfl⟩
theorem run_store_float (P : Program) (w : World) (a : Addr) (m : Mode) (k : FloatKind) (b : Nat) : (store a (.float k b) m).run P w = stored P w a (.float k b) m := run_store P w a _ m rfl
theorem below_setCell {b : Nat} (w : World) {B : Nat} (o : Nat) (v : Value) (h : b ≤ B) : Below b w (w.setCell ⟨B, o, none⟩ v) := by
  have e : w.setCell ⟨B, o, none⟩ v = mapBlock w B (·.setIfInBounds o v) := setCell_eq w B o v
  refine ⟨by rw [e]; rfl, by rw [e]; rfl, by rw [e]; rfl, by rw [e]; simp [mapBlock], fun i hi => heap_setCell_ne w B o v (by omega)⟩
/-- what is owned lives on where another, newer block is written -/
theorem R_past {α : Type} {d : Kd α} {e : Nat} {w w1 : World} {base : Nat} {ok : Nat → Prop} {v : Value} {xs : List α} (h : Kd.R d e w base ok v xs) (hm : ∀ k, k < w.heap.size → w1.heap[k]? = w.heap[k]?) : Kd.R d e w1 base ok v xs :=
  Kd.R_mono (Kd.R_move (Kd.R_bound h) fun k hk => hm k hk.2.2.1) (fun k hk => hk.1)
/-- a box of seven cells -/
structure Box7 (w : World) (B t : Nat) (a0 a1 a2 a3 a4 a5 a6 : Value) : Prop where
  at_ : w.heap[B]? = some (.cells #[a0, a1, a2, a3, a4, a5, a6] t (0, 0))
theorem Box7.cells {w : World} {B t : Nat} {a0 a1 a2 a3 a4 a5 a6 : Value} (h : Box7 w B t a0 a1 a2 a3 a4 a5 a6) : (w.cell? ⟨B, 0, none⟩ = some a0 ∧ w.cell? ⟨B, 1, none⟩ = some a1 ∧ w.cell? ⟨B, 2, none⟩ = some a2 ∧ w.cell? ⟨B, 3, none⟩ = some a3 ∧ w.cell? ⟨B, 4, none⟩ = some a4 ∧ w.cell? ⟨B, 5, none⟩ = some a5 ∧ w.cell? ⟨B, 6, none⟩ = some a6) ∧ ∀ j, w.frozen? ⟨B, j, none⟩ = false := by
  refine ⟨⟨?_, ?_, ?_, ?_, ?_, ?_, ?_⟩, fun j => ?_⟩ <;> simp [World.cell?, World.frozen?, h.at_]
theorem Box7.up {w w' : World} {B t : Nat} {a0 a1 a2 a3 a4 a5 a6 : Value} (h : Box7 w B t a0 a1 a2 a3 a4 a5 a6) (hb : Below w.heap.size w w') : Box7 w' B t a0 a1 a2 a3 a4 a5 a6 := ⟨(hb.block B (Array.getElem?_eq_some_iff.1 h.at_).1).trans h.at_⟩
theorem ord_step {w wr W1 w2 : World} {v5 : Value} {L : List Tsk} {v2 : Value} {tg : List ByteArray} (HB : Below w.heap.size w wr) (HB1 : Below wr.heap.size wr W1) (HS1 : W1.heap.size = wr.heap.size + 1) (hb : Below W1.heap.size W1 w2) (HR : Kd.R kT 36 wr w.heap.size (fun k => w.heap.size ≤ k) v5 L) (hr : Kd.R Kd.string 9 w2 W1.heap.size (fun k => W1.heap.size ≤ k) v2 tg) (u : Value) :
    Kd.R kT 36 (w2.setCell ⟨wr.heap.size, 6, none⟩ u) w.heap.size (fun k => w.heap.size ≤ k) v5 L ∧ Kd.R Kd.string 9 (w2.setCell ⟨wr.heap.size, 6, none⟩ u) w.heap.size (fun k => W1.heap.size ≤ k) v2 tg ∧ (∀ k, W1.heap.size ≤ k → w.heap.size ≤ k ∧ some k ≠ v5.ownBlock) ∧ Below w.heap.size w (w2.setCell ⟨wr.heap.size, 6, none⟩ u) ∧ (w2.setCell ⟨wr.heap.size, 6, none⟩ u).heap.size = w2.heap.size := by
  have hsz := HB.size
  refine ⟨R_past HR fun k hk => ?_, ?_, fun k hk => ⟨by omega, fun e => ?_⟩, ?_, ?_⟩
  · rw [heap_setCell_ne _ _ _ _ (by omega), hb.block k (by omega), HB1.block k hk]
  · exact Kd.R_move (Kd.R_lower hr (by omega)) fun k hk => heap_setCell_ne _ _ _ _ (by omega)
  · obtain ⟨_, inner, ho, _⟩ := HR
    have := own_lt ho k e.symm
    omega
  · exact (HB.trans ((HB1.mono hsz).trans (hb.mono (by omega)))).trans (below_setCell w2 6 u hsz)
  · rw [setCell_eq]
    simp [mapBlock]
def OrdQ (w : World) (l : List Tsk) (e : Ending) (w' : World) : Prop := ∃ A n c, e = .returned (.slice A n c) ∧ Kd.R kT 36 w' w.heap.size (fun k => w.heap.size ≤ k) (.slice A n c) l ∧ Below w.heap.size w w'
attribute [local go_sem] run_store_float
set_option maxRecDepth 100000 in
set_option maxHeartbeats 4000000 in
theorem order_calls (w : World) (LA A : Option Addr) (ln lc c : Nat) (l : List Tsk) (list : Nat) (hC : kT.C w A l.length l) (hlen : l.length ≤ 1000) (htag : ∀ x ∈ l, x.tags.length ≤ 1000) :
    Calls Tryz.prog 8 #[.agg #[.slice LA ln lc, .slice A l.length c], .int .u64 (list : Int)] w (OrdQ w (stb tle (l.filter fun x => x.list == list))) := by
  obtain ⟨xs, hxs, hX, hF⟩ := rawT_of hC
  have hxl : xs.length = l.length := by rw [← hxs, List.length_map]
  rw [← hxl]
  have HX := Aside0.mk hX
  have HF := Aside0.mk hF
  have HXS := Aside0.mk hxs
  have HLEN := Aside0.mk (show xs.length ≤ 1000 from by omega)
  have HTAG := Aside0.mk htag
  have hxn : (xs.length : Int) ≤ 9223372036854775807 := by omega
  clear hX hF hxs hC hlen hxl htag
  go_enter Tryz.func8, Tryz.ntmps8
  go_wp2
  go_loopg [5, 7, 11] xs.length (fun kq v5 v7 v11 w' => ∃ (i : Nat) (A5 : Option Addr) (n5 c5 : Nat) (L : List Tsk), v11 = .int .i64 (i : Int) ∧ v5 = .slice A5 n5 c5 ∧ Aside0 (i + kq = xs.length) ∧ Aside0 (L = ((xs.map deep).take i).filter fun x => x.list == list) ∧ Aside0 (Kd.R kT 36 w' w.heap.size (fun k => w.heap.size ≤ k) (.slice A5 n5 c5) L) ∧ Aside0 (Below w.heap.size w w'))
  case atStart => exact ⟨0, none, 0, 0, [], rfl, rfl, ⟨by omega⟩, ⟨rfl⟩, ⟨Kd.R_nil _ _ _ _ _⟩, ⟨(Below.refl _ _).alloc (Nat.le_refl _) _⟩⟩
  case round =>
    obtain ⟨i, A5, n5, c5, L, rfl, rfl, HI, HLL, HR, HB⟩ := hrel
    by_cases hi : i < xs.length
    · have hi0 := HI.out
      obtain ⟨x, hx⟩ : ∃ x, xs[i]? = some x := ⟨xs[i]'hi, List.getElem?_eq_getElem _⟩
      obtain ⟨ad, e, y0, y1, y2, y3, y4, y5, y6⟩ := rawT_get HX.out hx
      subst e
      have HFx := Aside0.mk (HF.out x (List.mem_of_getElem? hx))
      have HTX := Aside0.mk (HTAG.out (deep x) (by rw [← HXS.out]; exact List.mem_map_of_mem (List.mem_of_getElem? hx)))
      have HTK := Aside0.mk (show (xs.map deep).take (i + 1) = (xs.map deep).take i ++ [deep x] from by rw [List.take_add_one, List.getElem?_map, hx]; rfl)
      obtain ⟨id, li, ti, dn, rk, es, ⟨⟨At, nt, ct⟩, tg⟩⟩ := x
      simp only [Sl.v] at y0 y1 y2 y3 y4 y5 y6
      replace y0 := (HB.out.cell (World.block_lt_of_cell? w _ y0)).trans y0
      replace y1 := (HB.out.cell (World.block_lt_of_cell? w _ y1)).trans y1
      replace y2 := (HB.out.cell (World.block_lt_of_cell? w _ y2)).trans y2
      replace y3 := (HB.out.cell (World.block_lt_of_cell? w _ y3)).trans y3
      replace y4 := (HB.out.cell (World.block_lt_of_cell? w _ y4)).trans y4
      replace y5 := (HB.out.cell (World.block_lt_of_cell? w _ y5)).trans y5
      replace y6 := (HB.out.cell (World.block_lt_of_cell? w _ y6)).trans y6
      have hiz : (i : Int) < (xs.length : Int) := by omega
      clear hx
      obtain ⟨gq, rfl⟩ : ∃ gq, gk = gq + 1 := ⟨gk - 1, by omega⟩
      have hb1 : Below wr.heap.size wr (wr.alloc (.cells #[.int .u64 (id : Int), .int .u64 (li : Int), .string ti, .bool dn, .float .f64 rk.b, .float .f64 es.b, .slice At nt ct] 36)) := (Below.refl _ _).alloc (Nat.le_refl _) _
      by_cases hl : li = list
      · have hlz : ((li : Int) == (list : Int)) = true := by simp [hl]
        have hbx : Box7 (wr.alloc (.cells #[.int .u64 (id : Int), .int .u64 (list : Int), .string ti, .bool dn, .float .f64 rk.b, .float .f64 es.b, .slice At nt ct] 36)) wr.heap.size 36 (.int .u64 (id : Int)) (.int .u64 (list : Int)) (.string ti) (.bool dn) (.float .f64 rk.b) (.float .f64 es.b) (.slice At nt ct) := ⟨heap_alloc_new wr _⟩
        rw [hl] at hb1
        obtain ⟨W1, hW1⟩ : ∃ W1, wr.alloc (.cells #[.int .u64 (id : Int), .int .u64 (list : Int), .string ti, .bool dn, .float .f64 rk.b, .float .f64 es.b, .slice At nt ct] 36) = W1 := ⟨_, rfl⟩
        rw [hW1] at hb1 hbx
        have hnt : nt = tg.length := HFx.out.1
        have HCL := Aside0.mk (cloneS_any W1 At ct tg (by have h : tg.length ≤ 1000 := HTX.out; omega) (Kd.C_below (Kd.C_below HFx.out.2.2 HB.out) hb1))
        have HBX := Aside0.mk hbx
        have HB1 := Aside0.mk hb1
        have HS1 := Aside0.mk (show W1.heap.size = wr.heap.size + 1 from by rw [← hW1]; exact Array.size_push _)
        have hL2 : L ++ [deep ⟨id, li, ti, dn, rk, es, (⟨At, nt, ct⟩, tg)⟩] = ((xs.map deep).take (i + 1)).filter fun x => x.list == list := by
          have hf : ((deep ⟨id, li, ti, dn, rk, es, (⟨At, nt, ct⟩, tg)⟩).list == list) = true := by show (li == list) = true; simp [hl]
          rw [HTK.out, List.filter_append, ← HLL.out]
          simp only [List.filter_cons, List.filter_nil, hf, if_true]
        have HLN := Aside0.mk (show L.length ≤ 1000 from by
          rw [HLL.out]
          have h1 := List.length_filter_le (fun x : Tsk => x.list == list) ((xs.map deep).take i)
          rw [List.length_take, List.length_map] at h1
          have := HLEN.out
          omega)
        have HL2 := Aside0.mk hL2
        have HW1 := Aside0.mk hW1
        clear hL2 hbx hb1 hW1
        subst hnt
        subst hl
        go_wp2_with (first
          | (go_at_call 16; rw [HW1.out]; refine HCL.out.mono ?_; rintro e w2 ⟨A2, c2, rfl, hr, hb⟩; have HR2 := Aside0.mk hr; have HB2 := Aside0.mk hb; have HBX2 := Aside0.mk (HBX.out.up hb); obtain ⟨⟨z0, z1, z2, z3, z4, z5, z6⟩, zf⟩ := HBX2.out.cells; have H3 := Aside0.mk (ord_step HB.out HB1.out HS1.out hb HR.out hr (.slice A2 tg.length c2)); clear hr hb)
          | ((with_reducible refine gate_builtin (b := .append) (xs := #[.tmp 23, .tmp 25]) rfl ?_); at_builtin; go_loud (refine Kd.R_append kT (W := w2.setCell ⟨wr.heap.size, 6, none⟩ (.slice A2 tg.length c2)) (w0 := w) w.heap.size rfl (.tmp 23) (.tmp 25) 23 36 (.agg #[.int .u64 0, .int .u64 0, .string ⟨#[]⟩, .bool false, .float .f64 0, .float .f64 0, .slice none 0 0]) 80 rfl Tryz.underlying23 infoT rfl (by decide) (by decide) (.slice A5 n5 c5) L (deep ⟨id, li, ti, dn, rk, es, (⟨A2, tg.length, c2⟩, tg)⟩) (tkX ⟨id, li, ti, dn, rk, es, (⟨A2, tg.length, c2⟩, tg)⟩) (fun k => w.heap.size ≤ k) (fun k => W1.heap.size ≤ k) rfl (by rw [H3.out.2.2.2.2]; rfl) (kT_M_mk H3.out.2.1) H3.out.2.2.1 (fun k hk => Nat.le_trans H3.out.2.2.2.1.size hk) H3.out.1 H3.out.2.2.2.1 H3.out.2.2.2.1.size (by have := HLN.out; omega) ?_); intro v8 w4 ho hb hg hat; obtain ⟨A8, n8, c8, rfl⟩ := R_slice3 ho; have HR4 := Aside0.mk ho; have HB4 := Aside0.mk hb; clear ho hb hg hat))
        go_roundg gq
        case rel => exact ⟨i + 1, _, _, _, _, by go_num, rfl, ⟨by omega⟩, HL2, HR4, HB4⟩
        case measure => omega
      · have hlz : ((li : Int) == (list : Int)) = false := by simp; omega
        have HR2 := Aside0.mk (Kd.R_below HR.out hb1)
        have HB2 := Aside0.mk (HB.out.trans (hb1.mono HB.out.size))
        have hL2 : L = ((xs.map deep).take (i + 1)).filter fun x => x.list == list := by
          rw [HTK.out, List.filter_append, ← HLL.out]
          have : (deep ⟨id, li, ti, dn, rk, es, (⟨At, nt, ct⟩, tg)⟩).list = li := rfl
          simp [this, hl]
        have HL2 := Aside0.mk hL2
        clear hb1 hL2 hl
        go_wp2
        go_roundg gq
        case rel => exact ⟨i + 1, _, _, _, L, by go_num, rfl, ⟨by omega⟩, HL2, HR2, HB2⟩
        case measure => omega
    · have hi0 := HI.out
      obtain rfl : gk = 0 := by omega
      obtain rfl : i = xs.length := by omega
      clear hi0
      have hm : ¬ ((xs.length : Int) < (xs.length : Int)) := by omega
      have hLl : L = l.filter fun x => x.list == list := by
        rw [HLL.out, HXS.out, show xs.length = l.length by rw [← HXS.out, List.length_map], List.take_length]
      have HLl := Aside0.mk hLl
      have HSO := Aside0.mk (sortR wr w.heap.size _ _ L HR.out (by
        have h1 := List.length_filter_le (fun x : Tsk => x.list == list) l
        have h2 : xs.length = l.length := by rw [← HXS.out, List.length_map]
        have := HLEN.out
        rw [hLl]
        omega))
      have HBS := Aside0.mk (fun (w' : World) (hg : wr.grownBy w' (Value.slice A5 n5 c5).ownBlock) => pw_below_grown HB.out _ HB.out.size hg (fun k hk => HR.out.1 k hk))
      clear hLl
      go_wp2_with (first
        | (go_at_call 17; refine HSO.out.mono ?_; rintro e w2 ⟨rfl, hr, hg⟩; have HR2 := Aside0.mk hr; have HB2 := Aside0.mk (HBS.out w2 hg); clear hr hg))
      go_ret
      refine ⟨A5, n5, c5, rfl, ?_, HB2.out⟩
      rw [← HLl.out]
      exact HR2.out
end Go.Proofs.YtdjjlmphifgnnaaGreat
