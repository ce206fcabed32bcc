/- Parts of one proof, joined: Tkk. Conditions: those of each statement. -/
import Derived.Test.YtdjjlmphifgnnaaGreatCc10
import Derived.Test.YtdjjlmphifgnnaaGreatCc11
import Derived.Test.YtdjjlmphifgnnaaGreatCc7
import Derived.Test.YtdjjlmphifgnnaaGreatCc5
namespace Go.Proofs.YtdjjlmphifgnnaaGreat
open Go.Shelf Go.RowKit Go.Sort Go.Proofs.YtdjjlmphifgnnaaGreatW.PrintWords Go.Proofs.YtdjjlmphifgnnaaGreatW.PrintLast Go.Proofs.YtdjjlmphifgnnaaGreatW.PrintMore
open Stb (mrg Pre Sorted stb)
set_option linter.unusedVariables false
set_option linter.unusedSimpArgs false
attribute [local go_sem] run_store_float run_makeMap
theorem infoL : (Tryz.prog.info? 41).map (fun i => (i.zero, i.size, i.bytes)) = some (some (.agg #[.int .u64 0, .string ⟨#[]⟩]), kL.sz, 24) := by kernel_rfl
/-- a state in order -/
def canL (ls : List Lst) : List Lst := canK Lst.id ls
def canT (l : List Tsk) : List Tsk := stb (kle Tk.id) ((ddp Tk.id l).map ownT)
theorem fz2 {w : World} {B t j : Nat} {a b : Value} (h : w.heap[B]? = some (.cells #[a, b] t (0, 0))) : w.frozen? ⟨B, j, none⟩ = false := by simp [World.frozen?, h]
/-- a box of two cells -/
structure Box2 (w : World) (B t : Nat) (a b : Value) : Prop where
  at_ : w.heap[B]? = some (.cells #[a, b] t (0, 0))
theorem Box2.cells {w : World} {B t : Nat} {a b : Value} (h : Box2 w B t a b) : (w.cell? ⟨B, 0, none⟩ = some a ∧ w.cell? ⟨B, 1, none⟩ = some b) ∧ ∀ j, w.frozen? ⟨B, j, none⟩ = false := by
  refine ⟨⟨?_, ?_⟩, fun j => ?_⟩ <;> simp [World.cell?, World.frozen?, h.at_]
theorem Box2.up {w w' : World} {B t : Nat} {a b : Value} (h : Box2 w B t a b) (hb : Below w.heap.size w w') : Box2 w' B t a b := ⟨(hb.block B (Array.getElem?_eq_some_iff.1 h.at_).1).trans h.at_⟩
theorem Box2.lt {w : World} {B t : Nat} {a b : Value} (h : Box2 w B t a b) : B < w.heap.size := (Array.getElem?_eq_some_iff.1 h.at_).1
theorem Box2.set0 {w : World} {B t : Nat} {a b : Value} (h : Box2 w B t a b) (u : Value) : Box2 (w.setCell ⟨B, 0, none⟩ u) B t u b := ⟨heap_setCell_at w B 0 u h.at_⟩
theorem Box2.set1 {w : World} {B t : Nat} {a b : Value} (h : Box2 w B t a b) (u : Value) : Box2 (w.setCell ⟨B, 1, none⟩ u) B t a u := ⟨heap_setCell_at w B 1 u h.at_⟩
theorem Box2.ne {w : World} {B B' t : Nat} {a b : Value} (h : Box2 w B t a b) (hne : B ≠ B') (o : Nat) (u : Value) : Box2 (w.setCell ⟨B', o, none⟩ u) B t a b := ⟨(heap_setCell_ne w B' o u hne).trans h.at_⟩
theorem Box2.kept {w w' : World} {B t : Nat} {a b : Value} {r : Option Nat} (h : Box2 w B t a b) (hg : w.grownBy w' r) (hne : some B ≠ r) : Box2 w' B t a b := ⟨(hg.block _ h.lt hne).trans h.at_⟩
/-- what Canon holds: its own boxes, the lists and tasks so far -/
structure CanI (w : World) (S0 S1 : Value) (L : List Lst) (T : List Tsk) (vL vT : Value) (W : World) : Prop where
  low : Below w.heap.size w W
  src : Box2 W w.heap.size 25 S0 S1
  res : Box2 W (w.heap.size + 1) 25 (.slice none 0 0) (.slice none 0 0)
  out : Box2 W (w.heap.size + 1 + 1) 25 vL vT
  rL : Kd.R kL 41 W (w.heap.size + 1 + 1 + 1) (fun k => w.heap.size + 1 + 1 + 1 ≤ k) vL L
  rT : Kd.R kT 36 W (w.heap.size + 1 + 1 + 1) (fun k => w.heap.size + 1 + 1 + 1 ≤ k) vT T
theorem CanI.up {w : World} {S0 S1 : Value} {L : List Lst} {T : List Tsk} {vL vT : Value} {W W' : World} (h : CanI w S0 S1 L T vL vT W) (hb : Below W.heap.size W W') : CanI w S0 S1 L T vL vT W' :=
  ⟨h.low.trans (hb.mono h.low.size), h.src.up hb, h.res.up hb, h.out.up hb, Kd.R_below h.rL hb, Kd.R_below h.rT hb⟩
theorem CanI.size {w : World} {S0 S1 : Value} {L : List Lst} {T : List Tsk} {vL vT : Value} {W : World} (h : CanI w S0 S1 L T vL vT W) : w.heap.size + 1 + 1 + 1 ≤ W.heap.size := h.out.lt
theorem CanI.putL {w : World} {S0 S1 : Value} {L L' : List Lst} {vL v1 : Value} {W W' : World} (h : CanI w S0 S1 L [] vL (.slice none 0 0) W) (hb : Below (w.heap.size + 1 + 1 + 1) W W') (hr : Kd.R kL 41 W' (w.heap.size + 1 + 1 + 1) (fun k => w.heap.size + 1 + 1 + 1 ≤ k) v1 L') : CanI w S0 S1 L' [] v1 (.slice none 0 0) (W'.setCell ⟨w.heap.size + 1 + 1, 0, none⟩ v1) := by
  have up : ∀ {B : Nat} {a b : Value}, Box2 W B 25 a b → B < w.heap.size + 1 + 1 + 1 → Box2 W' B 25 a b := fun h1 h2 => ⟨(hb.block _ h2).trans h1.at_⟩
  refine ⟨(h.low.trans (hb.mono (by omega))).trans (below_setCell _ _ _ (by omega)), (up h.src (by omega)).ne (by omega) _ _, (up h.res (by omega)).ne (by omega) _ _, (up h.out (by omega)).set0 _, ?_, Kd.R_nil _ _ _ _ _⟩
  exact Kd.R_mono (Kd.R_move (Kd.R_bound hr) fun k hk => heap_setCell_ne _ _ _ _ (by have := hk.2.1; omega)) (fun k hk => hk.1)
open Classical in
/-- what has been met of tasks -/
noncomputable def metF (L : List Tsk) : Value → Option Value := fun v => if ∃ x ∈ L, v = .int .u64 (x.id : Int) then some (.bool true) else none
theorem metF_nil : metF [] = fun _ => none := by
  funext v
  unfold metF
  rw [if_neg]
  rintro ⟨x, hx, _⟩
  cases hx
theorem metF_snoc (L : List Tsk) (x y : Tsk) (h : y.id = x.id) : Mp.upd (metF L) (.int .u64 (x.id : Int)) (.bool true) = metF (L ++ [y]) := by
  funext v
  unfold Mp.upd metF
  by_cases hv : v = .int .u64 (x.id : Int)
  · rw [if_pos hv, if_pos ⟨y, by simp, by rw [hv, h]⟩]
  · rw [if_neg hv]
    by_cases hL : ∃ x ∈ L, v = .int .u64 (x.id : Int)
    · rw [if_pos hL, if_pos]
      obtain ⟨z, hz, e⟩ := hL
      exact ⟨z, by simp [hz], e⟩
    · rw [if_neg hL, if_neg]
      rintro ⟨z, hz, e⟩
      rcases List.mem_append.1 hz with hz | hz
      · exact hL ⟨z, hz, e⟩
      · rw [List.mem_singleton.1 hz, h] at e
        exact hv e
theorem metF_at (L : List Tsk) (id : Nat) {b : Bool} (h : L.any (fun y => y.id == id) = b) : (metF L (.int .u64 (id : Int))).getD (.bool false) = .bool b := by
  unfold metF
  cases b with
  | true =>
    obtain ⟨y, hy, e⟩ := List.any_eq_true.1 h
    rw [if_pos ⟨y, hy, by simp only [beq_iff_eq] at e; rw [e]⟩]
    rfl
  | false =>
    rw [if_neg]
    · rfl
    · rintro ⟨y, hy, e⟩
      have h1 := List.any_eq_false.1 h y hy
      injection e with _ e
      exact h1 (by simp only [beq_iff_eq]; omega)
/-- what Canon holds behind its lists -/
structure CanJ (w : World) (S0 S1 : Value) (L : List Lst) (D T : List Tsk) (vL vT : Value) (M : Nat) (W : World) : Prop where
  low : Below w.heap.size w W
  src : Box2 W w.heap.size 25 S0 S1
  res : Box2 W (w.heap.size + 1) 25 (.slice none 0 0) (.slice none 0 0)
  out : Box2 W (w.heap.size + 1 + 1) 25 vL vT
  hM : w.heap.size + 1 + 1 + 1 ≤ M
  rL : Kd.R kL 41 W (w.heap.size + 1 + 1 + 1) (fun k => w.heap.size + 1 + 1 + 1 ≤ k ∧ k < M) vL L
  met : Mp.Is (.int .u64) W M (metF D)
  rT : Kd.R kT 36 W (M + 1) (fun k => M + 1 ≤ k) vT T
theorem CanI.next {w : World} {S0 S1 : Value} {L : List Lst} {vL : Value} {W : World} (h : CanI w S0 S1 L [] vL (.slice none 0 0) W) : CanJ w S0 S1 L [] [] vL (.slice none 0 0) W.heap.size (W.alloc (.map #[] 0)) := by
  have hb := (Below.refl W.heap.size W).alloc (Nat.le_refl _) (.map #[] 0)
  have h1 := h.up hb
  refine ⟨h1.low, h1.src, h1.res, h1.out, h.size, ?_, by rw [metF_nil]; exact Mp.Is.empty _ _, Kd.R_nil _ _ _ _ _⟩
  exact Kd.R_mono (Kd.R_below (Kd.R_bound h.rL) hb) (fun k hk => ⟨hk.1, hk.2.2.1⟩)
theorem CanJ.up {w : World} {S0 S1 : Value} {L : List Lst} {D T : List Tsk} {vL vT : Value} {M : Nat} {W W' : World} (h : CanJ w S0 S1 L D T vL vT M W) (hb : Below W.heap.size W W') : CanJ w S0 S1 L D T vL vT M W' :=
  ⟨h.low.trans (hb.mono h.low.size), h.src.up hb, h.res.up hb, h.out.up hb, h.hM, Kd.R_below h.rL hb, h.met.same (hb.block _ h.met.lt), Kd.R_below h.rT hb⟩
theorem CanJ.size {w : World} {S0 S1 : Value} {L : List Lst} {D T : List Tsk} {vL vT : Value} {M : Nat} {W : World} (h : CanJ w S0 S1 L D T vL vT M W) : M + 1 ≤ W.heap.size := h.met.lt
theorem CanJ.turn {w : World} {S0 S1 : Value} {L : List Lst} {D D' T : List Tsk} {vL vT : Value} {M : Nat} {W W' : World} (h : CanJ w S0 S1 L D T vL vT M W) (ht : Mp.Turned W W' M) (hm : Mp.Is (.int .u64) W' M (metF D')) : CanJ w S0 S1 L D' T vL vT M W' := by
  have hM := h.hM
  refine ⟨⟨ht.os.trans h.low.os, ht.tape.trans h.low.tape, ht.output.trans h.low.output, by rw [ht.size]; exact h.low.size, fun k hk => (ht.block k (by omega)).trans (h.low.block k hk)⟩, ⟨(ht.block _ (by omega)).trans h.src.at_⟩, ⟨(ht.block _ (by omega)).trans h.res.at_⟩, ⟨(ht.block _ (by omega)).trans h.out.at_⟩, hM, Kd.R_move h.rL (fun k hk => ht.block k (by omega)), hm, Kd.R_move h.rT (fun k hk => ht.block k (by omega))⟩
theorem CanJ.putT {w : World} {S0 S1 : Value} {L : List Lst} {D T T' : List Tsk} {vL vT v1 : Value} {M : Nat} {W W' : World} (h : CanJ w S0 S1 L D T vL vT M W) (hb : Below (M + 1) W W') (hr : Kd.R kT 36 W' (M + 1) (fun k => M + 1 ≤ k) v1 T') : CanJ w S0 S1 L D T' vL v1 M (W'.setCell ⟨w.heap.size + 1 + 1, 1, none⟩ v1) := by
  have hM := h.hM
  have up : ∀ {B : Nat} {a b : Value}, Box2 W B 25 a b → B < w.heap.size + 1 + 1 + 1 → Box2 W' B 25 a b := fun h1 h2 => ⟨(hb.block _ (by omega)).trans h1.at_⟩
  refine ⟨(h.low.trans (hb.mono (by omega))).trans (below_setCell _ _ _ (by omega)), (up h.src (by omega)).ne (by omega) _ _, (up h.res (by omega)).ne (by omega) _ _, (up h.out (by omega)).set1 _, hM, ?_, ?_, ?_⟩
  · exact Kd.R_move h.rL (fun k hk => (heap_setCell_ne _ _ _ _ (by omega)).trans (hb.block k (by omega)))
  · exact h.met.same ((heap_setCell_ne _ _ _ _ (by omega)).trans (hb.block M (by omega)))
  · exact Kd.R_move hr fun k hk => heap_setCell_ne _ _ _ _ (by omega)
theorem CanJ.grewL {w : World} {S0 S1 : Value} {L L' : List Lst} {D T : List Tsk} {vL vT : Value} {M : Nat} {W W' : World} (h : CanJ w S0 S1 L D T vL vT M W) (hg : W.grownBy W' vL.ownBlock) (hr : Kd.R kL 41 W' (w.heap.size + 1 + 1 + 1) (fun k => w.heap.size + 1 + 1 + 1 ≤ k ∧ k < M) vL L') : CanJ w S0 S1 L' D T vL vT M W' := by
  have hM := h.hM
  have ho := h.rL.1
  have hs := h.size
  refine ⟨pw_below_grown h.low _ h.low.size hg (fun k hk => by have := ho k hk; omega), h.src.kept hg (fun e => by have := ho _ e.symm; omega), h.res.kept hg (fun e => by have := ho _ e.symm; omega), h.out.kept hg (fun e => by have := ho _ e.symm; omega), hM, hr, h.met.same (hg.block _ hs (fun e => by have := ho _ e.symm; omega)), Kd.R_grown h.rT hg (fun k hk e => by have := ho _ e.symm; omega)⟩
theorem CanJ.grewT {w : World} {S0 S1 : Value} {L : List Lst} {D T T' : List Tsk} {vL vT : Value} {M : Nat} {W W' : World} (h : CanJ w S0 S1 L D T vL vT M W) (hg : W.grownBy W' vT.ownBlock) (hr : Kd.R kT 36 W' (M + 1) (fun k => M + 1 ≤ k) vT T') : CanJ w S0 S1 L D T' vL vT M W' := by
  have hM := h.hM
  have ho := h.rT.1
  have hs := h.size
  refine ⟨pw_below_grown h.low _ h.low.size hg (fun k hk => by have := ho k hk; omega), h.src.kept hg (fun e => by have := ho _ e.symm; omega), h.res.kept hg (fun e => by have := ho _ e.symm; omega), h.out.kept hg (fun e => by have := ho _ e.symm; omega), hM, Kd.R_grown h.rL hg (fun k hk e => by have := ho _ e.symm; omega), h.met.same (hg.block _ hs (fun e => by have := ho _ e.symm; omega)), hr⟩
theorem findL_any (D : List Lst) (id : Nat) : (findL D id).2 = D.any (fun y => y.id == id) := by
  unfold findL
  cases h : D.find? (fun x => x.id == id) with
  | none =>
    have := List.find?_eq_none.1 h
    symm
    rw [List.any_eq_false]
    exact this
  | some x =>
    symm
    rw [List.any_eq_true]
    exact ⟨x, List.mem_of_find?_eq_some h, by have := List.find?_some h; simpa using this⟩
theorem ex_met {o : Oper} {ρ : Operand → Value} (W : World) {x y : Operand} {M : Nat} {D : List Tsk} (h : Mp.Is (.int .u64) W M (metF D)) (id : Nat) {b : Bool} (hb : D.any (fun y => y.id == id) = b) (ho : o.op = .lookup 67 x y false) (hx : ρ x = .map (some M)) (hy : ρ y = .int .u64 (id : Int)) :
    (execOp ρ o).run Tryz.prog W = .ok (.value (.bool b)) W := by
  have hz : (zeroValue 4).run Tryz.prog W = .ok (.bool false) W := by
    have : (Tryz.prog.info? 4).bind (·.zero) = some (.bool false) := by kernel_rfl
    obtain ⟨i, h1, h2⟩ := Option.bind_eq_some_iff.1 this
    exact Arr.run_zero h1 h2 W
  rw [Arr.ex_lookup ho h Tryz.underlying67 Tryz.underlying26 hx (by rw [hy]; rfl) hz, hy, metF_at D id hb]
set_option maxRecDepth 100000 in
set_option maxHeartbeats 8000000 in
theorem canon2_calls (w : World) (LA TA : Option Addr) (lc tc : Nat) (ls : List Lst) (l : List Tsk) (hL : kL.C w LA ls.length ls) (hT : kT.C w TA l.length l) (hM : Mild ls l) :
    Calls Tryz.prog 14 #[.agg #[.slice LA ls.length lc, .slice TA l.length tc]] w fun e w' => ∃ A n c A' n' c' M, e = .returned (.agg #[.slice A n c, .slice A' n' c']) ∧ w.heap.size ≤ M ∧ Kd.R kL 41 w' w.heap.size (fun k => w.heap.size ≤ k ∧ k < M) (.slice A n c) (canL ls) ∧ Kd.R kT 36 w' w.heap.size (fun k => M ≤ k) (.slice A' n' c') (canT l) ∧ Below w.heap.size w w' := by
  have HL := Aside0.mk hL
  have HT := Aside0.mk hT
  have HM := Aside0.mk hM
  obtain ⟨xs, hxs, hX, hF⟩ := rawT_of hT
  have hxl : xs.length = l.length := by rw [← hxs, List.length_map]
  have HX := Aside0.mk hX
  have HF := Aside0.mk hF
  have HXS := Aside0.mk hxs
  have HXL := Aside0.mk hxl
  have HTG := Aside0.mk hM.ntags
  clear hX hF hxs hxl
  have hln : (ls.length : Int) ≤ 1000 := by have := hM.nl; omega
  have htn : (l.length : Int) ≤ 1000 := by have := hM.nt; omega
  have s1 : (w.alloc (.cells #[.slice LA ls.length lc, .slice TA l.length tc] 25)).heap.size = w.heap.size + 1 := Array.size_push _
  have s2 : ((w.alloc (.cells #[.slice LA ls.length lc, .slice TA l.length tc] 25)).alloc (.cells #[.slice none 0 0, .slice none 0 0] 25)).heap.size = w.heap.size + 1 + 1 := (Array.size_push _).trans (congrArg (· + 1) s1)
  have b1 := (Below.refl w.heap.size w).alloc (Nat.le_refl _) (.cells #[.slice LA ls.length lc, .slice TA l.length tc] 25)
  have b2 := (Below.refl (w.alloc (.cells #[.slice LA ls.length lc, .slice TA l.length tc] 25)).heap.size (w.alloc (.cells #[.slice LA ls.length lc, .slice TA l.length tc] 25))).alloc (Nat.le_refl _) (.cells #[.slice none 0 0, .slice none 0 0] 25)
  have b3 := (Below.refl ((w.alloc (.cells #[.slice LA ls.length lc, .slice TA l.length tc] 25)).alloc (.cells #[.slice none 0 0, .slice none 0 0] 25)).heap.size ((w.alloc (.cells #[.slice LA ls.length lc, .slice TA l.length tc] 25)).alloc (.cells #[.slice none 0 0, .slice none 0 0] 25))).alloc (Nat.le_refl _) (.cells #[.slice none 0 0, .slice none 0 0] 25)
  have k1 : Box2 (w.alloc (.cells #[.slice LA ls.length lc, .slice TA l.length tc] 25)) w.heap.size 25 (.slice LA ls.length lc) (.slice TA l.length tc) := ⟨heap_alloc_new w _⟩
  have k2 : Box2 ((w.alloc (.cells #[.slice LA ls.length lc, .slice TA l.length tc] 25)).alloc (.cells #[.slice none 0 0, .slice none 0 0] 25)) (w.heap.size + 1) 25 (.slice none 0 0) (.slice none 0 0) := ⟨by have h := heap_alloc_new (w.alloc (.cells #[.slice LA ls.length lc, .slice TA l.length tc] 25)) (.cells #[.slice none 0 0, .slice none 0 0] 25); rwa [s1] at h⟩
  have k3 : Box2 (((w.alloc (.cells #[.slice LA ls.length lc, .slice TA l.length tc] 25)).alloc (.cells #[.slice none 0 0, .slice none 0 0] 25)).alloc (.cells #[.slice none 0 0, .slice none 0 0] 25)) (w.heap.size + 1 + 1) 25 (.slice none 0 0) (.slice none 0 0) := ⟨by have h := heap_alloc_new ((w.alloc (.cells #[.slice LA ls.length lc, .slice TA l.length tc] 25)).alloc (.cells #[.slice none 0 0, .slice none 0 0] 25)) (.cells #[.slice none 0 0, .slice none 0 0] 25); rwa [s2] at h⟩
  have h0 : CanI w (.slice LA ls.length lc) (.slice TA l.length tc) [] [] (.slice none 0 0) (.slice none 0 0) (((w.alloc (.cells #[.slice LA ls.length lc, .slice TA l.length tc] 25)).alloc (.cells #[.slice none 0 0, .slice none 0 0] 25)).alloc (.cells #[.slice none 0 0, .slice none 0 0] 25)) :=
    ⟨(b1.trans (b2.mono b1.size)).trans (b3.mono (Nat.le_trans b1.size b2.size)), (k1.up b2).up b3, k2.up b3, k3, Kd.R_nil _ _ _ _ _, Kd.R_nil _ _ _ _ _⟩
  obtain ⟨⟨g0, g1⟩, gf⟩ := h0.src.cells
  have H0 := Aside0.mk h0
  clear hL hT hM s1 s2 b1 b2 b3 k1 k2 k3 h0
  go_enter Tryz.func14, Tryz.ntmps14
  go_wp2
  go_step3
  go_wp2
  go_step3
  go_wp2
  clear g0 g1 gf
  go_loopg [5, 6, 7, 14] ls.length (fun kq v5 v6 v7 v14 w' => ∃ (i : Nat) (A : Option Addr) (n c : Nat), v14 = .int .i64 (i : Int) ∧ Aside0 (i + kq = ls.length) ∧ Aside0 (CanI w (.slice LA ls.length lc) (.slice TA l.length tc) (ddp Lst.id (ls.take i)) [] (.slice A n c) (.slice none 0 0) w'))
  case atStart => exact ⟨0, none, 0, 0, rfl, ⟨by omega⟩, by rw [List.take_zero]; exact H0⟩
  case round =>
    obtain ⟨i, A, n, c, rfl, HI, HC⟩ := hrel
    by_cases hi : i < ls.length
    · have hi0 := HI.out
      obtain ⟨x, hx⟩ : ∃ x, ls[i]? = some x := ⟨ls[i]'hi, List.getElem?_eq_getElem _⟩
      obtain ⟨ad, e, y0, y1⟩ := kL_get HL.out hx
      have hdd := ddp_snoc Lst.id (ls.take i) x
      have htk : ls.take (i + 1) = ls.take i ++ [x] := by rw [List.take_add_one, hx]; rfl
      rw [← htk] at hdd
      have hdl : (ddp Lst.id (ls.take i)).length ≤ i := Nat.le_trans (ddp_len _ _) (by rw [List.length_take]; omega)
      obtain ⟨D, hD⟩ : ∃ D, ddp Lst.id (ls.take i) = D := ⟨_, rfl⟩
      rw [hD] at hdd HC hdl
      have HDD := Aside0.mk hdd
      have HDL := Aside0.mk hdl
      subst e
      obtain ⟨xi, xn⟩ := x
      simp only at y0 y1
      replace y0 := pw_cell_below HC.out.low y0
      replace y1 := pw_cell_below HC.out.low y1
      have hiz : (i : Int) < (ls.length : Int) := by omega
      have hb1 := (Below.refl wr.heap.size wr).alloc (Nat.le_refl _) (.cells #[.int .u64 (xi : Int), .string xn] 41)
      have HC1 := Aside0.mk (HC.out.up hb1)
      have HXB := Aside0.mk (Box2.mk (heap_alloc_new wr (.cells #[.int .u64 (xi : Int), .string xn] 41)))
      obtain ⟨⟨o0, o1⟩, of⟩ := HC1.out.out.cells
      have hRL := Kd.R_reads' HC1.out.rL
      obtain ⟨hn, hcap, hCD⟩ := hRL
      subst hn
      obtain ⟨⟨⟨fi, fn⟩, b⟩, hf⟩ : ∃ r, findL D xi = r := ⟨_, rfl⟩
      have hli := lists_calls (wr.alloc (.cells #[.int .u64 (xi : Int), .string xn] 41)) A none c 0 0 D xi hCD (by omega)
      rw [hf] at hli
      have HLI : Aside0 (Calls Tryz.prog 22 #[.agg #[.slice A D.length c, .slice none 0 0], .int .u64 (xi : Int)] (wr.alloc (.cells #[.int .u64 (xi : Int), .string xn] 41)) fun e w' => e = .returned (.tuple #[.agg #[.int .u64 (fi : Int), .string fn], .bool b]) ∧ Below (wr.alloc (.cells #[.int .u64 (xi : Int), .string xn] 41)).heap.size (wr.alloc (.cells #[.int .u64 (xi : Int), .string xn] 41)) w') := ⟨hli⟩
      have hany : D.any (fun y => y.id == xi) = b := by rw [← findL_any, hf]
      obtain ⟨gq, rfl⟩ : ∃ gq, gk = gq + 1 := ⟨gk - 1, by omega⟩
      clear hb1 hli hf hCD hcap hdl hdd hx hD htk
      cases b with
      | true =>
        have HN := Aside0.mk (show ddp Lst.id (ls.take (i + 1)) = D from by rw [HDD.out]; exact if_pos hany)
        clear hany
        go_wp2_with (first
          | (go_at_call 22; refine HLI.out.mono ?_; rintro e w2 ⟨rfl, hb⟩; have HC2 := Aside0.mk ((HC1.out.up hb).up ((Below.refl w2.heap.size w2).alloc (Nat.le_refl _) (.cells #[.int .u64 (fi : Int), .string fn] 41))); clear hb))
        go_roundg gq
        case rel => exact ⟨i + 1, A, _, c, by go_num, ⟨by omega⟩, by rw [HN.out]; exact HC2⟩
        case measure => omega
      | false =>
        have HN := Aside0.mk (show ddp Lst.id (ls.take (i + 1)) = D ++ [⟨xi, xn⟩] from by rw [HDD.out]; exact if_neg (by rw [show D.any (fun y => Lst.id y == xi) = false from hany]; decide))
        clear hany
        go_wp2_with (first
          | (go_at_call 22; refine HLI.out.mono ?_; rintro e w2 ⟨rfl, hb⟩; have HC2 := Aside0.mk ((HC1.out.up hb).up ((Below.refl w2.heap.size w2).alloc (Nat.le_refl _) (.cells #[.int .u64 (fi : Int), .string fn] 41))); obtain ⟨⟨q0, q1⟩, qf⟩ := HC2.out.out.cells; obtain ⟨⟨u0, u1⟩, _⟩ := ((HXB.out.up hb).up ((Below.refl w2.heap.size w2).alloc (Nat.le_refl _) (.cells #[.int .u64 (fi : Int), .string fn] 41))).cells; clear hb)
          | ((with_reducible refine gate_builtin (b := .append) (xs := #[.tmp 27, .tmp 29]) rfl ?_); at_builtin; go_loud (refine Kd.R_append kL (W := w2.alloc (.cells #[.int .u64 (fi : Int), .string fn] 41)) (w0 := w2.alloc (.cells #[.int .u64 (fi : Int), .string fn] 41)) (w.heap.size + 1 + 1 + 1) rfl (.tmp 27) (.tmp 29) 22 41 (.agg #[.int .u64 0, .string ⟨#[]⟩]) 24 rfl Tryz.underlying22 infoL rfl (by decide) (by decide) (.slice A D.length c) D ⟨xi, xn⟩ [.int .u64 (xi : Int), .string xn] (fun k => w.heap.size + 1 + 1 + 1 ≤ k) (fun _ => False) rfl (by rw [show (w2.alloc (.cells #[.int .u64 (fi : Int), .string fn] 41)).heap.size = w2.heap.size + 1 from Array.size_push _]; rfl) (kL_Mx.2 rfl) (fun _ h => h.elim) (fun k h => Nat.le_trans HC2.out.size h) HC2.out.rL (Below.refl _ _) HC2.out.size (by have := HDL.out; omega) ?_); intro v8 w4 ho hb hg hat; obtain ⟨A8, n8, c8, rfl⟩ := R_slice3 ho; have HC4 := Aside0.mk (HC2.out.putL hb ho); have z1 := fz2 (j := 0) ((hb.block (w.heap.size + 1 + 1) (by omega)).trans HC2.out.out.at_); have z0 : w4.cell? ⟨w.heap.size + 1 + 1, 0, none⟩ = some (.slice A D.length c) := (two_cells ((hb.block (w.heap.size + 1 + 1) (by omega)).trans HC2.out.out.at_)).1; clear ho hb hg hat))
        go_roundg gq
        case rel => exact ⟨i + 1, A8, n8, c8, by go_num, ⟨by omega⟩, by rw [HN.out]; exact HC4⟩
        case measure => omega
    · obtain rfl : i = ls.length := by have := HI.out; omega
      have hz : ¬ (((ls.length : Nat) : Int) < (ls.length : Int)) := by omega
      rw [List.take_length] at HC
      have HJ0 := Aside0.mk HC.out.next
      obtain ⟨⟨o0, o1⟩, of⟩ := HJ0.out.src.cells
      obtain ⟨M, hMM⟩ : ∃ M, wr.heap.size = M := ⟨_, rfl⟩
      rw [hMM] at HJ0
      go_wp2
      obtain ⟨W0, hW0⟩ : ∃ W0, wr.alloc (.map #[] 0) = W0 := ⟨_, rfl⟩
      rw [hW0] at HJ0 ⊢
      clear o0 o1 of hW0 hMM HC hz hi HI H0
      obtain ⟨wq, rfl⟩ : ∃ wq, wq = wr := ⟨_, rfl⟩
      obtain ⟨go, rfl⟩ : ∃ go, go = gk := ⟨_, rfl⟩
      go_loopg [10, 37] l.length (fun kq v10 v37 w' => ∃ (i : Nat) (A8 : Option Addr) (n8 c8 : Nat) (D : List Tsk), v37 = .int .i64 (i : Int) ∧ Aside0 (i + kq = l.length) ∧ Aside0 (D = ddp Tk.id (l.take i)) ∧ Aside0 (CanJ w (.slice LA ls.length lc) (.slice TA l.length tc) (ddp Lst.id ls) D (D.map ownT) (.slice A n c) (.slice A8 n8 c8) M w'))
      case atStart => exact ⟨0, none, 0, 0, [], rfl, ⟨by omega⟩, ⟨by rw [List.take_zero]; rfl⟩, HJ0⟩
      case round =>
        obtain ⟨i, A8, n8, c8, D, rfl, HI, HD, HC⟩ := hrel
        by_cases hi : i < l.length
        · have hi0 := HI.out
          have hix : i < xs.length := by rw [HXL.out]; exact hi
          obtain ⟨x, hx⟩ : ∃ x, xs[i]? = some x := ⟨xs[i]'hix, List.getElem?_eq_getElem _⟩
          obtain ⟨ad, e, y0, y1, y2, y3, y4, y5, y6⟩ := rawT_get HX.out hx
          subst e
          have HFx := Aside0.mk (HF.out x (List.mem_of_getElem? hx))
          have hlx : l[i]? = some (deep x) := by rw [← HXS.out, List.getElem?_map, hx]; rfl
          have HTX := Aside0.mk (HTG.out (deep x) (List.mem_of_getElem? hlx))
          have htk : l.take (i + 1) = l.take i ++ [deep x] := by rw [List.take_add_one, hlx]; rfl
          have hdd := ddp_snoc Tk.id (l.take i) (deep x)
          rw [← htk, ← HD.out] at hdd
          have HDL := Aside0.mk (show D.length ≤ i from by rw [HD.out]; exact Nat.le_trans (ddp_len _ _) (by rw [List.length_take]; omega))
          have HDD := Aside0.mk hdd
          obtain ⟨id, li, ti, dn, rk, es, ⟨⟨At, nt, ct⟩, tg⟩⟩ := x
          simp only [Sl.v] at y0 y1 y2 y3 y4 y5 y6
          replace y0 := pw_cell_below HC.out.low y0
          replace y1 := pw_cell_below HC.out.low y1
          replace y2 := pw_cell_below HC.out.low y2
          replace y3 := pw_cell_below HC.out.low y3
          replace y4 := pw_cell_below HC.out.low y4
          replace y5 := pw_cell_below HC.out.low y5
          replace y6 := pw_cell_below HC.out.low y6
          have hiz : (i : Int) < (l.length : Int) := by omega
          have hb1 := (Below.refl wr.heap.size wr).alloc (Nat.le_refl _) (.cells #[.int .u64 (id : Int), .int .u64 (li : Int), .string ti, .bool dn, .float .f64 rk.b, .float .f64 es.b, .slice At nt ct] 36)
          have HC1 := Aside0.mk (HC.out.up hb1)
          have HBX := Aside0.mk (Box7.mk (heap_alloc_new wr (.cells #[.int .u64 (id : Int), .int .u64 (li : Int), .string ti, .bool dn, .float .f64 rk.b, .float .f64 es.b, .slice At nt ct] 36)))
          obtain ⟨b, hb⟩ : ∃ b, D.any (fun y => y.id == id) = b := ⟨_, rfl⟩
          have HAN := Aside0.mk hb
          obtain ⟨gq, rfl⟩ : ∃ gq, gk = gq + 1 := ⟨gk - 1, by omega⟩
          clear hb1 hx hdd htk hb hlx hix
          cases b with
          | true =>
            have HN := Aside0.mk (show D = ddp Tk.id (l.take (i + 1)) from by rw [HDD.out]; exact (if_pos HAN.out).symm)
            go_wp2_with (first
              | ((with_reducible refine gate_ (.lookup 67 (.tmp 41) (.tmp 43) false) rfl ?_); refine Kd.event_run rfl (ex_met _ HC1.out.met id HAN.out rfl rfl rfl) ?_; simp only [Act.put, List.setIfInBounds_toArray, List.set_cons_succ, List.set_cons_zero]))
            go_roundg gq
            case rel => exact ⟨i + 1, A8, n8, c8, D, by go_num, ⟨by omega⟩, HN, HC1⟩
            case measure => omega
          | false =>
            have HN := Aside0.mk (show D ++ [deep ⟨id, li, ti, dn, rk, es, (⟨At, nt, ct⟩, tg)⟩] = ddp Tk.id (l.take (i + 1)) from by rw [HDD.out]; exact (if_neg (fun h => Bool.noConfusion ((HAN.out).symm.trans h))).symm)
            have hnt : nt = tg.length := HFx.out.1
            subst hnt
            obtain ⟨W1, hW1⟩ : ∃ W1, wr.alloc (.cells #[.int .u64 (id : Int), .int .u64 (li : Int), .string ti, .bool dn, .float .f64 rk.b, .float .f64 es.b, .slice At tg.length ct] 36) = W1 := ⟨_, rfl⟩
            rw [hW1] at HC1 HBX
            obtain ⟨w2, hr2, ht2, hi2⟩ := Mp.run_update (P := Tryz.prog) (t := 67) (kt := 26) (et := 4) (d := .int .u64) (r := M) (w := W1) HC1.out.met Tryz.underlying67 Tryz.underlying26 (k := .int .u64 (id : Int)) rfl (.bool true)
            replace hi2 : Mp.Is (.int .u64) w2 M (metF (D ++ [deep ⟨id, li, ti, dn, rk, es, (⟨At, tg.length, ct⟩, tg)⟩])) := by rw [← metF_snoc D (deep ⟨id, li, ti, dn, rk, es, (⟨At, tg.length, ct⟩, tg)⟩) _ rfl]; exact hi2
            have HC2 := Aside0.mk ((HC1.out.turn ht2 hi2).up (Below.refl _ _).drew)
            have hwM : wr.heap.size ≠ M := by have := HC.out.size; omega
            have HBX2 := Aside0.mk (Box7.up (Box7.mk ((ht2.block _ hwM).trans HBX.out.at_)) (Below.refl _ _).drew)
            have HTC2 := Aside0.mk (show Kd.string.C w2.drew At tg.length tg from Kd.C_below HFx.out.2.2 HC2.out.low)
            have HW1 := Aside0.mk hW1
            have HR2 := Aside0.mk hr2
            obtain ⟨⟨p0, p1, p2, p3, p4, p5, p6⟩, pf⟩ := HBX.out.cells
            obtain ⟨⟨t0, t1, t2, t3, t4, t5, t6⟩, tf⟩ := HBX2.out.cells
            obtain ⟨⟨q0, q1⟩, qf⟩ := HC2.out.out.cells
            clear hW1 hr2 ht2 hi2 hwM
            go_wp2_with (first
              | ((with_reducible refine gate_ (.lookup 67 (.tmp 41) (.tmp 43) false) rfl ?_); rw [HW1.out]; refine Kd.event_run rfl (ex_met _ HC1.out.met id HAN.out rfl rfl rfl) ?_; simp only [Act.put, List.setIfInBounds_toArray, List.set_cons_succ, List.set_cons_zero]))
            rw [HR2.out]
            go_wp2
            refine Fork.wp_fork (Fork.Lo.rel 0) [5, 7] [] (.one 0 0 (.one 1 1 (.one 2 1 (.one 3 2 (.one 4 2 (.one 5 2 (.one 6 0 (.one 7 2 .nil)))))))) (by kernel_rfl) (by kernel_rfl) ?_
            generalize hops : List.toArray (_ : List Oper) = ops
            have HO := Aside0.mk hops
            clear hops
            ((refine Fork.plain (Fork.at_ HO.out rfl) _ rfl (fun W => by go_simp; exact rfl) ?_); simp only [Act.put, List.setIfInBounds_toArray, List.set_cons_succ, List.set_cons_zero])
            refine Fork.reads (Fork.at_ HO.out rfl) _ rfl (fun W hW => Arr.ex_load1 rfl rfl (by kernel_rfl) (Fork.bel_cell hW (by assumption))) ?_
            simp only [Act.put, List.setIfInBounds_toArray, List.set_cons_succ, List.set_cons_zero]
            refine Fork.reads (Fork.at_ HO.out rfl) _ rfl (fun W hW => by have n0 := Fork.bel_cell hW t0; have n1 := Fork.bel_cell hW t1; have n2 := Fork.bel_cell hW t2; have n3 := Fork.bel_cell hW t3; have n4 := Fork.bel_cell hW t4; have n5 := Fork.bel_cell hW t5; have n6 := Fork.bel_cell hW t6; go_simp; exact rfl) ?_
            simp only [Act.put, List.setIfInBounds_toArray, List.set_cons_succ, List.set_cons_zero]
            refine Fork.step (Fork.at_ HO.out rfl) (fun K hK => ?_)
            go_simp
            refine (own_calls w2.drew id li ti dn rk es At ct tg HTC2.out (by have h : tg.length ≤ 1000 := HTX.out; omega)).mono ?_
            rintro e w3 ⟨A2, c2, rfl, hr, hb⟩
            refine hK _ _ ⟨fun _ => .zero hb.os hb.tape hb.output, fun _ => hb⟩ ?_
            clear hK K
            have HR3 := Aside0.mk hr
            have HC3 := Aside0.mk (HC2.out.up hb)
            have HSZ := Aside0.mk (show M + 1 ≤ w2.drew.heap.size from HC2.out.size)
            have HOK := Aside0.mk (show ∀ k, w2.drew.heap.size ≤ k → M + 1 ≤ k ∧ some k ≠ (Value.slice A8 n8 c8).ownBlock from fun k hk => ⟨by have := HSZ.out; omega, fun e => by have := ((Kd.R_bound HC2.out.rT).1 k e.symm).2.2.1; omega⟩)
            clear hr hb
            try simp only [Act.put, List.setIfInBounds_toArray, List.set_cons_succ, List.set_cons_zero]
            refine Fork.step (Fork.at_ HO.out rfl) (fun K hK => ?_)
            go_simp
            refine hK _ _ ⟨fun _ => .zero rfl rfl rfl, fun _ => (Below.refl _ _).alloc (Nat.le_refl _) _⟩ ?_
            clear hK K
            try simp only [Act.put, List.setIfInBounds_toArray, List.set_cons_succ, List.set_cons_zero]
            refine Fork.step (Fork.at_ HO.out rfl) (fun K hK => ?_)
            refine Kd.R_append_step kT (W := w3) (w0 := w3) (M + 1) rfl (.tmp 50) (.tmp 53) 23 36 (.agg #[.int .u64 0, .int .u64 0, .string ⟨#[]⟩, .bool false, .float .f64 0, .float .f64 0, .slice none 0 0]) 80 rfl Tryz.underlying23 infoT rfl (by decide) (by decide) (.slice A8 n8 c8) (D.map ownT) (deep ⟨id, li, ti, dn, canW rk, canW es, (⟨A2, (canS tg).length, c2⟩, canS tg)⟩) (tkX ⟨id, li, ti, dn, canW rk, canW es, (⟨A2, (canS tg).length, c2⟩, canS tg)⟩) (fun k => M + 1 ≤ k) (fun k => w2.drew.heap.size ≤ k) rfl rfl (kT_M_mk (Kd.R_lower HR3.out HSZ.out)) HOK.out (fun k hk => Nat.le_trans HC3.out.size hk) HC3.out.rT (Below.refl _ _) HC3.out.size (by rw [List.length_map]; have := HDL.out; omega) ?_
            intro v8 w4 ho hb hg hat
            obtain ⟨A9, n9, c9, rfl⟩ := R_slice3 ho
            refine hK _ _ (Fork.Grow.of_old (.zero hb.os hb.tape hb.output) rfl) ?_
            clear hK K
            have HC5 := Aside0.mk (HC3.out.putT hb ho)
            have hMM := HC3.out.hM
            have z1 := fz2 (j := 1) ((hb.block (w.heap.size + 1 + 1) (by omega)).trans HC3.out.out.at_)
            have z0 : w4.cell? ⟨w.heap.size + 1 + 1, 1, none⟩ = some (.slice A8 n8 c8) := (two_cells ((hb.block (w.heap.size + 1 + 1) (by omega)).trans HC3.out.out.at_)).2
            clear ho hb hg hat hMM
            try simp only [Act.put, List.setIfInBounds_toArray, List.set_cons_succ, List.set_cons_zero]
            ((refine Fork.plain (Fork.at_ HO.out rfl) _ rfl (fun W => by go_simp; exact rfl) ?_); simp only [Act.put, List.setIfInBounds_toArray, List.set_cons_succ, List.set_cons_zero])
            refine Fork.step (Fork.at_ HO.out rfl) (fun K hK => ?_)
            go_simp
            refine hK _ _ (Fork.Grow.of_old (lo0_set _ _ _ _) rfl) ?_
            clear hK K
            try simp only [Act.put, List.setIfInBounds_toArray, List.set_cons_succ, List.set_cons_zero]
            refine Fork.done ?_
            go_wp2
            go_roundg gq
            case rel => exact ⟨i + 1, A9, n9, c9, _, by go_num, ⟨by omega⟩, HN, by rw [List.map_append]; exact HC5⟩
            case measure => omega
        · obtain rfl : i = l.length := by have := HI.out; omega
          have hz : ¬ (((l.length : Nat) : Int) < (l.length : Int)) := by omega
          rw [List.take_length] at HD
          have HLL := Aside0.mk (show (ddp Lst.id ls).length ≤ 1000 from Nat.le_trans (ddp_len _ _) HM.out.nl)
          have HLT := Aside0.mk (show D.length ≤ 1000 from by rw [HD.out]; exact Nat.le_trans (ddp_len _ _) HM.out.nt)
          have HDT := Aside0.mk (show (D.map ownT).Pairwise (fun a b => a.id ≠ b.id) from by rw [HD.out, List.pairwise_map]; exact ddp_keys Tk.id l)
          obtain ⟨⟨q0, q1⟩, qf⟩ := HC.out.out.cells
          go_wp2_with (first
            | (go_at_call 32; refine (sortL _ _ _ _ _ HC.out.rL (by have := HLL.out; omega) (ddp_keys Lst.id ls)).mono ?_; rintro e w2 ⟨rfl, hr, hg⟩; have HC2 := Aside0.mk (HC.out.grewL hg hr); clear hr hg q0 q1 qf; obtain ⟨⟨q0, q1⟩, qf⟩ := HC2.out.out.cells)
            | (go_at_call 34; refine (sortT _ _ _ _ _ HC2.out.rT (by rw [List.length_map]; have := HLT.out; omega) HDT.out).mono ?_; rintro e w3 ⟨rfl, hr, hg⟩; have HC3 := Aside0.mk (HC2.out.grewT hg hr); clear hr hg q0 q1 qf; obtain ⟨⟨q0, q1⟩, qf⟩ := HC3.out.out.cells; obtain ⟨⟨r0, r1⟩, rf⟩ := HC3.out.res.cells))
          simp only [Exit.noGoto]
          have hM := HC3.out.hM
          have hres : Box2 ((w3.setCell ⟨w.heap.size + 1, 0, none⟩ (.slice A n c)).setCell ⟨w.heap.size + 1, 1, none⟩ (.slice A8 n8 c8)) (w.heap.size + 1) 25 (.slice A n c) (.slice A8 n8 c8) := (HC3.out.res.set0 _).set1 _
          obtain ⟨⟨s0, s1⟩, sf⟩ := hres.cells
          refine bodyPost_ret (v := .agg #[.slice A n c, .slice A8 n8 c8]) ?_ rfl ?_
          · rw [results_one rfl]
            go_simp
          · have hmv : ∀ k, w.heap.size + 1 + 1 ≤ k → ((w3.setCell ⟨w.heap.size + 1, 0, none⟩ (.slice A n c)).setCell ⟨w.heap.size + 1, 1, none⟩ (.slice A8 n8 c8)).heap[k]? = w3.heap[k]? := fun k hk => by rw [heap_setCell_ne _ _ _ _ (by omega), heap_setCell_ne _ _ _ _ (by omega)]
            refine ⟨A, n, c, A8, n8, c8, M, rfl, by omega, ?_, ?_, (HC3.out.low.trans (below_setCell _ _ _ (by omega))).trans (below_setCell _ _ _ (by omega))⟩
            · exact Kd.R_mono (Kd.R_move (Kd.R_lower HC3.out.rL (by omega)) fun k hk => hmv k (by omega)) (fun k hk => by omega)
            · have hT2 := HC3.out.rT
              rw [HD.out] at hT2
              exact Kd.R_mono (Kd.R_move (Kd.R_lower hT2 (by omega)) fun k hk => hmv k (by omega)) (fun k hk => by omega)
end Go.Proofs.YtdjjlmphifgnnaaGreat
