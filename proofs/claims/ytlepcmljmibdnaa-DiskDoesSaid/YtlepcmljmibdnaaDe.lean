/- The disk's Read. Conditions: those of each statement. -/
import Derived.Test.YtlepcmljmibdnaaDc
namespace Go.Proofs.Ytlepcmljmibdnaa
open Go.RowKit Go.Proofs.YtlepcmljmibdnaaW.PrintWords Go.Proofs.YtlepcmljmibdnaaW.PrintLast Go.Proofs.YtlepcmljmibdnaaW.PrintMore
attribute [local go_sem] run_makeMap max2_int min2_int max_two min_two
set_option linter.unusedVariables false
set_option linter.unusedSimpArgs false

def secC (s : List Int) : Array Value := (encs (Value.int .u8) s).toArray
theorem sec_size (s : List Int) (h : s.length = 64) : (secC s).size = 64 := by simp [secC, encs_length, h]
section
variable {w : World} {o : Oper} {ρ : Operand → Value}
theorem ex_alloc_sec (W : World) (ho : o.op = .alloc 99) : (execOp ρ o).run Try.prog W = .ok (.value (.pointer (some ⟨W.heap.size, 0, none⟩))) (W.alloc (.cells (secC zsec) 99)) := by
  have hi : ∃ i, Try.prog.info? 99 = some i ∧ i.zero = some (.agg (secC zsec)) := by
    have : (Try.prog.info? 99).bind (·.zero) = some (.agg (secC zsec)) := by kernel_rfl
    exact Option.bind_eq_some_iff.1 this
  obtain ⟨i, h1, h2⟩ := hi
  exact Arr.ex_alloc ho h1 h2
theorem ex_store_sec (W : World) {x y : Operand} {g : Nat} (p q : List Int) (hp : p.length = 64) (hq : q.length = 64) (ho : o.op = .store 99 x y) (hx : ρ x = .pointer (some ⟨g, 0, none⟩)) (hy : ρ y = .agg (secC q))
    (hg : W.heap[g]? = some (.cells (secC p) 99 (0, 0))) : (execOp ρ o).run Try.prog W = .ok .skip (W.setRow g (secC q)) := by
  have hl : (secC q).toList.length = 64 := by rw [Array.length_toList]; exact sec_size q hq
  have h := Arr.ex_store (P := Try.prog) (W := W) ho hx hy (seg := (secC q).toList) rfl (by rw [hl]; kernel_rfl) hg (by rw [hl, sec_size p hp]; omega) (by
    intro u hu
    simp only [secC, encs, List.mem_map] at hu
    obtain ⟨a, _, rfl⟩ := hu
    rfl)
  rw [h]
  have e : (secC p).toList.drop (0 + (secC q).toList.length) = [] := by rw [hl]; exact List.drop_eq_nil_of_le (by rw [Array.length_toList, sec_size p hp]; omega)
  rw [e]
  simp
theorem ex_store_sec0 (W : World) {x y : Operand} (q : List Int) (hq : q.length = 64) (ho : o.op = .store 99 x y) (hx : ρ x = .pointer (some ⟨W.heap.size, 0, none⟩)) (hy : ρ y = .agg (secC q)) :
    (execOp ρ o).run Try.prog (W.alloc (.cells (secC zsec) 99)) = .ok .skip (W.alloc (.cells (secC q) 99)) := by
  rw [← Arr.setRow_alloc W (secC zsec) (secC q) 99]
  exact ex_store_sec (W.alloc (.cells (secC zsec) 99)) zsec q rfl hq ho hx hy (heap_alloc_new W _)
theorem ex_lookup_kept (W : World) {x y : Operand} {M : Nat} {K : Int → Option (List Int)} (h : Mp.Is (.int .i64) W M (keptF K)) (a : Int) {s : List Int} (hs : (K a).getD zsec = s) (ho : o.op = .lookup 92 x y false) (hx : ρ x = .map (some M)) (hy : ρ y = .int .i64 a) :
    (execOp ρ o).run Try.prog W = .ok (.value (.agg (secC s))) W := by
  subst hs
  have hz : (zeroValue 99).run Try.prog W = .ok (.agg (secC zsec)) W := by
    have : (Try.prog.info? 99).bind (·.zero) = some (.agg (secC zsec)) := by kernel_rfl
    obtain ⟨i, h1, h2⟩ := Option.bind_eq_some_iff.1 this
    exact Arr.run_zero h1 h2 W
  rw [Arr.ex_lookup ho h Try.underlying92 Try.underlying3 hx (by rw [hy]; rfl) hz, hy]
  have e : keptF K (.int .i64 a) = (K a).map secV := rfl
  rw [e]
  cases K a <;> rfl
theorem ex_lookup_bad (W : World) {x y : Operand} {M : Nat} {K : Int → Bool} (h : Mp.Is (.int .i64) W M (badF K)) (a : Int) {b : Bool} (hb : K a = b) (ho : o.op = .lookup 93 x y false) (hx : ρ x = .map (some M)) (hy : ρ y = .int .i64 a) :
    (execOp ρ o).run Try.prog W = .ok (.value (.bool b)) W := by
  subst hb
  have hz : (zeroValue 4).run Try.prog W = .ok (.bool false) W := by
    have : (Try.prog.info? 4).bind (·.zero) = some (.bool false) := by kernel_rfl
    obtain ⟨i, h1, h2⟩ := Option.bind_eq_some_iff.1 this
    exact Arr.run_zero h1 h2 W
  rw [Arr.ex_lookup ho h Try.underlying93 Try.underlying3 hx (by rw [hy]; rfl) hz, hy]
  have e : badF K (.int .i64 a) = if K a then some (.bool true) else none := rfl
  rw [e]
  cases K a <;> rfl
end
theorem sec_C (w : World) (Z : Nat) (s : List Int) (t : Nat) (fr : Nat × Nat) (hs : s.length ≤ 1000000) (h : w.heap[Z]? = some (.cells (secC s) t fr)) : (Kd.int .u8).C w (some ⟨Z, 0, none⟩) s.length s := by
  refine Kd.C_of_reads (d := (0 : Int)) (h1 := fun _ => rfl) (enc := Value.int .u8) ⟨rfl, by omega, fun _ => ⟨_, rfl, fun j hj => ?_⟩⟩
  have e : (⟨Z, 0, none⟩ : Addr).add j = ⟨Z, j, none⟩ := by unfold Addr.add; split <;> simp_all
  rw [e, cell_of_row w Z j (secC s) t fr h]
  have := encs_get (enc := Value.int .u8) (d := (0 : Int)) s j hj
  simpa [secC] using this
def readL (s : List Int) (l : List (Int × List Int)) (at_ : Int) : List Int := l.foldl (fun s x => if x.1 = at_ then x.2 else s) s
def readP (D : PD) (at_ : Int) : List Int × Int :=
  if D.dead then ([], 50) else if inB at_ D.n = false then ([], 1) else if D.bad at_ then ([], 52) else (readL ((D.kept at_).getD zsec) D.cache at_, 0)
theorem readL_succ (s : List Int) (l : List (Int × List Int)) (at_ : Int) (i : Nat) (x : Int × List Int) (h : l[i]? = some x) : readL s (l.take (i + 1)) at_ = if x.1 = at_ then x.2 else readL s (l.take i) at_ := by
  unfold readL
  rw [List.take_add_one, h, List.foldl_append]
  rfl
theorem clone_calls64 (w : World) (ad : Addr) (c : Nat) (b : List Int) (hl : b.length = 64) (hC : (Kd.int .u8).C w (some ad) 64 b) :
    Calls Try.prog 69 #[.slice (some ad) 64 c] w fun e w' => ∃ v, e = .returned v ∧ Kd.R (Kd.int .u8) 5 w' w.heap.size (fun _ => True) v b ∧ Below w.heap.size w w' := by
  rw [← hl] at hC ⊢
  exact clone_calls w ad c b (by omega) hC
theorem read_calls (w : World) (base B M Bd : Nat) (vc : Value) (D : PD) (at_ : Int) (hl : D.cache.length ≤ 1000) (h : DK w base B M Bd vc D) :
    Calls Try.prog 23 #[.pointer (some ⟨B, 0, none⟩), .int .i64 at_] w fun e w' => ∃ v, e = .returned (.tuple #[v, .int .i64 (readP D at_).2]) ∧ Kd.R (Kd.int .u8) 5 w' w.heap.size (fun _ => True) v (readP D at_).1 ∧ Below w.heap.size w w' := by
  have HL := Aside0.mk hl
  have HD := Aside0.mk h
  obtain ⟨⟨g0, g1, g2, g3, g4, g5, g6⟩, k2, k4, k5, k6⟩ := cells7 h.blk
  clear hl h k2 k4 k5 k6 g4 g5
  by_cases hd : D.dead = true
  · rw [hd] at g6
    have hf : readP D at_ = ([], 50) := by unfold readP; rw [if_pos hd]
    rw [hf]
    clear hf hd
    go_enter Try.func23, Try.ntmps23
    go_wp2_with (first | (go_at_call 19; refine (dead_calls _ B M _ g1 g6).mono ?_; rintro e w' ⟨rfl, rfl⟩))
    go_ret2
    exact ⟨_, rfl, Kd.R_nil _ _ _ _ _, Below.refl _ _⟩
  have hd0 : D.dead = false := by simpa using hd
  rw [hd0] at g6
  have HD0 := Aside0.mk hd0
  clear hd hd0
  by_cases hi : inB at_ D.n = false
  · have HI := Aside0.mk hi
    clear hi
    have hf : readP D at_ = ([], 1) := by unfold readP; rw [HD0.out, if_neg (by simp), if_pos HI.out]
    rw [hf]
    clear hf
    go_enter Try.func23, Try.ntmps23
    go_wp2_with (first | (go_at_call 19; refine (dead_calls _ B M _ g1 g6).mono ?_; rintro e w' ⟨rfl, rfl⟩) | (go_at_call 64; refine (has_calls _ B M _ at_ g0 g1).mono ?_; rw [HI.out]; rintro e w' ⟨rfl, rfl⟩))
    go_ret2
    exact ⟨_, rfl, Kd.R_nil _ _ _ _ _, Below.refl _ _⟩
  have hi0 : inB at_ D.n = true := by simpa using hi
  have HI := Aside0.mk hi0
  clear hi hi0
  obtain ⟨bd, hbd⟩ : ∃ bd, D.bad at_ = bd := ⟨_, rfl⟩
  have HBD := Aside0.mk hbd
  clear hbd
  cases bd with
  | true =>
    have hf : readP D at_ = ([], 52) := by unfold readP; rw [HD0.out, if_neg (by simp), HI.out, if_neg (by simp), if_pos HBD.out]
    rw [hf]
    clear hf
    go_enter Try.func23, Try.ntmps23
    go_wp2_with (first | (go_at_call 19; refine (dead_calls _ B M _ g1 g6).mono ?_; rintro e w' ⟨rfl, rfl⟩) | (go_at_call 64; refine (has_calls _ B M _ at_ g0 g1).mono ?_; rw [HI.out]; rintro e w' ⟨rfl, rfl⟩) | ((with_reducible refine gate_ (.lookup 93 (.tmp 21) (.tmp 22) false) rfl ?_); refine Kd.event_run rfl (ex_lookup_bad w HD.out.bad at_ HBD.out rfl rfl rfl) ?_; simp only [Act.put, List.setIfInBounds_toArray, List.set_cons_succ, List.set_cons_zero]))
    go_ret2
    exact ⟨_, rfl, Kd.R_nil _ _ _ _ _, Below.refl _ _⟩
  | false =>
    obtain ⟨s0, hs0⟩ : ∃ s0, (D.kept at_).getD zsec = s0 := ⟨_, rfl⟩
    have hf : readP D at_ = (readL s0 D.cache at_, 0) := by unfold readP; rw [HD0.out, if_neg (by simp), HI.out, if_neg (by simp), HBD.out, if_neg (by simp), hs0]
    have hs64 : s0.length = 64 := by
      rw [← hs0]
      cases hk : D.kept at_ with
      | none => rfl
      | some s => exact HD.out.sec at_ s hk
    have HS0 := Aside0.mk hs0
    have HS64 := Aside0.mk hs64
    rw [hf]
    clear hf hs0 hs64
    obtain ⟨A, c, hvc⟩ := Kd.R_slice HD.out.cache
    subst hvc
    go_enter Try.func23, Try.ntmps23
    go_wp2_with (first | (go_at_call 19; refine (dead_calls _ B M _ g1 g6).mono ?_; rintro e w' ⟨rfl, rfl⟩) | (go_at_call 64; refine (has_calls _ B M _ at_ g0 g1).mono ?_; rw [HI.out]; rintro e w' ⟨rfl, rfl⟩) | ((with_reducible refine gate_ (.lookup 93 (.tmp 21) (.tmp 22) false) rfl ?_); refine Kd.event_run rfl (ex_lookup_bad w HD.out.bad at_ HBD.out rfl rfl rfl) ?_; simp only [Act.put, List.setIfInBounds_toArray, List.set_cons_succ, List.set_cons_zero]) | ((with_reducible refine gate_ (.lookup 92 (.tmp 27) (.tmp 28) false) rfl ?_); refine Kd.event_run rfl (ex_lookup_kept w HD.out.kept at_ HS0.out rfl rfl rfl) ?_; simp only [Act.put, List.setIfInBounds_toArray, List.set_cons_succ, List.set_cons_zero]) | ((with_reducible refine gate_ (.alloc 99) rfl ?_); refine Kd.event_run rfl (ex_alloc_sec w rfl) ?_; simp only [Act.put, List.setIfInBounds_toArray, List.set_cons_succ, List.set_cons_zero]) | ((with_reducible refine gate_ (.store 99 (.tmp 6) (.tmp 29)) rfl ?_); refine Arr.skip_run rfl (ex_store_sec0 w s0 HS64.out rfl rfl rfl) ?_; have g2' := alloc_cell g2 (.cells (secC s0) 99); simp only [Act.put, List.setIfInBounds_toArray, List.set_cons_succ, List.set_cons_zero]))
    clear g0 g1 g2 g3 g6 g2'
    have HB0 := Aside0.mk (Below.alloc (Below.refl w.heap.size w) (Nat.le_refl _) (.cells (secC s0) 99))
    have HZ0 := Aside0.mk (heap_alloc_new w (.cells (secC s0) 99))
    go_loopg [35] D.cache.length (fun kq v35 w' => ∃ (i : Nat) (s : List Int), v35 = .int .i64 (i : Int) ∧ Aside0 (i + kq = D.cache.length) ∧ Aside0 (Below w.heap.size w w') ∧ Aside0 (w'.heap[w.heap.size]? = some (.cells (secC s) 99 (0, 0))) ∧ Aside0 (s.length = 64) ∧ Aside0 (readL s0 (D.cache.take i) at_ = s))
    case atStart => exact ⟨0, s0, rfl, ⟨by omega⟩, HB0, HZ0, HS64, ⟨rfl⟩⟩
    case round =>
      obtain ⟨i, s, rfl, HI2, HBr, HZ, HS, HRL⟩ := hrel
      by_cases hi : i < D.cache.length
      · obtain ⟨x, hx⟩ : ∃ x, D.cache[i]? = some x := ⟨_, List.getElem?_eq_getElem hi⟩
        have HX := Aside0.mk hx
        clear hx
        have hcw := Kd.C_below (Kd.R_reads' HD.out.cache).2.2 HBr.out
        obtain ⟨ad, e, hx2, hcell⟩ := cache_at hcw i hi x HX.out
        subst e
        have HX2 := Aside0.mk hx2
        have HCELL := Aside0.mk hcell
        have hw := wr_cell wr x
        have HW := Aside0.mk (wr_cells wr x)
        have hk2 := HL.out
        have hzl : w.heap.size < wr.heap.size := (Array.getElem?_eq_some_iff.1 HZ.out).1
        have HZL := Aside0.mk hzl
        have HZ' := Aside0.mk ((heap_alloc_old wr (.cells (wrC x) 101) HZL.out).trans HZ.out)
        have HBx := Aside0.mk (Below.alloc HBr.out HBr.out.size (.cells (wrC x) 101))
        clear hcw hx2 hcell hzl
        obtain ⟨b, hb⟩ : ∃ b, (x.1 == at_) = b := ⟨_, rfl⟩
        cases b with
        | true =>
          have HEQ := Aside0.mk (show x.1 = at_ by simpa using hb)
          go_wp2_with (first | ((with_reducible refine gate_ (.load 101 (.tmp 37)) rfl ?_); refine Kd.event_run rfl (ex_load_wr wr rfl rfl HX2.out HCELL.out) ?_; simp only [Act.put, List.setIfInBounds_toArray, List.set_cons_succ, List.set_cons_zero]) | ((with_reducible refine gate_ (.alloc 101) rfl ?_); refine Kd.event_run rfl (ex_alloc_wr wr rfl) ?_; simp only [Act.put, List.setIfInBounds_toArray, List.set_cons_succ, List.set_cons_zero]) | ((with_reducible refine gate_ (.store 101 (.tmp 8) (.tmp 38)) rfl ?_); refine Arr.skip_run rfl (ex_store_wr wr (0, zsec) x (by decide) HX2.out rfl rfl rfl) ?_; simp only [Act.put, List.setIfInBounds_toArray, List.set_cons_succ, List.set_cons_zero]) | ((with_reducible refine gate_ (.load 99 (.tmp 43)) rfl ?_); refine Kd.event_run rfl (v := .agg (secC x.2)) (Arr.ex_load rfl (ad := ⟨wr.heap.size, 1, none⟩) rfl (by kernel_rfl) (seg := encs (Value.int .u8) x.2) (by rw [encs_length, HX2.out]; kernel_rfl) HW.out) ?_; simp only [Act.put, List.setIfInBounds_toArray, List.set_cons_succ, List.set_cons_zero]) | ((with_reducible refine gate_ (.store 99 (.tmp 6) (.tmp 44)) rfl ?_); refine Arr.skip_run rfl (ex_store_sec (wr.alloc (.cells (wrC x) 101)) s x.2 HS.out HX2.out rfl rfl rfl HZ'.out) ?_; simp only [Act.put, List.setIfInBounds_toArray, List.set_cons_succ, List.set_cons_zero]))
          have hk1 := HI2.out
          obtain ⟨gq, rfl⟩ : ∃ gq, gk = gq + 1 := ⟨gk - 1, by omega⟩
          go_roundg gq
          case rel => exact ⟨i + 1, x.2, by go_num, ⟨by omega⟩, ⟨below_setRow HBx.out (Nat.le_refl _) _⟩, ⟨setRow_heap _ _ _ _ _ _ HZ'.out⟩, HX2, ⟨by rw [readL_succ s0 D.cache at_ i x HX.out, if_pos HEQ.out]⟩⟩
          case measure => omega
        | false =>
          have HEQ := Aside0.mk (show ¬ x.1 = at_ by simpa using hb)
          go_wp2_with (first | ((with_reducible refine gate_ (.load 101 (.tmp 37)) rfl ?_); refine Kd.event_run rfl (ex_load_wr wr rfl rfl HX2.out HCELL.out) ?_; simp only [Act.put, List.setIfInBounds_toArray, List.set_cons_succ, List.set_cons_zero]) | ((with_reducible refine gate_ (.alloc 101) rfl ?_); refine Kd.event_run rfl (ex_alloc_wr wr rfl) ?_; simp only [Act.put, List.setIfInBounds_toArray, List.set_cons_succ, List.set_cons_zero]) | ((with_reducible refine gate_ (.store 101 (.tmp 8) (.tmp 38)) rfl ?_); refine Arr.skip_run rfl (ex_store_wr wr (0, zsec) x (by decide) HX2.out rfl rfl rfl) ?_; simp only [Act.put, List.setIfInBounds_toArray, List.set_cons_succ, List.set_cons_zero]))
          have hk1 := HI2.out
          obtain ⟨gq, rfl⟩ : ∃ gq, gk = gq + 1 := ⟨gk - 1, by omega⟩
          go_roundg gq
          case rel => exact ⟨i + 1, s, by go_num, ⟨by omega⟩, HBx, HZ', HS, ⟨by rw [readL_succ s0 D.cache at_ i x HX.out, if_neg HEQ.out]; exact HRL.out⟩⟩
          case measure => omega
      · have hi0 := HI2.out
        obtain rfl : gk = 0 := by omega
        obtain rfl : i = D.cache.length := by omega
        clear hi0
        have hm : ¬ ((D.cache.length : Int) < (D.cache.length : Int)) := by omega
        have HRL2 := Aside0.mk (show readL s0 D.cache at_ = s by have := HRL.out; rwa [List.take_length] at this)
        have hcs := sec_C wr w.heap.size s 99 (0, 0) (by have := HS.out; omega) HZ.out
        rw [HS.out] at hcs
        have HCS := Aside0.mk hcs
        clear hcs
        go_wp2_with (go_at_call 69; refine (clone_calls64 wr _ 64 s HS.out HCS.out).mono ?_; rintro e w2 ⟨v, rfl, hr, hb2⟩; have HR := Aside0.mk hr; have HB2 := Aside0.mk hb2; clear hr hb2)
        go_ret2
        rw [HRL2.out]
        exact ⟨v, rfl, Kd.R_lower HR.out HBr.out.size, HBr.out.trans (HB2.out.mono HBr.out.size)⟩
end Go.Proofs.Ytlepcmljmibdnaa
