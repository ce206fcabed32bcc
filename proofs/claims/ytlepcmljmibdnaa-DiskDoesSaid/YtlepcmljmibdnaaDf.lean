/- The disk's loops over its cache: Flush, Crash. Conditions: those of each statement. -/
import Derived.Test.YtlepcmljmibdnaaDw
import Derived.Deep.LoopGhost
namespace Go.Proofs.Ytlepcmljmibdnaa
open Go.RowKit Go.Proofs.YtlepcmljmibdnaaW.PrintWords Go.Proofs.YtlepcmljmibdnaaW.PrintLast Go.Proofs.YtlepcmljmibdnaaW.PrintMore
attribute [local go_sem] run_makeMap max2_int min2_int max_two min_two
set_option linter.unusedVariables false
set_option linter.unusedSimpArgs false

theorem cache_at {w : World} {A : Option Addr} {n : Nat} {xs : List (Int × List Int)} (h : wrK.C w A n xs) (k : Nat) (hk : k < n) (x : Int × List Int) (hx : xs[k]? = some x) :
    ∃ ad, A = some ad ∧ x.2.length = 64 ∧ ∀ j u, (wrC x).toList[j]? = some u → w.cell? ((ad.add (k * 65)).add j) = some u := by
  obtain ⟨ad, c, e, hl, hK, hc⟩ := Kd.C_get h (0, []) (k : Int) (by omega) (by omega)
  have hx' : xs.getD (k : Int).toNat (0, []) = x := by simp [List.getD, hx]
  rw [hx'] at hK
  obtain ⟨c0, c1, rfl, h0, h1⟩ := hK
  obtain ⟨h2, rfl⟩ := Kd.arr_cells h1
  have h0' : c0 = [.int .i64 x.1] := h0
  subst h0'
  refine ⟨ad, e, h2, fun j u hu => ?_⟩
  have := hc j u (by simpa [wrC] using hu)
  rw [show ((k : Int)).toNat * wrK.sz + j = k * 65 + j by rw [Int.toNat_natCast]; rfl] at this
  rw [Addr.add_add]
  exact this

section
variable {w : World} {o : Oper} {ρ : Operand → Value}
theorem ex_load_wr (W : World) {x : Operand} {ad : Addr} (ho : o.op = .load 101 x) (hx : ρ x = .pointer (some ad)) {q : Int × List Int} (hq : q.2.length = 64)
    (hc : ∀ j u, (wrC q).toList[j]? = some u → W.cell? (ad.add j) = some u) : (execOp ρ o).run Try.prog W = .ok (.value (.agg (wrC q))) W := by
  have h := Arr.ex_load (P := Try.prog) (W := W) ho hx (by kernel_rfl) (seg := (wrC q).toList) (by rw [show (wrC q).toList.length = 65 by simp [wrC, encs_length, hq]]; kernel_rfl) hc
  simpa using h
theorem new_wr_cells (W : World) (q : Int × List Int) (j : Nat) (u : Value) (hu : (wrC q).toList[j]? = some u) : (W.alloc (.cells (wrC q) 101)).cell? ((⟨W.heap.size, 0, none⟩ : Addr).add j) = some u := by
  have e : (⟨W.heap.size, 0, none⟩ : Addr).add j = ⟨W.heap.size, j, none⟩ := by unfold Addr.add; split <;> simp_all
  rw [e]
  unfold World.cell?
  rw [heap_alloc_new]
  simpa using hu
theorem ex_alloc_wr (W : World) (ho : o.op = .alloc 101) : (execOp ρ o).run Try.prog W = .ok (.value (.pointer (some ⟨W.heap.size, 0, none⟩))) (W.alloc (.cells (wrC (0, zsec)) 101)) := by
  have hi : ∃ i, Try.prog.info? 101 = some i ∧ i.zero = some (.agg (wrC (0, zsec))) := by
    have : (Try.prog.info? 101).bind (·.zero) = some (.agg (wrC (0, zsec))) := by kernel_rfl
    exact Option.bind_eq_some_iff.1 this
  obtain ⟨i, h1, h2⟩ := hi
  exact Arr.ex_alloc ho h1 h2
theorem wr_size (q : Int × List Int) (hq : q.2.length = 64) : (wrC q).size = 65 := by simp [wrC, encs_length, hq]
theorem ex_store_wr (W : World) {x y : Operand} (p q : Int × List Int) (hp : p.2.length = 64) (hq : q.2.length = 64) (ho : o.op = .store 101 x y) (hx : ρ x = .pointer (some ⟨W.heap.size, 0, none⟩)) (hy : ρ y = .agg (wrC q)) :
    (execOp ρ o).run Try.prog (W.alloc (.cells (wrC p) 101)) = .ok .skip (W.alloc (.cells (wrC q) 101)) := by
  have hl : (wrC q).toList.length = 65 := by rw [Array.length_toList]; exact wr_size q hq
  have h := Arr.ex_store (P := Try.prog) (W := W.alloc (.cells (wrC p) 101)) ho hx hy (seg := (wrC q).toList) rfl (by rw [hl]; kernel_rfl) (heap_alloc_new W _) (by rw [hl, wr_size p hp]; omega) (by
    intro u hu
    simp only [wrC, List.toList_toArray, List.mem_cons, encs, List.mem_map] at hu
    rcases hu with rfl | ⟨a, _, rfl⟩ <;> rfl)
  rw [h, Arr.setRow_alloc]
  have e : (wrC p).toList.drop (0 + (wrC q).toList.length) = [] := by rw [hl]; exact List.drop_eq_nil_of_le (by rw [Array.length_toList, wr_size p hp]; omega)
  rw [e]
  simp
end

theorem Only.chg {w w' : World} {B : Nat} {S : Nat → Prop} (h : Only w w' B) (hs : ∀ k, k = B → S k) : Chg w w' S := ⟨h.1, h.2.1, h.2.2.1, h.2.2.2.1, fun k _ hn => h.2.2.2.2 k (fun e => hn (hs k e))⟩
theorem actP_cache (D : PD) : (actP D).1.cache = D.cache := by
  obtain ⟨n, kept, cache, bad, armed, left, dead⟩ := D
  cases armed <;> cases dead <;> by_cases h : left = 0 <;> simp [actP, h]
noncomputable def keepAll (D : PD) (l : List (Int × List Int)) : PD := l.foldl keepP D
theorem keepAll_cache (D : PD) (l : List (Int × List Int)) : (keepAll D l).cache = D.cache := by
  induction l generalizing D with
  | nil => rfl
  | cons x l ih => exact ih (keepP D x)
theorem keepAll_succ (D : PD) (l : List (Int × List Int)) (i : Nat) (x : Int × List Int) (h : l[i]? = some x) : keepAll D (l.take (i + 1)) = keepP (keepAll D (l.take i)) x := by
  unfold keepAll
  rw [List.take_add_one, h, List.foldl_append]
  rfl
theorem DK.chg {w w' : World} {base B M Bd : Nat} {vc : Value} {D : PD} (h : DK w base B M Bd vc D) (hc : Chg w w' (fun _ => False)) : DK w' base B M Bd vc D :=
  h.turn (hc.mono fun _ h => h.elim) (h.kept.same (hc.block M h.kept.lt (fun h => h))) h.sec rfl
theorem DK.grow {w : World} {base B M Bd : Nat} {vc : Value} {D : PD} (h : DK w base B M Bd vc D) (o : Obj) : DK (w.alloc o) base B M Bd vc D := h.chg ((Chg.refl w _).alloc o)
theorem DK.drew {w : World} {base B M Bd : Nat} {vc : Value} {D : PD} (h : DK w base B M Bd vc D) : DK w.drew base B M Bd vc D := h.chg (Chg.refl w _).drew
noncomputable def flushP (D : PD) : PD × Int := if (actP D).2 ≠ 0 then actP D else ({ keepAll (actP D).1 (actP D).1.cache with cache := [] }, 0)
theorem flush_calls (w : World) (base B M Bd : Nat) (vc : Value) (D : PD) (hl : D.cache.length ≤ 1000) (hbw : base ≤ w.heap.size) (h : DK w base B M Bd vc D) :
    Calls Try.prog 18 #[.pointer (some ⟨B, 0, none⟩)] w fun e w' => e = .returned (.int .i64 (flushP D).2) ∧ ∃ vc', DK w' base B M Bd vc' (flushP D).1 ∧ (vc' = vc ∨ vc' = .slice none 0 0) ∧ Chg w w' (fun k => k = B ∨ k = M) := by
  have HL := Aside0.mk hl
  have HD := Aside0.mk h
  have h1 := (cells7 h.blk).1.2.1
  clear hl h
  obtain ⟨e, he⟩ : ∃ e, (actP D).2 = e := ⟨_, rfl⟩
  obtain ⟨D1, hD1⟩ : ∃ D1, (actP D).1 = D1 := ⟨_, rfl⟩
  have HE := Aside0.mk he
  have HD1 := Aside0.mk hD1
  clear he hD1
  by_cases hz : e = 0
  · subst hz
    obtain ⟨A, c, hvc⟩ := Kd.R_slice HD.out.cache
    subst hvc
    have HC1 := Aside0.mk (show D1.cache = D.cache by rw [← HD1.out]; exact actP_cache D)
    go_enter Try.func18, Try.ntmps18
    go_wp2_with (first | (go_at_call 63; refine (ok_calls _ _ _ h1).mono ?_; rintro e w' ⟨rfl, rfl⟩) | (go_at_call 65; refine (act_calls _ base B M Bd _ D HD.out).mono ?_; rw [HE.out, HD1.out]; rintro e w1 ⟨rfl, hd, ho⟩; obtain ⟨⟨g0, g1, g2, g3, g4, g5, g6⟩, k2, k4, k5, k6⟩ := cells7 hd.blk; have HDK1 := Aside0.mk hd; have HO := Aside0.mk ho; clear hd ho))
    clear g0 g3 g4 g5 g6 k4 k5 k6
    go_loopg [19] D.cache.length (fun kq v19 w' => ∃ (i : Nat), v19 = .int .i64 (i : Int) ∧ Aside0 (i + kq = D.cache.length) ∧ Aside0 (DK w' base B M Bd (.slice A D.cache.length c) (keepAll D1 (D.cache.take i))) ∧ Aside0 (Chg w w' (fun k => k = B ∨ k = M)))
    case atStart => exact ⟨0, rfl, ⟨by omega⟩, ⟨by rw [List.take_zero]; exact HDK1.out⟩, ⟨HO.out.chg (fun _ h => .inl h)⟩⟩
    case round =>
      obtain ⟨i, rfl, HI, HDi, HCi⟩ := hrel
      have hBr := (cells7 HDi.out.blk).1
      by_cases hi : i < D.cache.length
      · obtain ⟨x, hx⟩ : ∃ x, D.cache[i]? = some x := ⟨_, List.getElem?_eq_getElem hi⟩
        have HX := Aside0.mk hx
        clear hx hBr
        have hcw := (Kd.R_reads' HDi.out.cache).2.2
        rw [keepAll_cache, HC1.out] at hcw
        obtain ⟨ad, e, hx2, hcell⟩ := cache_at hcw i hi x HX.out
        subst e
        have HX2 := Aside0.mk hx2
        have HCELL := Aside0.mk hcell
        have HNEW := Aside0.mk (new_wr_cells wr x)
        have hk2 := HL.out
        clear hcw hx2 hcell
        go_wp2_with (first
          | ((with_reducible refine gate_ (.load 101 (.tmp 21)) rfl ?_); refine Kd.event_run rfl (ex_load_wr wr rfl rfl HX2.out HCELL.out) ?_; simp only [Act.put, List.setIfInBounds_toArray, List.set_cons_succ, List.set_cons_zero])
          | ((with_reducible refine gate_ (.alloc 101) rfl ?_); refine Kd.event_run rfl (ex_alloc_wr wr rfl) ?_; simp only [Act.put, List.setIfInBounds_toArray, List.set_cons_succ, List.set_cons_zero])
          | ((with_reducible refine gate_ (.store 101 (.tmp 5) (.tmp 22)) rfl ?_); refine Arr.skip_run rfl (ex_store_wr wr (0, zsec) x (by decide) HX2.out rfl rfl rfl) ?_; simp only [Act.put, List.setIfInBounds_toArray, List.set_cons_succ, List.set_cons_zero])
          | ((with_reducible refine gate_ (.load 101 (.tmp 5)) rfl ?_); refine Kd.event_run rfl (ex_load_wr (wr.alloc (.cells (wrC x) 101)) rfl rfl HX2.out HNEW.out) ?_; simp only [Act.put, List.setIfInBounds_toArray, List.set_cons_succ, List.set_cons_zero])
          | (go_at_call 66; refine (keep_calls _ base B M Bd _ (keepAll D1 (D.cache.take i)) x HX2.out (HDi.out.grow (.cells (wrC x) 101))).mono ?_; rintro e w2 ⟨rfl, hd, hc⟩; have HD2 := Aside0.mk hd; have HC2 := Aside0.mk hc; clear hd hc))
        have hk1 := HI.out
        obtain ⟨gq, rfl⟩ : ∃ gq, gk = gq + 1 := ⟨gk - 1, by omega⟩
        go_roundg gq
        case rel => exact ⟨i + 1, by go_num, ⟨by omega⟩, ⟨by rw [keepAll_succ D1 D.cache i x HX.out]; exact HD2.out⟩, ⟨HCi.out.trans (((Chg.refl wr _).alloc _).trans (HC2.out.mono fun _ h => .inr h))⟩⟩
        case measure => omega
      · have hi0 := HI.out
        obtain rfl : gk = 0 := by omega
        obtain rfl : i = D.cache.length := by omega
        clear hi0
        have hm : ¬ ((D.cache.length : Int) < (D.cache.length : Int)) := by omega
        obtain ⟨⟨c0, c1, c2, c3, c4, c5, c6⟩, k2, k4, k5, k6⟩ := cells7 HDi.out.blk
        clear hBr c0 c1 c3 c4 c5 c6 k4 k5 k6
        go_wp2
        go_ret
        have hf : flushP D = ({ keepAll D1 (D.cache.take D.cache.length) with cache := [] }, 0) := by
          unfold flushP
          rw [if_neg (by rw [HE.out]; simp), HD1.out, HC1.out, List.take_length]
        rw [hf]
        have ho := (Only.refl wr B).set (i := 2) (.slice none 0 0)
        exact ⟨rfl, _, HDi.out.only ho (set7 HDi.out.blk 2 _) rfl rfl (.inr ⟨rfl, rfl⟩) rfl HDi.out.hl, .inr rfl, HCi.out.trans (ho.chg fun _ h => .inl h)⟩
  · have hz' : (e == 0) = false := by simpa using hz
    have HZ := Aside0.mk hz
    clear hz
    go_enter Try.func18, Try.ntmps18
    go_wp2_with (first | (go_at_call 63; refine (ok_calls _ _ _ h1).mono ?_; rintro e w' ⟨rfl, rfl⟩) | (go_at_call 65; refine (act_calls _ base B M Bd vc D HD.out).mono ?_; rw [HE.out, HD1.out]; rintro e w1 ⟨rfl, hd, ho⟩; have HDK1 := Aside0.mk hd; have HO := Aside0.mk ho; clear hd ho))
    go_ret
    have hf : flushP D = (D1, e) := by unfold flushP; rw [if_pos (by rw [HE.out]; exact HZ.out), ← HD1.out, ← HE.out]
    rw [hf]
    exact ⟨rfl, vc, HDK1.out, .inl rfl, HO.out.chg (fun _ h => .inl h)⟩
theorem flush_none (w : World) : Calls Try.prog 18 #[.pointer none] w fun e w' => e = .returned (.int .i64 0) ∧ w = w' := by
  go_enter Try.func18, Try.ntmps18
  go_wp2_with (go_at_call 63; refine (ok_none _).mono ?_; rintro e w' ⟨rfl, rfl⟩)
  go_ret
  exact ⟨rfl, rfl⟩
/-- the first i writes, of which those are kept that ks names -/
noncomputable def sel (D : PD) (l : List (Int × List Int)) (ks : List Bool) : Nat → PD
  | 0 => D
  | i + 1 => if ks.getD i false then keepP (sel D l ks i) (l.getD i (0, [])) else sel D l ks i
theorem sel_cache (D : PD) (l : List (Int × List Int)) (ks : List Bool) (i : Nat) : (sel D l ks i).cache = D.cache := by
  induction i with
  | zero => rfl
  | succ i ih => unfold sel; split <;> exact ih
noncomputable def crashP (D : PD) (ks : List Bool) : PD := restP (sel D D.cache ks D.cache.length)
theorem crash_none (w : World) (v : Value) : Calls Try.prog 20 #[.pointer none, v] w fun e w' => e = .returned (.tuple #[]) ∧ w = w' := by
  go_enter Try.func20, Try.ntmps20
  go_wp2_with (go_at_call 63; refine (ok_none _).mono ?_; rintro e w' ⟨rfl, rfl⟩)
  ((try simp only [Exit.inBlock, Exit.then]); refine bodyPost_ret (results_none rfl _ _ _) rfl ?_)
  exact ⟨rfl, rfl⟩
theorem crash_calls (w : World) (base B M Bd : Nat) (vc : Value) (D : PD) (Ak : Option Addr) (ck : Nat) (ks : List Bool) (hl : D.cache.length ≤ 1000) (hbw : base ≤ w.heap.size) (h : DK w base B M Bd vc D)
    (hks : ∀ w', Chg w w' (fun k => k = B ∨ k = M) → Kd.bool.C w' Ak ks.length ks) :
    Calls Try.prog 20 #[.pointer (some ⟨B, 0, none⟩), .slice Ak ks.length ck] w fun e w' => e = .returned (.tuple #[]) ∧ DK w' base B M Bd (.slice none 0 0) (crashP D ks) ∧ Chg w w' (fun k => k = B ∨ k = M) := by
  have HL := Aside0.mk hl
  have HD := Aside0.mk h
  have HK := Aside0.mk hks
  obtain ⟨⟨g0, g1, g2, g3, g4, g5, g6⟩, k2, k4, k5, k6⟩ := cells7 h.blk
  clear hl h hks
  obtain ⟨A, c, hvc⟩ := Kd.R_slice HD.out.cache
  subst hvc
  go_enter Try.func20, Try.ntmps20
  go_wp2_with (first | (go_at_call 63; refine (ok_calls _ _ _ g1).mono ?_; rintro e w' ⟨rfl, rfl⟩))
  clear g0 g3 g4 g5 g6 k4 k5 k6
  go_loopg [14] D.cache.length (fun kq v14 w' => ∃ (i : Nat), v14 = .int .i64 (i : Int) ∧ Aside0 (i + kq = D.cache.length) ∧ Aside0 (DK w' base B M Bd (.slice A D.cache.length c) (sel D D.cache ks i)) ∧ Aside0 (Chg w w' (fun k => k = B ∨ k = M)))
  case atStart => exact ⟨0, rfl, ⟨by omega⟩, HD, ⟨Chg.refl _ _⟩⟩
  case round =>
    obtain ⟨i, rfl, HI, HDi, HCi⟩ := hrel
    by_cases hi : i < D.cache.length
    · obtain ⟨x, hx⟩ : ∃ x, D.cache[i]? = some x := ⟨_, List.getElem?_eq_getElem hi⟩
      have HX := Aside0.mk hx
      clear hx
      have hcw := (Kd.R_reads' HDi.out.cache).2.2
      rw [sel_cache] at hcw
      obtain ⟨ad, e, hx2, hcell⟩ := cache_at hcw i hi x HX.out
      subst e
      have HX2 := Aside0.mk hx2
      have HCELL := Aside0.mk hcell
      have HNEW := Aside0.mk (new_wr_cells wr x)
      have hk2 := HL.out
      have hgs : (D.cache.getD i (0, [])) = x := by simp [List.getD, HX.out]
      have HGS := Aside0.mk hgs
      clear hcw hx2 hcell hgs
      by_cases hik : i < ks.length
      · obtain ⟨b, hb⟩ : ∃ b, ks.getD i false = b := ⟨_, rfl⟩
        have HB := Aside0.mk hb
        have hcb := Kd.at_bool (HK.out (wr.alloc (.cells (wrC x) 101)) (HCi.out.alloc _)) (i : Int) (by omega) (by omega)
        rw [show rdOf false ks (i : Int) = b by rw [← HB.out]; simp [rdOf]] at hcb
        obtain ⟨ak, e, hcb⟩ := hcb
        subst e
        rw [Int.toNat_natCast] at hcb
        clear hb
        cases b with
        | true =>
          go_wp2_with (first
            | ((with_reducible refine gate_ (.load 101 (.tmp 17)) rfl ?_); refine Kd.event_run rfl (ex_load_wr wr rfl rfl HX2.out HCELL.out) ?_; simp only [Act.put, List.setIfInBounds_toArray, List.set_cons_succ, List.set_cons_zero])
            | ((with_reducible refine gate_ (.alloc 101) rfl ?_); refine Kd.event_run rfl (ex_alloc_wr wr rfl) ?_; simp only [Act.put, List.setIfInBounds_toArray, List.set_cons_succ, List.set_cons_zero])
            | ((with_reducible refine gate_ (.store 101 (.tmp 5) (.tmp 18)) rfl ?_); refine Arr.skip_run rfl (ex_store_wr wr (0, zsec) x (by decide) HX2.out rfl rfl rfl) ?_; simp only [Act.put, List.setIfInBounds_toArray, List.set_cons_succ, List.set_cons_zero])
            | ((with_reducible refine gate_ (.load 101 (.tmp 5)) rfl ?_); refine Kd.event_run rfl (ex_load_wr (wr.alloc (.cells (wrC x) 101)) rfl rfl HX2.out HNEW.out) ?_; simp only [Act.put, List.setIfInBounds_toArray, List.set_cons_succ, List.set_cons_zero])
            | (go_at_call 66; refine (keep_calls _ base B M Bd _ (sel D D.cache ks i) x HX2.out (HDi.out.grow (.cells (wrC x) 101))).mono ?_; rintro e w2 ⟨rfl, hd, hc⟩; have HD2 := Aside0.mk hd; have HC2 := Aside0.mk hc; clear hd hc))
          have hk1 := HI.out
          obtain ⟨gq, rfl⟩ : ∃ gq, gk = gq + 1 := ⟨gk - 1, by omega⟩
          go_roundg gq
          case rel => exact ⟨i + 1, by go_num, ⟨by omega⟩, ⟨by unfold sel; rw [HB.out, HGS.out, if_pos rfl]; exact HD2.out⟩, ⟨HCi.out.trans (((Chg.refl wr _).alloc _).trans (HC2.out.mono fun _ h => .inr h))⟩⟩
          case measure => omega
        | false =>
          go_wp2_with (first
            | ((with_reducible refine gate_ (.load 101 (.tmp 17)) rfl ?_); refine Kd.event_run rfl (ex_load_wr wr rfl rfl HX2.out HCELL.out) ?_; simp only [Act.put, List.setIfInBounds_toArray, List.set_cons_succ, List.set_cons_zero])
            | ((with_reducible refine gate_ (.alloc 101) rfl ?_); refine Kd.event_run rfl (ex_alloc_wr wr rfl) ?_; simp only [Act.put, List.setIfInBounds_toArray, List.set_cons_succ, List.set_cons_zero])
            | ((with_reducible refine gate_ (.store 101 (.tmp 5) (.tmp 18)) rfl ?_); refine Arr.skip_run rfl (ex_store_wr wr (0, zsec) x (by decide) HX2.out rfl rfl rfl) ?_; simp only [Act.put, List.setIfInBounds_toArray, List.set_cons_succ, List.set_cons_zero])
            | ((with_reducible refine gate_ (.load 101 (.tmp 5)) rfl ?_); refine Kd.event_run rfl (ex_load_wr (wr.alloc (.cells (wrC x) 101)) rfl rfl HX2.out HNEW.out) ?_; simp only [Act.put, List.setIfInBounds_toArray, List.set_cons_succ, List.set_cons_zero]))
          have hk1 := HI.out
          obtain ⟨gq, rfl⟩ : ∃ gq, gk = gq + 1 := ⟨gk - 1, by omega⟩
          go_roundg gq
          case rel => exact ⟨i + 1, by go_num, ⟨by omega⟩, ⟨by unfold sel; rw [HB.out]; exact HDi.out.grow _⟩, ⟨HCi.out.alloc _⟩⟩
          case measure => omega
      · have hg : ks.getD i false = false := by simp [List.getD, List.getElem?_eq_none (Nat.le_of_not_lt hik)]
        have HB := Aside0.mk hg
        clear hg
        go_wp2_with (first
          | ((with_reducible refine gate_ (.load 101 (.tmp 17)) rfl ?_); refine Kd.event_run rfl (ex_load_wr wr rfl rfl HX2.out HCELL.out) ?_; simp only [Act.put, List.setIfInBounds_toArray, List.set_cons_succ, List.set_cons_zero])
          | ((with_reducible refine gate_ (.alloc 101) rfl ?_); refine Kd.event_run rfl (ex_alloc_wr wr rfl) ?_; simp only [Act.put, List.setIfInBounds_toArray, List.set_cons_succ, List.set_cons_zero])
          | ((with_reducible refine gate_ (.store 101 (.tmp 5) (.tmp 18)) rfl ?_); refine Arr.skip_run rfl (ex_store_wr wr (0, zsec) x (by decide) HX2.out rfl rfl rfl) ?_; simp only [Act.put, List.setIfInBounds_toArray, List.set_cons_succ, List.set_cons_zero])
          | ((with_reducible refine gate_ (.load 101 (.tmp 5)) rfl ?_); refine Kd.event_run rfl (ex_load_wr (wr.alloc (.cells (wrC x) 101)) rfl rfl HX2.out HNEW.out) ?_; simp only [Act.put, List.setIfInBounds_toArray, List.set_cons_succ, List.set_cons_zero]))
        have hk1 := HI.out
        obtain ⟨gq, rfl⟩ : ∃ gq, gk = gq + 1 := ⟨gk - 1, by omega⟩
        go_roundg gq
        case rel => exact ⟨i + 1, by go_num, ⟨by omega⟩, ⟨by unfold sel; rw [HB.out]; exact HDi.out.grow _⟩, ⟨HCi.out.alloc _⟩⟩
        case measure => omega
    · have hi0 := HI.out
      obtain rfl : gk = 0 := by omega
      obtain rfl : i = D.cache.length := by omega
      clear hi0
      have hm : ¬ ((D.cache.length : Int) < (D.cache.length : Int)) := by omega
      go_wp2_with (go_at_call 67; refine (rest_calls _ base B M Bd _ _ HDi.out).mono ?_; rintro e w2 ⟨rfl, hd, hc⟩; have HD2 := Aside0.mk hd; have HC2 := Aside0.mk hc; clear hd hc)
      go_end0
      exact ⟨rfl, HD2.out, HCi.out.trans (HC2.out.chg fun _ h => .inl h)⟩
end Go.Proofs.Ytlepcmljmibdnaa
