/- Parts of one proof, joined: Df, Dr, Dc, De, Aw, Do. Conditions: those of each statement. -/
import Derived.Test.YtlepcmljmibdnaaWz0
import Derived.Deep.LoopGhost
import Derived.Lib.SliceRun
import Derived.Lib.SlBytesConst
import Derived.Shelf.SlMaps.Clone
import Derived.Deep.RegionWith
namespace Go.Proofs.Ytlepcmljmibdnaa
open Go.RowKit Go.Proofs.YtlepcmljmibdnaaW.PrintWords Go.Proofs.YtlepcmljmibdnaaW.PrintLast Go.Proofs.YtlepcmljmibdnaaW.PrintMore
attribute [local go_sem] run_makeMap max2_int min2_int max_two min_two
set_option linter.unusedVariables false
set_option linter.unusedSimpArgs false

theorem cache_at {w : World} {A : Option Addr} {n : Nat} {xs : List (Int × List Int)} (h : wrK.C w A n xs) (k : Nat) (hk : k < n) (x : Int × List Int) (hx : xs[k]? = some x) :
    ∃ ad, A = some ad ∧ x.2.length = 64 ∧ ∀ j u, (wrC x).toList[j]? = some u → w.cell? ((ad.add (k * 65)).add j) = some u := by
  obtain ⟨ad, c, e, hl, hK, hc⟩ := Kd.C_get h (0, []) (k : Int) (by omega) (by omega)
  have hx' : xs.getD (k : Int).toNat (0, []) = x := by simp [List.getD, hx]
  rw [hx'] at hK
  obtain ⟨c0, c1, rfl, h0, h1⟩ := hK
  obtain ⟨h2, rfl⟩ := Kd.arr_cells h1
  have h0' : c0 = [.int .i64 x.1] := h0
  subst h0'
  refine ⟨ad, e, h2, fun j u hu => ?_⟩
  have := hc j u (by simpa [wrC] using hu)
  rw [show ((k : Int)).toNat * wrK.sz + j = k * 65 + j by rw [Int.toNat_natCast]; rfl] at this
  rw [Addr.add_add]
  exact this

section
variable {w : World} {o : Oper} {ρ : Operand → Value}
theorem ex_load_wr (W : World) {x : Operand} {ad : Addr} (ho : o.op = .load 101 x) (hx : ρ x = .pointer (some ad)) {q : Int × List Int} (hq : q.2.length = 64)
    (hc : ∀ j u, (wrC q).toList[j]? = some u → W.cell? (ad.add j) = some u) : (execOp ρ o).run Try.prog W = .ok (.value (.agg (wrC q))) W := by
  have h := Arr.ex_load (P := Try.prog) (W := W) ho hx (by kernel_rfl) (seg := (wrC q).toList) (by rw [show (wrC q).toList.length = 65 by simp [wrC, encs_length, hq]]; kernel_rfl) hc
  simpa using h
theorem new_wr_cells (W : World) (q : Int × List Int) (j : Nat) (u : Value) (hu : (wrC q).toList[j]? = some u) : (W.alloc (.cells (wrC q) 101)).cell? ((⟨W.heap.size, 0, none⟩ : Addr).add j) = some u := by
  have e : (⟨W.heap.size, 0, none⟩ : Addr).add j = ⟨W.heap.size, j, none⟩ := by unfold Addr.add; split <;> simp_all
  rw [e]
  unfold World.cell?
  rw [heap_alloc_new]
  simpa using hu
theorem ex_alloc_wr (W : World) (ho : o.op = .alloc 101) : (execOp ρ o).run Try.prog W = .ok (.value (.pointer (some ⟨W.heap.size, 0, none⟩))) (W.alloc (.cells (wrC (0, zsec)) 101)) := by
  have hi : ∃ i, Try.prog.info? 101 = some i ∧ i.zero = some (.agg (wrC (0, zsec))) := by
    have : (Try.prog.info? 101).bind (·.zero) = some (.agg (wrC (0, zsec))) := by kernel_rfl
    exact Option.bind_eq_some_iff.1 this
  obtain ⟨i, h1, h2⟩ := hi
  exact Arr.ex_alloc ho h1 h2
theorem wr_size (q : Int × List Int) (hq : q.2.length = 64) : (wrC q).size = 65 := by simp [wrC, encs_length, hq]
theorem ex_store_wr (W : World) {x y : Operand} (p q : Int × List Int) (hp : p.2.length = 64) (hq : q.2.length = 64) (ho : o.op = .store 101 x y) (hx : ρ x = .pointer (some ⟨W.heap.size, 0, none⟩)) (hy : ρ y = .agg (wrC q)) :
    (execOp ρ o).run Try.prog (W.alloc (.cells (wrC p) 101)) = .ok .skip (W.alloc (.cells (wrC q) 101)) := by
  have hl : (wrC q).toList.length = 65 := by rw [Array.length_toList]; exact wr_size q hq
  have h := Arr.ex_store (P := Try.prog) (W := W.alloc (.cells (wrC p) 101)) ho hx hy (seg := (wrC q).toList) rfl (by rw [hl]; kernel_rfl) (heap_alloc_new W _) (by rw [hl, wr_size p hp]; omega) (by
    intro u hu
    simp only [wrC, List.toList_toArray, List.mem_cons, encs, List.mem_map] at hu
    rcases hu with rfl | ⟨a, _, rfl⟩ <;> rfl)
  rw [h, Arr.setRow_alloc]
  have e : (wrC p).toList.drop (0 + (wrC q).toList.length) = [] := by rw [hl]; exact List.drop_eq_nil_of_le (by rw [Array.length_toList, wr_size p hp]; omega)
  rw [e]
  simp
end

theorem Only.chg {w w' : World} {B : Nat} {S : Nat → Prop} (h : Only w w' B) (hs : ∀ k, k = B → S k) : Chg w w' S := ⟨h.1, h.2.1, h.2.2.1, h.2.2.2.1, fun k _ hn => h.2.2.2.2 k (fun e => hn (hs k e))⟩
theorem actP_cache (D : PD) : (actP D).1.cache = D.cache := by
  obtain ⟨n, kept, cache, bad, armed, left, dead⟩ := D
  cases armed <;> cases dead <;> by_cases h : left = 0 <;> simp [actP, h]
noncomputable def keepAll (D : PD) (l : List (Int × List Int)) : PD := l.foldl keepP D
theorem keepAll_cache (D : PD) (l : List (Int × List Int)) : (keepAll D l).cache = D.cache := by
  induction l generalizing D with
  | nil => rfl
  | cons x l ih => exact ih (keepP D x)
theorem keepAll_succ (D : PD) (l : List (Int × List Int)) (i : Nat) (x : Int × List Int) (h : l[i]? = some x) : keepAll D (l.take (i + 1)) = keepP (keepAll D (l.take i)) x := by
  unfold keepAll
  rw [List.take_add_one, h, List.foldl_append]
  rfl
theorem DK.chg {w w' : World} {base B M Bd : Nat} {vc : Value} {D : PD} (h : DK w base B M Bd vc D) (hc : Chg w w' (fun _ => False)) : DK w' base B M Bd vc D :=
  h.turn (hc.mono fun _ h => h.elim) (h.kept.same (hc.block M h.kept.lt (fun h => h))) h.sec rfl
theorem DK.grow {w : World} {base B M Bd : Nat} {vc : Value} {D : PD} (h : DK w base B M Bd vc D) (o : Obj) : DK (w.alloc o) base B M Bd vc D := h.chg ((Chg.refl w _).alloc o)
theorem DK.drew {w : World} {base B M Bd : Nat} {vc : Value} {D : PD} (h : DK w base B M Bd vc D) : DK w.drew base B M Bd vc D := h.chg (Chg.refl w _).drew
noncomputable def flushP (D : PD) : PD × Int := if (actP D).2 ≠ 0 then actP D else ({ keepAll (actP D).1 (actP D).1.cache with cache := [] }, 0)
theorem flush_calls (w : World) (base B M Bd : Nat) (vc : Value) (D : PD) (hl : D.cache.length ≤ 1000) (hbw : base ≤ w.heap.size) (h : DK w base B M Bd vc D) :
    Calls Try.prog 18 #[.pointer (some ⟨B, 0, none⟩)] w fun e w' => e = .returned (.int .i64 (flushP D).2) ∧ ∃ vc', DK w' base B M Bd vc' (flushP D).1 ∧ (vc' = vc ∨ vc' = .slice none 0 0) ∧ Chg w w' (fun k => k = B ∨ k = M) := by
  have HL := Aside0.mk hl
  have HD := Aside0.mk h
  have h1 := (cells7 h.blk).1.2.1
  clear hl h
  obtain ⟨e, he⟩ : ∃ e, (actP D).2 = e := ⟨_, rfl⟩
  obtain ⟨D1, hD1⟩ : ∃ D1, (actP D).1 = D1 := ⟨_, rfl⟩
  have HE := Aside0.mk he
  have HD1 := Aside0.mk hD1
  clear he hD1
  by_cases hz : e = 0
  · subst hz
    obtain ⟨A, c, hvc⟩ := Kd.R_slice HD.out.cache
    subst hvc
    have HC1 := Aside0.mk (show D1.cache = D.cache by rw [← HD1.out]; exact actP_cache D)
    go_enter Try.func18, Try.ntmps18
    go_wp2_with (first | (go_at_call 63; refine (ok_calls _ _ _ h1).mono ?_; rintro e w' ⟨rfl, rfl⟩) | (go_at_call 65; refine (act_calls _ base B M Bd _ D HD.out).mono ?_; rw [HE.out, HD1.out]; rintro e w1 ⟨rfl, hd, ho⟩; obtain ⟨⟨g0, g1, g2, g3, g4, g5, g6⟩, k2, k4, k5, k6⟩ := cells7 hd.blk; have HDK1 := Aside0.mk hd; have HO := Aside0.mk ho; clear hd ho))
    clear g0 g3 g4 g5 g6 k4 k5 k6
    go_loopg [19] D.cache.length (fun kq v19 w' => ∃ (i : Nat), v19 = .int .i64 (i : Int) ∧ Aside0 (i + kq = D.cache.length) ∧ Aside0 (DK w' base B M Bd (.slice A D.cache.length c) (keepAll D1 (D.cache.take i))) ∧ Aside0 (Chg w w' (fun k => k = B ∨ k = M)))
    case atStart => exact ⟨0, rfl, ⟨by omega⟩, ⟨by rw [List.take_zero]; exact HDK1.out⟩, ⟨HO.out.chg (fun _ h => .inl h)⟩⟩
    case round =>
      obtain ⟨i, rfl, HI, HDi, HCi⟩ := hrel
      have hBr := (cells7 HDi.out.blk).1
      by_cases hi : i < D.cache.length
      · obtain ⟨x, hx⟩ : ∃ x, D.cache[i]? = some x := ⟨_, List.getElem?_eq_getElem hi⟩
        have HX := Aside0.mk hx
        clear hx hBr
        have hcw := (Kd.R_reads' HDi.out.cache).2.2
        rw [keepAll_cache, HC1.out] at hcw
        obtain ⟨ad, e, hx2, hcell⟩ := cache_at hcw i hi x HX.out
        subst e
        have HX2 := Aside0.mk hx2
        have HCELL := Aside0.mk hcell
        have HNEW := Aside0.mk (new_wr_cells wr x)
        have hk2 := HL.out
        clear hcw hx2 hcell
        go_wp2_with (first
          | ((with_reducible refine gate_ (.load 101 (.tmp 21)) rfl ?_); refine Kd.event_run rfl (ex_load_wr wr rfl rfl HX2.out HCELL.out) ?_; simp only [Act.put, List.setIfInBounds_toArray, List.set_cons_succ, List.set_cons_zero])
          | ((with_reducible refine gate_ (.alloc 101) rfl ?_); refine Kd.event_run rfl (ex_alloc_wr wr rfl) ?_; simp only [Act.put, List.setIfInBounds_toArray, List.set_cons_succ, List.set_cons_zero])
          | ((with_reducible refine gate_ (.store 101 (.tmp 5) (.tmp 22)) rfl ?_); refine Arr.skip_run rfl (ex_store_wr wr (0, zsec) x (by decide) HX2.out rfl rfl rfl) ?_; simp only [Act.put, List.setIfInBounds_toArray, List.set_cons_succ, List.set_cons_zero])
          | ((with_reducible refine gate_ (.load 101 (.tmp 5)) rfl ?_); refine Kd.event_run rfl (ex_load_wr (wr.alloc (.cells (wrC x) 101)) rfl rfl HX2.out HNEW.out) ?_; simp only [Act.put, List.setIfInBounds_toArray, List.set_cons_succ, List.set_cons_zero])
          | (go_at_call 66; refine (keep_calls _ base B M Bd _ (keepAll D1 (D.cache.take i)) x HX2.out (HDi.out.grow (.cells (wrC x) 101))).mono ?_; rintro e w2 ⟨rfl, hd, hc⟩; have HD2 := Aside0.mk hd; have HC2 := Aside0.mk hc; clear hd hc))
        have hk1 := HI.out
        obtain ⟨gq, rfl⟩ : ∃ gq, gk = gq + 1 := ⟨gk - 1, by omega⟩
        go_roundg gq
        case rel => exact ⟨i + 1, by go_num, ⟨by omega⟩, ⟨by rw [keepAll_succ D1 D.cache i x HX.out]; exact HD2.out⟩, ⟨HCi.out.trans (((Chg.refl wr _).alloc _).trans (HC2.out.mono fun _ h => .inr h))⟩⟩
        case measure => omega
      · have hi0 := HI.out
        obtain rfl : gk = 0 := by omega
        obtain rfl : i = D.cache.length := by omega
        clear hi0
        have hm : ¬ ((D.cache.length : Int) < (D.cache.length : Int)) := by omega
        obtain ⟨⟨c0, c1, c2, c3, c4, c5, c6⟩, k2, k4, k5, k6⟩ := cells7 HDi.out.blk
        clear hBr c0 c1 c3 c4 c5 c6 k4 k5 k6
        go_wp2
        go_ret
        have hf : flushP D = ({ keepAll D1 (D.cache.take D.cache.length) with cache := [] }, 0) := by
          unfold flushP
          rw [if_neg (by rw [HE.out]; simp), HD1.out, HC1.out, List.take_length]
        rw [hf]
        have ho := (Only.refl wr B).set (i := 2) (.slice none 0 0)
        exact ⟨rfl, _, HDi.out.only ho (set7 HDi.out.blk 2 _) rfl rfl (.inr ⟨rfl, rfl⟩) rfl HDi.out.hl, .inr rfl, HCi.out.trans (ho.chg fun _ h => .inl h)⟩
  · have hz' : (e == 0) = false := by simpa using hz
    have HZ := Aside0.mk hz
    clear hz
    go_enter Try.func18, Try.ntmps18
    go_wp2_with (first | (go_at_call 63; refine (ok_calls _ _ _ h1).mono ?_; rintro e w' ⟨rfl, rfl⟩) | (go_at_call 65; refine (act_calls _ base B M Bd vc D HD.out).mono ?_; rw [HE.out, HD1.out]; rintro e w1 ⟨rfl, hd, ho⟩; have HDK1 := Aside0.mk hd; have HO := Aside0.mk ho; clear hd ho))
    go_ret
    have hf : flushP D = (D1, e) := by unfold flushP; rw [if_pos (by rw [HE.out]; exact HZ.out), ← HD1.out, ← HE.out]
    rw [hf]
    exact ⟨rfl, vc, HDK1.out, .inl rfl, HO.out.chg (fun _ h => .inl h)⟩
/-- the first i writes, of which those are kept that ks names -/
noncomputable def sel (D : PD) (l : List (Int × List Int)) (ks : List Bool) : Nat → PD
  | 0 => D
  | i + 1 => if ks.getD i false then keepP (sel D l ks i) (l.getD i (0, [])) else sel D l ks i
noncomputable def crashP (D : PD) (ks : List Bool) : PD := restP (sel D D.cache ks D.cache.length)
end Go.Proofs.Ytlepcmljmibdnaa
namespace Go.Proofs.Ytlepcmljmibdnaa
open Go.RowKit Go.Proofs.YtlepcmljmibdnaaW.PrintWords Go.Proofs.YtlepcmljmibdnaaW.PrintLast Go.Proofs.YtlepcmljmibdnaaW.PrintMore
attribute [local go_sem] run_makeMap max2_int min2_int max_two min_two
set_option linter.unusedVariables false
set_option linter.unusedSimpArgs false

/-- the blocks of a disk -/
def FP (B M Bd : Nat) (vc : Value) (k : Nat) : Prop := k = B ∨ k = M ∨ k = Bd ∨ some k = vc.ownBlock
theorem DK.fp {w : World} {base B M Bd : Nat} {vc : Value} {D : PD} (h : DK w base B M Bd vc D) (k : Nat) (hk : FP B M Bd vc k) : base ≤ k ∧ k < w.heap.size := by
  rcases hk with rfl | rfl | rfl | hk
  · exact ⟨h.hB, (Array.getElem?_eq_some_iff.1 h.blk).1⟩
  · exact ⟨h.hM, h.kept.lt⟩
  · exact ⟨h.hBd, h.bad.lt⟩
  · have h1 := (Kd.R_base h.cache) k hk.symm
    have h2 := (Kd.R_lt h.cache) k hk.symm
    exact ⟨h1, h2⟩
def pad (b : List Int) : List Int := b ++ List.replicate (64 - b.length) 0
def writeP (D : PD) (at_ : Int) (b : List Int) : PD × Int :=
  if D.dead then (D, 50) else if inB at_ D.n = false then (D, 1) else if 64 < b.length then (D, 2) else if (actP D).2 ≠ 0 then actP D else ({ (actP D).1 with cache := (actP D).1.cache ++ [(at_, pad b)] }, 0)
theorem run_copy_into (W : World) (at_ : Int) (b : List Int) (hb : b.length ≤ 64) (A : Option Addr) (c : Nat) (ty : TypeId) (hC : (Kd.int .u8).C (W.alloc (.cells (wrC (at_, zsec)) 101)) A b.length b) :
    (Builtin.copy_ #[29, 29] ty #[.slice (some ⟨W.heap.size, 1, none⟩) 64 64, .slice A b.length c]).run Try.prog (W.alloc (.cells (wrC (at_, zsec)) 101)) = .ok (goInt b.length) (W.alloc (.cells (wrC (at_, pad b)) 101)) := by
  have hR := Kd.reads_of_C (enc := Value.int .u8) (d := (0 : Int)) (h1 := fun _ => rfl) hC
  by_cases h0 : b.length = 0
  · obtain rfl : b = [] := List.eq_nil_of_length_eq_zero h0
    exact run_copy_none (P := Try.prog) _ 29 29 ty 5 _ A 64 64 0 c Try.underlying29 (by kernel_rfl) rfl
  · obtain ⟨ad, rfl, hc⟩ := hR.2.2 (by omega)
    have hl : (encs (Value.int .u8) b).length = b.length := encs_length _
    have h := run_copy_row (P := Try.prog) (W.alloc (.cells (wrC (at_, zsec)) 101)) 29 29 ty 5 W.heap.size 1 64 64 ad b.length c (wrC (at_, zsec)) 101 (encs (Value.int .u8) b) Try.underlying29 (by kernel_rfl) (heap_alloc_new W _)
      (by rw [hl]; exact (Nat.min_eq_left hb).symm) (by
        intro j v hj
        have hj' : j < b.length := by have := (List.getElem?_eq_some_iff.1 hj).1; omega
        rw [encs_get (d := 0) b j hj'] at hj
        obtain rfl := Option.some.inj hj
        exact hc j hj') (by rw [hl, wr_size _ (by rfl)]; omega) (by intro v hv; simp only [encs, List.mem_map] at hv; obtain ⟨a, _, rfl⟩ := hv; rfl)
    rw [h, Arr.setRow_alloc, hl]
    have e : ((wrC (at_, zsec)).toList.take 1 ++ encs (Value.int .u8) b ++ (wrC (at_, zsec)).toList.drop (1 + b.length)).toArray = wrC (at_, pad b) := by
      unfold wrC pad
      rw [Nat.add_comm 1 b.length]
      simp only [List.take_succ_cons, List.take_zero, List.drop_succ_cons, encs_append, List.singleton_append, List.cons_append, List.nil_append]
      rw [show (encs (Value.int .u8) zsec).drop b.length = encs (Value.int .u8) (List.replicate (64 - b.length) 0) by unfold encs zsec; rw [List.map_replicate, List.drop_replicate, List.map_replicate]]
    rw [e]
theorem wr_M {w : World} {base : Nat} {ok : Nat → Prop} (q : Int × List Int) (hq : q.2.length = 64) : wrK.M w base ok q (wrC q).toList :=
  ⟨[.int .i64 q.1], encs (Value.int .u8) q.2, rfl, rfl, Kd.arr_of_cells hq⟩
theorem pad_length (b : List Int) (hb : b.length ≤ 64) : (pad b).length = 64 := by simp [pad]; omega
theorem info101 : (Try.prog.info? 101).map (fun i => (i.zero, i.size, i.bytes)) = some (some (.agg (wrC (0, zsec))), wrK.sz, 72) := by kernel_rfl
theorem ex_row1_wr (W : World) {o : Oper} {ρ : Operand → Value} {x : Operand} (ho : o.op = .buildSlice 94 1 #[(0, x)]) {q : Int × List Int} (hq : q.2.length = 64) (hx : ρ x = .agg (wrC q)) :
    (execOp ρ o).run Try.prog W = .ok (.value (.slice (some ⟨W.heap.size, 0, none⟩) 1 1)) (W.alloc (.cells (wrC q) 101)) := by
  obtain ⟨i, h1, h2⟩ := Option.map_eq_some_iff.1 info101
  simp only [Prod.mk.injEq] at h2
  obtain ⟨hz, hs, _⟩ := h2
  have hs' : i.size = 65 := hs
  have h := Arr.ex_row1 (P := Try.prog) (W := W) (ρ := ρ) ho Try.underlying94 h1 hz (by omega) (by omega) (by rw [hx, hs']; exact wr_size q hq)
  rw [hx] at h
  exact h
theorem chg_grown {w w' : World} {r : Option Nat} {S : Nat → Prop} (h : w.grownBy w' r) (hs : ∀ k, some k = r → S k) : Chg w w' S :=
  ⟨h.os, h.tape, h.output, h.size, fun k hk hn => h.block k hk (fun e => hn (hs k e))⟩
/-- A disk whose cache's row was changed. -/
theorem DK.recache {w w' : World} {base B M Bd : Nat} {vc v1 : Value} {D : PD} {l : List (Int × List Int)} (h : DK w base B M Bd vc D) (hc : Chg w w' (fun k => some k = vc.ownBlock))
    (ho : Kd.R wrK 101 w' base (fun k => k ≠ B ∧ k ≠ M ∧ k ≠ Bd) v1 l) : DK (w'.setCell ⟨B, 2, none⟩ v1) base B M Bd v1 { D with cache := l } := by
  have hok := h.cache.1
  have hB := hc.block B (Array.getElem?_eq_some_iff.1 h.blk).1 (fun e => (hok B e.symm).1 rfl)
  have hM := hc.block M h.kept.lt (fun e => (hok M e.symm).2.1 rfl)
  have hBd := hc.block Bd h.bad.lt (fun e => (hok Bd e.symm).2.2 rfl)
  have hb : w'.heap[B]? = _ := hB.trans h.blk
  refine ⟨set7 hb 2 v1, (h.kept.same hM).same (Below.heap_setCell w' ⟨B, 2, none⟩ v1 M h.hne.2.1), (h.bad.same hBd).same (Below.heap_setCell w' ⟨B, 2, none⟩ v1 Bd h.hne.2.2), Kd.R_step ho (fun k hk _ => Below.heap_setCell w' ⟨B, 2, none⟩ v1 k hk.1), h.hB, h.hM, h.hBd, h.hne, h.sec, h.hn, h.hl⟩
theorem write_calls (w : World) (base B M Bd : Nat) (vc : Value) (D : PD) (at_ : Int) (A : Option Addr) (c : Nat) (b : List Int) (hl : D.cache.length ≤ 1000) (hbw : base ≤ w.heap.size) (h : DK w base B M Bd vc D)
    (hb : ∀ w', Chg w w' (FP B M Bd vc) → (Kd.int .u8).C w' A b.length b) :
    Calls Try.prog 17 #[.pointer (some ⟨B, 0, none⟩), .int .i64 at_, .slice A b.length c] w fun e w' => e = .returned (.int .i64 (writeP D at_ b).2) ∧
      ∃ vc', DK w' base B M Bd vc' (writeP D at_ b).1 ∧ (vc'.ownBlock = vc.ownBlock ∨ ∃ k, vc'.ownBlock = some k ∧ w.heap.size ≤ k) ∧ Chg w w' (FP B M Bd vc) := by
  have HL := Aside0.mk hl
  have HD := Aside0.mk h
  have HB := Aside0.mk hb
  obtain ⟨⟨g0, g1, g2, g3, g4, g5, g6⟩, k2, k4, k5, k6⟩ := cells7 h.blk
  clear hl h hb k2 k4 k5 k6 g2 g3 g4 g5
  by_cases hd : D.dead = true
  · rw [hd] at g6
    have hf : writeP D at_ b = (D, 50) := by unfold writeP; rw [if_pos hd]
    rw [hf]
    clear hf hd
    go_enter Try.func17, Try.ntmps17
    go_wp2_with (first | (go_at_call 19; refine (dead_calls _ B M _ g1 g6).mono ?_; rintro e w' ⟨rfl, rfl⟩))
    go_ret
    exact ⟨rfl, vc, HD.out, .inl rfl, Chg.refl _ _⟩
  have hd0 : D.dead = false := by simpa using hd
  rw [hd0] at g6
  have HD0 := Aside0.mk hd0
  clear hd hd0
  by_cases hi : inB at_ D.n = false
  · have HI := Aside0.mk hi
    clear hi
    have hf : writeP D at_ b = (D, 1) := by unfold writeP; rw [HD0.out, if_neg (by simp), if_pos HI.out]
    rw [hf]
    clear hf
    go_enter Try.func17, Try.ntmps17
    go_wp2_with (first | (go_at_call 19; refine (dead_calls _ B M _ g1 g6).mono ?_; rintro e w' ⟨rfl, rfl⟩) | (go_at_call 64; refine (has_calls _ B M _ at_ g0 g1).mono ?_; rw [HI.out]; rintro e w' ⟨rfl, rfl⟩))
    go_ret
    exact ⟨rfl, vc, HD.out, .inl rfl, Chg.refl _ _⟩
  have hi0 : inB at_ D.n = true := by simpa using hi
  have HI := Aside0.mk hi0
  clear hi hi0
  by_cases h64 : 64 < b.length
  · have hf : writeP D at_ b = (D, 2) := by unfold writeP; rw [HD0.out, if_neg (by simp), HI.out, if_neg (by simp), if_pos h64]
    rw [hf]
    clear hf
    have h64' : (64 : Int) < (b.length : Int) := by omega
    go_enter Try.func17, Try.ntmps17
    go_wp2_with (first | (go_at_call 19; refine (dead_calls _ B M _ g1 g6).mono ?_; rintro e w' ⟨rfl, rfl⟩) | (go_at_call 64; refine (has_calls _ B M _ at_ g0 g1).mono ?_; rw [HI.out]; rintro e w' ⟨rfl, rfl⟩))
    go_ret
    exact ⟨rfl, vc, HD.out, .inl rfl, Chg.refl _ _⟩
  have h64' : ¬ (64 : Int) < (b.length : Int) := by omega
  obtain ⟨e, he⟩ : ∃ e, (actP D).2 = e := ⟨_, rfl⟩
  obtain ⟨D1, hD1⟩ : ∃ D1, (actP D).1 = D1 := ⟨_, rfl⟩
  have hf : writeP D at_ b = if e ≠ 0 then (D1, e) else ({ D1 with cache := D1.cache ++ [(at_, pad b)] }, 0) := by
    unfold writeP; rw [HD0.out, if_neg (by simp), HI.out, if_neg (by simp), if_neg h64, he, hD1, ← he, ← hD1]
  have HF := Aside0.mk hf
  have HE := Aside0.mk he
  have HD1 := Aside0.mk hD1
  clear he hD1 hf
  by_cases hz : e = 0
  · subst hz
    have hf : writeP D at_ b = ({ D1 with cache := D1.cache ++ [(at_, pad b)] }, 0) := by rw [HF.out]; simp
    rw [hf]
    clear hf
    have hc1 : D1.cache = D.cache := by rw [← HD1.out]; exact actP_cache D
    have HC1 := Aside0.mk hc1
    obtain ⟨An, cn, hvc⟩ := Kd.R_slice HD.out.cache
    have HVC := Aside0.mk hvc
    clear hvc hc1
    have hb64 : b.length ≤ 64 := by omega
    go_enter Try.func17, Try.ntmps17
    go_wp2_with (first | (go_at_call 19; refine (dead_calls _ B M _ g1 g6).mono ?_; rintro e w' ⟨rfl, rfl⟩) | (go_at_call 64; refine (has_calls _ B M _ at_ g0 g1).mono ?_; rw [HI.out]; rintro e w' ⟨rfl, rfl⟩) | (go_at_call 65; refine (act_calls _ base B M Bd vc D HD.out).mono ?_; rw [HE.out, HD1.out]; rintro e w1 ⟨rfl, hd, ho⟩; obtain ⟨⟨q0, q1, q2, q3, q4, q5, q6⟩, j2, j4, j5, j6⟩ := cells7 hd.blk; clear q0 q1 q3 q4 q5 q6 j2 j4 j5 j6 g0 g1 g6; have HDK1 := Aside0.mk hd; have HO := Aside0.mk ho; have HBC := Aside0.mk (HB.out (w1.alloc (.cells (wrC (at_, zsec)) 101)) ((ho.chg (fun _ h => .inl h)).alloc _)); clear hd ho) | ((with_reducible refine gate_ (.build 101 #[(0, .tmp 26)]) rfl ?_); refine Kd.event_run rfl (Arr.ex_build rfl (cells := wrC (at_, zsec)) (by kernel_rfl)) ?_; simp only [Act.put, List.setIfInBounds_toArray, List.set_cons_succ, List.set_cons_zero]) | ((with_reducible refine gate_ (.alloc 101) rfl ?_); refine Kd.event_run rfl (ex_alloc_wr w1 rfl) ?_; simp only [Act.put, List.setIfInBounds_toArray, List.set_cons_succ, List.set_cons_zero]) | ((with_reducible refine gate_ (.store 101 (.tmp 8) (.tmp 27)) rfl ?_); refine Arr.skip_run rfl (ex_store_wr w1 (0, zsec) (at_, zsec) (by decide) (show zsec.length = 64 by decide) rfl rfl rfl) ?_; simp only [Act.put, List.setIfInBounds_toArray, List.set_cons_succ, List.set_cons_zero]) | ((with_reducible refine gate_builtin (b := .copy) (xs := #[.tmp 29, .tmp 30]) rfl ?_); refine Kd.event_run rfl (Arr.ex_copy rfl (run_copy_into w1 at_ b hb64 A c _ HBC.out)) ?_; simp only [Act.put, List.setIfInBounds_toArray, List.set_cons_succ, List.set_cons_zero]))
    have HP := Aside0.mk (pad_length b hb64)
    have HNEW := Aside0.mk (new_wr_cells w1 (at_, pad b))
    have q2' := alloc_cell q2 (.cells (wrC (at_, pad b)) 101)
    have hB1 : B < w1.heap.size := (Array.getElem?_eq_some_iff.1 HDK1.out.blk).1
    have h4 : (w1.alloc (Obj.cells (wrC (at_, pad b)) 101)).drew.heap.size = w1.heap.size + 1 := alloc_size w1 _
    have HB1 := Aside0.mk hB1
    have HBL := Aside0.mk (show B < (w1.alloc (Obj.cells (wrC (at_, pad b)) 101)).drew.heap.size by omega)
    have HBN := Aside0.mk (show some B ≠ vc.ownBlock from fun e => (HDK1.out.cache.1 B e.symm).1 rfl)
    have HBS := Aside0.mk (show base ≤ (w1.alloc (Obj.cells (wrC (at_, pad b)) 101)).drew.heap.size by have := HDK1.out.hB; omega)
    have HFR : Aside0 (∀ k, (w1.alloc (Obj.cells (wrC (at_, pad b)) 101)).drew.heap.size ≤ k → k ≠ B ∧ k ≠ M ∧ k ≠ Bd) := Aside0.mk fun k hk => by
      have h5 := HDK1.out.kept.lt
      have h6 := HDK1.out.bad.lt
      omega
    have HLN := Aside0.mk (show (D1.cache.length + 1) * 72 ≤ 140737488355328 by rw [HC1.out]; have := HL.out; omega)
    clear hB1 h4
    refine Calm.wp_calm [7, 10] [(0, 0), (1, 0), (2, 0), (3, 0), (4, 1), (5, 1), (6, 2), (7, 2), (8, 0), (9, 0), (10, 2)] (by kernel_rfl) (by kernel_rfl) ?_
    generalize hops : List.toArray (_ : List Oper) = ops
    have ho0 := (congrArg (fun z : Array Oper => z[0]?) hops).symm
    have ho1 := (congrArg (fun z : Array Oper => z[1]?) hops).symm
    have ho2 := (congrArg (fun z : Array Oper => z[2]?) hops).symm
    have ho3 := (congrArg (fun z : Array Oper => z[3]?) hops).symm
    have ho4 := (congrArg (fun z : Array Oper => z[4]?) hops).symm
    have ho5 := (congrArg (fun z : Array Oper => z[5]?) hops).symm
    have ho6 := (congrArg (fun z : Array Oper => z[6]?) hops).symm
    have ho7 := (congrArg (fun z : Array Oper => z[7]?) hops).symm
    have ho8 := (congrArg (fun z : Array Oper => z[8]?) hops).symm
    have ho9 := (congrArg (fun z : Array Oper => z[9]?) hops).symm
    have ho10 := (congrArg (fun z : Array Oper => z[10]?) hops).symm
    simp only [List.getElem?_toArray, List.getElem?_cons_zero, List.getElem?_cons_succ] at ho0 ho1 ho2 ho3 ho4 ho5 ho6 ho7 ho8 ho9 ho10
    clear hops
    -- 0: some 32 := Op.move (Operand.tmp 0)
    refine Calm.plain ho0 _ rfl (fun W => by go_simp; exact rfl) ?_
    simp only [Act.put, List.setIfInBounds_toArray, List.set_cons_succ, List.set_cons_zero]
    -- 1: some 33 := Op.move (Operand.tmp 0)
    refine Calm.plain ho1 _ rfl (fun W => by go_simp; exact rfl) ?_
    simp only [Act.put, List.setIfInBounds_toArray, List.set_cons_succ, List.set_cons_zero]
    -- 2: some 34 := Op.nilCheck (Operand.tmp 33)
    refine Calm.plain ho2 _ rfl (fun W => by go_simp; exact rfl) ?_
    simp only [Act.put, List.setIfInBounds_toArray, List.set_cons_succ, List.set_cons_zero]
    -- 3: some 35 := Op.fieldAddr 96 (Operand.tmp 34) 2
    refine Calm.plain ho3 _ rfl (fun W => by go_simp; exact rfl) ?_
    simp only [Act.put, List.setIfInBounds_toArray, List.set_cons_succ, List.set_cons_zero]
    -- 4: x
    refine Calm.reads ho4 _ rfl (fun W hW => by have q := bel_cell hW q2'; go_simp; exact rfl) ?_
    simp only [Act.put, List.setIfInBounds_toArray, List.set_cons_succ, List.set_cons_zero]
    -- 5: x
    refine Calm.reads ho5 (.agg (wrC (at_, pad b))) rfl (fun W hW => ex_load_wr W rfl rfl HP.out (fun j u hu => bel_cell hW (HNEW.out j u hu))) ?_
    simp only [Act.put, List.setIfInBounds_toArray, List.set_cons_succ, List.set_cons_zero]
    -- 6: x
    refine Calm.acts ho6 rfl (fun K hK => ?_)
    unfold Oper.wp
    rw [ex_row1_wr (w1.alloc (Obj.cells (wrC (at_, pad b)) 101)).drew rfl HP.out rfl]
    refine hK _ _ (fun _ => Below.alloc (Below.refl _ _) (Nat.le_refl _) _) ?_
    clear hK K
    simp only [Act.put, List.setIfInBounds_toArray, List.set_cons_succ, List.set_cons_zero]
    -- 7: x
    refine Calm.step ho7 (fun K hK => ?_)
    refine Kd.R_append_step wrK (W := (w1.alloc (Obj.cells (wrC (at_, pad b)) 101)).drew) (w0 := (w1.alloc (Obj.cells (wrC (at_, pad b)) 101)).drew) base rfl (.tmp 36) (.tmp 38) 94 101 (.agg (wrC (0, zsec))) 72 rfl Try.underlying94 info101 rfl (by decide) (by decide) vc D1.cache (at_, pad b) (wrC (at_, pad b)).toList (fun k => k ≠ B ∧ k ≠ M ∧ k ≠ Bd) (fun _ => False) rfl rfl (wr_M _ HP.out) (fun _ h => h.elim) HFR.out (HDK1.out.grow _).drew.cache (Below.refl _ _) HBS.out HLN.out ?_
    intro v1 w4 ho hb4 hg hat
    refine hK _ _ (fun h => absurd h (by simp)) ?_
    clear hK K
    have hblk4 : w4.heap[B]? = w1.heap[B]? := (hg.block B HBL.out HBN.out).trans (heap_alloc_old w1 _ HB1.out)
    obtain ⟨⟨r0, r1, r2, r3, r4, r5, r6⟩, j2, j4, j5, j6⟩ := cells7 (hblk4.trans HDK1.out.blk)
    clear r0 r1 r3 r4 r5 r6 j4 j5 j6
    obtain ⟨A1, c1, hv1⟩ := Kd.R_slice ho
    generalize (D1.cache ++ [(at_, pad b)]).length = n1 at hv1
    subst hv1
    have HR := Aside0.mk ho
    have HG := Aside0.mk hg
    have HAT := Aside0.mk hat
    clear ho hb4 hg hat hblk4
    simp only [Act.put, List.setIfInBounds_toArray, List.set_cons_succ, List.set_cons_zero]
    -- 8: some 40 := Op.nilCheck (Operand.tmp 32)
    refine Calm.plain ho8 _ rfl (fun W => by go_simp; exact rfl) ?_
    simp only [Act.put, List.setIfInBounds_toArray, List.set_cons_succ, List.set_cons_zero]
    -- 9: some 41 := Op.fieldAddr 96 (Operand.tmp 40) 2
    refine Calm.plain ho9 _ rfl (fun W => by go_simp; exact rfl) ?_
    simp only [Act.put, List.setIfInBounds_toArray, List.set_cons_succ, List.set_cons_zero]
    -- 10: x
    refine Calm.step ho10 (fun K hK => ?_)
    go_simp
    refine hK _ _ (fun h => absurd h (by simp)) ?_
    clear hK K
    refine Calm.done ?_
    go_wp2
    go_ret
    have hcg : Chg w1 w4 (fun k => some k = vc.ownBlock) := (((Chg.refl w1 _).alloc _).drew).trans (chg_grown HG.out (fun _ h => h))
    have hce := HC1.out
    have hd4 := HDK1.out.recache hcg HR.out
    refine ⟨rfl, _, hd4, ?_, ?_⟩
    · rcases HAT.out with h | ⟨k, h1, h2⟩
      · exact .inl h
      · refine .inr ⟨k, h1, ?_⟩
        have h3 : w.heap.size ≤ w1.heap.size := HO.out.2.2.2.1
        have h4 : (w1.alloc (Obj.cells (wrC (at_, pad b)) 101)).drew.heap.size = w1.heap.size + 1 := alloc_size w1 _
        omega
    · refine (HO.out.chg (fun _ h => .inl h)).trans ((hcg.mono fun k h => .inr (.inr (.inr h))).trans ((Only.refl w4 B).set (i := 2) _ |>.chg fun _ h => .inl h))
  · have hz' : (e == 0) = false := by simpa using hz
    have hf : writeP D at_ b = (D1, e) := by rw [HF.out, if_pos hz]
    rw [hf]
    clear hz hf
    go_enter Try.func17, Try.ntmps17
    go_wp2_with (first | (go_at_call 19; refine (dead_calls _ B M _ g1 g6).mono ?_; rintro e w' ⟨rfl, rfl⟩) | (go_at_call 64; refine (has_calls _ B M _ at_ g0 g1).mono ?_; rw [HI.out]; rintro e w' ⟨rfl, rfl⟩) | (go_at_call 65; refine (act_calls _ base B M Bd vc D HD.out).mono ?_; rw [HE.out, HD1.out]; rintro e w1 ⟨rfl, hd, ho⟩; have HDK1 := Aside0.mk hd; have HO := Aside0.mk ho; clear hd ho))
    go_ret
    exact ⟨rfl, vc, HDK1.out, .inl rfl, HO.out.chg (fun _ h => .inl h)⟩
end Go.Proofs.Ytlepcmljmibdnaa
namespace Go.Proofs.Ytlepcmljmibdnaa
open Go.RowKit Go.Proofs.YtlepcmljmibdnaaW.PrintWords Go.Proofs.YtlepcmljmibdnaaW.PrintLast Go.Proofs.YtlepcmljmibdnaaW.PrintMore
set_option linter.unusedVariables false
set_option linter.unusedSimpArgs false
theorem infoU8 : (Try.prog.info? 5).map (fun i => (i.zero, i.size, i.bytes)) = some (some (.int .u8 0), 1, 1) := by kernel_rfl
theorem run_eql_slice_nil29 (w : World) (a : Option Addr) (l c : Nat) : (binOp .eql 29 (.slice a l c) (.slice none 0 0)).run Try.prog w = .ok (.bool a.isNone) w := by
  exact Lib.run_eql_slice_nil (P := Try.prog) w 29 5 a l c 0 0 Try.underlying29
theorem clone_calls (w : World) (ad : Addr) (c : Nat) (b : List Int) (hl : b.length ≤ 1000000) (hC : (Kd.int .u8).C w (some ad) b.length b) :
    Calls Try.prog 69 #[.slice (some ad) b.length c] w fun e w' => ∃ v, e = .returned v ∧ Kd.R (Kd.int .u8) 5 w' w.heap.size (fun _ => True) v b ∧ Below w.heap.size w w' := by
  have hq := run_eql_slice_nil29 w (some ad) b.length c
  simp only [Option.isNone_some] at hq
  have HC := Aside0.mk hC
  have HL := Aside0.mk hl
  clear hC hl
  go_enter Try.func69, Try.ntmps69
  go_wp2_with (first | ((with_reducible refine gate_dst (N := 5) rfl ?_); refine Kd.R_lit (Kd.int .u8) _ 5 ?hg (N := 5) ?hd (xs := ([] : List Int)) (inner := []) (ok := fun _ => True) (okp := fun _ => True) ?hr ?hp (fun _ hk => hk) trivial (Below.refl _ _) (Nat.le_refl _) (by simp) ?_; (case hd => rfl); (case hg => rfl); (case hr => first | (go_simp; done) | (go_simp; rfl)); (case hp => exact (Reps.none _ _)); intro v10 w10 ho11 hb hg_ hnew_; clear hg_ hnew_; have HO := Aside0.mk ho11; have HB := Aside0.mk hb; clear ho11 hb) | ((with_reducible refine gate_builtin (b := .append) (xs := #[.tmp 5, .tmp 6]) rfl ?_); at_builtin; go_loud (refine Kd.R_append_rows (Kd.int .u8) (w0 := w) w.heap.size rfl (.tmp 5) (.tmp 6) 29 5 (.int .u8 0) 1 rfl Try.underlying29 infoU8 rfl (by decide) (by omega) v10 [] b (some ad) b.length c (fun _ => True) (fun _ => False) rfl rfl HO.out (Kd.C_below HC.out HB.out) (fun _ _ h => h) (fun _ h => h.elim) (fun _ _ => trivial) HB.out HB.out.size (by have := HL.out; simp; omega) ?_; intro v1 w1 ho hb hg hat; have HO1 := Aside0.mk ho; have HB1 := Aside0.mk hb; clear ho hb hg hat)))
  go_ret
  exact ⟨v1, rfl, HO1.out, HB1.out⟩
end Go.Proofs.Ytlepcmljmibdnaa
namespace Go.Proofs.Ytlepcmljmibdnaa
open Go.RowKit Go.Proofs.YtlepcmljmibdnaaW.PrintWords Go.Proofs.YtlepcmljmibdnaaW.PrintLast Go.Proofs.YtlepcmljmibdnaaW.PrintMore
attribute [local go_sem] run_makeMap max2_int min2_int max_two min_two
set_option linter.unusedVariables false
set_option linter.unusedSimpArgs false

def secC (s : List Int) : Array Value := (encs (Value.int .u8) s).toArray
theorem sec_size (s : List Int) (h : s.length = 64) : (secC s).size = 64 := by simp [secC, encs_length, h]
section
variable {w : World} {o : Oper} {ρ : Operand → Value}
theorem ex_alloc_sec (W : World) (ho : o.op = .alloc 99) : (execOp ρ o).run Try.prog W = .ok (.value (.pointer (some ⟨W.heap.size, 0, none⟩))) (W.alloc (.cells (secC zsec) 99)) := by
  have hi : ∃ i, Try.prog.info? 99 = some i ∧ i.zero = some (.agg (secC zsec)) := by
    have : (Try.prog.info? 99).bind (·.zero) = some (.agg (secC zsec)) := by kernel_rfl
    exact Option.bind_eq_some_iff.1 this
  obtain ⟨i, h1, h2⟩ := hi
  exact Arr.ex_alloc ho h1 h2
theorem ex_store_sec (W : World) {x y : Operand} {g : Nat} (p q : List Int) (hp : p.length = 64) (hq : q.length = 64) (ho : o.op = .store 99 x y) (hx : ρ x = .pointer (some ⟨g, 0, none⟩)) (hy : ρ y = .agg (secC q))
    (hg : W.heap[g]? = some (.cells (secC p) 99 (0, 0))) : (execOp ρ o).run Try.prog W = .ok .skip (W.setRow g (secC q)) := by
  have hl : (secC q).toList.length = 64 := by rw [Array.length_toList]; exact sec_size q hq
  have h := Arr.ex_store (P := Try.prog) (W := W) ho hx hy (seg := (secC q).toList) rfl (by rw [hl]; kernel_rfl) hg (by rw [hl, sec_size p hp]; omega) (by
    intro u hu
    simp only [secC, encs, List.mem_map] at hu
    obtain ⟨a, _, rfl⟩ := hu
    rfl)
  rw [h]
  have e : (secC p).toList.drop (0 + (secC q).toList.length) = [] := by rw [hl]; exact List.drop_eq_nil_of_le (by rw [Array.length_toList, sec_size p hp]; omega)
  rw [e]
  simp
theorem ex_store_sec0 (W : World) {x y : Operand} (q : List Int) (hq : q.length = 64) (ho : o.op = .store 99 x y) (hx : ρ x = .pointer (some ⟨W.heap.size, 0, none⟩)) (hy : ρ y = .agg (secC q)) :
    (execOp ρ o).run Try.prog (W.alloc (.cells (secC zsec) 99)) = .ok .skip (W.alloc (.cells (secC q) 99)) := by
  rw [← Arr.setRow_alloc W (secC zsec) (secC q) 99]
  exact ex_store_sec (W.alloc (.cells (secC zsec) 99)) zsec q rfl hq ho hx hy (heap_alloc_new W _)
theorem ex_lookup_kept (W : World) {x y : Operand} {M : Nat} {K : Int → Option (List Int)} (h : Mp.Is (.int .i64) W M (keptF K)) (a : Int) {s : List Int} (hs : (K a).getD zsec = s) (ho : o.op = .lookup 92 x y false) (hx : ρ x = .map (some M)) (hy : ρ y = .int .i64 a) :
    (execOp ρ o).run Try.prog W = .ok (.value (.agg (secC s))) W := by
  subst hs
  have hz : (zeroValue 99).run Try.prog W = .ok (.agg (secC zsec)) W := by
    have : (Try.prog.info? 99).bind (·.zero) = some (.agg (secC zsec)) := by kernel_rfl
    obtain ⟨i, h1, h2⟩ := Option.bind_eq_some_iff.1 this
    exact Arr.run_zero h1 h2 W
  rw [Arr.ex_lookup ho h Try.underlying92 Try.underlying3 hx (by rw [hy]; rfl) hz, hy]
  have e : keptF K (.int .i64 a) = (K a).map secV := rfl
  rw [e]
  cases K a <;> rfl
theorem ex_lookup_bad (W : World) {x y : Operand} {M : Nat} {K : Int → Bool} (h : Mp.Is (.int .i64) W M (badF K)) (a : Int) {b : Bool} (hb : K a = b) (ho : o.op = .lookup 93 x y false) (hx : ρ x = .map (some M)) (hy : ρ y = .int .i64 a) :
    (execOp ρ o).run Try.prog W = .ok (.value (.bool b)) W := by
  subst hb
  have hz : (zeroValue 4).run Try.prog W = .ok (.bool false) W := by
    have : (Try.prog.info? 4).bind (·.zero) = some (.bool false) := by kernel_rfl
    obtain ⟨i, h1, h2⟩ := Option.bind_eq_some_iff.1 this
    exact Arr.run_zero h1 h2 W
  rw [Arr.ex_lookup ho h Try.underlying93 Try.underlying3 hx (by rw [hy]; rfl) hz, hy]
  have e : badF K (.int .i64 a) = if K a then some (.bool true) else none := rfl
  rw [e]
  cases K a <;> rfl
end
theorem sec_C (w : World) (Z : Nat) (s : List Int) (t : Nat) (fr : Nat × Nat) (hs : s.length ≤ 1000000) (h : w.heap[Z]? = some (.cells (secC s) t fr)) : (Kd.int .u8).C w (some ⟨Z, 0, none⟩) s.length s := by
  refine Kd.C_of_reads (d := (0 : Int)) (h1 := fun _ => rfl) (enc := Value.int .u8) ⟨rfl, by omega, fun _ => ⟨_, rfl, fun j hj => ?_⟩⟩
  have e : (⟨Z, 0, none⟩ : Addr).add j = ⟨Z, j, none⟩ := by unfold Addr.add; split <;> simp_all
  rw [e, cell_of_row w Z j (secC s) t fr h]
  have := encs_get (enc := Value.int .u8) (d := (0 : Int)) s j hj
  simpa [secC] using this
def readL (s : List Int) (l : List (Int × List Int)) (at_ : Int) : List Int := l.foldl (fun s x => if x.1 = at_ then x.2 else s) s
def readP (D : PD) (at_ : Int) : List Int × Int :=
  if D.dead then ([], 50) else if inB at_ D.n = false then ([], 1) else if D.bad at_ then ([], 52) else (readL ((D.kept at_).getD zsec) D.cache at_, 0)
theorem readL_succ (s : List Int) (l : List (Int × List Int)) (at_ : Int) (i : Nat) (x : Int × List Int) (h : l[i]? = some x) : readL s (l.take (i + 1)) at_ = if x.1 = at_ then x.2 else readL s (l.take i) at_ := by
  unfold readL
  rw [List.take_add_one, h, List.foldl_append]
  rfl
theorem clone_calls64 (w : World) (ad : Addr) (c : Nat) (b : List Int) (hl : b.length = 64) (hC : (Kd.int .u8).C w (some ad) 64 b) :
    Calls Try.prog 69 #[.slice (some ad) 64 c] w fun e w' => ∃ v, e = .returned v ∧ Kd.R (Kd.int .u8) 5 w' w.heap.size (fun _ => True) v b ∧ Below w.heap.size w w' := by
  rw [← hl] at hC ⊢
  exact clone_calls w ad c b (by omega) hC
theorem read_calls (w : World) (base B M Bd : Nat) (vc : Value) (D : PD) (at_ : Int) (hl : D.cache.length ≤ 1000) (h : DK w base B M Bd vc D) :
    Calls Try.prog 23 #[.pointer (some ⟨B, 0, none⟩), .int .i64 at_] w fun e w' => ∃ v, e = .returned (.tuple #[v, .int .i64 (readP D at_).2]) ∧ Kd.R (Kd.int .u8) 5 w' w.heap.size (fun _ => True) v (readP D at_).1 ∧ Below w.heap.size w w' := by
  have HL := Aside0.mk hl
  have HD := Aside0.mk h
  obtain ⟨⟨g0, g1, g2, g3, g4, g5, g6⟩, k2, k4, k5, k6⟩ := cells7 h.blk
  clear hl h k2 k4 k5 k6 g4 g5
  by_cases hd : D.dead = true
  · rw [hd] at g6
    have hf : readP D at_ = ([], 50) := by unfold readP; rw [if_pos hd]
    rw [hf]
    clear hf hd
    go_enter Try.func23, Try.ntmps23
    go_wp2_with (first | (go_at_call 19; refine (dead_calls _ B M _ g1 g6).mono ?_; rintro e w' ⟨rfl, rfl⟩))
    go_ret2
    exact ⟨_, rfl, Kd.R_nil _ _ _ _ _, Below.refl _ _⟩
  have hd0 : D.dead = false := by simpa using hd
  rw [hd0] at g6
  have HD0 := Aside0.mk hd0
  clear hd hd0
  by_cases hi : inB at_ D.n = false
  · have HI := Aside0.mk hi
    clear hi
    have hf : readP D at_ = ([], 1) := by unfold readP; rw [HD0.out, if_neg (by simp), if_pos HI.out]
    rw [hf]
    clear hf
    go_enter Try.func23, Try.ntmps23
    go_wp2_with (first | (go_at_call 19; refine (dead_calls _ B M _ g1 g6).mono ?_; rintro e w' ⟨rfl, rfl⟩) | (go_at_call 64; refine (has_calls _ B M _ at_ g0 g1).mono ?_; rw [HI.out]; rintro e w' ⟨rfl, rfl⟩))
    go_ret2
    exact ⟨_, rfl, Kd.R_nil _ _ _ _ _, Below.refl _ _⟩
  have hi0 : inB at_ D.n = true := by simpa using hi
  have HI := Aside0.mk hi0
  clear hi hi0
  obtain ⟨bd, hbd⟩ : ∃ bd, D.bad at_ = bd := ⟨_, rfl⟩
  have HBD := Aside0.mk hbd
  clear hbd
  cases bd with
  | true =>
    have hf : readP D at_ = ([], 52) := by unfold readP; rw [HD0.out, if_neg (by simp), HI.out, if_neg (by simp), if_pos HBD.out]
    rw [hf]
    clear hf
    go_enter Try.func23, Try.ntmps23
    go_wp2_with (first | (go_at_call 19; refine (dead_calls _ B M _ g1 g6).mono ?_; rintro e w' ⟨rfl, rfl⟩) | (go_at_call 64; refine (has_calls _ B M _ at_ g0 g1).mono ?_; rw [HI.out]; rintro e w' ⟨rfl, rfl⟩) | ((with_reducible refine gate_ (.lookup 93 (.tmp 21) (.tmp 22) false) rfl ?_); refine Kd.event_run rfl (ex_lookup_bad w HD.out.bad at_ HBD.out rfl rfl rfl) ?_; simp only [Act.put, List.setIfInBounds_toArray, List.set_cons_succ, List.set_cons_zero]))
    go_ret2
    exact ⟨_, rfl, Kd.R_nil _ _ _ _ _, Below.refl _ _⟩
  | false =>
    obtain ⟨s0, hs0⟩ : ∃ s0, (D.kept at_).getD zsec = s0 := ⟨_, rfl⟩
    have hf : readP D at_ = (readL s0 D.cache at_, 0) := by unfold readP; rw [HD0.out, if_neg (by simp), HI.out, if_neg (by simp), HBD.out, if_neg (by simp), hs0]
    have hs64 : s0.length = 64 := by
      rw [← hs0]
      cases hk : D.kept at_ with
      | none => rfl
      | some s => exact HD.out.sec at_ s hk
    have HS0 := Aside0.mk hs0
    have HS64 := Aside0.mk hs64
    rw [hf]
    clear hf hs0 hs64
    obtain ⟨A, c, hvc⟩ := Kd.R_slice HD.out.cache
    subst hvc
    go_enter Try.func23, Try.ntmps23
    go_wp2_with (first | (go_at_call 19; refine (dead_calls _ B M _ g1 g6).mono ?_; rintro e w' ⟨rfl, rfl⟩) | (go_at_call 64; refine (has_calls _ B M _ at_ g0 g1).mono ?_; rw [HI.out]; rintro e w' ⟨rfl, rfl⟩) | ((with_reducible refine gate_ (.lookup 93 (.tmp 21) (.tmp 22) false) rfl ?_); refine Kd.event_run rfl (ex_lookup_bad w HD.out.bad at_ HBD.out rfl rfl rfl) ?_; simp only [Act.put, List.setIfInBounds_toArray, List.set_cons_succ, List.set_cons_zero]) | ((with_reducible refine gate_ (.lookup 92 (.tmp 27) (.tmp 28) false) rfl ?_); refine Kd.event_run rfl (ex_lookup_kept w HD.out.kept at_ HS0.out rfl rfl rfl) ?_; simp only [Act.put, List.setIfInBounds_toArray, List.set_cons_succ, List.set_cons_zero]) | ((with_reducible refine gate_ (.alloc 99) rfl ?_); refine Kd.event_run rfl (ex_alloc_sec w rfl) ?_; simp only [Act.put, List.setIfInBounds_toArray, List.set_cons_succ, List.set_cons_zero]) | ((with_reducible refine gate_ (.store 99 (.tmp 6) (.tmp 29)) rfl ?_); refine Arr.skip_run rfl (ex_store_sec0 w s0 HS64.out rfl rfl rfl) ?_; have g2' := alloc_cell g2 (.cells (secC s0) 99); simp only [Act.put, List.setIfInBounds_toArray, List.set_cons_succ, List.set_cons_zero]))
    clear g0 g1 g2 g3 g6 g2'
    have HB0 := Aside0.mk (Below.alloc (Below.refl w.heap.size w) (Nat.le_refl _) (.cells (secC s0) 99))
    have HZ0 := Aside0.mk (heap_alloc_new w (.cells (secC s0) 99))
    go_loopg [35] D.cache.length (fun kq v35 w' => ∃ (i : Nat) (s : List Int), v35 = .int .i64 (i : Int) ∧ Aside0 (i + kq = D.cache.length) ∧ Aside0 (Below w.heap.size w w') ∧ Aside0 (w'.heap[w.heap.size]? = some (.cells (secC s) 99 (0, 0))) ∧ Aside0 (s.length = 64) ∧ Aside0 (readL s0 (D.cache.take i) at_ = s))
    case atStart => exact ⟨0, s0, rfl, ⟨by omega⟩, HB0, HZ0, HS64, ⟨rfl⟩⟩
    case round =>
      obtain ⟨i, s, rfl, HI2, HBr, HZ, HS, HRL⟩ := hrel
      by_cases hi : i < D.cache.length
      · obtain ⟨x, hx⟩ : ∃ x, D.cache[i]? = some x := ⟨_, List.getElem?_eq_getElem hi⟩
        have HX := Aside0.mk hx
        clear hx
        have hcw := Kd.C_below (Kd.R_reads' HD.out.cache).2.2 HBr.out
        obtain ⟨ad, e, hx2, hcell⟩ := cache_at hcw i hi x HX.out
        subst e
        have HX2 := Aside0.mk hx2
        have HCELL := Aside0.mk hcell
        have hw := wr_cell wr x
        have HW := Aside0.mk (wr_cells wr x)
        have hk2 := HL.out
        have hzl : w.heap.size < wr.heap.size := (Array.getElem?_eq_some_iff.1 HZ.out).1
        have HZL := Aside0.mk hzl
        have HZ' := Aside0.mk ((heap_alloc_old wr (.cells (wrC x) 101) HZL.out).trans HZ.out)
        have HBx := Aside0.mk (Below.alloc HBr.out HBr.out.size (.cells (wrC x) 101))
        clear hcw hx2 hcell hzl
        obtain ⟨b, hb⟩ : ∃ b, (x.1 == at_) = b := ⟨_, rfl⟩
        cases b with
        | true =>
          have HEQ := Aside0.mk (show x.1 = at_ by simpa using hb)
          go_wp2_with (first | ((with_reducible refine gate_ (.load 101 (.tmp 37)) rfl ?_); refine Kd.event_run rfl (ex_load_wr wr rfl rfl HX2.out HCELL.out) ?_; simp only [Act.put, List.setIfInBounds_toArray, List.set_cons_succ, List.set_cons_zero]) | ((with_reducible refine gate_ (.alloc 101) rfl ?_); refine Kd.event_run rfl (ex_alloc_wr wr rfl) ?_; simp only [Act.put, List.setIfInBounds_toArray, List.set_cons_succ, List.set_cons_zero]) | ((with_reducible refine gate_ (.store 101 (.tmp 8) (.tmp 38)) rfl ?_); refine Arr.skip_run rfl (ex_store_wr wr (0, zsec) x (by decide) HX2.out rfl rfl rfl) ?_; simp only [Act.put, List.setIfInBounds_toArray, List.set_cons_succ, List.set_cons_zero]) | ((with_reducible refine gate_ (.load 99 (.tmp 43)) rfl ?_); refine Kd.event_run rfl (v := .agg (secC x.2)) (Arr.ex_load rfl (ad := ⟨wr.heap.size, 1, none⟩) rfl (by kernel_rfl) (seg := encs (Value.int .u8) x.2) (by rw [encs_length, HX2.out]; kernel_rfl) HW.out) ?_; simp only [Act.put, List.setIfInBounds_toArray, List.set_cons_succ, List.set_cons_zero]) | ((with_reducible refine gate_ (.store 99 (.tmp 6) (.tmp 44)) rfl ?_); refine Arr.skip_run rfl (ex_store_sec (wr.alloc (.cells (wrC x) 101)) s x.2 HS.out HX2.out rfl rfl rfl HZ'.out) ?_; simp only [Act.put, List.setIfInBounds_toArray, List.set_cons_succ, List.set_cons_zero]))
          have hk1 := HI2.out
          obtain ⟨gq, rfl⟩ : ∃ gq, gk = gq + 1 := ⟨gk - 1, by omega⟩
          go_roundg gq
          case rel => exact ⟨i + 1, x.2, by go_num, ⟨by omega⟩, ⟨below_setRow HBx.out (Nat.le_refl _) _⟩, ⟨setRow_heap _ _ _ _ _ _ HZ'.out⟩, HX2, ⟨by rw [readL_succ s0 D.cache at_ i x HX.out, if_pos HEQ.out]⟩⟩
          case measure => omega
        | false =>
          have HEQ := Aside0.mk (show ¬ x.1 = at_ by simpa using hb)
          go_wp2_with (first | ((with_reducible refine gate_ (.load 101 (.tmp 37)) rfl ?_); refine Kd.event_run rfl (ex_load_wr wr rfl rfl HX2.out HCELL.out) ?_; simp only [Act.put, List.setIfInBounds_toArray, List.set_cons_succ, List.set_cons_zero]) | ((with_reducible refine gate_ (.alloc 101) rfl ?_); refine Kd.event_run rfl (ex_alloc_wr wr rfl) ?_; simp only [Act.put, List.setIfInBounds_toArray, List.set_cons_succ, List.set_cons_zero]) | ((with_reducible refine gate_ (.store 101 (.tmp 8) (.tmp 38)) rfl ?_); refine Arr.skip_run rfl (ex_store_wr wr (0, zsec) x (by decide) HX2.out rfl rfl rfl) ?_; simp only [Act.put, List.setIfInBounds_toArray, List.set_cons_succ, List.set_cons_zero]))
          have hk1 := HI2.out
          obtain ⟨gq, rfl⟩ : ∃ gq, gk = gq + 1 := ⟨gk - 1, by omega⟩
          go_roundg gq
          case rel => exact ⟨i + 1, s, by go_num, ⟨by omega⟩, HBx, HZ', HS, ⟨by rw [readL_succ s0 D.cache at_ i x HX.out, if_neg HEQ.out]; exact HRL.out⟩⟩
          case measure => omega
      · have hi0 := HI2.out
        obtain rfl : gk = 0 := by omega
        obtain rfl : i = D.cache.length := by omega
        clear hi0
        have hm : ¬ ((D.cache.length : Int) < (D.cache.length : Int)) := by omega
        have HRL2 := Aside0.mk (show readL s0 D.cache at_ = s by have := HRL.out; rwa [List.take_length] at this)
        have hcs := sec_C wr w.heap.size s 99 (0, 0) (by have := HS.out; omega) HZ.out
        rw [HS.out] at hcs
        have HCS := Aside0.mk hcs
        clear hcs
        go_wp2_with (go_at_call 69; refine (clone_calls64 wr _ 64 s HS.out HCS.out).mono ?_; rintro e w2 ⟨v, rfl, hr, hb2⟩; have HR := Aside0.mk hr; have HB2 := Aside0.mk hb2; clear hr hb2)
        go_ret2
        rw [HRL2.out]
        exact ⟨v, rfl, Kd.R_lower HR.out HBr.out.size, HBr.out.trans (HB2.out.mono HBr.out.size)⟩
end Go.Proofs.Ytlepcmljmibdnaa
namespace Go.Proofs.Ytlepcmljmibdnaa
open Go.RowKit Go.Proofs.YtlepcmljmibdnaaW.PrintWords Go.Proofs.YtlepcmljmibdnaaW.PrintLast Go.Proofs.YtlepcmljmibdnaaW.PrintMore
set_option linter.unusedVariables false
set_option linter.unusedSimpArgs false
theorem R_addr {α : Type} {d : Kd α} {e : Nat} {w : World} {base : Nat} {ok : Nat → Prop} {v : Value} {xs : List α} (h : d.R e w base ok v xs) (hn : 0 < xs.length) : ∃ g c, v = .slice (some ⟨g, 0, none⟩) xs.length c := by
  obtain ⟨_, inner, ho, _⟩ := h
  obtain ⟨g, cap, rfl, _⟩ := ho.form hn
  exact ⟨g, cap, rfl⟩
def d1 : PD := (writeP (newP 2) 0 [97]).1
def d2 : PD := (writeP d1 1 [98]).1
noncomputable def d3 : PD := crashP d2 [false, true]
theorem DK.base_le {w : World} {base B M Bd : Nat} {vc : Value} {D : PD} (h : DK w base B M Bd vc D) : base ≤ w.heap.size := by
  have h1 := h.hB
  have h2 := (Array.getElem?_eq_some_iff.1 h.blk).1
  omega
end Go.Proofs.Ytlepcmljmibdnaa
namespace Go.Proofs.Ytlepcmljmibdnaa
open Go.RowKit Go.Proofs.YtlepcmljmibdnaaW.PrintWords Go.Proofs.YtlepcmljmibdnaaW.PrintLast Go.Proofs.YtlepcmljmibdnaaW.PrintMore
attribute [local go_sem] run_makeMap
set_option linter.unusedVariables false
set_option linter.unusedSimpArgs false
section
variable {P : Program} {W : World} {o : Oper} {ρ : Operand → Value}
theorem ex_update' {m x y : Operand} {t : TypeId} {w1 : World} {vm vx vy : Value} (ho : o.op = .mapUpdate t m x y) (hm : ρ m = vm) (hx : ρ x = vx) (hy : ρ y = vy) (hrun : (Instr.mapUpdate t vm vx vy).run P W = .ok () w1) : (execOp ρ o).run P W = .ok .skip w1 := by
  simp only [execOp, ho, hm, hx, hy, Sem.run_bind, hrun, Result.andThen_ok, Sem.run_pure]
theorem ex_delete {m k : Operand} {t kt : TypeId} {v : Value} {w1 : World} (ho : o.op = .call { callee := .builtin .delete, args := #[m, k], argTypes := #[t, kt] })
    (hrun : (Builtin.delete_ #[t, kt] o.type #[ρ m, ρ k]).run P W = .ok v w1) : (execOp ρ o).run P W = .ok (.value v) w1 := by
  simp [execOp, ho, resolve, invoke, builtin, hrun, Result.andThen]
end
theorem badF_del (b : Int → Bool) (a : Int) : badF (fun x => if x = a then false else b x) = Mp.del (badF b) (.int .i64 a) := by
  funext v
  unfold Mp.del
  cases v with
  | int k n =>
    cases k with
    | i64 => by_cases ha : n = a <;> simp [badF, ha]
    | _ => simp [badF]
  | _ => simp [badF]
theorem badF_upd (b : Int → Bool) (a : Int) : badF (fun x => if x = a then true else b x) = Mp.upd (badF b) (.int .i64 a) (.bool true) := by
  funext v
  unfold Mp.upd
  cases v with
  | int k n =>
    cases k with
    | i64 => by_cases ha : n = a <;> simp [badF, ha]
    | _ => simp [badF]
  | _ => simp [badF]
/-- A disk whose map of bad sectors was turned. -/
theorem DK.turnb {w w' : World} {base B M Bd : Nat} {vc : Value} {D D' : PD} (h : DK w base B M Bd vc D) (hc : Chg w w' (fun k => k = Bd)) (hk : Mp.Is (.int .i64) w' Bd (badF D'.bad)) (e : D' = { D with bad := D'.bad }) : DK w' base B M Bd vc D' := by
  have hB : B < w.heap.size := (Array.getElem?_eq_some_iff.1 h.blk).1
  have hb : DCells w' B M Bd vc D := (hc.block B hB (fun e => h.hne.2.2 e.symm)).trans h.blk
  rw [e]
  exact ⟨hb, h.kept.same (hc.block M h.kept.lt h.hne.1), hk, Kd.R_step h.cache (fun k hk hl => hc.block k hl hk.2.2), h.hB, h.hM, h.hBd, h.hne, h.sec, h.hn, h.hl⟩
def faultP (D : PD) (at_ : Int) (on : Bool) : PD := if inB at_ D.n = false then D else { D with bad := fun x => if x = at_ then on else D.bad x }
theorem fault_calls (w : World) (base B M Bd : Nat) (vc : Value) (D : PD) (at_ : Int) (on : Bool) (h : DK w base B M Bd vc D) :
    Calls Try.prog 31 #[.pointer (some ⟨B, 0, none⟩), .int .i64 at_, .bool on] w fun e w' => e = .returned (.tuple #[]) ∧ DK w' base B M Bd vc (faultP D at_ on) ∧ Chg w w' (fun k => k = Bd) := by
  have HD := Aside0.mk h
  obtain ⟨⟨g0, g1, g2, g3, g4, g5, g6⟩, k2, k4, k5, k6⟩ := cells7 h.blk
  clear h k2 k4 k5 k6 g4 g5 g6 g2
  by_cases hi : inB at_ D.n = false
  · have HI := Aside0.mk hi
    have hf : faultP D at_ on = D := by unfold faultP; rw [if_pos hi]
    rw [hf]
    clear hf hi
    go_enter Try.func31, Try.ntmps31
    go_wp2_with (first | (go_at_call 64; refine (has_calls _ B M _ at_ g0 g1).mono ?_; rw [HI.out]; rintro e w' ⟨rfl, rfl⟩))
    go_end0
    exact ⟨rfl, HD.out, Chg.refl _ _⟩
  have hi0 : inB at_ D.n = true := by simpa using hi
  have HI := Aside0.mk hi0
  cases on with
  | true =>
    obtain ⟨w2, hr2, ht2, hi2⟩ := Mp.run_update (P := Try.prog) (t := 93) (kt := 3) (et := 4) (d := .int .i64) (r := Bd) (f := badF D.bad) HD.out.bad Try.underlying93 Try.underlying3 (k := .int .i64 at_) rfl (.bool true)
    have HR2 := Aside0.mk hr2
    have HT2 := Aside0.mk ht2
    have HI2 := Aside0.mk hi2
    have hf : faultP D at_ true = { D with bad := fun x => if x = at_ then true else D.bad x } := by unfold faultP; rw [if_neg hi]
    rw [hf]
    clear hr2 ht2 hi2 hf hi hi0
    go_enter Try.func31, Try.ntmps31
    go_wp2_with (first | (go_at_call 64; refine (has_calls _ B M _ at_ g0 g1).mono ?_; rw [HI.out]; rintro e w' ⟨rfl, rfl⟩) | ((with_reducible refine gate_ (.mapUpdate 93 (.tmp 21) (.tmp 22) (.const (.bool true))) rfl ?_); refine Arr.skip_run rfl (ex_update' rfl rfl rfl rfl HR2.out) ?_; simp only [Act.put, List.setIfInBounds_toArray, List.set_cons_succ, List.set_cons_zero]))
    go_end0
    have hc : Chg w w2 (fun k => k = Bd) := .turned HT2.out rfl
    exact ⟨rfl, HD.out.turnb hc (by rw [badF_upd]; exact HI2.out) rfl, hc⟩
  | false =>
    obtain ⟨w2, hr2, ht2, hi2⟩ := Mp.run_delete (P := Try.prog) (t := 93) (kt := 3) (et := 4) (d := .int .i64) (r := Bd) (f := badF D.bad) (ty := 0) HD.out.bad Try.underlying93 Try.underlying3 (k := .int .i64 at_) rfl
    have HR2 := Aside0.mk hr2
    have HT2 := Aside0.mk ht2
    have HI2 := Aside0.mk hi2
    have hf : faultP D at_ false = { D with bad := fun x => if x = at_ then false else D.bad x } := by unfold faultP; rw [if_neg hi]
    rw [hf]
    clear hr2 ht2 hi2 hf hi hi0
    go_enter Try.func31, Try.ntmps31
    go_wp2_with (first | (go_at_call 64; refine (has_calls _ B M _ at_ g0 g1).mono ?_; rw [HI.out]; rintro e w' ⟨rfl, rfl⟩) | ((with_reducible refine gate_builtin (b := .delete) (xs := #[.tmp 9, .tmp 10]) rfl ?_); refine Kd.event_run rfl (ex_delete rfl HR2.out) ?_; simp only [Act.put, List.setIfInBounds_toArray, List.set_cons_succ, List.set_cons_zero]))
    go_end0
    have hc : Chg w w2 (fun k => k = Bd) := .turned HT2.out rfl
    exact ⟨rfl, HD.out.turnb hc (by rw [badF_del]; exact HI2.out) rfl, hc⟩
def wipeP (D : PD) : PD := restP { D with kept := fun _ => none, bad := fun _ => false }
def cloneP (D : PD) : PD := { n := D.n, kept := D.kept, cache := [], bad := fun _ => false, armed := false, left := 0, dead := false }
end Go.Proofs.Ytlepcmljmibdnaa
