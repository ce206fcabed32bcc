/- The disk's Clone, Fault, Wipe. Conditions: those of each statement. -/
import Derived.Test.YtlepcmljmibdnaaAw
import Derived.Shelf.SlMaps.Clone
import Derived.Deep.RegionWith
namespace Go.Proofs.Ytlepcmljmibdnaa
open Go.RowKit Go.Proofs.YtlepcmljmibdnaaW.PrintWords Go.Proofs.YtlepcmljmibdnaaW.PrintLast Go.Proofs.YtlepcmljmibdnaaW.PrintMore
attribute [local go_sem] run_makeMap
set_option linter.unusedVariables false
set_option linter.unusedSimpArgs false
theorem ex_mclone {o : Oper} {a : Act} (W : World) {x : Operand} {M : Nat} {es : Array MapEntry} {clock : Nat} (ho : o.op = .call { callee := .value (.func 99), args := #[x], argTypes := #[20] }) (hx : a.eval x = .iface 92 (.map (some M))) (hb : W.heap[M]? = some (.map es clock)) :
    (execOp a.eval o).run Try.prog W = .ok (.value (.iface 92 (.map (some W.heap.size)))) (W.alloc (.map es clock)) := by
  have h1 := run_maps_clone_sl (P := Try.prog) W 92 hb
  have h2 := run_callFunc_extern Try.func99 (by kernel_rfl) (by kernel_rfl) (by kernel_rfl) (e := Extern.MapsClone.clone) (by kernel_rfl) #[.iface 92 (.map (some M))] W
  rw [h1] at h2
  simp only [Result.andThen_ok] at h2
  have hf : a.eval (.func 99) = .func (.func 99) #[] #[] := rfl
  simp only [execOp, ho]
  simp [resolve, invoke, Deferred.ofValue, hx, hf, h2]
theorem ex_massert {o : Oper} {ρ : Operand → Value} (W : World) {x : Operand} {v : Value} (ho : o.op = .typeAssert x 20 92 false) (hx : ρ x = .iface 92 v) : (execOp ρ o).run Try.prog W = .ok (.value v) W := by
  simp only [execOp, ho, hx, Sem.run_bind, run_typeAssert_map_sl W 92 20 _ _ v Try.underlying92, Result.andThen_ok, Sem.run_pure]
theorem mclone_calls (w : World) (M : Nat) (es : Array MapEntry) (clock : Nat) (hb : w.heap[M]? = some (.map es clock)) :
    Calls Try.prog 68 #[.map (some M)] w fun e w' => e = .returned (.map (some w.heap.size)) ∧ w' = w.alloc (.map es clock) := by
  have hq := run_eql_map_nil_sl (P := Try.prog) w 92 _ _ (some M) Try.underlying92
  simp only [Option.isNone_some] at hq
  have HB := Aside0.mk hb
  clear hb
  go_enter Try.func68, Try.ntmps68
  go_wp2_with (first | ((with_reducible refine gate_callee (f := 99) rfl ?_); go_loud (refine Kd.event_run rfl (ex_mclone w rfl rfl HB.out) ?_); simp only [Act.put, List.setIfInBounds_toArray, List.set_cons_succ, List.set_cons_zero]) | ((with_reducible refine gate_ (.typeAssert (.tmp 7) 20 92 false) rfl ?_); refine Kd.event_run rfl (ex_massert _ rfl rfl) ?_; simp only [Act.put, List.setIfInBounds_toArray, List.set_cons_succ, List.set_cons_zero]))
  go_ret
  exact ⟨rfl, rfl⟩
section
variable {P : Program} {W : World} {o : Oper} {ρ : Operand → Value}
theorem ex_update' {m x y : Operand} {t : TypeId} {w1 : World} {vm vx vy : Value} (ho : o.op = .mapUpdate t m x y) (hm : ρ m = vm) (hx : ρ x = vx) (hy : ρ y = vy) (hrun : (Instr.mapUpdate t vm vx vy).run P W = .ok () w1) : (execOp ρ o).run P W = .ok .skip w1 := by
  simp only [execOp, ho, hm, hx, hy, Sem.run_bind, hrun, Result.andThen_ok, Sem.run_pure]
theorem ex_clear {m : Operand} {t : TypeId} {v : Value} {w1 : World} (ho : o.op = .call { callee := .builtin .clear, args := #[m], argTypes := #[t] })
    (hrun : (Builtin.clear_ #[t] o.type #[ρ m]).run P W = .ok v w1) : (execOp ρ o).run P W = .ok (.value v) w1 := by
  simp [execOp, ho, resolve, invoke, builtin, hrun, Result.andThen]
theorem ex_delete {m k : Operand} {t kt : TypeId} {v : Value} {w1 : World} (ho : o.op = .call { callee := .builtin .delete, args := #[m, k], argTypes := #[t, kt] })
    (hrun : (Builtin.delete_ #[t, kt] o.type #[ρ m, ρ k]).run P W = .ok v w1) : (execOp ρ o).run P W = .ok (.value v) w1 := by
  simp [execOp, ho, resolve, invoke, builtin, hrun, Result.andThen]
end
theorem badF_del (b : Int → Bool) (a : Int) : badF (fun x => if x = a then false else b x) = Mp.del (badF b) (.int .i64 a) := by
  funext v
  unfold Mp.del
  cases v with
  | int k n =>
    cases k with
    | i64 => by_cases ha : n = a <;> simp [badF, ha]
    | _ => simp [badF]
  | _ => simp [badF]
theorem badF_upd (b : Int → Bool) (a : Int) : badF (fun x => if x = a then true else b x) = Mp.upd (badF b) (.int .i64 a) (.bool true) := by
  funext v
  unfold Mp.upd
  cases v with
  | int k n =>
    cases k with
    | i64 => by_cases ha : n = a <;> simp [badF, ha]
    | _ => simp [badF]
  | _ => simp [badF]
/-- A disk whose map of bad sectors was turned. -/
theorem DK.turnb {w w' : World} {base B M Bd : Nat} {vc : Value} {D D' : PD} (h : DK w base B M Bd vc D) (hc : Chg w w' (fun k => k = Bd)) (hk : Mp.Is (.int .i64) w' Bd (badF D'.bad)) (e : D' = { D with bad := D'.bad }) : DK w' base B M Bd vc D' := by
  have hB : B < w.heap.size := (Array.getElem?_eq_some_iff.1 h.blk).1
  have hb : DCells w' B M Bd vc D := (hc.block B hB (fun e => h.hne.2.2 e.symm)).trans h.blk
  rw [e]
  exact ⟨hb, h.kept.same (hc.block M h.kept.lt h.hne.1), hk, Kd.R_step h.cache (fun k hk hl => hc.block k hl hk.2.2), h.hB, h.hM, h.hBd, h.hne, h.sec, h.hn, h.hl⟩
def faultP (D : PD) (at_ : Int) (on : Bool) : PD := if inB at_ D.n = false then D else { D with bad := fun x => if x = at_ then on else D.bad x }
theorem fault_calls (w : World) (base B M Bd : Nat) (vc : Value) (D : PD) (at_ : Int) (on : Bool) (h : DK w base B M Bd vc D) :
    Calls Try.prog 31 #[.pointer (some ⟨B, 0, none⟩), .int .i64 at_, .bool on] w fun e w' => e = .returned (.tuple #[]) ∧ DK w' base B M Bd vc (faultP D at_ on) ∧ Chg w w' (fun k => k = Bd) := by
  have HD := Aside0.mk h
  obtain ⟨⟨g0, g1, g2, g3, g4, g5, g6⟩, k2, k4, k5, k6⟩ := cells7 h.blk
  clear h k2 k4 k5 k6 g4 g5 g6 g2
  by_cases hi : inB at_ D.n = false
  · have HI := Aside0.mk hi
    have hf : faultP D at_ on = D := by unfold faultP; rw [if_pos hi]
    rw [hf]
    clear hf hi
    go_enter Try.func31, Try.ntmps31
    go_wp2_with (first | (go_at_call 64; refine (has_calls _ B M _ at_ g0 g1).mono ?_; rw [HI.out]; rintro e w' ⟨rfl, rfl⟩))
    go_end0
    exact ⟨rfl, HD.out, Chg.refl _ _⟩
  have hi0 : inB at_ D.n = true := by simpa using hi
  have HI := Aside0.mk hi0
  cases on with
  | true =>
    obtain ⟨w2, hr2, ht2, hi2⟩ := Mp.run_update (P := Try.prog) (t := 93) (kt := 3) (et := 4) (d := .int .i64) (r := Bd) (f := badF D.bad) HD.out.bad Try.underlying93 Try.underlying3 (k := .int .i64 at_) rfl (.bool true)
    have HR2 := Aside0.mk hr2
    have HT2 := Aside0.mk ht2
    have HI2 := Aside0.mk hi2
    have hf : faultP D at_ true = { D with bad := fun x => if x = at_ then true else D.bad x } := by unfold faultP; rw [if_neg hi]
    rw [hf]
    clear hr2 ht2 hi2 hf hi hi0
    go_enter Try.func31, Try.ntmps31
    go_wp2_with (first | (go_at_call 64; refine (has_calls _ B M _ at_ g0 g1).mono ?_; rw [HI.out]; rintro e w' ⟨rfl, rfl⟩) | ((with_reducible refine gate_ (.mapUpdate 93 (.tmp 21) (.tmp 22) (.const (.bool true))) rfl ?_); refine Arr.skip_run rfl (ex_update' rfl rfl rfl rfl HR2.out) ?_; simp only [Act.put, List.setIfInBounds_toArray, List.set_cons_succ, List.set_cons_zero]))
    go_end0
    have hc : Chg w w2 (fun k => k = Bd) := .turned HT2.out rfl
    exact ⟨rfl, HD.out.turnb hc (by rw [badF_upd]; exact HI2.out) rfl, hc⟩
  | false =>
    obtain ⟨w2, hr2, ht2, hi2⟩ := Mp.run_delete (P := Try.prog) (t := 93) (kt := 3) (et := 4) (d := .int .i64) (r := Bd) (f := badF D.bad) (ty := 0) HD.out.bad Try.underlying93 Try.underlying3 (k := .int .i64 at_) rfl
    have HR2 := Aside0.mk hr2
    have HT2 := Aside0.mk ht2
    have HI2 := Aside0.mk hi2
    have hf : faultP D at_ false = { D with bad := fun x => if x = at_ then false else D.bad x } := by unfold faultP; rw [if_neg hi]
    rw [hf]
    clear hr2 ht2 hi2 hf hi hi0
    go_enter Try.func31, Try.ntmps31
    go_wp2_with (first | (go_at_call 64; refine (has_calls _ B M _ at_ g0 g1).mono ?_; rw [HI.out]; rintro e w' ⟨rfl, rfl⟩) | ((with_reducible refine gate_builtin (b := .delete) (xs := #[.tmp 9, .tmp 10]) rfl ?_); refine Kd.event_run rfl (ex_delete rfl HR2.out) ?_; simp only [Act.put, List.setIfInBounds_toArray, List.set_cons_succ, List.set_cons_zero]))
    go_end0
    have hc : Chg w w2 (fun k => k = Bd) := .turned HT2.out rfl
    exact ⟨rfl, HD.out.turnb hc (by rw [badF_del]; exact HI2.out) rfl, hc⟩
theorem fault_none (w : World) (at_ : Int) (on : Bool) : Calls Try.prog 31 #[.pointer none, .int .i64 at_, .bool on] w fun e w' => e = .returned (.tuple #[]) ∧ w = w' := by
  go_enter Try.func31, Try.ntmps31
  go_wp2_with (first | (go_at_call 64; refine (has_none _ at_).mono ?_; rintro e w' ⟨rfl, rfl⟩))
  go_end0
  exact ⟨rfl, rfl⟩
def wipeP (D : PD) : PD := restP { D with kept := fun _ => none, bad := fun _ => false }
theorem keptF_none : keptF (fun _ => none) = fun _ => none := by funext v; unfold keptF; split <;> simp
theorem badF_none : badF (fun _ => false) = fun _ => none := by funext v; unfold badF; split <;> simp
theorem wipe_none (w : World) : Calls Try.prog 33 #[.pointer none] w fun e w' => e = .returned (.tuple #[]) ∧ w = w' := by
  go_enter Try.func33, Try.ntmps33
  go_wp2_with (first | (go_at_call 63; refine (ok_none _).mono ?_; rintro e w' ⟨rfl, rfl⟩))
  go_end0
  exact ⟨rfl, rfl⟩
theorem wipe_calls (w : World) (base B M Bd : Nat) (vc : Value) (D : PD) (h : DK w base B M Bd vc D) :
    Calls Try.prog 33 #[.pointer (some ⟨B, 0, none⟩)] w fun e w' => e = .returned (.tuple #[]) ∧ DK w' base B M Bd (.slice none 0 0) (wipeP D) ∧ Chg w w' (fun k => k = B ∨ k = M ∨ k = Bd) := by
  have HD := Aside0.mk h
  obtain ⟨⟨g0, g1, g2, g3, g4, g5, g6⟩, k2, k4, k5, k6⟩ := cells7 h.blk
  clear k2 k4 k5 k6 g4 g5 g6 g2 g0
  obtain ⟨w2, hr2, ht2, hi2⟩ := Mp.run_clear (P := Try.prog) (t := 92) (kt := 3) (et := 99) (d := .int .i64) (r := M) (f := keptF D.kept) (ty := 0) h.kept Try.underlying92
  have hc1 : Chg w w2 (fun k => k = M) := .turned ht2 rfl
  have hd1 : DK w2 base B M Bd vc { D with kept := fun _ => none } := h.turn hc1 (by rw [keptF_none]; exact hi2) (fun a s h => by cases h) rfl
  obtain ⟨w3, hr3, ht3, hi3⟩ := Mp.run_clear (P := Try.prog) (t := 93) (kt := 3) (et := 4) (d := .int .i64) (r := Bd) (f := badF D.bad) (ty := 0) hd1.bad Try.underlying93
  have hc2 : Chg w2 w3 (fun k => k = Bd) := .turned ht3 rfl
  have hd2 : DK w3 base B M Bd vc { D with kept := fun _ => none, bad := fun _ => false } := hd1.turnb hc2 (by rw [badF_none]; exact hi3) rfl
  have q3 := (cells7 hd1.blk).1.2.2.2.1
  have HR2 := Aside0.mk hr2
  have HR3 := Aside0.mk hr3
  have HD2 := Aside0.mk hd2
  have HCC := Aside0.mk ((hc1.mono fun k (hk : k = M) => (.inr (.inl hk) : k = B ∨ k = M ∨ k = Bd)).trans (hc2.mono fun k hk => .inr (.inr hk)))
  clear hr2 ht2 hi2 hr3 ht3 hi3 hd1 hd2 hc1 hc2 h
  go_enter Try.func33, Try.ntmps33
  go_wp2_with (first | (go_at_call 63; refine (ok_calls _ _ _ g1).mono ?_; rintro e w' ⟨rfl, rfl⟩) | (go_at_call 67; refine (rest_calls w3 base B M Bd _ _ HD2.out).mono ?_; rintro e w4 ⟨rfl, hd, ho⟩; have HD4 := Aside0.mk hd; have HO := Aside0.mk ho; clear hd ho) | ((with_reducible refine gate_builtin (b := .clear) (xs := #[.tmp 7]) rfl ?_); refine Kd.event_run rfl (ex_clear rfl HR2.out) ?_; simp only [Act.put, List.setIfInBounds_toArray, List.set_cons_succ, List.set_cons_zero]) | ((with_reducible refine gate_builtin (b := .clear) (xs := #[.tmp 11]) rfl ?_); refine Kd.event_run rfl (ex_clear rfl HR3.out) ?_; simp only [Act.put, List.setIfInBounds_toArray, List.set_cons_succ, List.set_cons_zero]))
  go_end0
  exact ⟨rfl, HD4.out, HCC.out.trans (HO.out.chg fun _ h => .inl h)⟩
def cloneP (D : PD) : PD := { n := D.n, kept := D.kept, cache := [], bad := fun _ => false, armed := false, left := 0, dead := false }
theorem dclone_none (w : World) : Calls Try.prog 21 #[.pointer none] w fun e w' => e = .returned (.pointer none) ∧ w = w' := by
  go_enter Try.func21, Try.ntmps21
  go_wp2_with (first | (go_at_call 63; refine (ok_none _).mono ?_; rintro e w' ⟨rfl, rfl⟩))
  go_ret
  exact ⟨rfl, rfl⟩
end Go.Proofs.Ytlepcmljmibdnaa
