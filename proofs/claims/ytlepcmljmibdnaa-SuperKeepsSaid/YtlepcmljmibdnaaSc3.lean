/- Parts of one proof, joined: Do, Fork, Dx. Conditions: those of each statement. -/
import Derived.Test.YtlepcmljmibdnaaSc2
import Derived.Shelf.SlMaps.Clone
import Derived.Deep.RegionWith
import Derived.Test.YtlepcmljmibdnaaSc0
namespace Go.Proofs.Ytlepcmljmibdnaa
open Go.RowKit Go.Proofs.YtlepcmljmibdnaaW.PrintWords Go.Proofs.YtlepcmljmibdnaaW.PrintLast Go.Proofs.YtlepcmljmibdnaaW.PrintMore
attribute [local go_sem] run_makeMap
set_option linter.unusedVariables false
set_option linter.unusedSimpArgs false
theorem ex_mclone {o : Oper} {a : Act} (W : World) {x : Operand} {M : Nat} {es : Array MapEntry} {clock : Nat} (ho : o.op = .call { callee := .value (.func 99), args := #[x], argTypes := #[20] }) (hx : a.eval x = .iface 92 (.map (some M))) (hb : W.heap[M]? = some (.map es clock)) :
    (execOp a.eval o).run Try.prog W = .ok (.value (.iface 92 (.map (some W.heap.size)))) (W.alloc (.map es clock)) := by
  have h1 := run_maps_clone_sl (P := Try.prog) W 92 hb
  have h2 := run_callFunc_extern Try.func99 (by kernel_rfl) (by kernel_rfl) (by kernel_rfl) (e := Extern.MapsClone.clone) (by kernel_rfl) #[.iface 92 (.map (some M))] W
  rw [h1] at h2
  simp only [Result.andThen_ok] at h2
  have hf : a.eval (.func 99) = .func (.func 99) #[] #[] := rfl
  simp only [execOp, ho]
  simp [resolve, invoke, Deferred.ofValue, hx, hf, h2]
theorem ex_massert {o : Oper} {ρ : Operand → Value} (W : World) {x : Operand} {v : Value} (ho : o.op = .typeAssert x 20 92 false) (hx : ρ x = .iface 92 v) : (execOp ρ o).run Try.prog W = .ok (.value v) W := by
  simp only [execOp, ho, hx, Sem.run_bind, run_typeAssert_map_sl W 92 20 _ _ v Try.underlying92, Result.andThen_ok, Sem.run_pure]
theorem mclone_calls (w : World) (M : Nat) (es : Array MapEntry) (clock : Nat) (hb : w.heap[M]? = some (.map es clock)) :
    Calls Try.prog 68 #[.map (some M)] w fun e w' => e = .returned (.map (some w.heap.size)) ∧ w' = w.alloc (.map es clock) := by
  have hq := run_eql_map_nil_sl (P := Try.prog) w 92 _ _ (some M) Try.underlying92
  simp only [Option.isNone_some] at hq
  have HB := Aside0.mk hb
  clear hb
  go_enter Try.func68, Try.ntmps68
  go_wp2_with (first | ((with_reducible refine gate_callee (f := 99) rfl ?_); go_loud (refine Kd.event_run rfl (ex_mclone w rfl rfl HB.out) ?_); simp only [Act.put, List.setIfInBounds_toArray, List.set_cons_succ, List.set_cons_zero]) | ((with_reducible refine gate_ (.typeAssert (.tmp 7) 20 92 false) rfl ?_); refine Kd.event_run rfl (ex_massert _ rfl rfl) ?_; simp only [Act.put, List.setIfInBounds_toArray, List.set_cons_succ, List.set_cons_zero]))
  go_ret
  exact ⟨rfl, rfl⟩
section
variable {P : Program} {W : World} {o : Oper} {ρ : Operand → Value}
theorem ex_update' {m x y : Operand} {t : TypeId} {w1 : World} {vm vx vy : Value} (ho : o.op = .mapUpdate t m x y) (hm : ρ m = vm) (hx : ρ x = vx) (hy : ρ y = vy) (hrun : (Instr.mapUpdate t vm vx vy).run P W = .ok () w1) : (execOp ρ o).run P W = .ok .skip w1 := by
  simp only [execOp, ho, hm, hx, hy, Sem.run_bind, hrun, Result.andThen_ok, Sem.run_pure]
theorem ex_clear {m : Operand} {t : TypeId} {v : Value} {w1 : World} (ho : o.op = .call { callee := .builtin .clear, args := #[m], argTypes := #[t] })
    (hrun : (Builtin.clear_ #[t] o.type #[ρ m]).run P W = .ok v w1) : (execOp ρ o).run P W = .ok (.value v) w1 := by
  simp [execOp, ho, resolve, invoke, builtin, hrun, Result.andThen]
theorem ex_delete {m k : Operand} {t kt : TypeId} {v : Value} {w1 : World} (ho : o.op = .call { callee := .builtin .delete, args := #[m, k], argTypes := #[t, kt] })
    (hrun : (Builtin.delete_ #[t, kt] o.type #[ρ m, ρ k]).run P W = .ok v w1) : (execOp ρ o).run P W = .ok (.value v) w1 := by
  simp [execOp, ho, resolve, invoke, builtin, hrun, Result.andThen]
end
theorem badF_del (b : Int → Bool) (a : Int) : badF (fun x => if x = a then false else b x) = Mp.del (badF b) (.int .i64 a) := by
  funext v
  unfold Mp.del
  cases v with
  | int k n =>
    cases k with
    | i64 => by_cases ha : n = a <;> simp [badF, ha]
    | _ => simp [badF]
  | _ => simp [badF]
theorem badF_upd (b : Int → Bool) (a : Int) : badF (fun x => if x = a then true else b x) = Mp.upd (badF b) (.int .i64 a) (.bool true) := by
  funext v
  unfold Mp.upd
  cases v with
  | int k n =>
    cases k with
    | i64 => by_cases ha : n = a <;> simp [badF, ha]
    | _ => simp [badF]
  | _ => simp [badF]
/-- A disk whose map of bad sectors was turned. -/
theorem DK.turnb {w w' : World} {base B M Bd : Nat} {vc : Value} {D D' : PD} (h : DK w base B M Bd vc D) (hc : Chg w w' (fun k => k = Bd)) (hk : Mp.Is (.int .i64) w' Bd (badF D'.bad)) (e : D' = { D with bad := D'.bad }) : DK w' base B M Bd vc D' := by
  have hB : B < w.heap.size := (Array.getElem?_eq_some_iff.1 h.blk).1
  have hb : DCells w' B M Bd vc D := (hc.block B hB (fun e => h.hne.2.2 e.symm)).trans h.blk
  rw [e]
  exact ⟨hb, h.kept.same (hc.block M h.kept.lt h.hne.1), hk, Kd.R_step h.cache (fun k hk hl => hc.block k hl hk.2.2), h.hB, h.hM, h.hBd, h.hne, h.sec, h.hn, h.hl⟩
def faultP (D : PD) (at_ : Int) (on : Bool) : PD := if inB at_ D.n = false then D else { D with bad := fun x => if x = at_ then on else D.bad x }
theorem fault_calls (w : World) (base B M Bd : Nat) (vc : Value) (D : PD) (at_ : Int) (on : Bool) (h : DK w base B M Bd vc D) :
    Calls Try.prog 31 #[.pointer (some ⟨B, 0, none⟩), .int .i64 at_, .bool on] w fun e w' => e = .returned (.tuple #[]) ∧ DK w' base B M Bd vc (faultP D at_ on) ∧ Chg w w' (fun k => k = Bd) := by
  have HD := Aside0.mk h
  obtain ⟨⟨g0, g1, g2, g3, g4, g5, g6⟩, k2, k4, k5, k6⟩ := cells7 h.blk
  clear h k2 k4 k5 k6 g4 g5 g6 g2
  by_cases hi : inB at_ D.n = false
  · have HI := Aside0.mk hi
    have hf : faultP D at_ on = D := by unfold faultP; rw [if_pos hi]
    rw [hf]
    clear hf hi
    go_enter Try.func31, Try.ntmps31
    go_wp2_with (first | (go_at_call 64; refine (has_calls _ B M _ at_ g0 g1).mono ?_; rw [HI.out]; rintro e w' ⟨rfl, rfl⟩))
    go_end0
    exact ⟨rfl, HD.out, Chg.refl _ _⟩
  have hi0 : inB at_ D.n = true := by simpa using hi
  have HI := Aside0.mk hi0
  cases on with
  | true =>
    obtain ⟨w2, hr2, ht2, hi2⟩ := Mp.run_update (P := Try.prog) (t := 93) (kt := 3) (et := 4) (d := .int .i64) (r := Bd) (f := badF D.bad) HD.out.bad Try.underlying93 Try.underlying3 (k := .int .i64 at_) rfl (.bool true)
    have HR2 := Aside0.mk hr2
    have HT2 := Aside0.mk ht2
    have HI2 := Aside0.mk hi2
    have hf : faultP D at_ true = { D with bad := fun x => if x = at_ then true else D.bad x } := by unfold faultP; rw [if_neg hi]
    rw [hf]
    clear hr2 ht2 hi2 hf hi hi0
    go_enter Try.func31, Try.ntmps31
    go_wp2_with (first | (go_at_call 64; refine (has_calls _ B M _ at_ g0 g1).mono ?_; rw [HI.out]; rintro e w' ⟨rfl, rfl⟩) | ((with_reducible refine gate_ (.mapUpdate 93 (.tmp 21) (.tmp 22) (.const (.bool true))) rfl ?_); refine Arr.skip_run rfl (ex_update' rfl rfl rfl rfl HR2.out) ?_; simp only [Act.put, List.setIfInBounds_toArray, List.set_cons_succ, List.set_cons_zero]))
    go_end0
    have hc : Chg w w2 (fun k => k = Bd) := .turned HT2.out rfl
    exact ⟨rfl, HD.out.turnb hc (by rw [badF_upd]; exact HI2.out) rfl, hc⟩
  | false =>
    obtain ⟨w2, hr2, ht2, hi2⟩ := Mp.run_delete (P := Try.prog) (t := 93) (kt := 3) (et := 4) (d := .int .i64) (r := Bd) (f := badF D.bad) (ty := 0) HD.out.bad Try.underlying93 Try.underlying3 (k := .int .i64 at_) rfl
    have HR2 := Aside0.mk hr2
    have HT2 := Aside0.mk ht2
    have HI2 := Aside0.mk hi2
    have hf : faultP D at_ false = { D with bad := fun x => if x = at_ then false else D.bad x } := by unfold faultP; rw [if_neg hi]
    rw [hf]
    clear hr2 ht2 hi2 hf hi hi0
    go_enter Try.func31, Try.ntmps31
    go_wp2_with (first | (go_at_call 64; refine (has_calls _ B M _ at_ g0 g1).mono ?_; rw [HI.out]; rintro e w' ⟨rfl, rfl⟩) | ((with_reducible refine gate_builtin (b := .delete) (xs := #[.tmp 9, .tmp 10]) rfl ?_); refine Kd.event_run rfl (ex_delete rfl HR2.out) ?_; simp only [Act.put, List.setIfInBounds_toArray, List.set_cons_succ, List.set_cons_zero]))
    go_end0
    have hc : Chg w w2 (fun k => k = Bd) := .turned HT2.out rfl
    exact ⟨rfl, HD.out.turnb hc (by rw [badF_del]; exact HI2.out) rfl, hc⟩
theorem fault_none (w : World) (at_ : Int) (on : Bool) : Calls Try.prog 31 #[.pointer none, .int .i64 at_, .bool on] w fun e w' => e = .returned (.tuple #[]) ∧ w = w' := by
  go_enter Try.func31, Try.ntmps31
  go_wp2_with (first | (go_at_call 64; refine (has_none _ at_).mono ?_; rintro e w' ⟨rfl, rfl⟩))
  go_end0
  exact ⟨rfl, rfl⟩
def wipeP (D : PD) : PD := restP { D with kept := fun _ => none, bad := fun _ => false }
theorem keptF_none : keptF (fun _ => none) = fun _ => none := by funext v; unfold keptF; split <;> simp
theorem badF_none : badF (fun _ => false) = fun _ => none := by funext v; unfold badF; split <;> simp
theorem wipe_none (w : World) : Calls Try.prog 33 #[.pointer none] w fun e w' => e = .returned (.tuple #[]) ∧ w = w' := by
  go_enter Try.func33, Try.ntmps33
  go_wp2_with (first | (go_at_call 63; refine (ok_none _).mono ?_; rintro e w' ⟨rfl, rfl⟩))
  go_end0
  exact ⟨rfl, rfl⟩
theorem wipe_calls (w : World) (base B M Bd : Nat) (vc : Value) (D : PD) (h : DK w base B M Bd vc D) :
    Calls Try.prog 33 #[.pointer (some ⟨B, 0, none⟩)] w fun e w' => e = .returned (.tuple #[]) ∧ DK w' base B M Bd (.slice none 0 0) (wipeP D) ∧ Chg w w' (fun k => k = B ∨ k = M ∨ k = Bd) := by
  have HD := Aside0.mk h
  obtain ⟨⟨g0, g1, g2, g3, g4, g5, g6⟩, k2, k4, k5, k6⟩ := cells7 h.blk
  clear k2 k4 k5 k6 g4 g5 g6 g2 g0
  obtain ⟨w2, hr2, ht2, hi2⟩ := Mp.run_clear (P := Try.prog) (t := 92) (kt := 3) (et := 99) (d := .int .i64) (r := M) (f := keptF D.kept) (ty := 0) h.kept Try.underlying92
  have hc1 : Chg w w2 (fun k => k = M) := .turned ht2 rfl
  have hd1 : DK w2 base B M Bd vc { D with kept := fun _ => none } := h.turn hc1 (by rw [keptF_none]; exact hi2) (fun a s h => by cases h) rfl
  obtain ⟨w3, hr3, ht3, hi3⟩ := Mp.run_clear (P := Try.prog) (t := 93) (kt := 3) (et := 4) (d := .int .i64) (r := Bd) (f := badF D.bad) (ty := 0) hd1.bad Try.underlying93
  have hc2 : Chg w2 w3 (fun k => k = Bd) := .turned ht3 rfl
  have hd2 : DK w3 base B M Bd vc { D with kept := fun _ => none, bad := fun _ => false } := hd1.turnb hc2 (by rw [badF_none]; exact hi3) rfl
  have q3 := (cells7 hd1.blk).1.2.2.2.1
  have HR2 := Aside0.mk hr2
  have HR3 := Aside0.mk hr3
  have HD2 := Aside0.mk hd2
  have HCC := Aside0.mk ((hc1.mono fun k (hk : k = M) => (.inr (.inl hk) : k = B ∨ k = M ∨ k = Bd)).trans (hc2.mono fun k hk => .inr (.inr hk)))
  clear hr2 ht2 hi2 hr3 ht3 hi3 hd1 hd2 hc1 hc2 h
  go_enter Try.func33, Try.ntmps33
  go_wp2_with (first | (go_at_call 63; refine (ok_calls _ _ _ g1).mono ?_; rintro e w' ⟨rfl, rfl⟩) | (go_at_call 67; refine (rest_calls w3 base B M Bd _ _ HD2.out).mono ?_; rintro e w4 ⟨rfl, hd, ho⟩; have HD4 := Aside0.mk hd; have HO := Aside0.mk ho; clear hd ho) | ((with_reducible refine gate_builtin (b := .clear) (xs := #[.tmp 7]) rfl ?_); refine Kd.event_run rfl (ex_clear rfl HR2.out) ?_; simp only [Act.put, List.setIfInBounds_toArray, List.set_cons_succ, List.set_cons_zero]) | ((with_reducible refine gate_builtin (b := .clear) (xs := #[.tmp 11]) rfl ?_); refine Kd.event_run rfl (ex_clear rfl HR3.out) ?_; simp only [Act.put, List.setIfInBounds_toArray, List.set_cons_succ, List.set_cons_zero]))
  go_end0
  exact ⟨rfl, HD4.out, HCC.out.trans (HO.out.chg fun _ h => .inl h)⟩
def cloneP (D : PD) : PD := { n := D.n, kept := D.kept, cache := [], bad := fun _ => false, armed := false, left := 0, dead := false }
theorem dclone_none (w : World) : Calls Try.prog 21 #[.pointer none] w fun e w' => e = .returned (.pointer none) ∧ w = w' := by
  go_enter Try.func21, Try.ntmps21
  go_wp2_with (first | (go_at_call 63; refine (ok_none _).mono ?_; rintro e w' ⟨rfl, rfl⟩))
  go_ret
  exact ⟨rfl, rfl⟩
end Go.Proofs.Ytlepcmljmibdnaa
namespace Go.Fork
open Go.RowKit Go.Calm
inductive Tr where
  | nil
  | one (i k : Nat) (t : Tr)
  | two (i : Nat) (t : Tr) (j : Nat) (t' : Tr)
def Tr.len : Tr → Nat
  | .nil => 0
  | .one _ _ t => t.len + 1
  | .two _ t _ _ => t.len + 1
/-- below b all is as it was -/
structure Lo (b : Nat) (w w' : World) : Prop where
  os : w'.os = w.os
  tape : w'.tape = w.tape
  output : w'.output = w.output
  size : b ≤ w.heap.size → b ≤ w'.heap.size
  block : ∀ k, k < b → w'.heap[k]? = w.heap[k]?
theorem Lo.refl (b : Nat) (w : World) : Lo b w w := ⟨rfl, rfl, rfl, id, fun _ _ => rfl⟩
theorem Lo.trans {b : Nat} {a w w' : World} (h : Lo b a w) (k : Lo b w w') : Lo b a w' := ⟨k.os.trans h.os, k.tape.trans h.tape, k.output.trans h.output, fun e => k.size (h.size e), fun i hi => (k.block i hi).trans (h.block i hi)⟩
theorem Lo.of_below {b : Nat} {w w' : World} (h : Below b w w') : Lo b w w' := ⟨h.os, h.tape, h.output, fun e => Nat.le_trans e h.size, h.block⟩
theorem Lo.below {w w' : World} (h : Lo w.heap.size w w') : Below w.heap.size w w' := ⟨h.os, h.tape, h.output, h.size (Nat.le_refl _), h.block⟩
theorem Lo.zero {w w' : World} (h1 : w'.os = w.os) (h2 : w'.tape = w.tape) (h3 : w'.output = w.output) : Lo 0 w w' := ⟨h1, h2, h3, fun _ => Nat.zero_le _, fun _ hk => absurd hk (Nat.not_lt_zero _)⟩
structure Rel (G : World → World → Prop) : Prop where
  refl : ∀ w, G w w
  trans : ∀ {a b c}, G a b → G b c → G a c
theorem Lo.rel (b : Nat) : Rel (Lo b) := ⟨Lo.refl b, fun h k => h.trans k⟩
/-- what an operation that acts may do to memory: what G lets it, unless it is one of ys; if it is none of the writers xs, only grow it -/
structure Grow (G : World → World → Prop) (xs ys : List Nat) (i : Nat) (w w' : World) : Prop where
  low : i ∉ ys → G w w'
  new : i ∉ xs → Below w.heap.size w w'
theorem Grow.of_new {b : Nat} {xs ys : List Nat} {i : Nat} {w w' : World} (h : Below w.heap.size w w') (hb : b ≤ w.heap.size) : Grow (Lo b) xs ys i w w' := ⟨fun _ => .of_below (h.mono hb), fun _ => h⟩
theorem Grow.of_any {G : World → World → Prop} {xs ys : List Nat} {i : Nat} {w w' : World} (hx : xs.contains i = true) (hy : ys.contains i = true) : Grow G xs ys i w w' := ⟨fun hn => absurd (by simpa using hy) hn, fun hn => absurd (by simpa using hx) hn⟩
theorem Grow.of_old {G : World → World → Prop} {xs ys : List Nat} {i : Nat} {w w' : World} (h : G w w') (hx : xs.contains i = true) : Grow G xs ys i w w' := ⟨fun _ => h, fun hn => absurd (by simpa using hx) hn⟩
theorem Grow.both {G : World → World → Prop} {xs ys : List Nat} {i : Nat} {w w' : World} (h : G w w') (k : Below w.heap.size w w') : Grow G xs ys i w w' := ⟨fun _ => h, fun _ => k⟩
def Hold (G : World → World → Prop) (k : Nat) (w W : World) : Prop := k = 0 ∨ (k = 1 ∧ Below w.heap.size w W) ∨ (k = 3 ∧ G w W)
section
variable {P : Program} {md : Region.Mode} {ops : Array Oper} {Q : Exit → Act → World → Prop} {G : World → World → Prop} {xs ys : List Nat}
theorem Hold.refl (hG : Rel G) {k : Nat} (h : k = 0 ∨ k = 1 ∨ k = 3) (w : World) : Hold G k w w := by
  rcases h with h | h | h
  · exact .inl h
  · exact .inr (.inl ⟨h, Below.refl _ _⟩)
  · exact .inr (.inr ⟨h, hG.refl _⟩)
theorem Hold.next (hG : Rel G) {k : Nat} {w w1 W : World} (hb : k = 0 ∨ (k = 3 ∧ G w w1) ∨ (k ≠ 3 ∧ Below w.heap.size w w1)) (h : Hold G k w1 W) : Hold G k w W := by
  rcases h with h | ⟨h, h'⟩ | ⟨h, h'⟩
  · exact .inl h
  · subst h
    have hb := ((hb.resolve_left (by decide)).resolve_left (by rintro ⟨h, _⟩; cases h)).2
    exact .inr (.inl ⟨rfl, hb.trans (h'.mono hb.size)⟩)
  · subst h
    rcases hb with hb | ⟨_, hb⟩ | ⟨hb, _⟩
    · cases hb
    · exact .inr (.inr ⟨rfl, hG.trans hb h'⟩)
    · exact absurd rfl hb
theorem yields_next (hG : Rel G) {k : Nat} {w w1 : World} {o : Oper} {v : Value} {a : Act} (hb : k = 0 ∨ (k = 3 ∧ G w w1) ∨ (k ≠ 3 ∧ Below w.heap.size w w1)) (h : YieldsIf P ops (Hold G k w) o v a) : YieldsIf P ops (Hold G k w1) o v a :=
  h.imp (fun ⟨h1, h2⟩ => ⟨h1, fun W hW => h2 W (Hold.next hG hb hW)⟩) id
def wpAnyG (P : Program) (md : Region.Mode) (ops : Array Oper) (Q : Exit → Act → World → Prop) (G : World → World → Prop) (xs ys : List Nat) : Nat → Array Bool → Act → World → Prop
  | 0, listed, a, w => Region.ready md ops listed = [] ∧ Q .normal a w
  | fuel + 1, listed, a, w =>
    (Region.ready md ops listed = [] → Q .normal a w) ∧
    ∀ i ∈ Region.ready md ops listed, wpOp P ops Q i (fun a' w' => Grow G xs ys i w w' ∧ wpAnyG P md ops Q G xs ys fuel (listed.setIfInBounds i true) a' w') a w
theorem wpAny_of_G : ∀ (fuel : Nat) (listed : Array Bool) (a : Act) (w : World), wpAnyG P md ops Q G xs ys fuel listed a w → wpAny P md ops Q fuel listed a w
  | 0, _, _, _, h => h
  | fuel + 1, _, _, _, h => ⟨h.1, fun i hi => wpOp_mono (fun a' w' h' => wpAny_of_G fuel _ a' w' h'.2) (h.2 i hi)⟩
theorem first (hG : Rel G) {i : Nat} {oi : Oper} {v : Value} {kd : Nat} (hkd : kd = 0 ∨ kd = 1 ∨ kd = 3) (hi : ops[i]? = some oi) (hsel : ∀ (j : Nat) (o : Oper) cs b, ops[j]? = some o → o.op ≠ .select cs b)
    (hQ : ∀ c a w, Q (.panic c) (a.put oi.dst v) w → Q (.panic c) a w) (hix : i ∉ xs) (n : Nat) :
    ∀ (fuel : Nat) (listed : Array Bool) (a : Act) (w : World), Closed md ops listed →
      (kd = 0 ∨ (kd = 3 ∧ ∀ j ∈ ys, listed.getD j true = false → waitsT md ops n j i = true) ∨ (kd ≠ 3 ∧ ∀ j ∈ xs, listed.getD j true = false → waitsT md ops n j i = true)) →
      (∀ j oj, ops[j]? = some oj → j ≠ i → listed.getD j true = false → (∀ e ∈ oj.after, Region.binds md e = true → e.on ≠ i) → oi.apart ops oj = true) →
      i ∈ Region.ready md ops listed → YieldsIf P ops (Hold G kd w) oi v a →
      wpAnyG P md ops Q G xs ys fuel (listed.setIfInBounds i true) (a.put oi.dst v) w → wpAnyG P md ops Q G xs ys (fuel + 1) listed a w := by
  intro fuel
  induction fuel with
  | zero =>
    intro listed a w _ _ _ hr hy H
    refine ⟨fun h => (by rw [h] at hr; cases hr), fun j hj => ?_⟩
    by_cases hji : j = i
    · subst hji; exact hy.wpOp hi (Hold.refl hG hkd _) ⟨⟨fun _ => hG.refl _, fun _ => Below.refl _ _⟩, H⟩
    · have := ready_mono hj hji
      rw [H.1] at this
      cases this
  | succ fuel ih =>
    intro listed a w hcl hX hfree hr hy H
    refine ⟨fun h => (by rw [h] at hr; cases hr), fun j hj => ?_⟩
    by_cases hji : j = i
    · subst hji; exact hy.wpOp hi (Hold.refl hG hkd _) ⟨⟨fun _ => hG.refl _, fun _ => Below.refl _ _⟩, H⟩
    · have h1 := H.2 j (ready_mono hj hji)
      obtain ⟨hjun, oj, hoj, hall⟩ := mem_ready.1 hj
      have hiun : listed.getD i false = false := by
        have h0 := (mem_ready.1 hr).1
        rcases Nat.lt_or_ge i listed.size with h' | h'
        · simp [h'] at h0 ⊢; exact h0
        · simp [Array.getElem?_eq_none h']
      have hnot : ∀ e ∈ oj.after, Region.binds md e = true → e.on ≠ i := fun e he hb heq => by
        have h1 := hall e he hb
        rw [heq, hiun] at h1
        cases h1
      have hgrow : ∀ w', Grow G xs ys j w w' → (kd = 0 ∨ (kd = 3 ∧ G w w') ∨ (kd ≠ 3 ∧ Below w.heap.size w w')) := fun w' hw' => by
        rcases hX with hX | ⟨h3, hX⟩ | ⟨h3, hX⟩
        · exact .inl hX
        · refine .inr (.inl ⟨h3, hw'.low fun hjx => ?_⟩)
          have := waits_ready hcl hj (hX j hjx hjun)
          rw [hiun] at this
          cases this
        · refine .inr (.inr ⟨h3, hw'.new fun hjx => ?_⟩)
          have := waits_ready hcl hj (hX j hjx hjun)
          rw [hiun] at this
          cases this
      have h2 := wpOp_putIf hoj (hfree j oj hoj hji hjun hnot) (fun cs b => hsel i oi cs b hi) (fun cs b => hsel j oj cs b hoj) hQ hy h1
      have hfree' : ∀ k ok, ops[k]? = some ok → k ≠ i → (listed.setIfInBounds j true).getD k true = false →
          (∀ e ∈ ok.after, Region.binds md e = true → e.on ≠ i) → oi.apart ops ok = true := fun k ok hk hki hun hno => by
        refine hfree k ok hk hki ?_ hno
        by_cases hjk : j = k
        · subst hjk; exact hjun
        · rw [getD_set_ne true hjk] at hun; exact hun
      have hun' : ∀ k, (listed.setIfInBounds j true).getD k true = false → listed.getD k true = false := fun k hun => by
        by_cases hjk : j = k
        · subst hjk; exact hjun
        · rw [getD_set_ne true hjk] at hun; exact hun
      have hX' : kd = 0 ∨ (kd = 3 ∧ ∀ k ∈ ys, (listed.setIfInBounds j true).getD k true = false → waitsT md ops n k i = true) ∨ (kd ≠ 3 ∧ ∀ k ∈ xs, (listed.setIfInBounds j true).getD k true = false → waitsT md ops n k i = true) :=
        hX.imp id fun h => h.imp (fun h => ⟨h.1, fun k hk hun => h.2 k hk (hun' k hun)⟩) (fun h => ⟨h.1, fun k hk hun => h.2 k hk (hun' k hun)⟩)
      refine wpOp_mono (fun a' w' h3 => ⟨h3.2.1, ih (listed.setIfInBounds j true) a' w' (hcl.set hj) hX' hfree' (ready_mono hr (Ne.symm hji)) (yields_next hG (hgrow w' h3.2.1) h3.1) ?_⟩) h2
      rw [Array.setIfInBounds_comm _ _ hji]
      exact h3.2.2

def wpT (P : Program) (ops : Array Oper) (Q : Exit → Act → World → Prop) (G : World → World → Prop) (xs ys : List Nat) : Tr → Act → World → Prop
  | .nil, a, w => Q .normal a w
  | .one i 2 t, a, w => wpOp P ops Q i (fun a' w' => Grow G xs ys i w w' ∧ wpT P ops Q G xs ys t a' w') a w
  | .one i k t, a, w => ∃ o v, ops[i]? = some o ∧ YieldsIf P ops (Hold G k w) o v a ∧ wpT P ops Q G xs ys t (a.put o.dst v) w
  | .two i t j t', a, w => wpOp P ops Q i (fun a' w' => Grow G xs ys i w w' ∧ wpT P ops Q G xs ys t a' w') a w ∧ wpOp P ops Q j (fun a' w' => Grow G xs ys j w w' ∧ wpT P ops Q G xs ys t' a' w') a w
def okT (md : Region.Mode) (ops : Array Oper) (xs ys : List Nat) : Array Bool → Tr → Bool
  | listed, .nil => (Region.ready md ops listed).isEmpty
  | listed, .one i 2 t => Region.ready md ops listed == [i] && okT md ops xs ys (listed.setIfInBounds i true) t
  | listed, .one i k t => (Region.ready md ops listed).contains i && Region.free md ops listed i && !xs.contains i &&
      (k == 0 || k == 3 && (ys.all fun j => listed.getD j true || waitsT md ops ops.size j i) || k == 1 && xs.all fun j => listed.getD j true || waitsT md ops ops.size j i) && okT md ops xs ys (listed.setIfInBounds i true) t
  | listed, .two i t j t' => Region.ready md ops listed == [i, j] && t.len == t'.len && okT md ops xs ys (listed.setIfInBounds i true) t && okT md ops xs ys (listed.setIfInBounds j true) t'
theorem anyG_of_wpT (hG : Rel G) (hs : Region.noSelect ops = true) (hQ : ∀ c a w, ¬ Q (.panic c) a w) : ∀ (l : Tr) (listed : Array Bool) (a : Act) (w : World), Closed md ops listed →
    okT md ops xs ys listed l = true → wpT P ops Q G xs ys l a w → wpAnyG P md ops Q G xs ys l.len listed a w
  | .nil, listed, a, w, _, hB, h => ⟨by simpa [okT] using hB, h⟩
  | .two i t j t', listed, a, w, hc, hB, h => by
    simp only [okT, Bool.and_eq_true, beq_iff_eq] at hB
    obtain ⟨⟨⟨hr, hl⟩, h1⟩, h2⟩ := hB
    have hi : i ∈ Region.ready md ops listed := by rw [hr]; simp
    have hj : j ∈ Region.ready md ops listed := by rw [hr]; simp
    refine ⟨fun h0 => (by rw [h0] at hi; cases hi), fun m hm => ?_⟩
    rw [hr] at hm
    simp only [List.mem_cons, List.not_mem_nil, or_false] at hm
    rcases hm with rfl | rfl
    · exact wpOp_mono (fun a' w' h' => ⟨h'.1, anyG_of_wpT hG hs hQ t _ a' w' (hc.set hi) h1 h'.2⟩) h.1
    · refine wpOp_mono (fun a' w' h' => ⟨h'.1, ?_⟩) h.2
      have := anyG_of_wpT hG hs hQ t' _ a' w' (hc.set hj) h2 h'.2
      rw [← hl] at this
      exact this
  | .one i k rest, listed, a, w, hc, hB, h => by
    by_cases hk : k = 2
    · subst hk
      simp only [okT, Bool.and_eq_true, beq_iff_eq] at hB
      have hi : i ∈ Region.ready md ops listed := by rw [hB.1]; simp
      refine ⟨fun h0 => (by rw [h0] at hi; cases hi), fun j hj => ?_⟩
      rw [hB.1] at hj
      obtain rfl : j = i := by simpa using hj
      exact wpOp_mono (fun a' w' h' => ⟨h'.1, anyG_of_wpT hG hs hQ rest _ a' w' (hc.set hi) hB.2 h'.2⟩) h
    · have hB' : (((Region.ready md ops listed).contains i && Region.free md ops listed i && !xs.contains i &&
          (k == 0 || k == 3 && (ys.all fun j => listed.getD j true || waitsT md ops ops.size j i) || k == 1 && xs.all fun j => listed.getD j true || waitsT md ops ops.size j i)) && okT md ops xs ys (listed.setIfInBounds i true) rest) = true := by
        match k, hk, hB with
        | 0, _, hB => exact hB
        | 1, _, hB => exact hB
        | k + 3, _, hB => exact hB
      have h' : ∃ o v, ops[i]? = some o ∧ YieldsIf P ops (Hold G k w) o v a ∧ wpT P ops Q G xs ys rest (a.put o.dst v) w := by
        match k, hk, h with
        | 0, _, h => exact h
        | 1, _, h => exact h
        | k + 3, _, h => exact h
      simp only [Bool.and_eq_true, Bool.not_eq_true', Bool.or_eq_true] at hB'
      obtain ⟨⟨⟨⟨h1, h2⟩, h3⟩, h4⟩, h5⟩ := hB'
      obtain ⟨o, v, ho, hy, hr⟩ := h'
      have hi : i ∈ Region.ready md ops listed := by simpa using h1
      simp only [beq_iff_eq] at h4
      have hkd : k = 0 ∨ k = 1 ∨ k = 3 := by
        rcases h4 with (h4 | ⟨h4, _⟩) | ⟨h4, _⟩
        · exact .inl h4
        · exact .inr (.inr h4)
        · exact .inr (.inl h4)
      have hw : ∀ zs : List Nat, (zs.all fun j => listed.getD j true || waitsT md ops ops.size j i) = true → ∀ j ∈ zs, listed.getD j true = false → waitsT md ops ops.size j i = true := fun zs h j hj hun => by
        have := List.all_eq_true.1 h j hj
        simpa [hun] using this
      refine first hG hkd ho (Region.noSelect_spec hs) (fun c a w hp => absurd hp (hQ c _ w)) (by simpa using h3) ops.size rest.len listed a w hc ?_ (Region.free_spec ho h2) hi hy
        (anyG_of_wpT hG hs hQ rest _ _ w (hc.set hi) h5 hr)
      rcases h4 with (h4 | ⟨h4, h4'⟩) | ⟨h4, h4'⟩
      · exact .inl h4
      · exact .inr (.inl ⟨h4, hw ys h4'⟩)
      · exact .inr (.inr ⟨by rw [h4]; decide, hw xs h4'⟩)
/-- THE LAW. -/
theorem wp_fork {id : Nat} {a : Act} {w : World} {os : List Oper} {G : World → World → Prop} (hG : Rel G) (xs ys : List Nat) (l : Tr) (hm : P.follows .mixedOrders = true)
    (hB : (Region.noSelect os.toArray && l.len == os.length && okT .any os.toArray xs ys (Array.replicate os.length false) l) = true)
    (h : wpT P os.toArray (NoPanic Q) G xs ys l a w.drew) : (Code.region id os.toArray true).wp P Q a w := by
  simp only [Bool.and_eq_true, beq_iff_eq] at hB
  refine wp_region_noPanic (wp_region_any hm ?_)
  have h1 := anyG_of_wpT (md := .any) hG hB.1.1 (fun c a w hp => hp) l (Array.replicate os.length false) a w.drew (closed_none _) hB.2 h
  have h2 := wpAny_of_G _ _ _ _ h1
  rw [hB.1.2] at h2
  simpa using h2
end
set_option linter.unusedSimpArgs false
section
variable {P : Program} {ops : Array Oper} {Q : Exit → Act → World → Prop} {G : World → World → Prop} {xs ys : List Nat} {a : Act} {w : World} {i : Nat} {rest : Tr}
theorem done (h : Q .normal a w) : wpT P ops (NoPanic Q) G xs ys .nil a w := h
theorem plain {o : Oper} (ho : ops[i]? = some o) (v : Value) (hw : Region.wanted o (yielded ops a.tmps) = true) (hr : ∀ W, (execOp a.eval o).run P W = .ok (.value v) W)
    (h : wpT P ops Q G xs ys rest (a.put o.dst v) w) : wpT P ops Q G xs ys (.one i 0 rest) a w := ⟨o, v, ho, .inl ⟨hw, fun W _ => hr W⟩, h⟩
theorem reads {o : Oper} (ho : ops[i]? = some o) (v : Value) (hw : Region.wanted o (yielded ops a.tmps) = true) (hr : ∀ W, Below w.heap.size w W → (execOp a.eval o).run P W = .ok (.value v) W)
    (h : wpT P ops Q G xs ys rest (a.put o.dst v) w) : wpT P ops Q G xs ys (.one i 1 rest) a w :=
  ⟨o, v, ho, .inl ⟨hw, fun W hW => hr W (by rcases hW with h | ⟨_, h⟩ | ⟨h, _⟩; (cases h); exact h; cases h)⟩, h⟩
theorem olds {o : Oper} (ho : ops[i]? = some o) (v : Value) (hw : Region.wanted o (yielded ops a.tmps) = true) (hr : ∀ W, G w W → (execOp a.eval o).run P W = .ok (.value v) W)
    (h : wpT P ops Q G xs ys rest (a.put o.dst v) w) : wpT P ops Q G xs ys (.one i 3 rest) a w :=
  ⟨o, v, ho, .inl ⟨hw, fun W hW => hr W (by rcases hW with h | ⟨h, _⟩ | ⟨_, h⟩; (cases h); (cases h); exact h)⟩, h⟩
theorem skip {o : Oper} {k : Nat} (ho : ops[i]? = some o) (hk : k = 0 ∨ k = 1 ∨ k = 3) (hw : Region.wanted o (yielded ops a.tmps) = false)
    (h : wpT P ops Q G xs ys rest (a.put o.dst undef) w) : wpT P ops Q G xs ys (.one i k rest) a w := by
  rcases hk with rfl | rfl | rfl
  · exact ⟨o, undef, ho, .inr ⟨hw, rfl⟩, h⟩
  · exact ⟨o, undef, ho, .inr ⟨hw, rfl⟩, h⟩
  · exact ⟨o, undef, ho, .inr ⟨hw, rfl⟩, h⟩
theorem op {o : Oper} {J : Act → World → Prop} (ho : ops[i]? = some o)
    (h : ∀ K : Act → World → Prop, (∀ a' w', Grow G xs ys i w w' → J a' w' → K a' w') → if Region.wanted o (yielded ops a.tmps) = true then o.wp P a w K Q else K (a.put o.dst undef) w) :
    wpOp P ops Q i (fun a' w' => Grow G xs ys i w w' ∧ J a' w') a w := by
  unfold wpOp
  simp only [ho]
  by_cases hw : Region.wanted o (yielded ops a.tmps) = true
  · have := h (fun a' w' => Grow G xs ys i w w' ∧ J a' w') (fun a' w' h1 h2 => ⟨h1, h2⟩)
    rw [if_pos hw] at this ⊢
    exact .inl this
  · have := h (fun a' w' => Grow G xs ys i w w' ∧ J a' w') (fun a' w' h1 h2 => ⟨h1, h2⟩)
    rw [if_neg hw] at this ⊢
    exact this
theorem step {o : Oper} (ho : ops[i]? = some o)
    (h : ∀ K : Act → World → Prop, (∀ a' w', Grow G xs ys i w w' → wpT P ops Q G xs ys rest a' w' → K a' w') → if Region.wanted o (yielded ops a.tmps) = true then o.wp P a w K Q else K (a.put o.dst undef) w) :
    wpT P ops Q G xs ys (.one i 2 rest) a w := op ho h
theorem acts {o : Oper} (ho : ops[i]? = some o) (hw : Region.wanted o (yielded ops a.tmps) = true)
    (h : ∀ K : Act → World → Prop, (∀ a' w', Grow G xs ys i w w' → wpT P ops Q G xs ys rest a' w' → K a' w') → o.wp P a w K Q) :
    wpT P ops Q G xs ys (.one i 2 rest) a w := step ho fun K hK => by rw [if_pos hw]; exact h K hK
theorem fork {j : Nat} {rest' : Tr} {o o' : Oper} (ho : ops[i]? = some o) (ho' : ops[j]? = some o')
    (h : ∀ K : Act → World → Prop, (∀ a' w', Grow G xs ys i w w' → wpT P ops Q G xs ys rest a' w' → K a' w') → if Region.wanted o (yielded ops a.tmps) = true then o.wp P a w K Q else K (a.put o.dst undef) w)
    (h' : ∀ K : Act → World → Prop, (∀ a' w', Grow G xs ys j w w' → wpT P ops Q G xs ys rest' a' w' → K a' w') → if Region.wanted o' (yielded ops a.tmps) = true then o'.wp P a w K Q else K (a.put o'.dst undef) w) :
    wpT P ops Q G xs ys (.two i rest j rest') a w := ⟨op ho h, op ho' h'⟩
end
theorem at_ {l : List Oper} {ops : Array Oper} {i : Nat} {o : Oper} (h : l.toArray = ops) (e : l[i]? = some o) : ops[i]? = some o := by subst h; simpa using e
theorem bel_cell {w W : World} {p : Addr} {v : Value} (h : Below w.heap.size w W) (hc : w.cell? p = some v) : W.cell? p = some v := (h.cell (block_lt_of_cell hc)).trans hc
end Go.Fork
namespace Go.Proofs.Ytlepcmljmibdnaa
open Go.RowKit Go.Proofs.YtlepcmljmibdnaaW.PrintWords Go.Proofs.YtlepcmljmibdnaaW.PrintLast Go.Proofs.YtlepcmljmibdnaaW.PrintMore
attribute [local go_sem] run_makeMap
set_option linter.unusedVariables false
set_option linter.unusedSimpArgs false
/-- a disk with its own blocks -/
theorem clone_dk {w : World} {base B M Bd : Nat} {D : PD} {es : Array MapEntry} {clock : Nat} (hB : w.heap[B]? = some (.cells #[.int .i64 D.n, .map (some M), .slice none 0 0, .map (some Bd), .bool false, .int .i64 0, .bool false] 96 (0, 0)))
    (hM : w.heap[M]? = some (.map es clock)) (hr : Mp.Rep (.int .i64) es (keptF D.kept)) (hBd : w.heap[Bd]? = some (.map #[] 0)) (h1 : base ≤ B) (h2 : base ≤ M) (h3 : base ≤ Bd) (hne : M ≠ Bd ∧ M ≠ B ∧ Bd ≠ B) (hs : ∀ a s, D.kept a = some s → s.length = 64) (hn : 0 ≤ D.n ∧ D.n ≤ 4096) :
    DK w base B M Bd (.slice none 0 0) (cloneP D) := by
  refine ⟨hB, ⟨es, clock, hM, hr⟩, ⟨#[], 0, hBd, ?_⟩, Kd.R_nil _ _ _ _ _, h1, h2, h3, hne, hs, hn, by simp [cloneP]⟩
  rw [show (cloneP D).bad = fun _ => false from rfl, badF_none]
  exact ⟨by simp, by simp, by simp, by simp⟩
theorem dclone_calls (w : World) (base base' B M Bd : Nat) (vc : Value) (D : PD) (hb' : base' ≤ w.heap.size) (h : DK w base B M Bd vc D) :
    Calls Try.prog 21 #[.pointer (some ⟨B, 0, none⟩)] w fun e w' => ∃ B' M' Bd', e = .returned (.pointer (some ⟨B', 0, none⟩)) ∧ DK w' base' B' M' Bd' (.slice none 0 0) (cloneP D) ∧ Below w.heap.size w w' ∧ (w.heap.size ≤ B' ∧ w.heap.size ≤ M' ∧ w.heap.size ≤ Bd') := by
  have HD := Aside0.mk h
  obtain ⟨⟨g0, g1, g2, g3, g4, g5, g6⟩, k2, k4, k5, k6⟩ := cells7 h.blk
  obtain ⟨es, clock, hes, hrep⟩ := h.kept
  have hlt : M < w.heap.size := h.kept.lt
  have HES : Aside0 (w.drew.heap[M]? = some (.map es clock)) := ⟨hes⟩
  have HES2 : Aside0 ((w.alloc (Obj.map #[] 0)).drew.heap[M]? = some (.map es clock)) := ⟨(heap_alloc_old w _ hlt).trans hes⟩
  have HREP := Aside0.mk hrep
  have g0' : w.drew.cell? ⟨B, 0, none⟩ = some (.int .i64 D.n) := g0
  have g1' : w.drew.cell? ⟨B, 1, none⟩ = some (.map (some M)) := g1
  clear k2 k4 k5 k6 g4 g5 g6 g2 g3 h hes hrep
  go_enter Try.func21, Try.ntmps21
  go_wp2_with (first | (go_at_call 63; refine (ok_calls _ _ _ g1).mono ?_; rintro e w' ⟨rfl, rfl⟩))
  refine Fork.wp_fork (Fork.Lo.rel 0) [] [] (.one 0 0 (.one 1 0 (.one 2 0 (.one 4 0 (.one 5 0 (.one 6 0 (.one 3 1 (.one 7 1 (.two 8 (.one 9 2 (.one 10 0 (.one 11 2 (.one 12 0 .nil)))) 9 (.one 8 2 (.one 10 0 (.one 11 2 (.one 12 0 .nil))))))))))))) (by kernel_rfl) (by kernel_rfl) ?_
  generalize hops : List.toArray (_ : List Oper) = ops
  have HO := Aside0.mk hops
  clear hops
  iterate 6 ((refine Fork.plain (Fork.at_ HO.out rfl) _ rfl (fun W => by go_simp; exact rfl) ?_); simp only [Act.put, List.setIfInBounds_toArray, List.set_cons_succ, List.set_cons_zero])
  refine Fork.reads (Fork.at_ HO.out rfl) _ rfl (fun W hW => Arr.ex_load1 rfl rfl (by kernel_rfl) (Fork.bel_cell hW (by assumption))) ?_
  simp only [Act.put, List.setIfInBounds_toArray, List.set_cons_succ, List.set_cons_zero]
  refine Fork.reads (Fork.at_ HO.out rfl) _ rfl (fun W hW => Arr.ex_load1 rfl rfl (by kernel_rfl) (Fork.bel_cell hW (by assumption))) ?_
  simp only [Act.put, List.setIfInBounds_toArray, List.set_cons_succ, List.set_cons_zero]
  refine Fork.fork (Fork.at_ HO.out rfl) (Fork.at_ HO.out rfl) (fun K hK => ?_) (fun K hK => ?_)
  focus
    go_simp
    refine (mclone_calls _ M es clock HES.out).mono ?_
    rintro e w5 ⟨rfl, rfl⟩
    refine hK _ _ (.of_new (Below.alloc (Below.refl _ _) (Nat.le_refl _) _) (Nat.zero_le _)) ?_
    clear hK K
    try simp only [Act.put, List.setIfInBounds_toArray, List.set_cons_succ, List.set_cons_zero]
    refine Fork.step (Fork.at_ HO.out rfl) (fun K hK => ?_)
    go_simp
    refine hK _ _ (.of_new (Below.alloc (Below.refl _ _) (Nat.le_refl _) _) (Nat.zero_le _)) ?_
    clear hK K
    try simp only [Act.put, List.setIfInBounds_toArray, List.set_cons_succ, List.set_cons_zero]
    ((refine Fork.plain (Fork.at_ HO.out rfl) _ rfl (fun W => by go_simp; exact rfl) ?_); simp only [Act.put, List.setIfInBounds_toArray, List.set_cons_succ, List.set_cons_zero])
    refine Fork.step (Fork.at_ HO.out rfl) (fun K hK => ?_)
    go_simp
    refine hK _ _ (.of_new (Below.alloc (Below.refl _ _) (Nat.le_refl _) _) (Nat.zero_le _)) ?_
    clear hK K
    try simp only [Act.put, List.setIfInBounds_toArray, List.set_cons_succ, List.set_cons_zero]
    ((refine Fork.plain (Fork.at_ HO.out rfl) _ rfl (fun W => by go_simp; exact rfl) ?_); simp only [Act.put, List.setIfInBounds_toArray, List.set_cons_succ, List.set_cons_zero])
    refine Fork.done ?_
    go_wp2
    go_ret
    have hs0 : (w.alloc (.map es clock)).heap.size = w.heap.size + 1 := alloc_size w _
    have hs1 : ((w.alloc (.map es clock)).alloc (.map #[] 0)).heap.size = w.heap.size + 1 + 1 := by rw [alloc_size, hs0]
    refine ⟨w.heap.size + 1 + 1, w.heap.size, w.heap.size + 1, rfl, clone_dk (es := es) (clock := clock) ?_ ?_ HREP.out ?_ (by omega) (by omega) (by omega) (by omega) HD.out.sec HD.out.hn, Chg.below (((((Chg.refl w (fun _ => False)).alloc _).alloc _).alloc _).drew) (Nat.le_refl _) (fun _ h => h.elim), by omega, by omega, by omega⟩
    · have := heap_alloc_new ((w.alloc (.map es clock)).alloc (.map #[] 0)) (.cells #[.int .i64 D.n, .map (some w.heap.size), .slice none 0 0, .map (some (w.heap.size + 1)), .bool false, .int .i64 0, .bool false] 96)
      rw [hs1] at this
      exact this
    · exact (heap_alloc_old _ _ (by rw [hs1]; omega)).trans ((heap_alloc_old _ _ (by rw [hs0]; omega)).trans (heap_alloc_new w _))
    · have := heap_alloc_new (w.alloc (.map es clock)) (.map #[] 0)
      rw [hs0] at this
      exact (heap_alloc_old _ _ (by rw [hs1]; omega)).trans this
  rotate_left 1
  focus
    go_simp
    refine hK _ _ (.of_new (Below.alloc (Below.refl _ _) (Nat.le_refl _) _) (Nat.zero_le _)) ?_
    clear hK K
    try simp only [Act.put, List.setIfInBounds_toArray, List.set_cons_succ, List.set_cons_zero]
    refine Fork.step (Fork.at_ HO.out rfl) (fun K hK => ?_)
    go_simp
    refine (mclone_calls _ M es clock HES2.out).mono ?_
    rintro e w5 ⟨rfl, rfl⟩
    refine hK _ _ (.of_new (Below.alloc (Below.refl _ _) (Nat.le_refl _) _) (Nat.zero_le _)) ?_
    clear hK K
    try simp only [Act.put, List.setIfInBounds_toArray, List.set_cons_succ, List.set_cons_zero]
    ((refine Fork.plain (Fork.at_ HO.out rfl) _ rfl (fun W => by go_simp; exact rfl) ?_); simp only [Act.put, List.setIfInBounds_toArray, List.set_cons_succ, List.set_cons_zero])
    refine Fork.step (Fork.at_ HO.out rfl) (fun K hK => ?_)
    go_simp
    refine hK _ _ (.of_new (Below.alloc (Below.refl _ _) (Nat.le_refl _) _) (Nat.zero_le _)) ?_
    clear hK K
    try simp only [Act.put, List.setIfInBounds_toArray, List.set_cons_succ, List.set_cons_zero]
    ((refine Fork.plain (Fork.at_ HO.out rfl) _ rfl (fun W => by go_simp; exact rfl) ?_); simp only [Act.put, List.setIfInBounds_toArray, List.set_cons_succ, List.set_cons_zero])
    refine Fork.done ?_
    go_wp2
    go_ret
    have hs0 : (w.alloc (.map #[] 0)).heap.size = w.heap.size + 1 := alloc_size w _
    have hs1 : ((w.alloc (.map #[] 0)).alloc (.map es clock)).heap.size = w.heap.size + 1 + 1 := by rw [alloc_size, hs0]
    refine ⟨w.heap.size + 1 + 1, w.heap.size + 1, w.heap.size, rfl, clone_dk (es := es) (clock := clock) ?_ ?_ HREP.out ?_ (by omega) (by omega) (by omega) (by omega) HD.out.sec HD.out.hn, Chg.below (((((Chg.refl w (fun _ => False)).alloc _).alloc _).alloc _).drew) (Nat.le_refl _) (fun _ h => h.elim), by omega, by omega, by omega⟩
    · have := heap_alloc_new ((w.alloc (.map #[] 0)).alloc (.map es clock)) (.cells #[.int .i64 D.n, .map (some (w.heap.size + 1)), .slice none 0 0, .map (some w.heap.size), .bool false, .int .i64 0, .bool false] 96)
      rw [hs1] at this
      exact this
    · have := heap_alloc_new (w.alloc (.map #[] 0)) (.map es clock)
      rw [hs0] at this
      exact (heap_alloc_old _ _ (by rw [hs1]; omega)).trans this
    · exact (heap_alloc_old _ _ (by rw [hs1]; omega)).trans ((heap_alloc_old _ _ (by rw [hs0]; omega)).trans (heap_alloc_new w _))
end Go.Proofs.Ytlepcmljmibdnaa
