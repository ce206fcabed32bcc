/- Parts of one proof, joined: Dk, Arr, Dw, Df, Dr, Dc, De, Aw, Do, Fork, Dx, Da, Dy. Conditions: those of each statement. -/
import Derived.Test.YtlepcmljmibdnaaGreatZh0
import Derived.WalkSpells
import Derived.WalkMore
import Derived.Test.YtlepcmljmibdnaaGreatZhFWMore
import Derived.Laws.CopyOwn
import Derived.Laws.StructEq
import Derived.ChangeKeysEq
import Derived.Carry
import Derived.Deep.LoopGhost
import Derived.Lib.SliceRun
import Derived.Lib.SlBytesConst
import Derived.Shelf.SlMaps.Clone
import Derived.Deep.RegionWith
namespace Go.Proofs.YtlepcmljmibdnaaGreat
open Go.RowKit Go.Proofs.YtlepcmljmibdnaaGreatW.PrintWords Go.Proofs.YtlepcmljmibdnaaGreatW.PrintLast Go.Proofs.YtlepcmljmibdnaaGreatW.PrintMore
attribute [local go_sem] max2_int min2_int max_two min_two
set_option linter.unusedVariables false
set_option linter.unusedSimpArgs false

/-- a sector as a value -/
def secV (s : List Int) : Value := .agg (encs (Value.int .u8) s).toArray
/-- what a disk is -/
structure PD where
  n : Int
  kept : Int → Option (List Int)
  cache : List (Int × List Int)
  bad : Int → Bool
  armed : Bool
  left : Int
  dead : Bool
def keptF (K : Int → Option (List Int)) : Value → Option Value
  | .int .i64 a => (K a).map secV
  | _ => none
def badF (b : Int → Bool) : Value → Option Value
  | .int .i64 a => if b a then some (.bool true) else none
  | _ => none
def wrK : Kd (Int × List Int) := Kd.pair (Kd.int .i64) (Kd.arr 64 (Kd.int .u8) (by decide))
/-- the seven cells of a disk at block B -/
def DCells (w : World) (B M Bd : Nat) (vc : Value) (D : PD) : Prop :=
  w.heap[B]? = some (.cells #[.int .i64 D.n, .map (some M), vc, .map (some Bd), .bool D.armed, .int .i64 D.left, .bool D.dead] 90 (0, 0))
structure DK (w : World) (base B M Bd : Nat) (vc : Value) (D : PD) : Prop where
  blk : DCells w B M Bd vc D
  kept : Mp.Is (.int .i64) w M (keptF D.kept)
  bad : Mp.Is (.int .i64) w Bd (badF D.bad)
  cache : Kd.R wrK 124 w base (fun k => k ≠ B ∧ k ≠ M ∧ k ≠ Bd) vc D.cache
  hB : base ≤ B
  hM : base ≤ M
  hBd : base ≤ Bd
  hne : M ≠ Bd ∧ M ≠ B ∧ Bd ≠ B
  sec : ∀ a s, D.kept a = some s → s.length = 64
  hn : 0 ≤ D.n ∧ D.n ≤ 4096
  hl : 0 ≤ D.left ∧ D.left ≤ 9223372036854775807

theorem cells7 {w : World} {B : Nat} {a b c d e f g : Value} {t : Nat} (h : w.heap[B]? = some (.cells #[a, b, c, d, e, f, g] t (0, 0))) :
    (w.cell? ⟨B, 0, none⟩ = some a ∧ w.cell? ⟨B, 1, none⟩ = some b ∧ w.cell? ⟨B, 2, none⟩ = some c ∧ w.cell? ⟨B, 3, none⟩ = some d ∧ w.cell? ⟨B, 4, none⟩ = some e ∧ w.cell? ⟨B, 5, none⟩ = some f ∧ w.cell? ⟨B, 6, none⟩ = some g) ∧
    (w.frozen? ⟨B, 2, none⟩ = false ∧ w.frozen? ⟨B, 4, none⟩ = false ∧ w.frozen? ⟨B, 5, none⟩ = false ∧ w.frozen? ⟨B, 6, none⟩ = false) := by
  refine ⟨⟨?_, ?_, ?_, ?_, ?_, ?_, ?_⟩, ?_, ?_, ?_, ?_⟩ <;> simp [World.cell?, World.frozen?, h]
theorem set7 {w : World} {B : Nat} {cs : Array Value} {t : Nat} (h : w.heap[B]? = some (.cells cs t (0, 0))) (i : Nat) (u : Value) : (w.setCell ⟨B, i, none⟩ u).heap[B]? = some (.cells (cs.setIfInBounds i u) t (0, 0)) := by
  simp [World.setCell, Array.getElem?_modify, h]
/-- all but block B as it was -/
def Only (w w' : World) (B : Nat) : Prop := w'.os = w.os ∧ w'.tape = w.tape ∧ w'.output = w.output ∧ w.heap.size ≤ w'.heap.size ∧ ∀ k, k ≠ B → w'.heap[k]? = w.heap[k]?
theorem Only.refl (w : World) (B : Nat) : Only w w B := ⟨rfl, rfl, rfl, Nat.le_refl _, fun _ _ => rfl⟩
theorem Only.set {w w' : World} {B i : Nat} (h : Only w w' B) (u : Value) : Only w (w'.setCell ⟨B, i, none⟩ u) B :=
  ⟨h.1, h.2.1, h.2.2.1, by simpa [World.setCell] using h.2.2.2.1, fun k hk => (Below.heap_setCell w' ⟨B, i, none⟩ u k hk).trans (h.2.2.2.2 k hk)⟩
theorem Only.kept {w w' : World} {B : Nat} (h : Only w w' B) : Kept w w' (fun k => k = B) := ⟨h.2.2.2.1, fun i _ hn => h.2.2.2.2 i hn⟩
/-- A disk whose block alone was written, its cache and maps as they were. -/
theorem DK.only {w w' : World} {base B M Bd : Nat} {vc vc' : Value} {D D' : PD} (h : DK w base B M Bd vc D) (ho : Only w w' B) (hb : DCells w' B M Bd vc' D') (hk : D'.kept = D.kept) (hbd : D'.bad = D.bad)
    (hc : (vc' = vc ∧ D'.cache = D.cache) ∨ (vc' = .slice none 0 0 ∧ D'.cache = [])) (hn : D'.n = D.n) (hl : 0 ≤ D'.left ∧ D'.left ≤ 9223372036854775807) : DK w' base B M Bd vc' D' := by
  refine ⟨hb, ?_, ?_, ?_, h.hB, h.hM, h.hBd, h.hne, by rw [hk]; exact h.sec, by rw [hn]; exact h.hn, hl⟩
  · rw [hk]; exact h.kept.same (ho.2.2.2.2 M h.hne.2.1)
  · rw [hbd]; exact h.bad.same (ho.2.2.2.2 Bd h.hne.2.2)
  · rcases hc with ⟨rfl, hc⟩ | ⟨rfl, hc⟩
    · rw [hc]; exact Kd.R_step h.cache (fun k hk _ => ho.2.2.2.2 k hk.1)
    · rw [hc]; exact Kd.R_nil _ _ _ _ _

theorem ok_calls (w : World) (B M : Nat) (h1 : w.cell? ⟨B, 1, none⟩ = some (.map (some M))) :
    Calls Tryz.prog 62 #[.pointer (some ⟨B, 0, none⟩)] w fun e w' => e = .returned (.bool true) ∧ w = w' := by
  have hq := run_neq_map_nil (P := Tryz.prog) w 86 3 122 (some M) Tryz.underlying86
  simp only [Option.isNone_some, Bool.not_false] at hq
  go_enter Tryz.func62, Tryz.ntmps62
  go_wp2
  go_ret
  exact ⟨rfl, rfl⟩
theorem size_calls (w : World) (B M : Nat) (n : Int) (h0 : w.cell? ⟨B, 0, none⟩ = some (.int .i64 n)) (h1 : w.cell? ⟨B, 1, none⟩ = some (.map (some M))) :
    Calls Tryz.prog 92 #[.pointer (some ⟨B, 0, none⟩)] w fun e w' => e = .returned (.int .i64 n) ∧ w = w' := by
  go_enter Tryz.func92, Tryz.ntmps92
  go_wp2_with (go_at_call 62; refine (ok_calls _ _ _ h1).mono ?_; rintro e w' ⟨rfl, rfl⟩)
  go_ret
  exact ⟨rfl, rfl⟩
def inB (at_ n : Int) : Bool := decide (0 ≤ at_ ∧ at_ < n)
theorem has_calls (w : World) (B M : Nat) (n at_ : Int) (h0 : w.cell? ⟨B, 0, none⟩ = some (.int .i64 n)) (h1 : w.cell? ⟨B, 1, none⟩ = some (.map (some M))) :
    Calls Tryz.prog 126 #[.pointer (some ⟨B, 0, none⟩), .int .i64 at_] w fun e w' => e = .returned (.bool (inB at_ n)) ∧ w = w' := by
  by_cases h : 0 ≤ at_
  · by_cases h' : at_ < n
    · rw [show inB at_ n = true by simp [inB]; omega]
      go_enter Tryz.func126, Tryz.ntmps126
      go_wp2_with (go_at_call 92; refine (size_calls _ _ _ n h0 h1).mono ?_; rintro e w' ⟨rfl, rfl⟩)
      go_ret
      exact ⟨rfl, rfl⟩
    · rw [show inB at_ n = false by simp [inB]; omega]
      have h2 : decide (at_ < n) = false := by simp; omega
      go_enter Tryz.func126, Tryz.ntmps126
      go_wp2_with (go_at_call 92; refine (size_calls _ _ _ n h0 h1).mono ?_; rintro e w' ⟨rfl, rfl⟩)
      go_ret
      exact ⟨rfl, rfl⟩
  · rw [show inB at_ n = false by simp [inB]; omega]
    go_enter Tryz.func126, Tryz.ntmps126
    go_wp2_with fail
    go_ret
    exact ⟨rfl, rfl⟩
theorem dead_calls (w : World) (B M : Nat) (d : Bool) (h1 : w.cell? ⟨B, 1, none⟩ = some (.map (some M))) (h6 : w.cell? ⟨B, 6, none⟩ = some (.bool d)) :
    Calls Tryz.prog 125 #[.pointer (some ⟨B, 0, none⟩)] w fun e w' => e = .returned (.bool d) ∧ w = w' := by
  go_enter Tryz.func125, Tryz.ntmps125
  go_wp2_with (go_at_call 62; refine (ok_calls _ _ _ h1).mono ?_; rintro e w' ⟨rfl, rfl⟩)
  go_ret
  exact ⟨rfl, rfl⟩
/-- act: the disk behind it, the error -/
def actP (D : PD) : PD × Int :=
  let dead := D.dead || (D.armed && D.left == 0)
  if dead then ({ D with dead := true }, 50) else if D.armed then ({ D with left := D.left - 1 }, 0) else (D, 0)
theorem act_calls (w : World) (base B M Bd : Nat) (vc : Value) (D : PD) (h : DK w base B M Bd vc D) :
    Calls Tryz.prog 127 #[.pointer (some ⟨B, 0, none⟩)] w fun e w' => e = .returned (.int .i64 (actP D).2) ∧ DK w' base B M Bd vc (actP D).1 ∧ Only w w' B := by
  obtain ⟨⟨h0, h1, h2, h3, h4, h5, h6⟩, f2, f4, f5, f6⟩ := cells7 h.blk
  have HD := Aside0.mk h
  obtain ⟨n, kept, cache, bad, armed, left, dead⟩ := D
  simp only at h0 h1 h2 h3 h4 h5 h6
  have hl := h.hl
  simp only at hl
  obtain ⟨hl1, hl2⟩ := hl
  clear h
  cases armed with
  | false =>
    cases dead with
    | false =>
      go_enter Tryz.func127, Tryz.ntmps127
      go_wp2
      go_ret
      exact ⟨rfl, HD.out, Only.refl _ _⟩
    | true =>
      go_enter Tryz.func127, Tryz.ntmps127
      go_wp2
      go_ret
      exact ⟨rfl, HD.out, Only.refl _ _⟩
  | true =>
    by_cases hz : left = 0
    · subst hz
      go_enter Tryz.func127, Tryz.ntmps127
      go_wp2
      go_ret
      have hd : actP { n := n, kept := kept, cache := cache, bad := bad, armed := true, left := 0, dead := dead } = ({ n := n, kept := kept, cache := cache, bad := bad, armed := true, left := 0, dead := true }, 50) := by simp [actP]
      rw [hd]
      have ho := (Only.refl w B).set (i := 6) (.bool true)
      exact ⟨rfl, HD.out.only ho (set7 HD.out.blk 6 (.bool true)) rfl rfl (.inl ⟨rfl, rfl⟩) rfl ⟨by omega, by omega⟩, ho⟩
    · have hz0 : (left == 0) = false := by simpa using hz
      cases dead with
      | false =>
        have hd : actP { n := n, kept := kept, cache := cache, bad := bad, armed := true, left := left, dead := false } = ({ n := n, kept := kept, cache := cache, bad := bad, armed := true, left := left - 1, dead := false }, 0) := by simp [actP, hz]
        rw [hd]
        go_enter Tryz.func127, Tryz.ntmps127
        go_wp2
        go_ret
        have ho := (Only.refl w B).set (i := 5) (.int .i64 (left - 1))
        exact ⟨rfl, HD.out.only ho (set7 HD.out.blk 5 (.int .i64 (left - 1))) rfl rfl (.inl ⟨rfl, rfl⟩) rfl ⟨by simp only []; omega, by simp only []; omega⟩, ho⟩
      | true =>
        have hd : actP { n := n, kept := kept, cache := cache, bad := bad, armed := true, left := left, dead := true } = ({ n := n, kept := kept, cache := cache, bad := bad, armed := true, left := left, dead := true }, 50) := by simp [actP]
        rw [hd]
        go_enter Tryz.func127, Tryz.ntmps127
        go_wp2
        go_ret
        exact ⟨rfl, HD.out, Only.refl _ _⟩
def armP (D : PD) (n : Int) : PD := { D with armed := decide (0 ≤ n), left := max n 0 }
theorem arm_calls (w : World) (base B M Bd : Nat) (vc : Value) (D : PD) (n : Int) (hn : -9223372036854775808 ≤ n ∧ n ≤ 9223372036854775807) (h : DK w base B M Bd vc D) :
    Calls Tryz.prog 21 #[.pointer (some ⟨B, 0, none⟩), .int .i64 n] w fun e w' => e = .returned (.tuple #[]) ∧ DK w' base B M Bd vc (armP D n) ∧ Only w w' B := by
  obtain ⟨⟨h0, h1, h2, h3, h4, h5, h6⟩, f2, f4, f5, f6⟩ := cells7 h.blk
  have HD := Aside0.mk h
  clear h
  obtain ⟨m, hm⟩ : ∃ m, (if n < 0 then 0 else n) = m := ⟨_, rfl⟩
  obtain ⟨b, hb⟩ : ∃ b, decide (0 ≤ n) = b := ⟨_, rfl⟩
  have HM := Aside0.mk (show max n 0 = m by rw [← hm]; split <;> omega)
  have HB := Aside0.mk hb
  go_enter Tryz.func21, Tryz.ntmps21
  go_wp2_with (go_at_call 62; refine (ok_calls _ _ _ h1).mono ?_; rintro e w' ⟨rfl, rfl⟩)
  go_end0
  rw [show armP D n = { D with armed := b, left := m } by unfold armP; rw [HB.out, HM.out]]
  have ho := ((Only.refl w B).set (i := 4) (.bool b)).set (i := 5) (.int .i64 m)
  exact ⟨rfl, HD.out.only ho (set7 (set7 HD.out.blk 4 _) 5 _) rfl rfl (.inl ⟨rfl, rfl⟩) rfl (by have := HM.out; simp only []; omega), ho⟩
def restP (D : PD) : PD := { D with cache := [], dead := false, armed := false, left := 0 }
theorem rest_calls (w : World) (base B M Bd : Nat) (vc : Value) (D : PD) (h : DK w base B M Bd vc D) :
    Calls Tryz.prog 64 #[.pointer (some ⟨B, 0, none⟩)] w fun e w' => e = .returned (.tuple #[]) ∧ DK w' base B M Bd (.slice none 0 0) (restP D) ∧ Only w w' B := by
  obtain ⟨⟨h0, h1, h2, h3, h4, h5, h6⟩, f2, f4, f5, f6⟩ := cells7 h.blk
  have HD := Aside0.mk h
  clear h
  obtain ⟨A, c, rfl⟩ := Kd.R_slice HD.out.cache
  go_enter Tryz.func64, Tryz.ntmps64
  go_wp2
  go_end0
  have ho := ((((Only.refl w B).set (i := 2) (.slice none 0 0)).set (i := 6) (.bool false)).set (i := 4) (.bool false)).set (i := 5) (.int .i64 0)
  exact ⟨rfl, HD.out.only ho (set7 (set7 (set7 (set7 HD.out.blk 2 _) 6 _) 4 _) 5 _) rfl rfl (.inr ⟨rfl, rfl⟩) rfl ⟨by simp [restP], by simp [restP]⟩, ho⟩
end Go.Proofs.YtlepcmljmibdnaaGreat
set_option linter.unusedSimpArgs false
namespace Go.Arr
open Go.RowKit Go.Proofs.YtlepcmljmibdnaaGreatW.PrintWords
section
variable {P : Program} {W : World} {o : Oper} {ρ : Operand → Value}

theorem run_zero {t : TypeId} {i : TypeInfo} {z : Value} (hi : P.info? t = some i) (hz : i.zero = some z) (w : World) : (zeroValue t).run P w = .ok z w := by
  simp [zeroValue, typeInfo, hi, hz]
theorem run_size {t : TypeId} {n : Nat} (h : (P.info? t).map (·.size) = some n) (w : World) : (sizeOf t).run P w = .ok n w := by
  obtain ⟨i, hi, his⟩ := Option.map_eq_some_iff.1 h
  simp [sizeOf, typeInfo, hi, his]
theorem ex_alloc {t : TypeId} {i : TypeInfo} {z : Value} (ho : o.op = .alloc t) (hi : P.info? t = some i) (hz : i.zero = some z) :
    (execOp ρ o).run P W = .ok (.value (.pointer (some ⟨W.heap.size, 0, none⟩))) (W.alloc (.cells z.cells t)) := by
  simp only [execOp, ho, Instr.alloc, Sem.run_bind, run_zero hi hz, Result.andThen_ok]
  rfl
def aggT (P : Program) (ty : TypeId) : Bool := match P.underlying ty with | some (.struct _) | some (.array _ _) => true | _ => false
theorem run_isAgg {ty : TypeId} (h : aggT P ty = true) (w : World) : (isAgg ty).run P w = .ok true w := by
  unfold aggT at h
  cases hu : P.underlying ty with
  | none => simp [hu] at h
  | some d =>
    unfold isAgg
    rw [Sem.run_bind, run_underlying hu w]
    cases d <;> simp_all
theorem ex_load {ty : TypeId} {x : Operand} (ho : o.op = .load ty x) {ad : Addr} (hx : ρ x = .pointer (some ad)) (hagg : aggT P ty = true) {seg : List Value} (hs : (P.info? ty).map (·.size) = some seg.length)
    (hc : ∀ j u, seg[j]? = some u → W.cell? (ad.add j) = some u) : (execOp ρ o).run P W = .ok (.value (.agg seg.toArray)) W := by
  have hl := run_loadCells_list (P := P) W ad seg hc
  simp only [execOp, ho, hx, Instr.loadAt, Instr.sureAddr, Sem.run_bind, Sem.run_pure, Result.andThen_ok, loadVar, run_isAgg hagg, if_true, run_size hs, hl]
theorem run_isAgg0 {ty : TypeId} (h : aggT P ty = false) (hu : (P.underlying ty).isSome = true) (w : World) : (isAgg ty).run P w = .ok false w := by
  unfold aggT at h
  obtain ⟨d, hd⟩ := Option.isSome_iff_exists.1 hu
  unfold isAgg
  rw [Sem.run_bind, run_underlying hd w]
  cases d <;> simp_all
theorem ex_load1 {ty : TypeId} {x : Operand} (ho : o.op = .load ty x) {ad : Addr} (hx : ρ x = .pointer (some ad)) (hagg : (!aggT P ty && (P.underlying ty).isSome) = true) {v : Value} (hc : W.cell? ad = some v) : (execOp ρ o).run P W = .ok (.value v) W := by
  simp only [Bool.and_eq_true, Bool.not_eq_true'] at hagg
  simp [execOp, ho, hx, Instr.loadAt, Instr.sureAddr, loadVar, run_isAgg0 hagg.1 hagg.2, run_load, hc, Result.andThen]
theorem ex_store {ty : TypeId} {x y : Operand} (ho : o.op = .store ty x y) {g off : Nat} (hx : ρ x = .pointer (some ⟨g, off, none⟩)) {v : Value} (hy : ρ y = v) {seg : List Value} (hv : v.cells.toList = seg)
    (hs : (P.info? ty).map (·.size) = some seg.length) {cur : Array Value} {t : TypeId} (hg : W.heap[g]? = some (.cells cur t (0, 0))) (hl : off + seg.length ≤ cur.size) (h1 : ∀ u ∈ seg, u.oneCell' = true) :
    (execOp ρ o).run P W = .ok .skip (W.setRow g (cur.toList.take off ++ seg ++ cur.toList.drop (off + seg.length)).toArray) := by
  have hst := run_storeCells_at P g off t seg 0 cur W hg (by simpa using hl) h1
  have hsz : v.cells.size = seg.length := by rw [← hv]; simp
  simp only [Nat.add_zero] at hst
  simp only [execOp, ho, hx, hy, Instr.storeAt, Instr.sureAddr, Sem.run_bind, Sem.run_pure, Result.andThen_ok, storeVar, run_size hs, hsz, hv]
  simp [hst]
end
section
variable {P : Program} {ops : Array Oper} {rest : List Oper} {o : Oper} {a : Act} {Q : Exit → Act → World → Prop} {W w1 : World}
theorem skip_run (hgd : o.guard = none) (hrun : (execOp a.eval o).run P W = .ok .skip w1) (h : wpList P ops Q rest (a.put o.dst undef) w1) : wpList P ops Q (o :: rest) a W := by
  refine wpList_plain hgd fun K hK => ?_
  unfold Oper.wp
  rw [hrun]
  exact hK _ _ h
end
theorem setRow_alloc (W : World) (cs cs' : Array Value) (t : TypeId) : (W.alloc (.cells cs t)).setRow W.heap.size cs' = W.alloc (.cells cs' t) := by
  have hh : ((W.alloc (.cells cs t)).setRow W.heap.size cs').heap = (W.alloc (.cells cs' t)).heap := by
    have hsz : ((W.alloc (.cells cs t)).setRow W.heap.size cs').heap.size = (W.alloc (.cells cs' t)).heap.size := by
      rw [size_setRow]
      show (W.heap.push _).size = (W.heap.push _).size
      simp only [Array.size_push]
    refine Array.ext hsz fun i h1 h2 => Option.some.inj ?_
    rw [← Array.getElem?_eq_getElem h1, ← Array.getElem?_eq_getElem h2]
    by_cases hi : i = W.heap.size
    · rw [hi, setRow_heap _ _ _ cs' t (0, 0) (heap_alloc_new W _), heap_alloc_new]
    · rw [setRow_other _ _ _ _ hi]
      have : i < W.heap.size := by
        have h3 : i < (W.heap.push (Obj.cells cs' t)).size := h2
        simp only [Array.size_push] at h3
        omega
      rw [heap_alloc_old W _ this, heap_alloc_old W _ this]
  unfold World.setRow World.alloc at hh ⊢
  simp only at hh ⊢
  rw [hh]
section
variable {P : Program} {W : World} {o : Oper} {ρ : Operand → Value}
theorem ex_build {t : TypeId} {parts : Array (Nat × Operand)} (ho : o.op = .build t parts) {cells : Array Value} (h : P.built t (parts.map fun (i, x) => (i, ρ x)).toList = some cells) :
    (execOp ρ o).run P W = .ok (.value (.agg cells)) W := by
  simp only [execOp, ho, Sem.run_bind, run_build W t _ cells h, Result.andThen_ok, Sem.run_pure]
theorem eq_items {e : TypeId} {k : IntKind} (he : P.underlying e = some (.int k)) (d : Nat) (xs ys : List Int) : ∀ is : List Nat, (∀ i ∈ is, i < xs.length ∧ i < ys.length) →
    (Op.eqItems (d + 1) e 1 (encs (Value.int k) xs).toArray (encs (Value.int k) ys).toArray is).run P W = .ok (is.all fun i => xs[i]? == ys[i]?) W
  | [], _ => by simp [Op.eqItems]
  | i :: is, h => by
    obtain ⟨h1, h2⟩ := h i (List.mem_cons_self ..)
    have hag : (isAgg e).run P W = .ok false W := by
      unfold isAgg
      rw [Sem.run_bind, run_underlying he W]
      rfl
    have hp : ∀ zs : List Int, ∀ h : i < zs.length, (part e (encs (Value.int k) zs).toArray (i * 1)).run P W = .ok (.int k zs[i]) W := by
      intro zs h
      have : (encs (Value.int k) zs).toArray[i]? = some (.int k zs[i]) := by simp [encs, h]
      simp [part, hag, this]
    have hq : (Op.equalIn (d + 1) e (.int k xs[i]) (.int k ys[i])).run P W = .ok (xs[i] == ys[i]) W := by
      simp [Op.equalIn, run_underlying he]
    have ih := eq_items he d xs ys is (fun j hj => h j (List.mem_cons_of_mem _ hj))
    simp only [Op.eqItems, Sem.run_bind, hp xs h1, hp ys h2, hq, Result.andThen_ok, List.all_cons, List.getElem?_eq_getElem h1, List.getElem?_eq_getElem h2]
    by_cases hx : xs[i] = ys[i]
    · simp [hx, ih]
    · have : (xs[i] == ys[i]) = false := by simpa using hx
      have h3 : ((some xs[i] : Option Int) == some ys[i]) = false := by simpa using hx
      simp [this, h3]
theorem ex_eql_arr {t e t' : TypeId} {n : Nat} {k : IntKind} {x y : Operand} (ho : o.op = .binOp .eql t x y t') (hu : P.underlying t = some (.array n e)) (he : P.underlying e = some (.int k)) (hi : (P.info? e).isSome = true) (hc : P.cellsOf e = 1)
    (hm : P.eqGuardType P.depth t = false) {xs ys : List Int} (hx : ρ x = .agg (encs (Value.int k) xs).toArray) (hy : ρ y = .agg (encs (Value.int k) ys).toArray) (h1 : xs.length = n) (h2 : ys.length = n) :
    (execOp ρ o).run P W = .ok (.value (.bool (xs == ys))) W := by
  obtain ⟨i, hi⟩ := Option.isSome_iff_exists.1 hi
  have hq : (List.range n).all (fun i => xs[i]? == ys[i]?) = (xs == ys) := by
    rw [Bool.eq_iff_iff, List.all_eq_true, beq_iff_eq]
    constructor
    · intro h
      refine List.ext_getElem? fun j => ?_
      by_cases hj : j < n
      · simpa using h j (List.mem_range.2 hj)
      · rw [List.getElem?_eq_none (by omega), List.getElem?_eq_none (by omega)]
    · rintro rfl j _; simp
  have hr := eq_items (W := W) he 9998 xs ys (List.range n) (fun j hj => by rw [List.mem_range] at hj; omega)
  simp only [execOp, ho, hx, hy, Sem.run_bind, run_eqGuard_agg (P := P) W .eql t x y _ _ hm, Result.andThen_ok, run_eql_struct (P := P) W, run_equalIn_array (P := P) W 9999 _ _ hu hi, hc, hr, hq, Sem.run_pure]
theorem ex_lookup {t kt et : TypeId} {d : TypeDesc} {r : Nat} {f : Value → Option Value} {x ix : Operand} (ho : o.op = .lookup t x ix false) (h : Mp.Is d W r f) (ht : P.underlying t = some (.map kt et)) (hd : P.underlying kt = some d)
    (hx : ρ x = .map (some r)) (hk : MapKept.IsKey d (ρ ix)) {z : Value} (hz : (zeroValue et).run P W = .ok z W) : (execOp ρ o).run P W = .ok (.value ((f (ρ ix)).getD z)) W := by
  simp only [execOp, ho, hx, Sem.run_bind, Mp.run_lookup h ht hd hk hz, Result.andThen_ok, Sem.run_pure]
end
theorem fold_seg (l : List Value) : ∀ (n : Nat) (cs : Array Value), n + l.length ≤ cs.size → (l.zipIdx n).foldl (fun cs (x : Value × Nat) => cs.setIfInBounds x.2 x.1) cs = (cs.toList.take n ++ l ++ cs.toList.drop (n + l.length)).toArray := by
  induction l with
  | nil => intro n cs _; simp
  | cons v rest ih =>
    intro n cs h
    rw [List.zipIdx_cons, List.foldl_cons, ih (n + 1) _ (by simp only [Array.size_setIfInBounds]; simp at h; omega)]
    have := list_seg_step cs.toList n v rest (by simp at h ⊢; omega)
    simp only [Array.toList_setIfInBounds]
    rw [this]
    rfl
section
variable {P : Program} {W : World} {o : Oper} {ρ : Operand → Value}
/-- A row of one element, laid by a literal. -/
theorem ex_row1 {t e : TypeId} {x : Operand} {i : TypeInfo} {z : Value} (ho : o.op = .buildSlice t 1 #[(0, x)]) (ht : P.underlying t = some (.slice e)) (hi : P.info? e = some i) (hz : i.zero = some z) (hp : 0 < i.size) (hb : i.size ≤ 2 ^ 24)
    (hx : (ρ x).cells.size = i.size) : (execOp ρ o).run P W = .ok (.value (.slice (some ⟨W.heap.size, 0, none⟩) 1 1)) (W.alloc (.cells (ρ x).cells e)) := by
  have hs : (sizeOf e).run P W = .ok i.size W := run_size (by rw [hi]; rfl) W
  have hzr := run_zero hi hz W
  have hf : ∀ cs : Array Value, cs.size = i.size → Instr.fill (fun k => some (k * i.size, i.size)) cs [(0, ρ x)] = some (ρ x).cells := by
    intro cs hcs
    have := fold_seg (ρ x).cells.toList 0 cs (by simp [hx, hcs])
    simp only [Instr.fill, Nat.zero_mul, Nat.zero_add, hx, hcs, ne_eq, not_true_eq_false, gt_iff_lt, Nat.lt_irrefl, or_self, if_false, Option.some.injEq]
    rw [← Array.foldl_toList, Array.toList_zipIdx]
    rw [show (ρ x).cells.toList.zipIdx = (ρ x).cells.toList.zipIdx 0 from rfl, this]
    have e : cs.toList.drop (0 + (ρ x).cells.toList.length) = [] := List.drop_eq_nil_of_le (by simp [hx, hcs])
    rw [e]
    simp
  have h1 : ¬ (1 * i.size > 2 ^ 24) := by omega
  have h2 : ¬ (1 * i.size = 0) := by omega
  simp only [execOp, ho, Instr.buildSlice, Sem.run_bind, run_underlying ht, Result.andThen_ok, hs, h1, h2, if_false, hzr, Sem.run_pure, List.map_toArray, List.map_cons, List.map_nil]
  rw [hf _ (by simp)]
  rfl
theorem ex_copy {d s : Operand} {dT sT : TypeId} {v : Value} {w1 : World} (ho : o.op = .call { callee := .builtin .copy, args := #[d, s], argTypes := #[dT, sT] })
    (hrun : (Builtin.copy_ #[dT, sT] o.type #[ρ d, ρ s]).run P W = .ok v w1) : (execOp ρ o).run P W = .ok (.value v) w1 := by
  simp [execOp, ho, resolve, invoke, builtin, hrun, Result.andThen]
end
end Go.Arr
namespace Go.Proofs.YtlepcmljmibdnaaGreat
open Go.RowKit Go.Proofs.YtlepcmljmibdnaaGreatW.PrintWords Go.Proofs.YtlepcmljmibdnaaGreatW.PrintLast Go.Proofs.YtlepcmljmibdnaaGreatW.PrintMore
attribute [local go_sem] run_makeMap max2_int min2_int max_two min_two
set_option linter.unusedVariables false
set_option linter.unusedSimpArgs false

theorem bel_cell {w W : World} {p : Addr} {v : Value} (h : Below w.heap.size w W) (hc : w.cell? p = some v) : W.cell? p = some v := (h.cell (block_lt_of_cell hc)).trans hc
theorem alloc_size (w : World) (o : Obj) : (w.alloc o).heap.size = w.heap.size + 1 := by show (w.heap.push o).size = _; simp
theorem alloc_cell {w : World} {p : Addr} {v : Value} (hc : w.cell? p = some v) (o : Obj) : (w.alloc o).cell? p = some v := bel_cell (Below.alloc (Below.refl _ _) (Nat.le_refl _) o) hc
/-- what was there is there, but for what lies in S -/
structure Chg (w w' : World) (S : Nat → Prop) : Prop where
  os : w'.os = w.os
  tape : w'.tape = w.tape
  output : w'.output = w.output
  size : w.heap.size ≤ w'.heap.size
  block : ∀ k, k < w.heap.size → ¬ S k → w'.heap[k]? = w.heap[k]?
theorem Chg.refl (w : World) (S : Nat → Prop) : Chg w w S := ⟨rfl, rfl, rfl, Nat.le_refl _, fun _ _ _ => rfl⟩
theorem Chg.trans {a b c : World} {S : Nat → Prop} (h : Chg a b S) (k : Chg b c S) : Chg a c S :=
  ⟨k.os.trans h.os, k.tape.trans h.tape, k.output.trans h.output, Nat.le_trans h.size k.size, fun i hi hn => (k.block i (Nat.lt_of_lt_of_le hi h.size) hn).trans (h.block i hi hn)⟩
theorem Chg.drew {a b : World} {S : Nat → Prop} (h : Chg a b S) : Chg a b.drew S := ⟨h.os, h.tape, h.output, h.size, h.block⟩
theorem Chg.alloc {a b : World} {S : Nat → Prop} (h : Chg a b S) (o : Obj) : Chg a (b.alloc o) S :=
  h.trans ⟨rfl, rfl, rfl, by show b.heap.size ≤ (b.heap.push o).size; simp, fun k hk _ => heap_alloc_old b o hk⟩
theorem Chg.of_below {a b : World} {S : Nat → Prop} (h : Below a.heap.size a b) : Chg a b S := ⟨h.os, h.tape, h.output, h.size, fun k hk _ => h.block k hk⟩
theorem Chg.turned {a b : World} {S : Nat → Prop} {r : Nat} (h : Mp.Turned a b r) (hr : S r) : Chg a b S :=
  ⟨h.os, h.tape, h.output, by rw [h.size]; exact Nat.le_refl _, fun k _ hn => h.block k (fun e => hn (e ▸ hr))⟩
theorem Chg.mono {a b : World} {S S' : Nat → Prop} (h : Chg a b S) (hs : ∀ k, S k → S' k) : Chg a b S' := ⟨h.os, h.tape, h.output, h.size, fun k hk hn => h.block k hk (fun e => hn (hs k e))⟩
theorem Chg.below {a b : World} {S : Nat → Prop} {base : Nat} (h : Chg a b S) (hb : base ≤ a.heap.size) (hs : ∀ k, S k → base ≤ k) : Below base a b :=
  ⟨h.os, h.tape, h.output, h.size, fun k hk => h.block k (by omega) (fun e => by have := hs k e; omega)⟩

/-- A disk whose map of kept sectors was turned. -/
theorem DK.turn {w w' : World} {base B M Bd : Nat} {vc : Value} {D D' : PD} (h : DK w base B M Bd vc D) (hc : Chg w w' (fun k => k = M)) (hk : Mp.Is (.int .i64) w' M (keptF D'.kept))
    (hs : ∀ a s, D'.kept a = some s → s.length = 64) (e : D' = { D with kept := D'.kept }) : DK w' base B M Bd vc D' := by
  have hB : B < w.heap.size := (Array.getElem?_eq_some_iff.1 h.blk).1
  have hb : DCells w' B M Bd vc D := (hc.block B hB (fun e => h.hne.2.1 e.symm)).trans h.blk
  rw [e]
  refine ⟨hb, hk, h.bad.same (hc.block Bd h.bad.lt (fun e => h.hne.1 e.symm)), Kd.R_step h.cache (fun k hk hl => hc.block k hl hk.2.1), h.hB, h.hM, h.hBd, h.hne, hs, h.hn, h.hl⟩

def newP (n : Int) : PD := { n := min (max n 0) 4096, kept := fun _ => none, cache := [], bad := fun _ => false, armed := false, left := 0, dead := false }
theorem new_calls (w : World) (base : Nat) (hb : base ≤ w.heap.size) (n : Int) :
    Calls Tryz.prog 8 #[.int .i64 n] w fun e w' => ∃ B M Bd, e = .returned (.pointer (some ⟨B, 0, none⟩)) ∧ DK w' base B M Bd (.slice none 0 0) (newP n) ∧ Below base w w' := by
  obtain ⟨m, hm⟩ : ∃ m, (if n < 0 then 0 else n) = m := ⟨_, rfl⟩
  obtain ⟨q, hq⟩ : ∃ q, (if 4096 < m then 4096 else m) = q := ⟨_, rfl⟩
  have HQ := Aside0.mk (show min (max n 0) 4096 = q by rw [← hq, ← hm]; split <;> split <;> omega)
  go_enter Tryz.func8, Tryz.ntmps8
  go_wp2
  go_ret
  have hs0 : (w.alloc (.map #[] 0)).heap.size = w.heap.size + 1 := alloc_size w _
  refine ⟨w.heap.size + 1 + 1, w.heap.size, w.heap.size + 1, rfl, ⟨?_, ?_, ?_, Kd.R_nil _ _ _ _ _, by omega, by omega, by omega, ⟨by omega, by omega, by omega⟩, fun a s h => by simp [newP] at h, by simp only [newP]; omega, by simp [newP]⟩, ?_⟩
  · show DCells _ _ _ _ _ _
    unfold DCells
    have := heap_alloc_new ((w.alloc (.map #[] 0)).alloc (.map #[] 0)) (.cells #[.int .i64 q, .map (some w.heap.size), .slice none 0 0, .map (some (w.heap.size + 1)), .bool false, .int .i64 0, .bool false] 90)
    rw [alloc_size, alloc_size] at this
    rw [this, show (newP n).n = q from HQ.out]
    rfl
  · have e : keptF (newP n).kept = fun _ => none := by funext v; unfold keptF newP; split <;> simp
    rw [e]
    refine (Mp.Is.empty (.int .i64) w).same ?_
    rw [heap_alloc_old _ _ (by rw [alloc_size, alloc_size]; omega), heap_alloc_old _ _ (by rw [alloc_size]; omega)]
  · have e : badF (newP n).bad = fun _ => none := by funext v; unfold badF newP; split <;> simp
    rw [e]
    have := Mp.Is.empty (.int .i64) (w.alloc (.map #[] 0))
    rw [alloc_size] at this
    refine this.same ?_
    rw [heap_alloc_old _ _ (by rw [alloc_size, alloc_size]; omega)]
  · exact (Chg.below (((Chg.refl w (fun _ => False)).alloc _).alloc _ |>.alloc _) hb (fun _ h => h.elim))

def zsec : List Int := List.replicate 64 0
def wrC (x : Int × List Int) : Array Value := (Value.int .i64 x.1 :: encs (Value.int .u8) x.2).toArray
def wrV (x : Int × List Int) : Value := .agg (wrC x)
noncomputable def keepP (D : PD) (x : Int × List Int) : PD := { D with kept := fun a => if a = x.1 then (if x.2 = zsec then none else some x.2) else D.kept a }
theorem keptF_del (D : PD) (x : Int × List Int) (hz : x.2 = zsec) : keptF (keepP D x).kept = Mp.del (keptF D.kept) (.int .i64 x.1) := by
  funext v
  unfold Mp.del keepP
  cases v with
  | int k a =>
    cases k with
    | i64 => by_cases ha : a = x.1 <;> simp [keptF, ha, hz]
    | _ => simp [keptF]
  | _ => simp [keptF]
theorem keptF_upd (D : PD) (x : Int × List Int) (hz : x.2 ≠ zsec) : keptF (keepP D x).kept = Mp.upd (keptF D.kept) (.int .i64 x.1) (secV x.2) := by
  funext v
  unfold Mp.upd keepP
  cases v with
  | int k a =>
    cases k with
    | i64 => by_cases ha : a = x.1 <;> simp [keptF, ha, hz]
    | _ => simp [keptF]
  | _ => simp [keptF]
theorem keepP_sec (D : PD) (x : Int × List Int) (hx : x.2.length = 64) (h : ∀ a s, D.kept a = some s → s.length = 64) : ∀ a s, (keepP D x).kept a = some s → s.length = 64 := by
  intro a s hs
  unfold keepP at hs
  simp only at hs
  split at hs
  · split at hs
    · cases hs
    · obtain rfl := Option.some.inj hs; exact hx
  · exact h a s hs
theorem wr_cell (w : World) (x : Int × List Int) : (w.alloc (.cells (wrC x) 124)).cell? ⟨w.heap.size, 0, none⟩ = some (.int .i64 x.1) := by
  unfold World.cell?
  rw [heap_alloc_new]
  rfl
theorem wr_cells (w : World) (x : Int × List Int) (j : Nat) (u : Value) (hu : (encs (Value.int .u8) x.2)[j]? = some u) : (w.alloc (.cells (wrC x) 124)).cell? ((⟨w.heap.size, 1, none⟩ : Addr).add j) = some u := by
  have e : (⟨w.heap.size, 1, none⟩ : Addr).add j = ⟨w.heap.size, j + 1, none⟩ := by unfold Addr.add; split <;> simp_all <;> omega
  rw [e]
  unfold World.cell?
  rw [heap_alloc_new]
  simpa [wrC] using hu
theorem keep_calls (w : World) (base B M Bd : Nat) (vc : Value) (D : PD) (x : Int × List Int) (hx : x.2.length = 64) (h : DK w base B M Bd vc D) :
    Calls Tryz.prog 63 #[.pointer (some ⟨B, 0, none⟩), wrV x] w fun e w' => e = .returned (.tuple #[]) ∧ DK w' base B M Bd vc (keepP D x) ∧ Chg w w' (fun k => k = M) := by
  show Calls Tryz.prog 63 #[.pointer (some ⟨B, 0, none⟩), .agg (wrC x)] w _
  have HX := Aside0.mk hx
  have HD := Aside0.mk h
  obtain ⟨z, hz⟩ : ∃ z, (x.2 == zsec) = z := ⟨_, rfl⟩
  have HZ := Aside0.mk hz
  have hw := wr_cell w x
  obtain ⟨⟨h0, h1, h2, h3, h4, h5, h6⟩, f2, f4, f5, f6⟩ := cells7 h.blk
  have HW := Aside0.mk (wr_cells w x)
  have HM : Aside0 (∀ o, Mp.Is (.int .i64) (w.alloc o).drew M (keptF D.kept)) := Aside0.mk fun o => h.kept.same (heap_alloc_old w o h.kept.lt)
  clear hx h hz
  cases z with
  | true =>
    have hh := Mp.run_delete (P := Tryz.prog) (t := 86) (kt := 3) (et := 122) (d := .int .i64) (r := M) (f := keptF D.kept) (w := (w.alloc (Obj.cells (wrC x) 124)).drew) (ty := 0) (HM.out (.cells (wrC x) 124)) Tryz.underlying86 Tryz.underlying3 (k := .int .i64 x.1) rfl
    rcases hh with ⟨w2, hr2, ht2, hi2⟩
    have HR2 := Aside0.mk hr2
    have HT2 := Aside0.mk ht2
    have HI2 := Aside0.mk hi2
    clear hr2 ht2 hi2
    go_enter Tryz.func63, Tryz.ntmps63
    go_wp2_with (first
      | ((with_reducible refine gate_ (.box 124 (.tmp 1)) rfl ?_); refine Kd.event_run rfl (w1 := w.alloc (.cells (wrC x) 124)) (v := .pointer (some ⟨w.heap.size, 0, none⟩)) (Arr.ex_box rfl) ?_; simp only [Act.put, List.setIfInBounds_toArray, List.set_cons_succ, List.set_cons_zero])
      | ((with_reducible refine gate_ (.load 122 (.tmp 4)) rfl ?_); refine Kd.event_run rfl (Arr.ex_load rfl (ad := ⟨w.heap.size, 1, none⟩) rfl (by kernel_rfl) (seg := encs (Value.int .u8) x.2) (by rw [encs_length, HX.out]; kernel_rfl) HW.out) ?_; simp only [Act.put, List.setIfInBounds_toArray, List.set_cons_succ, List.set_cons_zero])
      | ((with_reducible refine gate_ (.build 122 #[]) rfl ?_); refine Kd.event_run rfl (Arr.ex_build rfl (cells := (encs (Value.int .u8) (zsec)).toArray) (by kernel_rfl)) ?_; simp only [Act.put, List.setIfInBounds_toArray, List.set_cons_succ, List.set_cons_zero])
      | ((with_reducible refine gate_ (.binOp .eql 122 (.tmp 5) (.tmp 6) 122) rfl ?_); go_loud (refine Kd.event_run rfl (v := .bool true) (by rw [← HZ.out]; exact Arr.ex_eql_arr rfl Tryz.underlying122 Tryz.underlying5 (by kernel_rfl) (by kernel_rfl) (by kernel_rfl) rfl rfl HX.out rfl) ?_); simp only [Act.put, List.setIfInBounds_toArray, List.set_cons_succ, List.set_cons_zero]))
    have h1' := alloc_cell h1 (.cells (wrC x) 124)
    refine Calm.wp_calm [6] [(0, 0), (1, 0), (2, 0), (4, 0), (3, 1), (5, 1), (6, 2)] (by kernel_rfl) (by kernel_rfl) ?_
    generalize hops : List.toArray (_ : List Oper) = ops
    have ho0 := (congrArg (fun z : Array Oper => z[0]?) hops).symm
    have ho1 := (congrArg (fun z : Array Oper => z[1]?) hops).symm
    have ho2 := (congrArg (fun z : Array Oper => z[2]?) hops).symm
    have ho3 := (congrArg (fun z : Array Oper => z[3]?) hops).symm
    have ho4 := (congrArg (fun z : Array Oper => z[4]?) hops).symm
    have ho5 := (congrArg (fun z : Array Oper => z[5]?) hops).symm
    have ho6 := (congrArg (fun z : Array Oper => z[6]?) hops).symm
    simp only [List.getElem?_toArray, List.getElem?_cons_zero, List.getElem?_cons_succ] at ho0 ho1 ho2 ho3 ho4 ho5 ho6
    clear hops
    refine Calm.plain ho0 _ rfl (fun W => by go_simp; exact rfl) ?_
    simp only [Act.put, List.setIfInBounds_toArray, List.set_cons_succ, List.set_cons_zero]
    refine Calm.plain ho1 _ rfl (fun W => by go_simp; exact rfl) ?_
    simp only [Act.put, List.setIfInBounds_toArray, List.set_cons_succ, List.set_cons_zero]
    refine Calm.plain ho2 _ rfl (fun W => by go_simp; exact rfl) ?_
    simp only [Act.put, List.setIfInBounds_toArray, List.set_cons_succ, List.set_cons_zero]
    refine Calm.plain ho4 _ rfl (fun W => by go_simp; exact rfl) ?_
    simp only [Act.put, List.setIfInBounds_toArray, List.set_cons_succ, List.set_cons_zero]
    refine Calm.reads ho3 _ rfl (fun W hW => by have q := bel_cell hW h1'; go_simp; exact rfl) ?_
    simp only [Act.put, List.setIfInBounds_toArray, List.set_cons_succ, List.set_cons_zero]
    refine Calm.reads ho5 _ rfl (fun W hW => by have q := bel_cell hW hw; go_simp; exact rfl) ?_
    simp only [Act.put, List.setIfInBounds_toArray, List.set_cons_succ, List.set_cons_zero]
    refine Calm.step ho6 (fun K hK => ?_)
    go_simp
    rw [HR2.out]
    refine hK _ _ (fun h => absurd h (by simp)) (Calm.done ?_)
    go_wp2
    ((try simp only [Exit.inBlock, Exit.then]); refine bodyPost_ret (results_none rfl _ _ _) rfl ?_)
    have hc : Chg w w2 (fun k => k = M) := ((Chg.refl w _).alloc _).drew.trans (.turned HT2.out rfl)
    exact ⟨rfl, HD.out.turn hc (by rw [keptF_del D x (by simpa using HZ.out)]; exact HI2.out) (keepP_sec D x HX.out HD.out.sec) rfl, hc⟩
  | false =>
    have hh := Mp.run_update (P := Tryz.prog) (t := 86) (kt := 3) (et := 122) (d := .int .i64) (r := M) (f := keptF D.kept) (w := (w.alloc (Obj.cells (wrC x) 124)).drew) (HM.out (.cells (wrC x) 124)) Tryz.underlying86 Tryz.underlying3 (k := .int .i64 x.1) rfl (.agg (encs (Value.int .u8) x.2).toArray)
    rcases hh with ⟨w2, hr2, ht2, hi2⟩
    have HR2 := Aside0.mk hr2
    have HT2 := Aside0.mk ht2
    have HI2 := Aside0.mk hi2
    clear hr2 ht2 hi2
    go_enter Tryz.func63, Tryz.ntmps63
    go_wp2_with (first
      | ((with_reducible refine gate_ (.box 124 (.tmp 1)) rfl ?_); refine Kd.event_run rfl (w1 := w.alloc (.cells (wrC x) 124)) (v := .pointer (some ⟨w.heap.size, 0, none⟩)) (Arr.ex_box rfl) ?_; simp only [Act.put, List.setIfInBounds_toArray, List.set_cons_succ, List.set_cons_zero])
      | ((with_reducible refine gate_ (.load 122 (.tmp 4)) rfl ?_); refine Kd.event_run rfl (Arr.ex_load rfl (ad := ⟨w.heap.size, 1, none⟩) rfl (by kernel_rfl) (seg := encs (Value.int .u8) x.2) (by rw [encs_length, HX.out]; kernel_rfl) HW.out) ?_; simp only [Act.put, List.setIfInBounds_toArray, List.set_cons_succ, List.set_cons_zero])
      | ((with_reducible refine gate_ (.build 122 #[]) rfl ?_); refine Kd.event_run rfl (Arr.ex_build rfl (cells := (encs (Value.int .u8) (zsec)).toArray) (by kernel_rfl)) ?_; simp only [Act.put, List.setIfInBounds_toArray, List.set_cons_succ, List.set_cons_zero])
      | ((with_reducible refine gate_ (.binOp .eql 122 (.tmp 5) (.tmp 6) 122) rfl ?_); go_loud (refine Kd.event_run rfl (v := .bool false) (by rw [← HZ.out]; exact Arr.ex_eql_arr rfl Tryz.underlying122 Tryz.underlying5 (by kernel_rfl) (by kernel_rfl) (by kernel_rfl) rfl rfl HX.out rfl) ?_); simp only [Act.put, List.setIfInBounds_toArray, List.set_cons_succ, List.set_cons_zero]))
    have h1' := alloc_cell h1 (.cells (wrC x) 124)
    refine Calm.wp_calm [8] [(0, 0), (1, 0), (2, 0), (4, 0), (6, 0), (3, 1), (5, 1), (7, 1), (8, 2)] (by kernel_rfl) (by kernel_rfl) ?_
    generalize hops : List.toArray (_ : List Oper) = ops
    have ho0 := (congrArg (fun z : Array Oper => z[0]?) hops).symm
    have ho1 := (congrArg (fun z : Array Oper => z[1]?) hops).symm
    have ho2 := (congrArg (fun z : Array Oper => z[2]?) hops).symm
    have ho3 := (congrArg (fun z : Array Oper => z[3]?) hops).symm
    have ho4 := (congrArg (fun z : Array Oper => z[4]?) hops).symm
    have ho5 := (congrArg (fun z : Array Oper => z[5]?) hops).symm
    have ho6 := (congrArg (fun z : Array Oper => z[6]?) hops).symm
    have ho7 := (congrArg (fun z : Array Oper => z[7]?) hops).symm
    have ho8 := (congrArg (fun z : Array Oper => z[8]?) hops).symm
    simp only [List.getElem?_toArray, List.getElem?_cons_zero, List.getElem?_cons_succ] at ho0 ho1 ho2 ho3 ho4 ho5 ho6 ho7 ho8
    clear hops
    refine Calm.plain ho0 _ rfl (fun W => by go_simp; exact rfl) ?_
    simp only [Act.put, List.setIfInBounds_toArray, List.set_cons_succ, List.set_cons_zero]
    refine Calm.plain ho1 _ rfl (fun W => by go_simp; exact rfl) ?_
    simp only [Act.put, List.setIfInBounds_toArray, List.set_cons_succ, List.set_cons_zero]
    refine Calm.plain ho2 _ rfl (fun W => by go_simp; exact rfl) ?_
    simp only [Act.put, List.setIfInBounds_toArray, List.set_cons_succ, List.set_cons_zero]
    refine Calm.plain ho4 _ rfl (fun W => by go_simp; exact rfl) ?_
    simp only [Act.put, List.setIfInBounds_toArray, List.set_cons_succ, List.set_cons_zero]
    refine Calm.plain ho6 _ rfl (fun W => by go_simp; exact rfl) ?_
    simp only [Act.put, List.setIfInBounds_toArray, List.set_cons_succ, List.set_cons_zero]
    refine Calm.reads ho3 _ rfl (fun W hW => by have q := bel_cell hW h1'; go_simp; exact rfl) ?_
    simp only [Act.put, List.setIfInBounds_toArray, List.set_cons_succ, List.set_cons_zero]
    refine Calm.reads ho5 _ rfl (fun W hW => by have q := bel_cell hW hw; go_simp; exact rfl) ?_
    simp only [Act.put, List.setIfInBounds_toArray, List.set_cons_succ, List.set_cons_zero]
    refine Calm.reads ho7 (.agg (encs (Value.int .u8) x.2).toArray) rfl (fun W hW => Arr.ex_load rfl (ad := ⟨w.heap.size, 1, none⟩) rfl (by kernel_rfl) (seg := encs (Value.int .u8) x.2) (by rw [encs_length, HX.out]; kernel_rfl) (fun j u hu => bel_cell hW (HW.out j u hu))) ?_
    simp only [Act.put, List.setIfInBounds_toArray, List.set_cons_succ, List.set_cons_zero]
    refine Calm.step ho8 (fun K hK => ?_)
    go_simp
    rw [HR2.out]
    refine hK _ _ (fun h => absurd h (by simp)) (Calm.done ?_)
    go_wp2
    go_end0
    have hc : Chg w w2 (fun k => k = M) := ((Chg.refl w _).alloc _).drew.trans (.turned HT2.out rfl)
    exact ⟨rfl, HD.out.turn hc (by rw [keptF_upd D x (by simpa using HZ.out)]; exact HI2.out) (keepP_sec D x HX.out HD.out.sec) rfl, hc⟩
end Go.Proofs.YtlepcmljmibdnaaGreat
namespace Go.Proofs.YtlepcmljmibdnaaGreat
open Go.RowKit Go.Proofs.YtlepcmljmibdnaaGreatW.PrintWords Go.Proofs.YtlepcmljmibdnaaGreatW.PrintLast Go.Proofs.YtlepcmljmibdnaaGreatW.PrintMore
attribute [local go_sem] run_makeMap max2_int min2_int max_two min_two
set_option linter.unusedVariables false
set_option linter.unusedSimpArgs false

theorem cache_at {w : World} {A : Option Addr} {n : Nat} {xs : List (Int × List Int)} (h : wrK.C w A n xs) (k : Nat) (hk : k < n) (x : Int × List Int) (hx : xs[k]? = some x) :
    ∃ ad, A = some ad ∧ x.2.length = 64 ∧ ∀ j u, (wrC x).toList[j]? = some u → w.cell? ((ad.add (k * 65)).add j) = some u := by
  obtain ⟨ad, c, e, hl, hK, hc⟩ := Kd.C_get h (0, []) (k : Int) (by omega) (by omega)
  have hx' : xs.getD (k : Int).toNat (0, []) = x := by simp [List.getD, hx]
  rw [hx'] at hK
  obtain ⟨c0, c1, rfl, h0, h1⟩ := hK
  obtain ⟨h2, rfl⟩ := Kd.arr_cells h1
  have h0' : c0 = [.int .i64 x.1] := h0
  subst h0'
  refine ⟨ad, e, h2, fun j u hu => ?_⟩
  have := hc j u (by simpa [wrC] using hu)
  rw [show ((k : Int)).toNat * wrK.sz + j = k * 65 + j by rw [Int.toNat_natCast]; rfl] at this
  rw [Addr.add_add]
  exact this

section
variable {w : World} {o : Oper} {ρ : Operand → Value}
theorem ex_load_wr (W : World) {x : Operand} {ad : Addr} (ho : o.op = .load 124 x) (hx : ρ x = .pointer (some ad)) {q : Int × List Int} (hq : q.2.length = 64)
    (hc : ∀ j u, (wrC q).toList[j]? = some u → W.cell? (ad.add j) = some u) : (execOp ρ o).run Tryz.prog W = .ok (.value (.agg (wrC q))) W := by
  have h := Arr.ex_load (P := Tryz.prog) (W := W) ho hx (by kernel_rfl) (seg := (wrC q).toList) (by rw [show (wrC q).toList.length = 65 by simp [wrC, encs_length, hq]]; kernel_rfl) hc
  simpa using h
theorem new_wr_cells (W : World) (q : Int × List Int) (j : Nat) (u : Value) (hu : (wrC q).toList[j]? = some u) : (W.alloc (.cells (wrC q) 124)).cell? ((⟨W.heap.size, 0, none⟩ : Addr).add j) = some u := by
  have e : (⟨W.heap.size, 0, none⟩ : Addr).add j = ⟨W.heap.size, j, none⟩ := by unfold Addr.add; split <;> simp_all
  rw [e]
  unfold World.cell?
  rw [heap_alloc_new]
  simpa using hu
theorem ex_alloc_wr (W : World) (ho : o.op = .alloc 124) : (execOp ρ o).run Tryz.prog W = .ok (.value (.pointer (some ⟨W.heap.size, 0, none⟩))) (W.alloc (.cells (wrC (0, zsec)) 124)) := by
  have hi : ∃ i, Tryz.prog.info? 124 = some i ∧ i.zero = some (.agg (wrC (0, zsec))) := by
    have : (Tryz.prog.info? 124).bind (·.zero) = some (.agg (wrC (0, zsec))) := by kernel_rfl
    exact Option.bind_eq_some_iff.1 this
  obtain ⟨i, h1, h2⟩ := hi
  exact Arr.ex_alloc ho h1 h2
theorem wr_size (q : Int × List Int) (hq : q.2.length = 64) : (wrC q).size = 65 := by simp [wrC, encs_length, hq]
theorem ex_store_wr (W : World) {x y : Operand} (p q : Int × List Int) (hp : p.2.length = 64) (hq : q.2.length = 64) (ho : o.op = .store 124 x y) (hx : ρ x = .pointer (some ⟨W.heap.size, 0, none⟩)) (hy : ρ y = .agg (wrC q)) :
    (execOp ρ o).run Tryz.prog (W.alloc (.cells (wrC p) 124)) = .ok .skip (W.alloc (.cells (wrC q) 124)) := by
  have hl : (wrC q).toList.length = 65 := by rw [Array.length_toList]; exact wr_size q hq
  have h := Arr.ex_store (P := Tryz.prog) (W := W.alloc (.cells (wrC p) 124)) ho hx hy (seg := (wrC q).toList) rfl (by rw [hl]; kernel_rfl) (heap_alloc_new W _) (by rw [hl, wr_size p hp]; omega) (by
    intro u hu
    simp only [wrC, List.toList_toArray, List.mem_cons, encs, List.mem_map] at hu
    rcases hu with rfl | ⟨a, _, rfl⟩ <;> rfl)
  rw [h, Arr.setRow_alloc]
  have e : (wrC p).toList.drop (0 + (wrC q).toList.length) = [] := by rw [hl]; exact List.drop_eq_nil_of_le (by rw [Array.length_toList, wr_size p hp]; omega)
  rw [e]
  simp
end

theorem Only.chg {w w' : World} {B : Nat} {S : Nat → Prop} (h : Only w w' B) (hs : ∀ k, k = B → S k) : Chg w w' S := ⟨h.1, h.2.1, h.2.2.1, h.2.2.2.1, fun k _ hn => h.2.2.2.2 k (fun e => hn (hs k e))⟩
theorem actP_cache (D : PD) : (actP D).1.cache = D.cache := by
  obtain ⟨n, kept, cache, bad, armed, left, dead⟩ := D
  cases armed <;> cases dead <;> by_cases h : left = 0 <;> simp [actP, h]
noncomputable def keepAll (D : PD) (l : List (Int × List Int)) : PD := l.foldl keepP D
theorem keepAll_cache (D : PD) (l : List (Int × List Int)) : (keepAll D l).cache = D.cache := by
  induction l generalizing D with
  | nil => rfl
  | cons x l ih => exact ih (keepP D x)
theorem keepAll_succ (D : PD) (l : List (Int × List Int)) (i : Nat) (x : Int × List Int) (h : l[i]? = some x) : keepAll D (l.take (i + 1)) = keepP (keepAll D (l.take i)) x := by
  unfold keepAll
  rw [List.take_add_one, h, List.foldl_append]
  rfl
theorem DK.chg {w w' : World} {base B M Bd : Nat} {vc : Value} {D : PD} (h : DK w base B M Bd vc D) (hc : Chg w w' (fun _ => False)) : DK w' base B M Bd vc D :=
  h.turn (hc.mono fun _ h => h.elim) (h.kept.same (hc.block M h.kept.lt (fun h => h))) h.sec rfl
theorem DK.grow {w : World} {base B M Bd : Nat} {vc : Value} {D : PD} (h : DK w base B M Bd vc D) (o : Obj) : DK (w.alloc o) base B M Bd vc D := h.chg ((Chg.refl w _).alloc o)
theorem DK.drew {w : World} {base B M Bd : Nat} {vc : Value} {D : PD} (h : DK w base B M Bd vc D) : DK w.drew base B M Bd vc D := h.chg (Chg.refl w _).drew
noncomputable def flushP (D : PD) : PD × Int := if (actP D).2 ≠ 0 then actP D else ({ keepAll (actP D).1 (actP D).1.cache with cache := [] }, 0)
theorem flush_calls (w : World) (base B M Bd : Nat) (vc : Value) (D : PD) (hl : D.cache.length ≤ 40000) (hbw : base ≤ w.heap.size) (h : DK w base B M Bd vc D) :
    Calls Tryz.prog 129 #[.pointer (some ⟨B, 0, none⟩)] w fun e w' => e = .returned (.int .i64 (flushP D).2) ∧ ∃ vc', DK w' base B M Bd vc' (flushP D).1 ∧ (vc' = vc ∨ vc' = .slice none 0 0) ∧ Chg w w' (fun k => k = B ∨ k = M) := by
  have HL := Aside0.mk hl
  have HD := Aside0.mk h
  have h1 := (cells7 h.blk).1.2.1
  clear hl h
  obtain ⟨e, he⟩ : ∃ e, (actP D).2 = e := ⟨_, rfl⟩
  obtain ⟨D1, hD1⟩ : ∃ D1, (actP D).1 = D1 := ⟨_, rfl⟩
  have HE := Aside0.mk he
  have HD1 := Aside0.mk hD1
  clear he hD1
  by_cases hz : e = 0
  · subst hz
    obtain ⟨A, c, hvc⟩ := Kd.R_slice HD.out.cache
    subst hvc
    have HC1 := Aside0.mk (show D1.cache = D.cache by rw [← HD1.out]; exact actP_cache D)
    go_enter Tryz.func129, Tryz.ntmps129
    go_wp2_with (first | (go_at_call 62; refine (ok_calls _ _ _ h1).mono ?_; rintro e w' ⟨rfl, rfl⟩) | (go_at_call 127; refine (act_calls _ base B M Bd _ D HD.out).mono ?_; rw [HE.out, HD1.out]; rintro e w1 ⟨rfl, hd, ho⟩; obtain ⟨⟨g0, g1, g2, g3, g4, g5, g6⟩, k2, k4, k5, k6⟩ := cells7 hd.blk; have HDK1 := Aside0.mk hd; have HO := Aside0.mk ho; clear hd ho))
    clear g0 g3 g4 g5 g6 k4 k5 k6
    go_loopg [19] D.cache.length (fun kq v19 w' => ∃ (i : Nat), v19 = .int .i64 (i : Int) ∧ Aside0 (i + kq = D.cache.length) ∧ Aside0 (DK w' base B M Bd (.slice A D.cache.length c) (keepAll D1 (D.cache.take i))) ∧ Aside0 (Chg w w' (fun k => k = B ∨ k = M)))
    case atStart => exact ⟨0, rfl, ⟨by omega⟩, ⟨by rw [List.take_zero]; exact HDK1.out⟩, ⟨HO.out.chg (fun _ h => .inl h)⟩⟩
    case round =>
      obtain ⟨i, rfl, HI, HDi, HCi⟩ := hrel
      have hBr := (cells7 HDi.out.blk).1
      by_cases hi : i < D.cache.length
      · obtain ⟨x, hx⟩ : ∃ x, D.cache[i]? = some x := ⟨_, List.getElem?_eq_getElem hi⟩
        have HX := Aside0.mk hx
        clear hx hBr
        have hcw := (Kd.R_reads' HDi.out.cache).2.2
        rw [keepAll_cache, HC1.out] at hcw
        obtain ⟨ad, e, hx2, hcell⟩ := cache_at hcw i hi x HX.out
        subst e
        have HX2 := Aside0.mk hx2
        have HCELL := Aside0.mk hcell
        have HNEW := Aside0.mk (new_wr_cells wr x)
        have hk2 := HL.out
        clear hcw hx2 hcell
        go_wp2_with (first
          | ((with_reducible refine gate_ (.load 124 (.tmp 21)) rfl ?_); refine Kd.event_run rfl (ex_load_wr wr rfl rfl HX2.out HCELL.out) ?_; simp only [Act.put, List.setIfInBounds_toArray, List.set_cons_succ, List.set_cons_zero])
          | ((with_reducible refine gate_ (.alloc 124) rfl ?_); refine Kd.event_run rfl (ex_alloc_wr wr rfl) ?_; simp only [Act.put, List.setIfInBounds_toArray, List.set_cons_succ, List.set_cons_zero])
          | ((with_reducible refine gate_ (.store 124 (.tmp 5) (.tmp 22)) rfl ?_); refine Arr.skip_run rfl (ex_store_wr wr (0, zsec) x (by decide) HX2.out rfl rfl rfl) ?_; simp only [Act.put, List.setIfInBounds_toArray, List.set_cons_succ, List.set_cons_zero])
          | ((with_reducible refine gate_ (.load 124 (.tmp 5)) rfl ?_); refine Kd.event_run rfl (ex_load_wr (wr.alloc (.cells (wrC x) 124)) rfl rfl HX2.out HNEW.out) ?_; simp only [Act.put, List.setIfInBounds_toArray, List.set_cons_succ, List.set_cons_zero])
          | (go_at_call 63; refine (keep_calls _ base B M Bd _ (keepAll D1 (D.cache.take i)) x HX2.out (HDi.out.grow (.cells (wrC x) 124))).mono ?_; rintro e w2 ⟨rfl, hd, hc⟩; have HD2 := Aside0.mk hd; have HC2 := Aside0.mk hc; clear hd hc))
        have hk1 := HI.out
        obtain ⟨gq, rfl⟩ : ∃ gq, gk = gq + 1 := ⟨gk - 1, by omega⟩
        go_roundg gq
        case rel => exact ⟨i + 1, by go_num, ⟨by omega⟩, ⟨by rw [keepAll_succ D1 D.cache i x HX.out]; exact HD2.out⟩, ⟨HCi.out.trans (((Chg.refl wr _).alloc _).trans (HC2.out.mono fun _ h => .inr h))⟩⟩
        case measure => omega
      · have hi0 := HI.out
        obtain rfl : gk = 0 := by omega
        obtain rfl : i = D.cache.length := by omega
        clear hi0
        have hm : ¬ ((D.cache.length : Int) < (D.cache.length : Int)) := by omega
        obtain ⟨⟨c0, c1, c2, c3, c4, c5, c6⟩, k2, k4, k5, k6⟩ := cells7 HDi.out.blk
        clear hBr c0 c1 c3 c4 c5 c6 k4 k5 k6
        go_wp2
        go_ret
        have hf : flushP D = ({ keepAll D1 (D.cache.take D.cache.length) with cache := [] }, 0) := by
          unfold flushP
          rw [if_neg (by rw [HE.out]; simp), HD1.out, HC1.out, List.take_length]
        rw [hf]
        have ho := (Only.refl wr B).set (i := 2) (.slice none 0 0)
        exact ⟨rfl, _, HDi.out.only ho (set7 HDi.out.blk 2 _) rfl rfl (.inr ⟨rfl, rfl⟩) rfl HDi.out.hl, .inr rfl, HCi.out.trans (ho.chg fun _ h => .inl h)⟩
  · have hz' : (e == 0) = false := by simpa using hz
    have HZ := Aside0.mk hz
    clear hz
    go_enter Tryz.func129, Tryz.ntmps129
    go_wp2_with (first | (go_at_call 62; refine (ok_calls _ _ _ h1).mono ?_; rintro e w' ⟨rfl, rfl⟩) | (go_at_call 127; refine (act_calls _ base B M Bd vc D HD.out).mono ?_; rw [HE.out, HD1.out]; rintro e w1 ⟨rfl, hd, ho⟩; have HDK1 := Aside0.mk hd; have HO := Aside0.mk ho; clear hd ho))
    go_ret
    have hf : flushP D = (D1, e) := by unfold flushP; rw [if_pos (by rw [HE.out]; exact HZ.out), ← HD1.out, ← HE.out]
    rw [hf]
    exact ⟨rfl, vc, HDK1.out, .inl rfl, HO.out.chg (fun _ h => .inl h)⟩
/-- the first i writes, of which those are kept that ks names -/
noncomputable def sel (D : PD) (l : List (Int × List Int)) (ks : List Bool) : Nat → PD
  | 0 => D
  | i + 1 => if ks.getD i false then keepP (sel D l ks i) (l.getD i (0, [])) else sel D l ks i
theorem sel_cache (D : PD) (l : List (Int × List Int)) (ks : List Bool) (i : Nat) : (sel D l ks i).cache = D.cache := by
  induction i with
  | zero => rfl
  | succ i ih => unfold sel; split <;> exact ih
noncomputable def crashP (D : PD) (ks : List Bool) : PD := restP (sel D D.cache ks D.cache.length)
theorem crash_calls (w : World) (base B M Bd : Nat) (vc : Value) (D : PD) (Ak : Option Addr) (ck : Nat) (ks : List Bool) (hl : D.cache.length ≤ 40000) (hbw : base ≤ w.heap.size) (h : DK w base B M Bd vc D)
    (hks : ∀ w', Chg w w' (fun k => k = B ∨ k = M) → Kd.bool.C w' Ak ks.length ks) :
    Calls Tryz.prog 23 #[.pointer (some ⟨B, 0, none⟩), .slice Ak ks.length ck] w fun e w' => e = .returned (.tuple #[]) ∧ DK w' base B M Bd (.slice none 0 0) (crashP D ks) ∧ Chg w w' (fun k => k = B ∨ k = M) := by
  have HL := Aside0.mk hl
  have HD := Aside0.mk h
  have HK := Aside0.mk hks
  obtain ⟨⟨g0, g1, g2, g3, g4, g5, g6⟩, k2, k4, k5, k6⟩ := cells7 h.blk
  clear hl h hks
  obtain ⟨A, c, hvc⟩ := Kd.R_slice HD.out.cache
  subst hvc
  go_enter Tryz.func23, Tryz.ntmps23
  go_wp2_with (first | (go_at_call 62; refine (ok_calls _ _ _ g1).mono ?_; rintro e w' ⟨rfl, rfl⟩))
  clear g0 g3 g4 g5 g6 k4 k5 k6
  go_loopg [14] D.cache.length (fun kq v14 w' => ∃ (i : Nat), v14 = .int .i64 (i : Int) ∧ Aside0 (i + kq = D.cache.length) ∧ Aside0 (DK w' base B M Bd (.slice A D.cache.length c) (sel D D.cache ks i)) ∧ Aside0 (Chg w w' (fun k => k = B ∨ k = M)))
  case atStart => exact ⟨0, rfl, ⟨by omega⟩, HD, ⟨Chg.refl _ _⟩⟩
  case round =>
    obtain ⟨i, rfl, HI, HDi, HCi⟩ := hrel
    by_cases hi : i < D.cache.length
    · obtain ⟨x, hx⟩ : ∃ x, D.cache[i]? = some x := ⟨_, List.getElem?_eq_getElem hi⟩
      have HX := Aside0.mk hx
      clear hx
      have hcw := (Kd.R_reads' HDi.out.cache).2.2
      rw [sel_cache] at hcw
      obtain ⟨ad, e, hx2, hcell⟩ := cache_at hcw i hi x HX.out
      subst e
      have HX2 := Aside0.mk hx2
      have HCELL := Aside0.mk hcell
      have HNEW := Aside0.mk (new_wr_cells wr x)
      have hk2 := HL.out
      have hgs : (D.cache.getD i (0, [])) = x := by simp [List.getD, HX.out]
      have HGS := Aside0.mk hgs
      clear hcw hx2 hcell hgs
      by_cases hik : i < ks.length
      · obtain ⟨b, hb⟩ : ∃ b, ks.getD i false = b := ⟨_, rfl⟩
        have HB := Aside0.mk hb
        have hcb := Kd.at_bool (HK.out (wr.alloc (.cells (wrC x) 124)) (HCi.out.alloc _)) (i : Int) (by omega) (by omega)
        rw [show rdOf false ks (i : Int) = b by rw [← HB.out]; simp [rdOf]] at hcb
        obtain ⟨ak, e, hcb⟩ := hcb
        subst e
        rw [Int.toNat_natCast] at hcb
        clear hb
        cases b with
        | true =>
          go_wp2_with (first
            | ((with_reducible refine gate_ (.load 124 (.tmp 17)) rfl ?_); refine Kd.event_run rfl (ex_load_wr wr rfl rfl HX2.out HCELL.out) ?_; simp only [Act.put, List.setIfInBounds_toArray, List.set_cons_succ, List.set_cons_zero])
            | ((with_reducible refine gate_ (.alloc 124) rfl ?_); refine Kd.event_run rfl (ex_alloc_wr wr rfl) ?_; simp only [Act.put, List.setIfInBounds_toArray, List.set_cons_succ, List.set_cons_zero])
            | ((with_reducible refine gate_ (.store 124 (.tmp 5) (.tmp 18)) rfl ?_); refine Arr.skip_run rfl (ex_store_wr wr (0, zsec) x (by decide) HX2.out rfl rfl rfl) ?_; simp only [Act.put, List.setIfInBounds_toArray, List.set_cons_succ, List.set_cons_zero])
            | ((with_reducible refine gate_ (.load 124 (.tmp 5)) rfl ?_); refine Kd.event_run rfl (ex_load_wr (wr.alloc (.cells (wrC x) 124)) rfl rfl HX2.out HNEW.out) ?_; simp only [Act.put, List.setIfInBounds_toArray, List.set_cons_succ, List.set_cons_zero])
            | (go_at_call 63; refine (keep_calls _ base B M Bd _ (sel D D.cache ks i) x HX2.out (HDi.out.grow (.cells (wrC x) 124))).mono ?_; rintro e w2 ⟨rfl, hd, hc⟩; have HD2 := Aside0.mk hd; have HC2 := Aside0.mk hc; clear hd hc))
          have hk1 := HI.out
          obtain ⟨gq, rfl⟩ : ∃ gq, gk = gq + 1 := ⟨gk - 1, by omega⟩
          go_roundg gq
          case rel => exact ⟨i + 1, by go_num, ⟨by omega⟩, ⟨by unfold sel; rw [HB.out, HGS.out, if_pos rfl]; exact HD2.out⟩, ⟨HCi.out.trans (((Chg.refl wr _).alloc _).trans (HC2.out.mono fun _ h => .inr h))⟩⟩
          case measure => omega
        | false =>
          go_wp2_with (first
            | ((with_reducible refine gate_ (.load 124 (.tmp 17)) rfl ?_); refine Kd.event_run rfl (ex_load_wr wr rfl rfl HX2.out HCELL.out) ?_; simp only [Act.put, List.setIfInBounds_toArray, List.set_cons_succ, List.set_cons_zero])
            | ((with_reducible refine gate_ (.alloc 124) rfl ?_); refine Kd.event_run rfl (ex_alloc_wr wr rfl) ?_; simp only [Act.put, List.setIfInBounds_toArray, List.set_cons_succ, List.set_cons_zero])
            | ((with_reducible refine gate_ (.store 124 (.tmp 5) (.tmp 18)) rfl ?_); refine Arr.skip_run rfl (ex_store_wr wr (0, zsec) x (by decide) HX2.out rfl rfl rfl) ?_; simp only [Act.put, List.setIfInBounds_toArray, List.set_cons_succ, List.set_cons_zero])
            | ((with_reducible refine gate_ (.load 124 (.tmp 5)) rfl ?_); refine Kd.event_run rfl (ex_load_wr (wr.alloc (.cells (wrC x) 124)) rfl rfl HX2.out HNEW.out) ?_; simp only [Act.put, List.setIfInBounds_toArray, List.set_cons_succ, List.set_cons_zero]))
          have hk1 := HI.out
          obtain ⟨gq, rfl⟩ : ∃ gq, gk = gq + 1 := ⟨gk - 1, by omega⟩
          go_roundg gq
          case rel => exact ⟨i + 1, by go_num, ⟨by omega⟩, ⟨by unfold sel; rw [HB.out]; exact HDi.out.grow _⟩, ⟨HCi.out.alloc _⟩⟩
          case measure => omega
      · have hg : ks.getD i false = false := by simp [List.getD, List.getElem?_eq_none (Nat.le_of_not_lt hik)]
        have HB := Aside0.mk hg
        clear hg
        go_wp2_with (first
          | ((with_reducible refine gate_ (.load 124 (.tmp 17)) rfl ?_); refine Kd.event_run rfl (ex_load_wr wr rfl rfl HX2.out HCELL.out) ?_; simp only [Act.put, List.setIfInBounds_toArray, List.set_cons_succ, List.set_cons_zero])
          | ((with_reducible refine gate_ (.alloc 124) rfl ?_); refine Kd.event_run rfl (ex_alloc_wr wr rfl) ?_; simp only [Act.put, List.setIfInBounds_toArray, List.set_cons_succ, List.set_cons_zero])
          | ((with_reducible refine gate_ (.store 124 (.tmp 5) (.tmp 18)) rfl ?_); refine Arr.skip_run rfl (ex_store_wr wr (0, zsec) x (by decide) HX2.out rfl rfl rfl) ?_; simp only [Act.put, List.setIfInBounds_toArray, List.set_cons_succ, List.set_cons_zero])
          | ((with_reducible refine gate_ (.load 124 (.tmp 5)) rfl ?_); refine Kd.event_run rfl (ex_load_wr (wr.alloc (.cells (wrC x) 124)) rfl rfl HX2.out HNEW.out) ?_; simp only [Act.put, List.setIfInBounds_toArray, List.set_cons_succ, List.set_cons_zero]))
        have hk1 := HI.out
        obtain ⟨gq, rfl⟩ : ∃ gq, gk = gq + 1 := ⟨gk - 1, by omega⟩
        go_roundg gq
        case rel => exact ⟨i + 1, by go_num, ⟨by omega⟩, ⟨by unfold sel; rw [HB.out]; exact HDi.out.grow _⟩, ⟨HCi.out.alloc _⟩⟩
        case measure => omega
    · have hi0 := HI.out
      obtain rfl : gk = 0 := by omega
      obtain rfl : i = D.cache.length := by omega
      clear hi0
      have hm : ¬ ((D.cache.length : Int) < (D.cache.length : Int)) := by omega
      go_wp2_with (go_at_call 64; refine (rest_calls _ base B M Bd _ _ HDi.out).mono ?_; rintro e w2 ⟨rfl, hd, hc⟩; have HD2 := Aside0.mk hd; have HC2 := Aside0.mk hc; clear hd hc)
      go_end0
      exact ⟨rfl, HD2.out, HCi.out.trans (HC2.out.chg fun _ h => .inl h)⟩
end Go.Proofs.YtlepcmljmibdnaaGreat
namespace Go.Proofs.YtlepcmljmibdnaaGreat
open Go.RowKit Go.Proofs.YtlepcmljmibdnaaGreatW.PrintWords Go.Proofs.YtlepcmljmibdnaaGreatW.PrintLast Go.Proofs.YtlepcmljmibdnaaGreatW.PrintMore
attribute [local go_sem] run_makeMap max2_int min2_int max_two min_two
set_option linter.unusedVariables false
set_option linter.unusedSimpArgs false

/-- the blocks of a disk -/
def FP (B M Bd : Nat) (vc : Value) (k : Nat) : Prop := k = B ∨ k = M ∨ k = Bd ∨ some k = vc.ownBlock
theorem DK.fp {w : World} {base B M Bd : Nat} {vc : Value} {D : PD} (h : DK w base B M Bd vc D) (k : Nat) (hk : FP B M Bd vc k) : base ≤ k ∧ k < w.heap.size := by
  rcases hk with rfl | rfl | rfl | hk
  · exact ⟨h.hB, (Array.getElem?_eq_some_iff.1 h.blk).1⟩
  · exact ⟨h.hM, h.kept.lt⟩
  · exact ⟨h.hBd, h.bad.lt⟩
  · have h1 := (Kd.R_base h.cache) k hk.symm
    have h2 := (Kd.R_lt h.cache) k hk.symm
    exact ⟨h1, h2⟩
def pad (b : List Int) : List Int := b ++ List.replicate (64 - b.length) 0
def writeP (D : PD) (at_ : Int) (b : List Int) : PD × Int :=
  if D.dead then (D, 50) else if inB at_ D.n = false then (D, 1) else if 64 < b.length then (D, 2) else if (actP D).2 ≠ 0 then actP D else ({ (actP D).1 with cache := (actP D).1.cache ++ [(at_, pad b)] }, 0)
theorem run_copy_into (W : World) (at_ : Int) (b : List Int) (hb : b.length ≤ 64) (A : Option Addr) (c : Nat) (ty : TypeId) (hC : (Kd.int .u8).C (W.alloc (.cells (wrC (at_, zsec)) 124)) A b.length b) :
    (Builtin.copy_ #[58, 58] ty #[.slice (some ⟨W.heap.size, 1, none⟩) 64 64, .slice A b.length c]).run Tryz.prog (W.alloc (.cells (wrC (at_, zsec)) 124)) = .ok (goInt b.length) (W.alloc (.cells (wrC (at_, pad b)) 124)) := by
  have hR := Kd.reads_of_C (enc := Value.int .u8) (d := (0 : Int)) (h1 := fun _ => rfl) hC
  by_cases h0 : b.length = 0
  · obtain rfl : b = [] := List.eq_nil_of_length_eq_zero h0
    exact run_copy_none (P := Tryz.prog) _ 58 58 ty 5 _ A 64 64 0 c Tryz.underlying58 (by kernel_rfl) rfl
  · obtain ⟨ad, rfl, hc⟩ := hR.2.2 (by omega)
    have hl : (encs (Value.int .u8) b).length = b.length := encs_length _
    have h := run_copy_row (P := Tryz.prog) (W.alloc (.cells (wrC (at_, zsec)) 124)) 58 58 ty 5 W.heap.size 1 64 64 ad b.length c (wrC (at_, zsec)) 124 (encs (Value.int .u8) b) Tryz.underlying58 (by kernel_rfl) (heap_alloc_new W _)
      (by rw [hl]; exact (Nat.min_eq_left hb).symm) (by
        intro j v hj
        have hj' : j < b.length := by have := (List.getElem?_eq_some_iff.1 hj).1; omega
        rw [encs_get (d := 0) b j hj'] at hj
        obtain rfl := Option.some.inj hj
        exact hc j hj') (by rw [hl, wr_size _ (by rfl)]; omega) (by intro v hv; simp only [encs, List.mem_map] at hv; obtain ⟨a, _, rfl⟩ := hv; rfl)
    rw [h, Arr.setRow_alloc, hl]
    have e : ((wrC (at_, zsec)).toList.take 1 ++ encs (Value.int .u8) b ++ (wrC (at_, zsec)).toList.drop (1 + b.length)).toArray = wrC (at_, pad b) := by
      unfold wrC pad
      rw [Nat.add_comm 1 b.length]
      simp only [List.take_succ_cons, List.take_zero, List.drop_succ_cons, encs_append, List.singleton_append, List.cons_append, List.nil_append]
      rw [show (encs (Value.int .u8) zsec).drop b.length = encs (Value.int .u8) (List.replicate (64 - b.length) 0) by unfold encs zsec; rw [List.map_replicate, List.drop_replicate, List.map_replicate]]
    rw [e]
theorem wr_M {w : World} {base : Nat} {ok : Nat → Prop} (q : Int × List Int) (hq : q.2.length = 64) : wrK.M w base ok q (wrC q).toList :=
  ⟨[.int .i64 q.1], encs (Value.int .u8) q.2, rfl, rfl, Kd.arr_of_cells hq⟩
theorem pad_length (b : List Int) (hb : b.length ≤ 64) : (pad b).length = 64 := by simp [pad]; omega
theorem info101 : (Tryz.prog.info? 124).map (fun i => (i.zero, i.size, i.bytes)) = some (some (.agg (wrC (0, zsec))), wrK.sz, 72) := by kernel_rfl
theorem ex_row1_wr (W : World) {o : Oper} {ρ : Operand → Value} {x : Operand} (ho : o.op = .buildSlice 88 1 #[(0, x)]) {q : Int × List Int} (hq : q.2.length = 64) (hx : ρ x = .agg (wrC q)) :
    (execOp ρ o).run Tryz.prog W = .ok (.value (.slice (some ⟨W.heap.size, 0, none⟩) 1 1)) (W.alloc (.cells (wrC q) 124)) := by
  obtain ⟨i, h1, h2⟩ := Option.map_eq_some_iff.1 info101
  simp only [Prod.mk.injEq] at h2
  obtain ⟨hz, hs, _⟩ := h2
  have hs' : i.size = 65 := hs
  have h := Arr.ex_row1 (P := Tryz.prog) (W := W) (ρ := ρ) ho Tryz.underlying88 h1 hz (by omega) (by omega) (by rw [hx, hs']; exact wr_size q hq)
  rw [hx] at h
  exact h
theorem chg_grown {w w' : World} {r : Option Nat} {S : Nat → Prop} (h : w.grownBy w' r) (hs : ∀ k, some k = r → S k) : Chg w w' S :=
  ⟨h.os, h.tape, h.output, h.size, fun k hk hn => h.block k hk (fun e => hn (hs k e))⟩
/-- A disk whose cache's row was changed. -/
theorem DK.recache {w w' : World} {base B M Bd : Nat} {vc v1 : Value} {D : PD} {l : List (Int × List Int)} (h : DK w base B M Bd vc D) (hc : Chg w w' (fun k => some k = vc.ownBlock))
    (ho : Kd.R wrK 124 w' base (fun k => k ≠ B ∧ k ≠ M ∧ k ≠ Bd) v1 l) : DK (w'.setCell ⟨B, 2, none⟩ v1) base B M Bd v1 { D with cache := l } := by
  have hok := h.cache.1
  have hB := hc.block B (Array.getElem?_eq_some_iff.1 h.blk).1 (fun e => (hok B e.symm).1 rfl)
  have hM := hc.block M h.kept.lt (fun e => (hok M e.symm).2.1 rfl)
  have hBd := hc.block Bd h.bad.lt (fun e => (hok Bd e.symm).2.2 rfl)
  have hb : w'.heap[B]? = _ := hB.trans h.blk
  refine ⟨set7 hb 2 v1, (h.kept.same hM).same (Below.heap_setCell w' ⟨B, 2, none⟩ v1 M h.hne.2.1), (h.bad.same hBd).same (Below.heap_setCell w' ⟨B, 2, none⟩ v1 Bd h.hne.2.2), Kd.R_step ho (fun k hk _ => Below.heap_setCell w' ⟨B, 2, none⟩ v1 k hk.1), h.hB, h.hM, h.hBd, h.hne, h.sec, h.hn, h.hl⟩
theorem write_calls (w : World) (base B M Bd : Nat) (vc : Value) (D : PD) (at_ : Int) (A : Option Addr) (c : Nat) (b : List Int) (hl : D.cache.length ≤ 40000) (hbw : base ≤ w.heap.size) (h : DK w base B M Bd vc D)
    (hb : ∀ w', Chg w w' (FP B M Bd vc) → (Kd.int .u8).C w' A b.length b) :
    Calls Tryz.prog 93 #[.pointer (some ⟨B, 0, none⟩), .int .i64 at_, .slice A b.length c] w fun e w' => e = .returned (.int .i64 (writeP D at_ b).2) ∧
      ∃ vc', DK w' base B M Bd vc' (writeP D at_ b).1 ∧ (vc'.ownBlock = vc.ownBlock ∨ ∃ k, vc'.ownBlock = some k ∧ w.heap.size ≤ k) ∧ Chg w w' (FP B M Bd vc) := by
  have HL := Aside0.mk hl
  have HD := Aside0.mk h
  have HB := Aside0.mk hb
  obtain ⟨⟨g0, g1, g2, g3, g4, g5, g6⟩, k2, k4, k5, k6⟩ := cells7 h.blk
  clear hl h hb k2 k4 k5 k6 g2 g3 g4 g5
  by_cases hd : D.dead = true
  · rw [hd] at g6
    have hf : writeP D at_ b = (D, 50) := by unfold writeP; rw [if_pos hd]
    rw [hf]
    clear hf hd
    go_enter Tryz.func93, Tryz.ntmps93
    go_wp2_with (first | (go_at_call 125; refine (dead_calls _ B M _ g1 g6).mono ?_; rintro e w' ⟨rfl, rfl⟩))
    go_ret
    exact ⟨rfl, vc, HD.out, .inl rfl, Chg.refl _ _⟩
  have hd0 : D.dead = false := by simpa using hd
  rw [hd0] at g6
  have HD0 := Aside0.mk hd0
  clear hd hd0
  by_cases hi : inB at_ D.n = false
  · have HI := Aside0.mk hi
    clear hi
    have hf : writeP D at_ b = (D, 1) := by unfold writeP; rw [HD0.out, if_neg (by simp), if_pos HI.out]
    rw [hf]
    clear hf
    go_enter Tryz.func93, Tryz.ntmps93
    go_wp2_with (first | (go_at_call 125; refine (dead_calls _ B M _ g1 g6).mono ?_; rintro e w' ⟨rfl, rfl⟩) | (go_at_call 126; refine (has_calls _ B M _ at_ g0 g1).mono ?_; rw [HI.out]; rintro e w' ⟨rfl, rfl⟩))
    go_ret
    exact ⟨rfl, vc, HD.out, .inl rfl, Chg.refl _ _⟩
  have hi0 : inB at_ D.n = true := by simpa using hi
  have HI := Aside0.mk hi0
  clear hi hi0
  by_cases h64 : 64 < b.length
  · have hf : writeP D at_ b = (D, 2) := by unfold writeP; rw [HD0.out, if_neg (by simp), HI.out, if_neg (by simp), if_pos h64]
    rw [hf]
    clear hf
    have h64' : (64 : Int) < (b.length : Int) := by omega
    go_enter Tryz.func93, Tryz.ntmps93
    go_wp2_with (first | (go_at_call 125; refine (dead_calls _ B M _ g1 g6).mono ?_; rintro e w' ⟨rfl, rfl⟩) | (go_at_call 126; refine (has_calls _ B M _ at_ g0 g1).mono ?_; rw [HI.out]; rintro e w' ⟨rfl, rfl⟩))
    go_ret
    exact ⟨rfl, vc, HD.out, .inl rfl, Chg.refl _ _⟩
  have h64' : ¬ (64 : Int) < (b.length : Int) := by omega
  obtain ⟨e, he⟩ : ∃ e, (actP D).2 = e := ⟨_, rfl⟩
  obtain ⟨D1, hD1⟩ : ∃ D1, (actP D).1 = D1 := ⟨_, rfl⟩
  have hf : writeP D at_ b = if e ≠ 0 then (D1, e) else ({ D1 with cache := D1.cache ++ [(at_, pad b)] }, 0) := by
    unfold writeP; rw [HD0.out, if_neg (by simp), HI.out, if_neg (by simp), if_neg h64, he, hD1, ← he, ← hD1]
  have HF := Aside0.mk hf
  have HE := Aside0.mk he
  have HD1 := Aside0.mk hD1
  clear he hD1 hf
  by_cases hz : e = 0
  · subst hz
    have hf : writeP D at_ b = ({ D1 with cache := D1.cache ++ [(at_, pad b)] }, 0) := by rw [HF.out]; simp
    rw [hf]
    clear hf
    have hc1 : D1.cache = D.cache := by rw [← HD1.out]; exact actP_cache D
    have HC1 := Aside0.mk hc1
    obtain ⟨An, cn, hvc⟩ := Kd.R_slice HD.out.cache
    have HVC := Aside0.mk hvc
    clear hvc hc1
    have hb64 : b.length ≤ 64 := by omega
    go_enter Tryz.func93, Tryz.ntmps93
    go_wp2_with (first | (go_at_call 125; refine (dead_calls _ B M _ g1 g6).mono ?_; rintro e w' ⟨rfl, rfl⟩) | (go_at_call 126; refine (has_calls _ B M _ at_ g0 g1).mono ?_; rw [HI.out]; rintro e w' ⟨rfl, rfl⟩) | (go_at_call 127; refine (act_calls _ base B M Bd vc D HD.out).mono ?_; rw [HE.out, HD1.out]; rintro e w1 ⟨rfl, hd, ho⟩; obtain ⟨⟨q0, q1, q2, q3, q4, q5, q6⟩, j2, j4, j5, j6⟩ := cells7 hd.blk; clear q0 q1 q3 q4 q5 q6 j2 j4 j5 j6 g0 g1 g6; have HDK1 := Aside0.mk hd; have HO := Aside0.mk ho; have HBC := Aside0.mk (HB.out (w1.alloc (.cells (wrC (at_, zsec)) 124)) ((ho.chg (fun _ h => .inl h)).alloc _)); clear hd ho) | ((with_reducible refine gate_ (.build 124 #[(0, .tmp 26)]) rfl ?_); refine Kd.event_run rfl (Arr.ex_build rfl (cells := wrC (at_, zsec)) (by kernel_rfl)) ?_; simp only [Act.put, List.setIfInBounds_toArray, List.set_cons_succ, List.set_cons_zero]) | ((with_reducible refine gate_ (.alloc 124) rfl ?_); refine Kd.event_run rfl (ex_alloc_wr w1 rfl) ?_; simp only [Act.put, List.setIfInBounds_toArray, List.set_cons_succ, List.set_cons_zero]) | ((with_reducible refine gate_ (.store 124 (.tmp 8) (.tmp 27)) rfl ?_); refine Arr.skip_run rfl (ex_store_wr w1 (0, zsec) (at_, zsec) (by decide) (show zsec.length = 64 by decide) rfl rfl rfl) ?_; simp only [Act.put, List.setIfInBounds_toArray, List.set_cons_succ, List.set_cons_zero]) | ((with_reducible refine gate_builtin (b := .copy) (xs := #[.tmp 29, .tmp 30]) rfl ?_); refine Kd.event_run rfl (Arr.ex_copy rfl (run_copy_into w1 at_ b hb64 A c _ HBC.out)) ?_; simp only [Act.put, List.setIfInBounds_toArray, List.set_cons_succ, List.set_cons_zero]))
    have HP := Aside0.mk (pad_length b hb64)
    have HNEW := Aside0.mk (new_wr_cells w1 (at_, pad b))
    have q2' := alloc_cell q2 (.cells (wrC (at_, pad b)) 124)
    have hB1 : B < w1.heap.size := (Array.getElem?_eq_some_iff.1 HDK1.out.blk).1
    have h4 : (w1.alloc (Obj.cells (wrC (at_, pad b)) 124)).drew.heap.size = w1.heap.size + 1 := alloc_size w1 _
    have HB1 := Aside0.mk hB1
    have HBL := Aside0.mk (show B < (w1.alloc (Obj.cells (wrC (at_, pad b)) 124)).drew.heap.size by omega)
    have HBN := Aside0.mk (show some B ≠ vc.ownBlock from fun e => (HDK1.out.cache.1 B e.symm).1 rfl)
    have HBS := Aside0.mk (show base ≤ (w1.alloc (Obj.cells (wrC (at_, pad b)) 124)).drew.heap.size by have := HDK1.out.hB; omega)
    have HFR : Aside0 (∀ k, (w1.alloc (Obj.cells (wrC (at_, pad b)) 124)).drew.heap.size ≤ k → k ≠ B ∧ k ≠ M ∧ k ≠ Bd) := Aside0.mk fun k hk => by
      have h5 := HDK1.out.kept.lt
      have h6 := HDK1.out.bad.lt
      omega
    have HLN := Aside0.mk (show (D1.cache.length + 1) * 72 ≤ 140737488355328 by rw [HC1.out]; have := HL.out; omega)
    clear hB1 h4
    refine Calm.wp_calm [7, 10] [(0, 0), (1, 0), (2, 0), (3, 0), (4, 1), (5, 1), (6, 2), (7, 2), (8, 0), (9, 0), (10, 2)] (by kernel_rfl) (by kernel_rfl) ?_
    generalize hops : List.toArray (_ : List Oper) = ops
    have ho0 := (congrArg (fun z : Array Oper => z[0]?) hops).symm
    have ho1 := (congrArg (fun z : Array Oper => z[1]?) hops).symm
    have ho2 := (congrArg (fun z : Array Oper => z[2]?) hops).symm
    have ho3 := (congrArg (fun z : Array Oper => z[3]?) hops).symm
    have ho4 := (congrArg (fun z : Array Oper => z[4]?) hops).symm
    have ho5 := (congrArg (fun z : Array Oper => z[5]?) hops).symm
    have ho6 := (congrArg (fun z : Array Oper => z[6]?) hops).symm
    have ho7 := (congrArg (fun z : Array Oper => z[7]?) hops).symm
    have ho8 := (congrArg (fun z : Array Oper => z[8]?) hops).symm
    have ho9 := (congrArg (fun z : Array Oper => z[9]?) hops).symm
    have ho10 := (congrArg (fun z : Array Oper => z[10]?) hops).symm
    simp only [List.getElem?_toArray, List.getElem?_cons_zero, List.getElem?_cons_succ] at ho0 ho1 ho2 ho3 ho4 ho5 ho6 ho7 ho8 ho9 ho10
    clear hops
    refine Calm.plain ho0 _ rfl (fun W => by go_simp; exact rfl) ?_
    simp only [Act.put, List.setIfInBounds_toArray, List.set_cons_succ, List.set_cons_zero]
    refine Calm.plain ho1 _ rfl (fun W => by go_simp; exact rfl) ?_
    simp only [Act.put, List.setIfInBounds_toArray, List.set_cons_succ, List.set_cons_zero]
    refine Calm.plain ho2 _ rfl (fun W => by go_simp; exact rfl) ?_
    simp only [Act.put, List.setIfInBounds_toArray, List.set_cons_succ, List.set_cons_zero]
    refine Calm.plain ho3 _ rfl (fun W => by go_simp; exact rfl) ?_
    simp only [Act.put, List.setIfInBounds_toArray, List.set_cons_succ, List.set_cons_zero]
    refine Calm.reads ho4 _ rfl (fun W hW => by have q := bel_cell hW q2'; go_simp; exact rfl) ?_
    simp only [Act.put, List.setIfInBounds_toArray, List.set_cons_succ, List.set_cons_zero]
    refine Calm.reads ho5 (.agg (wrC (at_, pad b))) rfl (fun W hW => ex_load_wr W rfl rfl HP.out (fun j u hu => bel_cell hW (HNEW.out j u hu))) ?_
    simp only [Act.put, List.setIfInBounds_toArray, List.set_cons_succ, List.set_cons_zero]
    refine Calm.acts ho6 rfl (fun K hK => ?_)
    unfold Oper.wp
    rw [ex_row1_wr (w1.alloc (Obj.cells (wrC (at_, pad b)) 124)).drew rfl HP.out rfl]
    refine hK _ _ (fun _ => Below.alloc (Below.refl _ _) (Nat.le_refl _) _) ?_
    clear hK K
    simp only [Act.put, List.setIfInBounds_toArray, List.set_cons_succ, List.set_cons_zero]
    refine Calm.step ho7 (fun K hK => ?_)
    refine Kd.R_append_step wrK (W := (w1.alloc (Obj.cells (wrC (at_, pad b)) 124)).drew) (w0 := (w1.alloc (Obj.cells (wrC (at_, pad b)) 124)).drew) base rfl (.tmp 36) (.tmp 38) 88 124 (.agg (wrC (0, zsec))) 72 rfl Tryz.underlying88 info101 rfl (by decide) (by decide) vc D1.cache (at_, pad b) (wrC (at_, pad b)).toList (fun k => k ≠ B ∧ k ≠ M ∧ k ≠ Bd) (fun _ => False) rfl rfl (wr_M _ HP.out) (fun _ h => h.elim) HFR.out (HDK1.out.grow _).drew.cache (Below.refl _ _) HBS.out HLN.out ?_
    intro v1 w4 ho hb4 hg hat
    refine hK _ _ (fun h => absurd h (by simp)) ?_
    clear hK K
    have hblk4 : w4.heap[B]? = w1.heap[B]? := (hg.block B HBL.out HBN.out).trans (heap_alloc_old w1 _ HB1.out)
    obtain ⟨⟨r0, r1, r2, r3, r4, r5, r6⟩, j2, j4, j5, j6⟩ := cells7 (hblk4.trans HDK1.out.blk)
    clear r0 r1 r3 r4 r5 r6 j4 j5 j6
    obtain ⟨A1, c1, hv1⟩ := Kd.R_slice ho
    generalize (D1.cache ++ [(at_, pad b)]).length = n1 at hv1
    subst hv1
    have HR := Aside0.mk ho
    have HG := Aside0.mk hg
    have HAT := Aside0.mk hat
    clear ho hb4 hg hat hblk4
    simp only [Act.put, List.setIfInBounds_toArray, List.set_cons_succ, List.set_cons_zero]
    refine Calm.plain ho8 _ rfl (fun W => by go_simp; exact rfl) ?_
    simp only [Act.put, List.setIfInBounds_toArray, List.set_cons_succ, List.set_cons_zero]
    refine Calm.plain ho9 _ rfl (fun W => by go_simp; exact rfl) ?_
    simp only [Act.put, List.setIfInBounds_toArray, List.set_cons_succ, List.set_cons_zero]
    refine Calm.step ho10 (fun K hK => ?_)
    go_simp
    refine hK _ _ (fun h => absurd h (by simp)) ?_
    clear hK K
    refine Calm.done ?_
    go_wp2
    go_ret
    have hcg : Chg w1 w4 (fun k => some k = vc.ownBlock) := (((Chg.refl w1 _).alloc _).drew).trans (chg_grown HG.out (fun _ h => h))
    have hce := HC1.out
    have hd4 := HDK1.out.recache hcg HR.out
    refine ⟨rfl, _, hd4, ?_, ?_⟩
    · rcases HAT.out with h | ⟨k, h1, h2⟩
      · exact .inl h
      · refine .inr ⟨k, h1, ?_⟩
        have h3 : w.heap.size ≤ w1.heap.size := HO.out.2.2.2.1
        have h4 : (w1.alloc (Obj.cells (wrC (at_, pad b)) 124)).drew.heap.size = w1.heap.size + 1 := alloc_size w1 _
        omega
    · refine (HO.out.chg (fun _ h => .inl h)).trans ((hcg.mono fun k h => .inr (.inr (.inr h))).trans ((Only.refl w4 B).set (i := 2) _ |>.chg fun _ h => .inl h))
  · have hz' : (e == 0) = false := by simpa using hz
    have hf : writeP D at_ b = (D1, e) := by rw [HF.out, if_pos hz]
    rw [hf]
    clear hz hf
    go_enter Tryz.func93, Tryz.ntmps93
    go_wp2_with (first | (go_at_call 125; refine (dead_calls _ B M _ g1 g6).mono ?_; rintro e w' ⟨rfl, rfl⟩) | (go_at_call 126; refine (has_calls _ B M _ at_ g0 g1).mono ?_; rw [HI.out]; rintro e w' ⟨rfl, rfl⟩) | (go_at_call 127; refine (act_calls _ base B M Bd vc D HD.out).mono ?_; rw [HE.out, HD1.out]; rintro e w1 ⟨rfl, hd, ho⟩; have HDK1 := Aside0.mk hd; have HO := Aside0.mk ho; clear hd ho))
    go_ret
    exact ⟨rfl, vc, HDK1.out, .inl rfl, HO.out.chg (fun _ h => .inl h)⟩
end Go.Proofs.YtlepcmljmibdnaaGreat
namespace Go.Proofs.YtlepcmljmibdnaaGreat
open Go.RowKit Go.Proofs.YtlepcmljmibdnaaGreatW.PrintWords Go.Proofs.YtlepcmljmibdnaaGreatW.PrintLast Go.Proofs.YtlepcmljmibdnaaGreatW.PrintMore
set_option linter.unusedVariables false
set_option linter.unusedSimpArgs false
theorem infoU8 : (Tryz.prog.info? 5).map (fun i => (i.zero, i.size, i.bytes)) = some (some (.int .u8 0), 1, 1) := by kernel_rfl
theorem run_eql_slice_nil29 (w : World) (a : Option Addr) (l c : Nat) : (binOp .eql 58 (.slice a l c) (.slice none 0 0)).run Tryz.prog w = .ok (.bool a.isNone) w := by
  exact Lib.run_eql_slice_nil (P := Tryz.prog) w 58 5 a l c 0 0 Tryz.underlying58
theorem clone_calls (w : World) (ad : Addr) (c : Nat) (b : List Int) (hl : b.length ≤ 1000000) (hC : (Kd.int .u8).C w (some ad) b.length b) :
    Calls Tryz.prog 86 #[.slice (some ad) b.length c] w fun e w' => ∃ v, e = .returned v ∧ Kd.R (Kd.int .u8) 5 w' w.heap.size (fun _ => True) v b ∧ Below w.heap.size w w' := by
  have hq := run_eql_slice_nil29 w (some ad) b.length c
  simp only [Option.isNone_some] at hq
  have HC := Aside0.mk hC
  have HL := Aside0.mk hl
  clear hC hl
  go_enter Tryz.func86, Tryz.ntmps86
  go_wp2_with (first | ((with_reducible refine gate_dst (N := 5) rfl ?_); refine Kd.R_lit (Kd.int .u8) _ 5 ?hg (N := 5) ?hd (xs := ([] : List Int)) (inner := []) (ok := fun _ => True) (okp := fun _ => True) ?hr ?hp (fun _ hk => hk) trivial (Below.refl _ _) (Nat.le_refl _) (by simp) ?_; (case hd => rfl); (case hg => rfl); (case hr => first | (go_simp; done) | (go_simp; rfl)); (case hp => exact (Reps.none _ _)); intro v10 w10 ho11 hb hg_ hnew_; clear hg_ hnew_; have HO := Aside0.mk ho11; have HB := Aside0.mk hb; clear ho11 hb) | ((with_reducible refine gate_builtin (b := .append) (xs := #[.tmp 5, .tmp 6]) rfl ?_); at_builtin; go_loud (refine Kd.R_append_rows (Kd.int .u8) (w0 := w) w.heap.size rfl (.tmp 5) (.tmp 6) 58 5 (.int .u8 0) 1 rfl Tryz.underlying58 infoU8 rfl (by decide) (by omega) v10 [] b (some ad) b.length c (fun _ => True) (fun _ => False) rfl rfl HO.out (Kd.C_below HC.out HB.out) (fun _ _ h => h) (fun _ h => h.elim) (fun _ _ => trivial) HB.out HB.out.size (by have := HL.out; simp; omega) ?_; intro v1 w1 ho hb hg hat; have HO1 := Aside0.mk ho; have HB1 := Aside0.mk hb; clear ho hb hg hat)))
  go_ret
  exact ⟨v1, rfl, HO1.out, HB1.out⟩
end Go.Proofs.YtlepcmljmibdnaaGreat
namespace Go.Proofs.YtlepcmljmibdnaaGreat
open Go.RowKit Go.Proofs.YtlepcmljmibdnaaGreatW.PrintWords Go.Proofs.YtlepcmljmibdnaaGreatW.PrintLast Go.Proofs.YtlepcmljmibdnaaGreatW.PrintMore
attribute [local go_sem] run_makeMap max2_int min2_int max_two min_two
set_option linter.unusedVariables false
set_option linter.unusedSimpArgs false

def secC (s : List Int) : Array Value := (encs (Value.int .u8) s).toArray
theorem sec_size (s : List Int) (h : s.length = 64) : (secC s).size = 64 := by simp [secC, encs_length, h]
section
variable {w : World} {o : Oper} {ρ : Operand → Value}
theorem ex_alloc_sec (W : World) (ho : o.op = .alloc 122) : (execOp ρ o).run Tryz.prog W = .ok (.value (.pointer (some ⟨W.heap.size, 0, none⟩))) (W.alloc (.cells (secC zsec) 122)) := by
  have hi : ∃ i, Tryz.prog.info? 122 = some i ∧ i.zero = some (.agg (secC zsec)) := by
    have : (Tryz.prog.info? 122).bind (·.zero) = some (.agg (secC zsec)) := by kernel_rfl
    exact Option.bind_eq_some_iff.1 this
  obtain ⟨i, h1, h2⟩ := hi
  exact Arr.ex_alloc ho h1 h2
theorem ex_store_sec (W : World) {x y : Operand} {g : Nat} (p q : List Int) (hp : p.length = 64) (hq : q.length = 64) (ho : o.op = .store 122 x y) (hx : ρ x = .pointer (some ⟨g, 0, none⟩)) (hy : ρ y = .agg (secC q))
    (hg : W.heap[g]? = some (.cells (secC p) 122 (0, 0))) : (execOp ρ o).run Tryz.prog W = .ok .skip (W.setRow g (secC q)) := by
  have hl : (secC q).toList.length = 64 := by rw [Array.length_toList]; exact sec_size q hq
  have h := Arr.ex_store (P := Tryz.prog) (W := W) ho hx hy (seg := (secC q).toList) rfl (by rw [hl]; kernel_rfl) hg (by rw [hl, sec_size p hp]; omega) (by
    intro u hu
    simp only [secC, encs, List.mem_map] at hu
    obtain ⟨a, _, rfl⟩ := hu
    rfl)
  rw [h]
  have e : (secC p).toList.drop (0 + (secC q).toList.length) = [] := by rw [hl]; exact List.drop_eq_nil_of_le (by rw [Array.length_toList, sec_size p hp]; omega)
  rw [e]
  simp
theorem ex_store_sec0 (W : World) {x y : Operand} (q : List Int) (hq : q.length = 64) (ho : o.op = .store 122 x y) (hx : ρ x = .pointer (some ⟨W.heap.size, 0, none⟩)) (hy : ρ y = .agg (secC q)) :
    (execOp ρ o).run Tryz.prog (W.alloc (.cells (secC zsec) 122)) = .ok .skip (W.alloc (.cells (secC q) 122)) := by
  rw [← Arr.setRow_alloc W (secC zsec) (secC q) 122]
  exact ex_store_sec (W.alloc (.cells (secC zsec) 122)) zsec q rfl hq ho hx hy (heap_alloc_new W _)
theorem ex_lookup_kept (W : World) {x y : Operand} {M : Nat} {K : Int → Option (List Int)} (h : Mp.Is (.int .i64) W M (keptF K)) (a : Int) {s : List Int} (hs : (K a).getD zsec = s) (ho : o.op = .lookup 86 x y false) (hx : ρ x = .map (some M)) (hy : ρ y = .int .i64 a) :
    (execOp ρ o).run Tryz.prog W = .ok (.value (.agg (secC s))) W := by
  subst hs
  have hz : (zeroValue 122).run Tryz.prog W = .ok (.agg (secC zsec)) W := by
    have : (Tryz.prog.info? 122).bind (·.zero) = some (.agg (secC zsec)) := by kernel_rfl
    obtain ⟨i, h1, h2⟩ := Option.bind_eq_some_iff.1 this
    exact Arr.run_zero h1 h2 W
  rw [Arr.ex_lookup ho h Tryz.underlying86 Tryz.underlying3 hx (by rw [hy]; rfl) hz, hy]
  have e : keptF K (.int .i64 a) = (K a).map secV := rfl
  rw [e]
  cases K a <;> rfl
theorem ex_lookup_bad (W : World) {x y : Operand} {M : Nat} {K : Int → Bool} (h : Mp.Is (.int .i64) W M (badF K)) (a : Int) {b : Bool} (hb : K a = b) (ho : o.op = .lookup 87 x y false) (hx : ρ x = .map (some M)) (hy : ρ y = .int .i64 a) :
    (execOp ρ o).run Tryz.prog W = .ok (.value (.bool b)) W := by
  subst hb
  have hz : (zeroValue 4).run Tryz.prog W = .ok (.bool false) W := by
    have : (Tryz.prog.info? 4).bind (·.zero) = some (.bool false) := by kernel_rfl
    obtain ⟨i, h1, h2⟩ := Option.bind_eq_some_iff.1 this
    exact Arr.run_zero h1 h2 W
  rw [Arr.ex_lookup ho h Tryz.underlying87 Tryz.underlying3 hx (by rw [hy]; rfl) hz, hy]
  have e : badF K (.int .i64 a) = if K a then some (.bool true) else none := rfl
  rw [e]
  cases K a <;> rfl
end
theorem sec_C (w : World) (Z : Nat) (s : List Int) (t : Nat) (fr : Nat × Nat) (hs : s.length ≤ 1000000) (h : w.heap[Z]? = some (.cells (secC s) t fr)) : (Kd.int .u8).C w (some ⟨Z, 0, none⟩) s.length s := by
  refine Kd.C_of_reads (d := (0 : Int)) (h1 := fun _ => rfl) (enc := Value.int .u8) ⟨rfl, by omega, fun _ => ⟨_, rfl, fun j hj => ?_⟩⟩
  have e : (⟨Z, 0, none⟩ : Addr).add j = ⟨Z, j, none⟩ := by unfold Addr.add; split <;> simp_all
  rw [e, cell_of_row w Z j (secC s) t fr h]
  have := encs_get (enc := Value.int .u8) (d := (0 : Int)) s j hj
  simpa [secC] using this
def readL (s : List Int) (l : List (Int × List Int)) (at_ : Int) : List Int := l.foldl (fun s x => if x.1 = at_ then x.2 else s) s
def readP (D : PD) (at_ : Int) : List Int × Int :=
  if D.dead then ([], 50) else if inB at_ D.n = false then ([], 1) else if D.bad at_ then ([], 52) else (readL ((D.kept at_).getD zsec) D.cache at_, 0)
theorem readL_succ (s : List Int) (l : List (Int × List Int)) (at_ : Int) (i : Nat) (x : Int × List Int) (h : l[i]? = some x) : readL s (l.take (i + 1)) at_ = if x.1 = at_ then x.2 else readL s (l.take i) at_ := by
  unfold readL
  rw [List.take_add_one, h, List.foldl_append]
  rfl
theorem clone_calls64 (w : World) (ad : Addr) (c : Nat) (b : List Int) (hl : b.length = 64) (hC : (Kd.int .u8).C w (some ad) 64 b) :
    Calls Tryz.prog 86 #[.slice (some ad) 64 c] w fun e w' => ∃ v, e = .returned v ∧ Kd.R (Kd.int .u8) 5 w' w.heap.size (fun _ => True) v b ∧ Below w.heap.size w w' := by
  rw [← hl] at hC ⊢
  exact clone_calls w ad c b (by omega) hC
theorem read_calls (w : World) (base B M Bd : Nat) (vc : Value) (D : PD) (at_ : Int) (hl : D.cache.length ≤ 40000) (h : DK w base B M Bd vc D) :
    Calls Tryz.prog 97 #[.pointer (some ⟨B, 0, none⟩), .int .i64 at_] w fun e w' => ∃ v, e = .returned (.tuple #[v, .int .i64 (readP D at_).2]) ∧ Kd.R (Kd.int .u8) 5 w' w.heap.size (fun _ => True) v (readP D at_).1 ∧ Below w.heap.size w w' := by
  have HL := Aside0.mk hl
  have HD := Aside0.mk h
  obtain ⟨⟨g0, g1, g2, g3, g4, g5, g6⟩, k2, k4, k5, k6⟩ := cells7 h.blk
  clear hl h k2 k4 k5 k6 g4 g5
  by_cases hd : D.dead = true
  · rw [hd] at g6
    have hf : readP D at_ = ([], 50) := by unfold readP; rw [if_pos hd]
    rw [hf]
    clear hf hd
    go_enter Tryz.func97, Tryz.ntmps97
    go_wp2_with (first | (go_at_call 125; refine (dead_calls _ B M _ g1 g6).mono ?_; rintro e w' ⟨rfl, rfl⟩))
    go_ret2
    exact ⟨_, rfl, Kd.R_nil _ _ _ _ _, Below.refl _ _⟩
  have hd0 : D.dead = false := by simpa using hd
  rw [hd0] at g6
  have HD0 := Aside0.mk hd0
  clear hd hd0
  by_cases hi : inB at_ D.n = false
  · have HI := Aside0.mk hi
    clear hi
    have hf : readP D at_ = ([], 1) := by unfold readP; rw [HD0.out, if_neg (by simp), if_pos HI.out]
    rw [hf]
    clear hf
    go_enter Tryz.func97, Tryz.ntmps97
    go_wp2_with (first | (go_at_call 125; refine (dead_calls _ B M _ g1 g6).mono ?_; rintro e w' ⟨rfl, rfl⟩) | (go_at_call 126; refine (has_calls _ B M _ at_ g0 g1).mono ?_; rw [HI.out]; rintro e w' ⟨rfl, rfl⟩))
    go_ret2
    exact ⟨_, rfl, Kd.R_nil _ _ _ _ _, Below.refl _ _⟩
  have hi0 : inB at_ D.n = true := by simpa using hi
  have HI := Aside0.mk hi0
  clear hi hi0
  obtain ⟨bd, hbd⟩ : ∃ bd, D.bad at_ = bd := ⟨_, rfl⟩
  have HBD := Aside0.mk hbd
  clear hbd
  cases bd with
  | true =>
    have hf : readP D at_ = ([], 52) := by unfold readP; rw [HD0.out, if_neg (by simp), HI.out, if_neg (by simp), if_pos HBD.out]
    rw [hf]
    clear hf
    go_enter Tryz.func97, Tryz.ntmps97
    go_wp2_with (first | (go_at_call 125; refine (dead_calls _ B M _ g1 g6).mono ?_; rintro e w' ⟨rfl, rfl⟩) | (go_at_call 126; refine (has_calls _ B M _ at_ g0 g1).mono ?_; rw [HI.out]; rintro e w' ⟨rfl, rfl⟩) | ((with_reducible refine gate_ (.lookup 87 (.tmp 21) (.tmp 22) false) rfl ?_); refine Kd.event_run rfl (ex_lookup_bad w HD.out.bad at_ HBD.out rfl rfl rfl) ?_; simp only [Act.put, List.setIfInBounds_toArray, List.set_cons_succ, List.set_cons_zero]))
    go_ret2
    exact ⟨_, rfl, Kd.R_nil _ _ _ _ _, Below.refl _ _⟩
  | false =>
    obtain ⟨s0, hs0⟩ : ∃ s0, (D.kept at_).getD zsec = s0 := ⟨_, rfl⟩
    have hf : readP D at_ = (readL s0 D.cache at_, 0) := by unfold readP; rw [HD0.out, if_neg (by simp), HI.out, if_neg (by simp), HBD.out, if_neg (by simp), hs0]
    have hs64 : s0.length = 64 := by
      rw [← hs0]
      cases hk : D.kept at_ with
      | none => rfl
      | some s => exact HD.out.sec at_ s hk
    have HS0 := Aside0.mk hs0
    have HS64 := Aside0.mk hs64
    rw [hf]
    clear hf hs0 hs64
    obtain ⟨A, c, hvc⟩ := Kd.R_slice HD.out.cache
    subst hvc
    go_enter Tryz.func97, Tryz.ntmps97
    go_wp2_with (first | (go_at_call 125; refine (dead_calls _ B M _ g1 g6).mono ?_; rintro e w' ⟨rfl, rfl⟩) | (go_at_call 126; refine (has_calls _ B M _ at_ g0 g1).mono ?_; rw [HI.out]; rintro e w' ⟨rfl, rfl⟩) | ((with_reducible refine gate_ (.lookup 87 (.tmp 21) (.tmp 22) false) rfl ?_); refine Kd.event_run rfl (ex_lookup_bad w HD.out.bad at_ HBD.out rfl rfl rfl) ?_; simp only [Act.put, List.setIfInBounds_toArray, List.set_cons_succ, List.set_cons_zero]) | ((with_reducible refine gate_ (.lookup 86 (.tmp 27) (.tmp 28) false) rfl ?_); refine Kd.event_run rfl (ex_lookup_kept w HD.out.kept at_ HS0.out rfl rfl rfl) ?_; simp only [Act.put, List.setIfInBounds_toArray, List.set_cons_succ, List.set_cons_zero]) | ((with_reducible refine gate_ (.alloc 122) rfl ?_); refine Kd.event_run rfl (ex_alloc_sec w rfl) ?_; simp only [Act.put, List.setIfInBounds_toArray, List.set_cons_succ, List.set_cons_zero]) | ((with_reducible refine gate_ (.store 122 (.tmp 6) (.tmp 29)) rfl ?_); refine Arr.skip_run rfl (ex_store_sec0 w s0 HS64.out rfl rfl rfl) ?_; have g2' := alloc_cell g2 (.cells (secC s0) 122); simp only [Act.put, List.setIfInBounds_toArray, List.set_cons_succ, List.set_cons_zero]))
    clear g0 g1 g2 g3 g6 g2'
    have HB0 := Aside0.mk (Below.alloc (Below.refl w.heap.size w) (Nat.le_refl _) (.cells (secC s0) 122))
    have HZ0 := Aside0.mk (heap_alloc_new w (.cells (secC s0) 122))
    go_loopg [35] D.cache.length (fun kq v35 w' => ∃ (i : Nat) (s : List Int), v35 = .int .i64 (i : Int) ∧ Aside0 (i + kq = D.cache.length) ∧ Aside0 (Below w.heap.size w w') ∧ Aside0 (w'.heap[w.heap.size]? = some (.cells (secC s) 122 (0, 0))) ∧ Aside0 (s.length = 64) ∧ Aside0 (readL s0 (D.cache.take i) at_ = s))
    case atStart => exact ⟨0, s0, rfl, ⟨by omega⟩, HB0, HZ0, HS64, ⟨rfl⟩⟩
    case round =>
      obtain ⟨i, s, rfl, HI2, HBr, HZ, HS, HRL⟩ := hrel
      by_cases hi : i < D.cache.length
      · obtain ⟨x, hx⟩ : ∃ x, D.cache[i]? = some x := ⟨_, List.getElem?_eq_getElem hi⟩
        have HX := Aside0.mk hx
        clear hx
        have hcw := Kd.C_below (Kd.R_reads' HD.out.cache).2.2 HBr.out
        obtain ⟨ad, e, hx2, hcell⟩ := cache_at hcw i hi x HX.out
        subst e
        have HX2 := Aside0.mk hx2
        have HCELL := Aside0.mk hcell
        have hw := wr_cell wr x
        have HW := Aside0.mk (wr_cells wr x)
        have hk2 := HL.out
        have hzl : w.heap.size < wr.heap.size := (Array.getElem?_eq_some_iff.1 HZ.out).1
        have HZL := Aside0.mk hzl
        have HZ' := Aside0.mk ((heap_alloc_old wr (.cells (wrC x) 124) HZL.out).trans HZ.out)
        have HBx := Aside0.mk (Below.alloc HBr.out HBr.out.size (.cells (wrC x) 124))
        clear hcw hx2 hcell hzl
        obtain ⟨b, hb⟩ : ∃ b, (x.1 == at_) = b := ⟨_, rfl⟩
        cases b with
        | true =>
          have HEQ := Aside0.mk (show x.1 = at_ by simpa using hb)
          go_wp2_with (first | ((with_reducible refine gate_ (.load 124 (.tmp 37)) rfl ?_); refine Kd.event_run rfl (ex_load_wr wr rfl rfl HX2.out HCELL.out) ?_; simp only [Act.put, List.setIfInBounds_toArray, List.set_cons_succ, List.set_cons_zero]) | ((with_reducible refine gate_ (.alloc 124) rfl ?_); refine Kd.event_run rfl (ex_alloc_wr wr rfl) ?_; simp only [Act.put, List.setIfInBounds_toArray, List.set_cons_succ, List.set_cons_zero]) | ((with_reducible refine gate_ (.store 124 (.tmp 8) (.tmp 38)) rfl ?_); refine Arr.skip_run rfl (ex_store_wr wr (0, zsec) x (by decide) HX2.out rfl rfl rfl) ?_; simp only [Act.put, List.setIfInBounds_toArray, List.set_cons_succ, List.set_cons_zero]) | ((with_reducible refine gate_ (.load 122 (.tmp 43)) rfl ?_); refine Kd.event_run rfl (v := .agg (secC x.2)) (Arr.ex_load rfl (ad := ⟨wr.heap.size, 1, none⟩) rfl (by kernel_rfl) (seg := encs (Value.int .u8) x.2) (by rw [encs_length, HX2.out]; kernel_rfl) HW.out) ?_; simp only [Act.put, List.setIfInBounds_toArray, List.set_cons_succ, List.set_cons_zero]) | ((with_reducible refine gate_ (.store 122 (.tmp 6) (.tmp 44)) rfl ?_); refine Arr.skip_run rfl (ex_store_sec (wr.alloc (.cells (wrC x) 124)) s x.2 HS.out HX2.out rfl rfl rfl HZ'.out) ?_; simp only [Act.put, List.setIfInBounds_toArray, List.set_cons_succ, List.set_cons_zero]))
          have hk1 := HI2.out
          obtain ⟨gq, rfl⟩ : ∃ gq, gk = gq + 1 := ⟨gk - 1, by omega⟩
          go_roundg gq
          case rel => exact ⟨i + 1, x.2, by go_num, ⟨by omega⟩, ⟨below_setRow HBx.out (Nat.le_refl _) _⟩, ⟨setRow_heap _ _ _ _ _ _ HZ'.out⟩, HX2, ⟨by rw [readL_succ s0 D.cache at_ i x HX.out, if_pos HEQ.out]⟩⟩
          case measure => omega
        | false =>
          have HEQ := Aside0.mk (show ¬ x.1 = at_ by simpa using hb)
          go_wp2_with (first | ((with_reducible refine gate_ (.load 124 (.tmp 37)) rfl ?_); refine Kd.event_run rfl (ex_load_wr wr rfl rfl HX2.out HCELL.out) ?_; simp only [Act.put, List.setIfInBounds_toArray, List.set_cons_succ, List.set_cons_zero]) | ((with_reducible refine gate_ (.alloc 124) rfl ?_); refine Kd.event_run rfl (ex_alloc_wr wr rfl) ?_; simp only [Act.put, List.setIfInBounds_toArray, List.set_cons_succ, List.set_cons_zero]) | ((with_reducible refine gate_ (.store 124 (.tmp 8) (.tmp 38)) rfl ?_); refine Arr.skip_run rfl (ex_store_wr wr (0, zsec) x (by decide) HX2.out rfl rfl rfl) ?_; simp only [Act.put, List.setIfInBounds_toArray, List.set_cons_succ, List.set_cons_zero]))
          have hk1 := HI2.out
          obtain ⟨gq, rfl⟩ : ∃ gq, gk = gq + 1 := ⟨gk - 1, by omega⟩
          go_roundg gq
          case rel => exact ⟨i + 1, s, by go_num, ⟨by omega⟩, HBx, HZ', HS, ⟨by rw [readL_succ s0 D.cache at_ i x HX.out, if_neg HEQ.out]; exact HRL.out⟩⟩
          case measure => omega
      · have hi0 := HI2.out
        obtain rfl : gk = 0 := by omega
        obtain rfl : i = D.cache.length := by omega
        clear hi0
        have hm : ¬ ((D.cache.length : Int) < (D.cache.length : Int)) := by omega
        have HRL2 := Aside0.mk (show readL s0 D.cache at_ = s by have := HRL.out; rwa [List.take_length] at this)
        have hcs := sec_C wr w.heap.size s 122 (0, 0) (by have := HS.out; omega) HZ.out
        rw [HS.out] at hcs
        have HCS := Aside0.mk hcs
        clear hcs
        go_wp2_with (go_at_call 86; refine (clone_calls64 wr _ 64 s HS.out HCS.out).mono ?_; rintro e w2 ⟨v, rfl, hr, hb2⟩; have HR := Aside0.mk hr; have HB2 := Aside0.mk hb2; clear hr hb2)
        go_ret2
        rw [HRL2.out]
        exact ⟨v, rfl, Kd.R_lower HR.out HBr.out.size, HBr.out.trans (HB2.out.mono HBr.out.size)⟩
end Go.Proofs.YtlepcmljmibdnaaGreat
namespace Go.Proofs.YtlepcmljmibdnaaGreat
open Go.RowKit Go.Proofs.YtlepcmljmibdnaaGreatW.PrintWords Go.Proofs.YtlepcmljmibdnaaGreatW.PrintLast Go.Proofs.YtlepcmljmibdnaaGreatW.PrintMore
set_option linter.unusedVariables false
set_option linter.unusedSimpArgs false
theorem R_addr {α : Type} {d : Kd α} {e : Nat} {w : World} {base : Nat} {ok : Nat → Prop} {v : Value} {xs : List α} (h : d.R e w base ok v xs) (hn : 0 < xs.length) : ∃ g c, v = .slice (some ⟨g, 0, none⟩) xs.length c := by
  obtain ⟨_, inner, ho, _⟩ := h
  obtain ⟨g, cap, rfl, _⟩ := ho.form hn
  exact ⟨g, cap, rfl⟩
theorem DK.base_le {w : World} {base B M Bd : Nat} {vc : Value} {D : PD} (h : DK w base B M Bd vc D) : base ≤ w.heap.size := by
  have h1 := h.hB
  have h2 := (Array.getElem?_eq_some_iff.1 h.blk).1
  omega
end Go.Proofs.YtlepcmljmibdnaaGreat
namespace Go.Proofs.YtlepcmljmibdnaaGreat
open Go.RowKit Go.Proofs.YtlepcmljmibdnaaGreatW.PrintWords Go.Proofs.YtlepcmljmibdnaaGreatW.PrintLast Go.Proofs.YtlepcmljmibdnaaGreatW.PrintMore
attribute [local go_sem] run_makeMap
set_option linter.unusedVariables false
set_option linter.unusedSimpArgs false
section
variable {P : Program} {W : World} {o : Oper} {ρ : Operand → Value}
end
def faultP (D : PD) (at_ : Int) (on : Bool) : PD := if inB at_ D.n = false then D else { D with bad := fun x => if x = at_ then on else D.bad x }
end Go.Proofs.YtlepcmljmibdnaaGreat
namespace Go.Fork
open Go.RowKit Go.Calm
inductive Tr where
  | nil
  | one (i k : Nat) (t : Tr)
  | two (i : Nat) (t : Tr) (j : Nat) (t' : Tr)
def Tr.len : Tr → Nat
  | .nil => 0
  | .one _ _ t => t.len + 1
  | .two _ t _ _ => t.len + 1
/-- below b all is as it was -/
structure Lo (b : Nat) (w w' : World) : Prop where
  os : w'.os = w.os
  tape : w'.tape = w.tape
  output : w'.output = w.output
  size : b ≤ w.heap.size → b ≤ w'.heap.size
  block : ∀ k, k < b → w'.heap[k]? = w.heap[k]?
theorem Lo.refl (b : Nat) (w : World) : Lo b w w := ⟨rfl, rfl, rfl, id, fun _ _ => rfl⟩
theorem Lo.trans {b : Nat} {a w w' : World} (h : Lo b a w) (k : Lo b w w') : Lo b a w' := ⟨k.os.trans h.os, k.tape.trans h.tape, k.output.trans h.output, fun e => k.size (h.size e), fun i hi => (k.block i hi).trans (h.block i hi)⟩
theorem Lo.of_below {b : Nat} {w w' : World} (h : Below b w w') : Lo b w w' := ⟨h.os, h.tape, h.output, fun e => Nat.le_trans e h.size, h.block⟩
theorem Lo.zero {w w' : World} (h1 : w'.os = w.os) (h2 : w'.tape = w.tape) (h3 : w'.output = w.output) : Lo 0 w w' := ⟨h1, h2, h3, fun _ => Nat.zero_le _, fun _ hk => absurd hk (Nat.not_lt_zero _)⟩
structure Rel (G : World → World → Prop) : Prop where
  refl : ∀ w, G w w
  trans : ∀ {a b c}, G a b → G b c → G a c
theorem Lo.rel (b : Nat) : Rel (Lo b) := ⟨Lo.refl b, fun h k => h.trans k⟩
/-- what an operation that acts may do to memory: what G lets it, unless it is one of ys; if it is none of the writers xs, only grow it -/
structure Grow (G : World → World → Prop) (xs ys : List Nat) (i : Nat) (w w' : World) : Prop where
  low : i ∉ ys → G w w'
  new : i ∉ xs → Below w.heap.size w w'
theorem Grow.of_new {b : Nat} {xs ys : List Nat} {i : Nat} {w w' : World} (h : Below w.heap.size w w') (hb : b ≤ w.heap.size) : Grow (Lo b) xs ys i w w' := ⟨fun _ => .of_below (h.mono hb), fun _ => h⟩
theorem Grow.of_any {G : World → World → Prop} {xs ys : List Nat} {i : Nat} {w w' : World} (hx : xs.contains i = true) (hy : ys.contains i = true) : Grow G xs ys i w w' := ⟨fun hn => absurd (by simpa using hy) hn, fun hn => absurd (by simpa using hx) hn⟩
theorem Grow.of_old {G : World → World → Prop} {xs ys : List Nat} {i : Nat} {w w' : World} (h : G w w') (hx : xs.contains i = true) : Grow G xs ys i w w' := ⟨fun _ => h, fun hn => absurd (by simpa using hx) hn⟩
def Hold (G : World → World → Prop) (k : Nat) (w W : World) : Prop := k = 0 ∨ (k = 1 ∧ Below w.heap.size w W) ∨ (k = 3 ∧ G w W)
section
variable {P : Program} {md : Region.Mode} {ops : Array Oper} {Q : Exit → Act → World → Prop} {G : World → World → Prop} {xs ys : List Nat}
theorem Hold.refl (hG : Rel G) {k : Nat} (h : k = 0 ∨ k = 1 ∨ k = 3) (w : World) : Hold G k w w := by
  rcases h with h | h | h
  · exact .inl h
  · exact .inr (.inl ⟨h, Below.refl _ _⟩)
  · exact .inr (.inr ⟨h, hG.refl _⟩)
theorem Hold.next (hG : Rel G) {k : Nat} {w w1 W : World} (hb : k = 0 ∨ (k = 3 ∧ G w w1) ∨ (k ≠ 3 ∧ Below w.heap.size w w1)) (h : Hold G k w1 W) : Hold G k w W := by
  rcases h with h | ⟨h, h'⟩ | ⟨h, h'⟩
  · exact .inl h
  · subst h
    have hb := ((hb.resolve_left (by decide)).resolve_left (by rintro ⟨h, _⟩; cases h)).2
    exact .inr (.inl ⟨rfl, hb.trans (h'.mono hb.size)⟩)
  · subst h
    rcases hb with hb | ⟨_, hb⟩ | ⟨hb, _⟩
    · cases hb
    · exact .inr (.inr ⟨rfl, hG.trans hb h'⟩)
    · exact absurd rfl hb
theorem yields_next (hG : Rel G) {k : Nat} {w w1 : World} {o : Oper} {v : Value} {a : Act} (hb : k = 0 ∨ (k = 3 ∧ G w w1) ∨ (k ≠ 3 ∧ Below w.heap.size w w1)) (h : YieldsIf P ops (Hold G k w) o v a) : YieldsIf P ops (Hold G k w1) o v a :=
  h.imp (fun ⟨h1, h2⟩ => ⟨h1, fun W hW => h2 W (Hold.next hG hb hW)⟩) id
def wpAnyG (P : Program) (md : Region.Mode) (ops : Array Oper) (Q : Exit → Act → World → Prop) (G : World → World → Prop) (xs ys : List Nat) : Nat → Array Bool → Act → World → Prop
  | 0, listed, a, w => Region.ready md ops listed = [] ∧ Q .normal a w
  | fuel + 1, listed, a, w =>
    (Region.ready md ops listed = [] → Q .normal a w) ∧
    ∀ i ∈ Region.ready md ops listed, wpOp P ops Q i (fun a' w' => Grow G xs ys i w w' ∧ wpAnyG P md ops Q G xs ys fuel (listed.setIfInBounds i true) a' w') a w
theorem wpAny_of_G : ∀ (fuel : Nat) (listed : Array Bool) (a : Act) (w : World), wpAnyG P md ops Q G xs ys fuel listed a w → wpAny P md ops Q fuel listed a w
  | 0, _, _, _, h => h
  | fuel + 1, _, _, _, h => ⟨h.1, fun i hi => wpOp_mono (fun a' w' h' => wpAny_of_G fuel _ a' w' h'.2) (h.2 i hi)⟩
theorem first (hG : Rel G) {i : Nat} {oi : Oper} {v : Value} {kd : Nat} (hkd : kd = 0 ∨ kd = 1 ∨ kd = 3) (hi : ops[i]? = some oi) (hsel : ∀ (j : Nat) (o : Oper) cs b, ops[j]? = some o → o.op ≠ .select cs b)
    (hQ : ∀ c a w, Q (.panic c) (a.put oi.dst v) w → Q (.panic c) a w) (hix : i ∉ xs) (n : Nat) :
    ∀ (fuel : Nat) (listed : Array Bool) (a : Act) (w : World), Closed md ops listed →
      (kd = 0 ∨ (kd = 3 ∧ ∀ j ∈ ys, listed.getD j true = false → waitsT md ops n j i = true) ∨ (kd ≠ 3 ∧ ∀ j ∈ xs, listed.getD j true = false → waitsT md ops n j i = true)) →
      (∀ j oj, ops[j]? = some oj → j ≠ i → listed.getD j true = false → (∀ e ∈ oj.after, Region.binds md e = true → e.on ≠ i) → oi.apart ops oj = true) →
      i ∈ Region.ready md ops listed → YieldsIf P ops (Hold G kd w) oi v a →
      wpAnyG P md ops Q G xs ys fuel (listed.setIfInBounds i true) (a.put oi.dst v) w → wpAnyG P md ops Q G xs ys (fuel + 1) listed a w := by
  intro fuel
  induction fuel with
  | zero =>
    intro listed a w _ _ _ hr hy H
    refine ⟨fun h => (by rw [h] at hr; cases hr), fun j hj => ?_⟩
    by_cases hji : j = i
    · subst hji; exact hy.wpOp hi (Hold.refl hG hkd _) ⟨⟨fun _ => hG.refl _, fun _ => Below.refl _ _⟩, H⟩
    · have := ready_mono hj hji
      rw [H.1] at this
      cases this
  | succ fuel ih =>
    intro listed a w hcl hX hfree hr hy H
    refine ⟨fun h => (by rw [h] at hr; cases hr), fun j hj => ?_⟩
    by_cases hji : j = i
    · subst hji; exact hy.wpOp hi (Hold.refl hG hkd _) ⟨⟨fun _ => hG.refl _, fun _ => Below.refl _ _⟩, H⟩
    · have h1 := H.2 j (ready_mono hj hji)
      obtain ⟨hjun, oj, hoj, hall⟩ := mem_ready.1 hj
      have hiun : listed.getD i false = false := by
        have h0 := (mem_ready.1 hr).1
        rcases Nat.lt_or_ge i listed.size with h' | h'
        · simp [h'] at h0 ⊢; exact h0
        · simp [Array.getElem?_eq_none h']
      have hnot : ∀ e ∈ oj.after, Region.binds md e = true → e.on ≠ i := fun e he hb heq => by
        have h1 := hall e he hb
        rw [heq, hiun] at h1
        cases h1
      have hgrow : ∀ w', Grow G xs ys j w w' → (kd = 0 ∨ (kd = 3 ∧ G w w') ∨ (kd ≠ 3 ∧ Below w.heap.size w w')) := fun w' hw' => by
        rcases hX with hX | ⟨h3, hX⟩ | ⟨h3, hX⟩
        · exact .inl hX
        · refine .inr (.inl ⟨h3, hw'.low fun hjx => ?_⟩)
          have := waits_ready hcl hj (hX j hjx hjun)
          rw [hiun] at this
          cases this
        · refine .inr (.inr ⟨h3, hw'.new fun hjx => ?_⟩)
          have := waits_ready hcl hj (hX j hjx hjun)
          rw [hiun] at this
          cases this
      have h2 := wpOp_putIf hoj (hfree j oj hoj hji hjun hnot) (fun cs b => hsel i oi cs b hi) (fun cs b => hsel j oj cs b hoj) hQ hy h1
      have hfree' : ∀ k ok, ops[k]? = some ok → k ≠ i → (listed.setIfInBounds j true).getD k true = false →
          (∀ e ∈ ok.after, Region.binds md e = true → e.on ≠ i) → oi.apart ops ok = true := fun k ok hk hki hun hno => by
        refine hfree k ok hk hki ?_ hno
        by_cases hjk : j = k
        · subst hjk; exact hjun
        · rw [getD_set_ne true hjk] at hun; exact hun
      have hun' : ∀ k, (listed.setIfInBounds j true).getD k true = false → listed.getD k true = false := fun k hun => by
        by_cases hjk : j = k
        · subst hjk; exact hjun
        · rw [getD_set_ne true hjk] at hun; exact hun
      have hX' : kd = 0 ∨ (kd = 3 ∧ ∀ k ∈ ys, (listed.setIfInBounds j true).getD k true = false → waitsT md ops n k i = true) ∨ (kd ≠ 3 ∧ ∀ k ∈ xs, (listed.setIfInBounds j true).getD k true = false → waitsT md ops n k i = true) :=
        hX.imp id fun h => h.imp (fun h => ⟨h.1, fun k hk hun => h.2 k hk (hun' k hun)⟩) (fun h => ⟨h.1, fun k hk hun => h.2 k hk (hun' k hun)⟩)
      refine wpOp_mono (fun a' w' h3 => ⟨h3.2.1, ih (listed.setIfInBounds j true) a' w' (hcl.set hj) hX' hfree' (ready_mono hr (Ne.symm hji)) (yields_next hG (hgrow w' h3.2.1) h3.1) ?_⟩) h2
      rw [Array.setIfInBounds_comm _ _ hji]
      exact h3.2.2

def wpT (P : Program) (ops : Array Oper) (Q : Exit → Act → World → Prop) (G : World → World → Prop) (xs ys : List Nat) : Tr → Act → World → Prop
  | .nil, a, w => Q .normal a w
  | .one i 2 t, a, w => wpOp P ops Q i (fun a' w' => Grow G xs ys i w w' ∧ wpT P ops Q G xs ys t a' w') a w
  | .one i k t, a, w => ∃ o v, ops[i]? = some o ∧ YieldsIf P ops (Hold G k w) o v a ∧ wpT P ops Q G xs ys t (a.put o.dst v) w
  | .two i t j t', a, w => wpOp P ops Q i (fun a' w' => Grow G xs ys i w w' ∧ wpT P ops Q G xs ys t a' w') a w ∧ wpOp P ops Q j (fun a' w' => Grow G xs ys j w w' ∧ wpT P ops Q G xs ys t' a' w') a w
def okT (md : Region.Mode) (ops : Array Oper) (xs ys : List Nat) : Array Bool → Tr → Bool
  | listed, .nil => (Region.ready md ops listed).isEmpty
  | listed, .one i 2 t => Region.ready md ops listed == [i] && okT md ops xs ys (listed.setIfInBounds i true) t
  | listed, .one i k t => (Region.ready md ops listed).contains i && Region.free md ops listed i && !xs.contains i &&
      (k == 0 || k == 3 && (ys.all fun j => listed.getD j true || waitsT md ops ops.size j i) || k == 1 && xs.all fun j => listed.getD j true || waitsT md ops ops.size j i) && okT md ops xs ys (listed.setIfInBounds i true) t
  | listed, .two i t j t' => Region.ready md ops listed == [i, j] && t.len == t'.len && okT md ops xs ys (listed.setIfInBounds i true) t && okT md ops xs ys (listed.setIfInBounds j true) t'
theorem anyG_of_wpT (hG : Rel G) (hs : Region.noSelect ops = true) (hQ : ∀ c a w, ¬ Q (.panic c) a w) : ∀ (l : Tr) (listed : Array Bool) (a : Act) (w : World), Closed md ops listed →
    okT md ops xs ys listed l = true → wpT P ops Q G xs ys l a w → wpAnyG P md ops Q G xs ys l.len listed a w
  | .nil, listed, a, w, _, hB, h => ⟨by simpa [okT] using hB, h⟩
  | .two i t j t', listed, a, w, hc, hB, h => by
    simp only [okT, Bool.and_eq_true, beq_iff_eq] at hB
    obtain ⟨⟨⟨hr, hl⟩, h1⟩, h2⟩ := hB
    have hi : i ∈ Region.ready md ops listed := by rw [hr]; simp
    have hj : j ∈ Region.ready md ops listed := by rw [hr]; simp
    refine ⟨fun h0 => (by rw [h0] at hi; cases hi), fun m hm => ?_⟩
    rw [hr] at hm
    simp only [List.mem_cons, List.not_mem_nil, or_false] at hm
    rcases hm with rfl | rfl
    · exact wpOp_mono (fun a' w' h' => ⟨h'.1, anyG_of_wpT hG hs hQ t _ a' w' (hc.set hi) h1 h'.2⟩) h.1
    · refine wpOp_mono (fun a' w' h' => ⟨h'.1, ?_⟩) h.2
      have := anyG_of_wpT hG hs hQ t' _ a' w' (hc.set hj) h2 h'.2
      rw [← hl] at this
      exact this
  | .one i k rest, listed, a, w, hc, hB, h => by
    by_cases hk : k = 2
    · subst hk
      simp only [okT, Bool.and_eq_true, beq_iff_eq] at hB
      have hi : i ∈ Region.ready md ops listed := by rw [hB.1]; simp
      refine ⟨fun h0 => (by rw [h0] at hi; cases hi), fun j hj => ?_⟩
      rw [hB.1] at hj
      obtain rfl : j = i := by simpa using hj
      exact wpOp_mono (fun a' w' h' => ⟨h'.1, anyG_of_wpT hG hs hQ rest _ a' w' (hc.set hi) hB.2 h'.2⟩) h
    · have hB' : (((Region.ready md ops listed).contains i && Region.free md ops listed i && !xs.contains i &&
          (k == 0 || k == 3 && (ys.all fun j => listed.getD j true || waitsT md ops ops.size j i) || k == 1 && xs.all fun j => listed.getD j true || waitsT md ops ops.size j i)) && okT md ops xs ys (listed.setIfInBounds i true) rest) = true := by
        match k, hk, hB with
        | 0, _, hB => exact hB
        | 1, _, hB => exact hB
        | k + 3, _, hB => exact hB
      have h' : ∃ o v, ops[i]? = some o ∧ YieldsIf P ops (Hold G k w) o v a ∧ wpT P ops Q G xs ys rest (a.put o.dst v) w := by
        match k, hk, h with
        | 0, _, h => exact h
        | 1, _, h => exact h
        | k + 3, _, h => exact h
      simp only [Bool.and_eq_true, Bool.not_eq_true', Bool.or_eq_true] at hB'
      obtain ⟨⟨⟨⟨h1, h2⟩, h3⟩, h4⟩, h5⟩ := hB'
      obtain ⟨o, v, ho, hy, hr⟩ := h'
      have hi : i ∈ Region.ready md ops listed := by simpa using h1
      simp only [beq_iff_eq] at h4
      have hkd : k = 0 ∨ k = 1 ∨ k = 3 := by
        rcases h4 with (h4 | ⟨h4, _⟩) | ⟨h4, _⟩
        · exact .inl h4
        · exact .inr (.inr h4)
        · exact .inr (.inl h4)
      have hw : ∀ zs : List Nat, (zs.all fun j => listed.getD j true || waitsT md ops ops.size j i) = true → ∀ j ∈ zs, listed.getD j true = false → waitsT md ops ops.size j i = true := fun zs h j hj hun => by
        have := List.all_eq_true.1 h j hj
        simpa [hun] using this
      refine first hG hkd ho (Region.noSelect_spec hs) (fun c a w hp => absurd hp (hQ c _ w)) (by simpa using h3) ops.size rest.len listed a w hc ?_ (Region.free_spec ho h2) hi hy
        (anyG_of_wpT hG hs hQ rest _ _ w (hc.set hi) h5 hr)
      rcases h4 with (h4 | ⟨h4, h4'⟩) | ⟨h4, h4'⟩
      · exact .inl h4
      · exact .inr (.inl ⟨h4, hw ys h4'⟩)
      · exact .inr (.inr ⟨by rw [h4]; decide, hw xs h4'⟩)
/-- THE LAW. -/
theorem wp_fork {id : Nat} {a : Act} {w : World} {os : List Oper} {G : World → World → Prop} (hG : Rel G) (xs ys : List Nat) (l : Tr) (hm : P.follows .mixedOrders = true)
    (hB : (Region.noSelect os.toArray && l.len == os.length && okT .any os.toArray xs ys (Array.replicate os.length false) l) = true)
    (h : wpT P os.toArray (NoPanic Q) G xs ys l a w.drew) : (Code.region id os.toArray true).wp P Q a w := by
  simp only [Bool.and_eq_true, beq_iff_eq] at hB
  refine wp_region_noPanic (wp_region_any hm ?_)
  have h1 := anyG_of_wpT (md := .any) hG hB.1.1 (fun c a w hp => hp) l (Array.replicate os.length false) a w.drew (closed_none _) hB.2 h
  have h2 := wpAny_of_G _ _ _ _ h1
  rw [hB.1.2] at h2
  simpa using h2
end
set_option linter.unusedSimpArgs false
section
variable {P : Program} {ops : Array Oper} {Q : Exit → Act → World → Prop} {G : World → World → Prop} {xs ys : List Nat} {a : Act} {w : World} {i : Nat} {rest : Tr}
theorem done (h : Q .normal a w) : wpT P ops (NoPanic Q) G xs ys .nil a w := h
theorem plain {o : Oper} (ho : ops[i]? = some o) (v : Value) (hw : Region.wanted o (yielded ops a.tmps) = true) (hr : ∀ W, (execOp a.eval o).run P W = .ok (.value v) W)
    (h : wpT P ops Q G xs ys rest (a.put o.dst v) w) : wpT P ops Q G xs ys (.one i 0 rest) a w := ⟨o, v, ho, .inl ⟨hw, fun W _ => hr W⟩, h⟩
theorem reads {o : Oper} (ho : ops[i]? = some o) (v : Value) (hw : Region.wanted o (yielded ops a.tmps) = true) (hr : ∀ W, Below w.heap.size w W → (execOp a.eval o).run P W = .ok (.value v) W)
    (h : wpT P ops Q G xs ys rest (a.put o.dst v) w) : wpT P ops Q G xs ys (.one i 1 rest) a w :=
  ⟨o, v, ho, .inl ⟨hw, fun W hW => hr W (by rcases hW with h | ⟨_, h⟩ | ⟨h, _⟩; (cases h); exact h; cases h)⟩, h⟩
theorem olds {o : Oper} (ho : ops[i]? = some o) (v : Value) (hw : Region.wanted o (yielded ops a.tmps) = true) (hr : ∀ W, G w W → (execOp a.eval o).run P W = .ok (.value v) W)
    (h : wpT P ops Q G xs ys rest (a.put o.dst v) w) : wpT P ops Q G xs ys (.one i 3 rest) a w :=
  ⟨o, v, ho, .inl ⟨hw, fun W hW => hr W (by rcases hW with h | ⟨h, _⟩ | ⟨_, h⟩; (cases h); (cases h); exact h)⟩, h⟩
theorem op {o : Oper} {J : Act → World → Prop} (ho : ops[i]? = some o)
    (h : ∀ K : Act → World → Prop, (∀ a' w', Grow G xs ys i w w' → J a' w' → K a' w') → if Region.wanted o (yielded ops a.tmps) = true then o.wp P a w K Q else K (a.put o.dst undef) w) :
    wpOp P ops Q i (fun a' w' => Grow G xs ys i w w' ∧ J a' w') a w := by
  unfold wpOp
  simp only [ho]
  by_cases hw : Region.wanted o (yielded ops a.tmps) = true
  · have := h (fun a' w' => Grow G xs ys i w w' ∧ J a' w') (fun a' w' h1 h2 => ⟨h1, h2⟩)
    rw [if_pos hw] at this ⊢
    exact .inl this
  · have := h (fun a' w' => Grow G xs ys i w w' ∧ J a' w') (fun a' w' h1 h2 => ⟨h1, h2⟩)
    rw [if_neg hw] at this ⊢
    exact this
theorem step {o : Oper} (ho : ops[i]? = some o)
    (h : ∀ K : Act → World → Prop, (∀ a' w', Grow G xs ys i w w' → wpT P ops Q G xs ys rest a' w' → K a' w') → if Region.wanted o (yielded ops a.tmps) = true then o.wp P a w K Q else K (a.put o.dst undef) w) :
    wpT P ops Q G xs ys (.one i 2 rest) a w := op ho h
end
theorem at_ {l : List Oper} {ops : Array Oper} {i : Nat} {o : Oper} (h : l.toArray = ops) (e : l[i]? = some o) : ops[i]? = some o := by subst h; simpa using e
theorem bel_cell {w W : World} {p : Addr} {v : Value} (h : Below w.heap.size w W) (hc : w.cell? p = some v) : W.cell? p = some v := (h.cell (block_lt_of_cell hc)).trans hc
end Go.Fork
namespace Go.Proofs.YtlepcmljmibdnaaGreat
open Go.RowKit Go.Proofs.YtlepcmljmibdnaaGreatW.PrintWords Go.Proofs.YtlepcmljmibdnaaGreatW.PrintLast Go.Proofs.YtlepcmljmibdnaaGreatW.PrintMore
attribute [local go_sem] run_makeMap
set_option linter.unusedVariables false
set_option linter.unusedSimpArgs false
end Go.Proofs.YtlepcmljmibdnaaGreat
namespace Go.Proofs.YtlepcmljmibdnaaGreat
open Go.RowKit Go.Proofs.YtlepcmljmibdnaaGreatW.PrintWords Go.Proofs.YtlepcmljmibdnaaGreatW.PrintLast Go.Proofs.YtlepcmljmibdnaaGreatW.PrintMore PDiskArms
set_option linter.unusedVariables false
set_option linter.unusedSimpArgs false
end Go.Proofs.YtlepcmljmibdnaaGreat
namespace Go.Proofs.YtlepcmljmibdnaaGreat
open Go.RowKit Go.Proofs.YtlepcmljmibdnaaGreatW.PrintWords Go.Proofs.YtlepcmljmibdnaaGreatW.PrintLast Go.Proofs.YtlepcmljmibdnaaGreatW.PrintMore PDiskArms
set_option linter.unusedVariables false
set_option linter.unusedSimpArgs false
theorem DK.low {w : World} {base B M Bd : Nat} {vc : Value} {D : PD} (h : DK w base B M Bd vc D) (b : Nat) (hb : b ≤ base) : DK w b B M Bd vc D :=
  ⟨h.blk, h.kept, h.bad, Kd.R_lower h.cache hb, Nat.le_trans hb h.hB, Nat.le_trans hb h.hM, Nat.le_trans hb h.hBd, h.hne, h.sec, h.hn, h.hl⟩
/-- a disk, seen from an elder world: nothing of it but F has changed -/
structure At (w0 : World) (F : Nat → Prop) (w : World) (B M Bd : Nat) (vc : Value) (D : PD) : Prop where
  dk : DK w 0 B M Bd vc D
  chg : Chg w0 w F
  fp : ∀ k, k < w0.heap.size → FP B M Bd vc k → F k
theorem At.refl {w : World} {base B M Bd : Nat} {vc : Value} {D : PD} (h : DK w base B M Bd vc D) : At w (FP B M Bd vc) w B M Bd vc D := ⟨h.low 0 (Nat.zero_le _), Chg.refl _ _, fun _ _ h => h⟩
section
variable {w0 w w' : World} {F : Nat → Prop} {B M Bd : Nat} {vc vc' : Value} {D D' : PD}
theorem At.reach (h : At w0 F w B M Bd vc D) (hc : Chg w w' (FP B M Bd vc)) : Chg w0 w' F :=
  ⟨hc.os.trans h.chg.os, hc.tape.trans h.chg.tape, hc.output.trans h.chg.output, Nat.le_trans h.chg.size hc.size, fun k hk hn => (hc.block k (Nat.lt_of_lt_of_le hk h.chg.size) (fun e => hn (h.fp k hk e))).trans (h.chg.block k hk hn)⟩
theorem At.next (h : At w0 F w B M Bd vc D) (hd : DK w' 0 B M Bd vc' D') (hc : Chg w w' (FP B M Bd vc)) (hf : ∀ k, k < w.heap.size → FP B M Bd vc' k → FP B M Bd vc k) : At w0 F w' B M Bd vc' D' :=
  ⟨hd, h.reach hc, fun k hk e => h.fp k hk (hf k (Nat.lt_of_lt_of_le hk h.chg.size) e)⟩
theorem At.then_ {w1 : World} (h : At w0 F w B M Bd vc D) (k : At w (FP B M Bd vc) w1 B M Bd vc' D') : At w0 F w1 B M Bd vc' D' := h.next k.dk k.chg k.fp
theorem At.grow (h : At w0 F w B M Bd vc D) (hc : Chg w w' (fun _ => False)) : At w0 F w' B M Bd vc D := h.next (h.dk.chg hc) (hc.mono fun _ h => h.elim) (fun _ _ h => h)
theorem fp_old {k : Nat} (ho : vc'.ownBlock = vc.ownBlock ∨ ∃ j, vc'.ownBlock = some j ∧ w.heap.size ≤ j) (hk : k < w.heap.size) (h : FP B M Bd vc' k) : FP B M Bd vc k := by
  rcases h with h | h | h | h
  · exact .inl h
  · exact .inr (.inl h)
  · exact .inr (.inr (.inl h))
  · rcases ho with ho | ⟨j, hj, hjl⟩
    · exact .inr (.inr (.inr (h.trans ho)))
    · rw [hj] at h
      have := Option.some.inj h
      omega
theorem fp_nil {k : Nat} (h : FP B M Bd (.slice none 0 0) k) : FP B M Bd vc k := by
  rcases h with h | h | h | h
  · exact .inl h
  · exact .inr (.inl h)
  · exact .inr (.inr (.inl h))
  · simp [Value.ownBlock] at h
theorem at_write (at_ e : Int) (A : Option Addr) (c : Nat) (b : List Int) (hw : writeP D at_ b = (D', e)) (hl : D.cache.length ≤ 40000) (hb : ∀ w', Chg w0 w' F → (Kd.int .u8).C w' A b.length b) (h : At w0 F w B M Bd vc D) :
    Calls Tryz.prog 93 #[.pointer (some ⟨B, 0, none⟩), .int .i64 at_, .slice A b.length c] w fun r w' => r = .returned (.int .i64 e) ∧ ∃ vc', At w0 F w' B M Bd vc' D' := by
  refine (write_calls w 0 B M Bd vc D at_ A c b hl (Nat.zero_le _) h.dk (fun w' hc => hb w' (h.reach hc))).mono ?_
  rw [hw]
  rintro r w' ⟨rfl, vc', hd, ho, hc⟩
  exact ⟨rfl, vc', h.next hd hc fun k hk => fp_old ho hk⟩
theorem at_flush (e : Int) (hw : flushP D = (D', e)) (hl : D.cache.length ≤ 40000) (h : At w0 F w B M Bd vc D) :
    Calls Tryz.prog 129 #[.pointer (some ⟨B, 0, none⟩)] w fun r w' => r = .returned (.int .i64 e) ∧ ∃ vc', At w0 F w' B M Bd vc' D' := by
  refine (flush_calls w 0 B M Bd vc D hl (Nat.zero_le _) h.dk).mono ?_
  rw [hw]
  rintro r w' ⟨rfl, vc', hd, ho, hc⟩
  refine ⟨rfl, vc', h.next hd (hc.mono fun k hk => hk.elim .inl (fun h => .inr (.inl h))) fun k hk hf => ?_⟩
  rcases ho with rfl | rfl
  · exact hf
  · exact fp_nil hf
theorem at_crash (A : Option Addr) (c : Nat) (ks : List Bool) (hw : crashP D ks = D') (hl : D.cache.length ≤ 40000) (hb : ∀ w', Chg w0 w' F → Kd.bool.C w' A ks.length ks) (h : At w0 F w B M Bd vc D) :
    Calls Tryz.prog 23 #[.pointer (some ⟨B, 0, none⟩), .slice A ks.length c] w fun r w' => r = .returned (.tuple #[]) ∧ At w0 F w' B M Bd (.slice none 0 0) D' := by
  have hm : ∀ w', Chg w w' (fun k => k = B ∨ k = M) → Chg w w' (FP B M Bd vc) := fun w' hc => hc.mono fun k hk => hk.elim .inl (fun h => .inr (.inl h))
  refine (crash_calls w 0 B M Bd vc D A c ks hl (Nat.zero_le _) h.dk (fun w' hc => hb w' (h.reach (hm w' hc)))).mono ?_
  rw [hw]
  rintro r w' ⟨rfl, hd, hc⟩
  exact ⟨rfl, h.next hd (hm w' hc) fun k hk => fp_nil⟩
theorem at_read (at_ r : Int) (s : List Int) (hr : readP D at_ = (s, r)) (hl : D.cache.length ≤ 40000) (h : At w0 F w B M Bd vc D) :
    Calls Tryz.prog 97 #[.pointer (some ⟨B, 0, none⟩), .int .i64 at_] w fun e w' => ∃ A c, e = .returned (.tuple #[.slice A s.length c, .int .i64 r]) ∧ Kd.R (Kd.int .u8) 5 w' w.heap.size (fun k => w.heap.size ≤ k) (.slice A s.length c) s ∧ At w0 F w' B M Bd vc D ∧ Below w.heap.size w w' := by
  refine (read_calls w 0 B M Bd vc D at_ hl h.dk).mono ?_
  rw [hr]
  rintro e w' ⟨v, rfl, hR, hb⟩
  obtain ⟨A, c, rfl⟩ := Kd.R_slice hR
  exact ⟨A, c, rfl, Kd.R_mono (Kd.R_bound hR) (fun k hk => hk.2.1), h.grow (.of_below hb), hb⟩
end
theorem writeP_cache (D : PD) (at_ : Int) (b : List Int) : (writeP D at_ b).1.cache.length ≤ D.cache.length + 1 := by
  unfold writeP
  split
  · exact Nat.le_succ _
  · split
    · exact Nat.le_succ _
    · split
      · exact Nat.le_succ _
      · split
        · rw [actP_cache]; omega
        · rw [actP_cache]; simp
theorem flushP_cache (D : PD) : (flushP D).1.cache.length ≤ D.cache.length := by
  unfold flushP
  split
  · rw [actP_cache]; omega
  · simp
end Go.Proofs.YtlepcmljmibdnaaGreat
