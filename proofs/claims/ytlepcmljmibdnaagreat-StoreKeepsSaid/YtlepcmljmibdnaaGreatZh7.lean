/- Parts of one proof, joined: La, St, Zk, Zl, Zc, Pw, Kp, Pv, Tu. Conditions: those of each statement. -/
import Derived.Test.YtlepcmljmibdnaaGreatZh6
import Derived.Test.YtlepcmljmibdnaaGreatZhFPStoreRecordsx1
import Derived.Test.YtlepcmljmibdnaaGreatZh3
import Derived.Test.YtlepcmljmibdnaaGreatZh5
namespace Go.Proofs.YtlepcmljmibdnaaGreat
open Go.RowKit Go.Proofs.YtlepcmljmibdnaaGreatW.PrintWords Go.Proofs.YtlepcmljmibdnaaGreatW.PrintLast Go.Proofs.YtlepcmljmibdnaaGreatW.PrintMore PWalOpens
attribute [local go_sem] max2_int min2_int max_two min_two
set_option linter.unusedVariables false
set_option linter.unusedSimpArgs false
attribute [local go_sem] Oper.semAt_some
theorem texts_at {w : World} {A : Option Addr} {n : Nat} {xs : List (List Int)} (h : Kd.C bytesK w A n xs) (i : Nat) (h1 : i < n) : ∃ ad A0 c0, A = some ad ∧ w.cell? (ad.add i) = some (.slice A0 (xs.getD i []).length c0) ∧ (xs.getD i []).length ≤ c0 ∧ (Kd.int .u8).C w A0 (xs.getD i []).length (xs.getD i []) := by
  obtain ⟨ad, c, e, _, hK, hc0⟩ := Kd.C_get h ([] : List Int) (i : Int) (by omega) (by omega)
  have hc : ∀ j u, c[j]? = some u → w.cell? (ad.add (i * 1 + j)) = some u := hc0
  obtain ⟨A0, c0, rfl, l0, g0⟩ := hK
  exact ⟨ad, A0, c0, e, by have hq := hc 0 _ rfl; rwa [Nat.mul_one, Nat.add_zero] at hq, l0, g0⟩
theorem frameB_bytes {b : List Int} (h : isBytes b) : isBytes (frameB b) := by
  intro x hx
  unfold frameB at hx
  rcases List.mem_cons.1 hx with rfl | hx
  · omega
  · rcases List.mem_append.1 hx with hx | hx
    · exact lenB_bytes h x hx
    · exact be4_bytes _ x hx
theorem add_add (ad : Addr) (k m : Nat) : (ad.add k).add m = ad.add (k + m) := by
  unfold Addr.add
  by_cases hk : k = 0
  · subst hk; simp
  · by_cases hm : m = 0
    · subst hm; simp
    · rw [if_neg hk, if_neg hm, if_neg (by omega), Nat.add_assoc]
theorem C_cut {w : World} {ad : Addr} {xs : List Int} (h : (Kd.int .u8).C w (some ad) xs.length xs) (k m : Nat) (hk : k + m ≤ xs.length) : (Kd.int .u8).C w (some (ad.add k)) ((xs.drop k).take m).length ((xs.drop k).take m) := by
  have hl : ((xs.drop k).take m).length = m := by rw [List.length_take, List.length_drop]; omega
  refine ⟨rfl, by have := h.2.1; omega, fun h0 => ⟨_, rfl, fun j p hj => ?_⟩⟩
  obtain ⟨ad', e, hc⟩ := h.2.2 (by omega)
  cases e
  have hjm : j < m := by have := (List.getElem?_eq_some_iff.1 hj).1; omega
  have hj' : xs[k + j]? = some p := by rw [List.getElem?_take_of_lt hjm, List.getElem?_drop] at hj; exact hj
  obtain ⟨c, h1, h2, h3⟩ := hc (k + j) p hj'
  refine ⟨c, h1, h2, fun i u hu => ?_⟩
  have := h3 i u hu
  rw [add_add]
  rw [show k + (j * (Kd.int .u8).sz + i) = (k + j) * (Kd.int .u8).sz + i from by show k + (j * 1 + i) = (k + j) * 1 + i; omega]
  exact this
theorem frameX_facts {x : List Int} (hb : isBytes x) (h : x.length ≤ 40000) : (7 ≤ (frameX x).length ∧ (frameX x).length ≤ 40007) ∧ isBytes (frameX x) ∧ frameE x = 0 := by
  unfold frameX frameE
  rw [if_neg (by omega), if_neg (by omega)]
  exact ⟨by rw [frameB_len]; omega, frameB_bytes hb, rfl⟩
/-! ### what lay does -/
def needs (R : List (List Int)) : Int := R.foldr (fun b t => needN b + t) 0
def chs (b : List Int) : List (List Int) := (List.range ((b.length + 63) / 64)).map fun i => (b.drop (64 * i)).take 64
def layC (r : Int) : List (List Int) → PD → Int → PD × Int × Int
  | [], D, s => (D, s, 0)
  | c :: cs, D, s => if (writeP D (sectP r s) c).2 ≠ 0 then ((writeP D (sectP r s) c).1, s, (writeP D (sectP r s) c).2) else layC r cs (writeP D (sectP r s) c).1 (s + 1)
def layR (r : Int) : List (List Int) → PD → Int → List Int → PD × List Int × Int × Int
  | [], D, s, st => (D, st, s, 0)
  | b :: bs, D, s, st => if (layC r (chs (frameX b)) D s).2.2 ≠ 0 then ((layC r (chs (frameX b)) D s).1, [], 0, (layC r (chs (frameX b)) D s).2.2) else layR r bs (layC r (chs (frameX b)) D s).1 (layC r (chs (frameX b)) D s).2.1 (st ++ [s])
def layP (D : PD) (r f tail : Int) (R : List (List Int)) : PD × List Int × Int × Int := if f < needs R then (D, [], 0, 51) else layR r R D tail []
theorem actP_n (D : PD) : (actP D).1.n = D.n := by
  unfold actP
  dsimp only
  split
  · rfl
  · split <;> rfl
theorem chs_fin (b : List Int) : chs b = (List.finRange ((b.length + 63) / 64)).map fun k => (b.drop (64 * k.val)).take 64 := by
  unfold chs
  refine List.ext_getElem (by simp) fun i h1 h2 => ?_
  simp
theorem writeP_ring (D : PD) (a : Int) (b : List Int) : ringP (writeP D a b).1 = ringP D := by
  unfold writeP ringP
  split
  · rfl
  · split
    · rfl
    · split
      · rfl
      · split
        · rw [actP_n]
        · show max ((actP D).1.n - 2) 0 = _
          rw [actP_n]
theorem layC_ring (r : Int) : ∀ (l : List (List Int)) (D : PD) (s : Int), ringP (layC r l D s).1 = ringP D
  | [], D, s => rfl
  | c :: cs, D, s => by
    unfold layC
    split
    · exact writeP_ring _ _ _
    · rw [layC_ring r cs, writeP_ring]
theorem q5_ : ∀ q, q ∈ 5 :: (Kd.int .u8).E → q = 5 := by
  intro q hq
  rw [show 5 :: (Kd.int .u8).E = [5] from rfl] at hq
  simpa using hq
theorem layC_app (r : Int) : ∀ (l l' : List (List Int)) (D : PD) (s : Int), layC r (l ++ l') D s = if (layC r l D s).2.2 ≠ 0 then layC r l D s else layC r l' (layC r l D s).1 (layC r l D s).2.1
  | [], l', D, s => by simp [layC]
  | c :: cs, l', D, s => by
    have h1 : ∀ X : List (List Int), layC r (c :: X) D s = if (writeP D (sectP r s) c).2 ≠ 0 then ((writeP D (sectP r s) c).1, s, (writeP D (sectP r s) c).2) else layC r X (writeP D (sectP r s) c).1 (s + 1) := fun _ => rfl
    rw [List.cons_append, h1, h1]
    by_cases h : (writeP D (sectP r s) c).2 = 0
    · have hn : ¬ ((writeP D (sectP r s) c).2 ≠ 0) := fun e => e h
      simp only [if_neg hn]
      exact layC_app r cs l' _ _
    · simp only [if_pos (show (writeP D (sectP r s) c).2 ≠ 0 from h)]
theorem needs_app (l l' : List (List Int)) : needs (l ++ l') = needs l + needs l' := by
  induction l with
  | nil => simp [needs]
  | cons a t ih => simp only [needs, List.cons_append, List.foldr_cons] at *; omega
theorem needs_take {R : List (List Int)} {i : Nat} (h : i < R.length) : needs (R.take (i + 1)) = needs (R.take i) + needN (R.getD i []) := by
  rw [List.take_succ_eq_append_getElem h, needs_app]
  simp [needs, h]
theorem needs_le {R : List (List Int)} (h : ∀ b ∈ R, b.length ≤ 40000) : 0 ≤ needs R ∧ needs R ≤ 700 * R.length := by
  induction R with
  | nil => simp [needs]
  | cons a t ih =>
    have h1 := ih fun b hb => h b (List.mem_cons_of_mem _ hb)
    have h2 := h a (List.mem_cons_self ..)
    have h3 : 0 ≤ needN a ∧ needN a ≤ 700 := by unfold needN; rw [if_neg (by omega)]; omega
    simp only [needs, List.foldr_cons, List.length_cons] at *
    omega
theorem needs_pos {R : List (List Int)} (h : ∀ b ∈ R, b.length ≤ 40000) (h0 : 0 < R.length) : 1 ≤ needs R := by
  cases R with
  | nil => simp at h0
  | cons a t =>
    have h1 := (needs_le (R := t) fun b hb => h b (List.mem_cons_of_mem _ hb)).1
    have h2 := h a (List.mem_cons_self ..)
    have h3 : 1 ≤ needN a := by unfold needN; rw [if_neg (by omega)]; omega
    simp only [needs, List.foldr_cons] at *
    omega
structure RecsOK (R : List (List Int)) : Prop where
  len : R.length ≤ 6
  each : ∀ b ∈ R, isBytes b ∧ b.length ≤ 40000
theorem RecsOK.getD {R : List (List Int)} (h : RecsOK R) (i : Nat) : isBytes (R.getD i []) ∧ (R.getD i []).length ≤ 40000 := by
  rw [List.getD_eq_getElem?_getD]
  cases hi : R[i]? with
  | none => exact ⟨fun x hx => (by cases hx), by simp⟩
  | some b => exact h.each b (List.mem_of_getElem? hi)
def LayQ (w : World) (B M Bd : Nat) (vc : Value) (res : PD × List Int × Int × Int) (e : Ending) (w' : World) : Prop :=
  ∃ v, e = .returned (.tuple #[v, .int .u64 res.2.2.1, .int .i64 res.2.2.2]) ∧ Kd.R (Kd.int .u64) 52 w' w.heap.size (fun _ => True) v res.2.1 ∧ ∃ vc', At w (FP B M Bd vc) w' B M Bd vc' res.1
section
variable {w W W' : World} {Wb B M Bd : Nat} {vc vs : Value} {D D' : PD} {gen head tail : Int} {over : Bool}
theorem DK.grown_ {base : Nat} {row : Option Nat} (h : DK W base B M Bd vc D) (hg : W.grownBy W' row) (hr : ∀ r, row = some r → r ≠ M ∧ r ≠ Bd ∧ ∃ o : Obj, W.heap[r]? = some o ∧ o.isCells = false) : DK W' base B M Bd vc D := by
  have hblk : ∀ k o, W.heap[k]? = some o → some k ≠ row → W'.heap[k]? = some o := fun k o ho hk => (hg.block k (Array.getElem?_eq_some_iff.1 ho).1 hk).trans ho
  have hcl : ∀ k (cs : Array Value) t f, W.heap[k]? = some (Obj.cells cs t f) → W'.heap[k]? = some (Obj.cells cs t f) := fun k cs t f ho => hblk k _ ho fun e => by
    obtain ⟨_, _, o, ho', hc⟩ := hr k e.symm
    rw [ho] at ho'
    cases ho'
    cases hc
  obtain ⟨e1, c1, hk1, hr1⟩ := h.kept
  obtain ⟨e2, c2, hk2, hr2⟩ := h.bad
  refine ⟨hcl B _ _ _ h.blk, ⟨e1, c1, hblk M _ hk1 (fun e => (hr M e.symm).1 rfl), hr1⟩, ⟨e2, c2, hblk Bd _ hk2 (fun e => (hr Bd e.symm).2.1 rfl), hr2⟩, ?_, h.hB, h.hM, h.hBd, h.hne, h.sec, h.hn, h.hl⟩
  exact Kd.R_mono (Kd.R_move (Kd.R_bound h.cache) (fun k hk => by
    obtain ⟨_, _, _, q, hq, cells, hce⟩ := hk
    rw [hce]
    exact hcl k _ _ _ hce)) (fun _ hk => hk.1)
theorem At.other {T : Nat → Obj → Prop} {F : Nat → Prop} (h : At w F W B M Bd vc D) (hk : TC w.heap.size T W W') (ht : ∀ k o, isDisk M Bd k o → ¬ T k o) : At w F W' B M Bd vc D :=
  ⟨h.dk.tkeep hk ht, ⟨hk.low.os.trans h.chg.os, hk.low.tape.trans h.chg.tape, hk.low.output.trans h.chg.output, Nat.le_trans h.chg.size hk.low.size, fun k hk' hn => (hk.low.block k hk').trans (h.chg.block k hk' hn)⟩, h.fp⟩
theorem at_own {F : Nat → Prop} {row : Option Nat} (h : At w F W B M Bd vc D) (hMB : M < w.heap.size ∧ Bd < w.heap.size) (hg : W.grownBy W' row) (hr : ∀ r, row = some r → w.heap.size ≤ r ∧ ∃ o : Obj, W.heap[r]? = some o ∧ o.isCells = false) : At w F W' B M Bd vc D :=
  ⟨h.dk.grown_ hg (fun r e => ⟨by have := (hr r e).1; omega, by have := (hr r e).1; omega, (hr r e).2⟩), ⟨hg.os.trans h.chg.os, hg.tape.trans h.chg.tape, hg.output.trans h.chg.output, Nat.le_trans h.chg.size hg.size, fun k hk hn => (hg.block k (Nat.lt_of_lt_of_le hk h.chg.size) (fun e => by have := (hr k e.symm).1; omega)).trans (h.chg.block k hk hn)⟩, h.fp⟩
theorem At.setNew {F : Nat → Prop} {b t : Nat} {cs : Array Value} (h : At w F W B M Bd vc D) (hb : w.heap.size ≤ b) (hc : W.heap[b]? = some (.cells cs t (0, 0))) (ht : t ≠ 90 ∧ t ≠ 124) (v : Value) : At w F (W.setCell ⟨b, 0, none⟩ v) B M Bd vc D :=
  h.other (TC.set (T := isT t) hc rfl hb v) (isT_disk ht)
/-- lay's own boxes -/
structure LB (w W : World) (Wb b0 : Nat) (r4 r5 r6 : Value) : Prop where
  t2 : W.heap[b0]? = some (.cells #[.pointer (some ⟨Wb, 0, none⟩)] 31 (0, 0))
  t4 : W.heap[b0 + 1]? = some (.cells #[r4] 98 (0, 0))
  t5 : W.heap[b0 + 2]? = some (.cells #[r5] 52 (0, 0))
  t6 : W.heap[b0 + 3]? = some (.cells #[r6] 28 (0, 0))
def Keep (n : Nat) (W W' : World) : Prop := ∀ (k : Nat) (cs : Array Value) (t : Nat), n ≤ k → W.heap[k]? = some (.cells cs t (0, 0)) → t ≠ 90 → t ≠ 124 → W'.heap[k]? = some (.cells cs t (0, 0))
variable {b0 bt : Nat} {r4 r5 r6 : Value} {n : Nat}
theorem LB.keep (h : LB w W Wb b0 r4 r5 r6) (hk : Keep b0 W W') : LB w W' Wb b0 r4 r5 r6 :=
  ⟨hk _ _ _ (by omega) h.t2 (by decide) (by decide), hk _ _ _ (by omega) h.t4 (by decide) (by decide), hk _ _ _ (by omega) h.t5 (by decide) (by decide), hk _ _ _ (by omega) h.t6 (by decide) (by decide)⟩
theorem Keep.of_below (hb : Below W.heap.size W W') : Keep n W W' := fun k cs t _ h _ _ => (hb.block k (Array.getElem?_eq_some_iff.1 h).1).trans h
theorem Keep.of_grown {row : Option Nat} (hg : W.grownBy W' row) (hr : ∀ r, row = some r → ∃ o : Obj, W.heap[r]? = some o ∧ o.isCells = false) : Keep n W W' := fun k cs t _ h _ _ => (hg.block k (Array.getElem?_eq_some_iff.1 h).1 (fun e => by
  obtain ⟨o, ho, hc⟩ := hr k e.symm
  rw [h] at ho
  cases ho
  cases hc)).trans h
theorem Keep.R {α : Type} {d : Kd α} {e base : Nat} {ok : Nat → Prop} {v : Value} {xs : List α} (hk : Keep base W W') (h : d.R e W base ok v xs) (ht : ∀ q, q ∈ e :: d.E → q ≠ 90 ∧ q ≠ 124) : d.R e W' base ok v xs :=
  Kd.R_mono (Kd.R_move (Kd.R_bound h) (fun k hk' => by
    obtain ⟨_, h1, _, q, hq, cells, hce⟩ := hk'
    rw [hce]
    exact hk k _ _ h1 hce (ht q hq).1 (ht q hq).2)) (fun _ hk => hk.1)
theorem LB.set (h : LB w W Wb b0 r4 r5 r6) (ht : b0 + 4 ≤ bt) (v : Value) : LB w (W.setCell ⟨bt, 0, none⟩ v) Wb b0 r4 r5 r6 :=
  ⟨(Below.heap_setCell W _ v b0 (by simp; omega)).trans h.t2, (Below.heap_setCell W _ v (b0 + 1) (by simp; omega)).trans h.t4, (Below.heap_setCell W _ v (b0 + 2) (by simp; omega)).trans h.t5, (Below.heap_setCell W _ v (b0 + 3) (by simp; omega)).trans h.t6⟩
theorem LB.set4 (h : LB w W Wb b0 r4 r5 r6) (v : Value) : LB w (W.setCell ⟨b0 + 1, 0, none⟩ v) Wb b0 v r5 r6 :=
  ⟨(Below.heap_setCell W _ v b0 (by simp)).trans h.t2, one_setCell h.t4, (Below.heap_setCell W _ v (b0 + 2) (by simp)).trans h.t5, (Below.heap_setCell W _ v (b0 + 3) (by simp)).trans h.t6⟩
theorem LB.set5 (h : LB w W Wb b0 r4 r5 r6) (v : Value) : LB w (W.setCell ⟨b0 + 2, 0, none⟩ v) Wb b0 r4 v r6 :=
  ⟨(Below.heap_setCell W _ v b0 (by simp)).trans h.t2, (Below.heap_setCell W _ v (b0 + 1) (by simp)).trans h.t4, one_setCell h.t5, (Below.heap_setCell W _ v (b0 + 3) (by simp)).trans h.t6⟩
theorem LB.set6 (h : LB w W Wb b0 r4 r5 r6) (v : Value) : LB w (W.setCell ⟨b0 + 3, 0, none⟩ v) Wb b0 r4 r5 v :=
  ⟨(Below.heap_setCell W _ v b0 (by simp)).trans h.t2, (Below.heap_setCell W _ v (b0 + 1) (by simp)).trans h.t4, (Below.heap_setCell W _ v (b0 + 2) (by simp)).trans h.t5, one_setCell h.t6⟩
theorem box4 (w : World) (Wb : Nat) (r4 r5 r6 : Value) : LB w ((((w.alloc (.cells #[.pointer (some ⟨Wb, 0, none⟩)] 31)).alloc (.cells #[r4] 98)).alloc (.cells #[r5] 52)).alloc (.cells #[r6] 28)) Wb w.heap.size r4 r5 r6 := by
  refine ⟨?_, ?_, ?_, ?_⟩
  · rw [Below.heap_alloc _ _ _ (by simp; omega), Below.heap_alloc _ _ _ (by simp; omega), Below.heap_alloc _ _ _ (by simp)]
    exact heap_alloc_new w _
  · rw [Below.heap_alloc _ _ _ (by simp <;> omega), Below.heap_alloc _ _ _ (by simp <;> omega)]
    have := heap_alloc_new (w.alloc (.cells #[.pointer (some ⟨Wb, 0, none⟩)] 31)) (.cells #[r4] 98)
    rwa [World.size_alloc] at this
  · rw [Below.heap_alloc _ _ _ (by simp)]
    have := heap_alloc_new ((w.alloc (.cells #[.pointer (some ⟨Wb, 0, none⟩)] 31)).alloc (.cells #[r4] 98)) (.cells #[r5] 52)
    rwa [World.size_alloc, World.size_alloc] at this
  · have := heap_alloc_new (((w.alloc (.cells #[.pointer (some ⟨Wb, 0, none⟩)] 31)).alloc (.cells #[r4] 98)).alloc (.cells #[r5] 52)) (.cells #[r6] 28)
    rwa [World.size_alloc, World.size_alloc, World.size_alloc] at this
theorem box_frozen {w : World} {b : Nat} {v : Value} {t : Nat} (h : w.heap[b]? = some (.cells #[v] t)) : w.frozen? ⟨b, 0, none⟩ = false := by
  unfold World.frozen?
  simp [h]
def KeepAt (b : Nat) (w w' : World) : Prop := w'.heap[b]? = w.heap[b]?
theorem keepRel (b : Nat) : Fork.Rel (KeepAt b) := ⟨fun _ => rfl, fun h k => k.trans h⟩
theorem keepAt_set {b : Nat} {a : Addr} (W : World) (u : Value) (h : b ≠ a.block) : KeepAt b W (W.setCell a u) := Below.heap_setCell W a u b h
theorem mark_set {l b t : Nat} {cs : Array Value} {x : Option (List Deferred)} (h : W.heap[l]? = some (.deferred x)) (hb : W.heap[b]? = some (.cells cs t (0, 0))) (v : Value) : (W.setCell ⟨b, 0, none⟩ v).heap[l]? = some (.deferred x) :=
  (Below.heap_setCell W _ v l (fun e => by
    rw [show l = b from e, hb] at h
    cases h)).trans h
theorem Keep.set {b : Nat} (hb : b < n) (v : Value) : Keep n W (W.setCell ⟨b, 0, none⟩ v) := fun k cs t hk h _ _ => (Below.heap_setCell W _ v k (by simp; omega)).trans h
theorem Keep.trans {W2 : World} (h : Keep n W W') (k : Keep n W' W2) : Keep n W W2 := fun j cs t hj e h1 h2 => k j cs t hj (h j cs t hj e h1 h2) h1 h2
theorem Keep.drew : Keep n W W.drew := fun k cs t _ h _ _ => h
theorem r56 : ∀ q, q ∈ 52 :: (Kd.int .u64).E → q ≠ 90 ∧ q ≠ 124 := by
  intro q hq
  rw [show 52 :: (Kd.int .u64).E = [52] from rfl] at hq
  simp only [List.mem_singleton] at hq
  subst hq
  decide
theorem cell_old {a : Addr} (h : ∃ v, w.cell? a = some v) : a.block < w.heap.size := by
  obtain ⟨v, h⟩ := h
  unfold World.cell? at h
  apply Decidable.byContradiction
  intro hn
  rw [Array.getElem?_eq_none (by omega)] at h
  simp at h
theorem keeps_drew {n : Nat} (h : KeepsFrom n W.drew W') : KeepsFrom n W W' := ⟨h.size, h.same⟩
theorem keeps_disk {base n : Nat} {vcW vcN : Value} (hd : DK W base B M Bd vcW D) (hn : At W (FP B M Bd vcW) W' B M Bd vcN D') (hMB : M < n ∧ Bd < n) : KeepsFrom n W W' :=
  ⟨hn.chg.size, fun k o hk ho hc => (hn.chg.block k (Array.getElem?_eq_some_iff.1 ho).1 (fun hF => by
    rcases hF with rfl | rfl | rfl | hF
    · rw [hd.blk] at ho; cases ho; cases hc
    · omega
    · omega
    · obtain ⟨inner, ho'⟩ := Kd.R_own hd.cache
      obtain ⟨cells, hcl⟩ := own_typed ho' k hF.symm
      rw [hcl] at ho; cases ho; cases hc)).trans ho⟩
/-- between two records -/
structure LS (w W : World) (Wb B M Bd : Nat) (vc : Value) (bt : Nat) (R : List (List Int)) (r tail : Int) (res : PD × List Int × Int × Int) (i : Nat) (v11 : Value) (Ls : List Nat) (D1 : PD) (s : Int) (st : List Int) : Prop where
  hi : i ≤ R.length
  box : LB w W Wb w.heap.size (.slice none 0 0) (.int .u64 0) (.int .i64 0)
  t12 : W.heap[bt]? = some (.cells #[.int .u64 s] 52 (0, 0))
  at_ : ∃ vc', At w (FP B M Bd vc) W B M Bd vc' D1
  st_ : Kd.R (Kd.int .u64) 52 W (bt + 1) (fun _ => True) v11 st
  nodup : Ls.Nodup
  marks : ∀ l ∈ Ls, w.heap.size ≤ l ∧ W.heap[l]? = some (.deferred (some []))
  run : layR r (R.drop i) D1 s st = res
  cache : D1.cache.length ≤ 30000 + 700 * i
  s_ : tail ≤ s ∧ s ≤ tail + 700 * i
  len : st.length = i
  ring : ringP D1 = r
/-- lay's memory -/
structure LM (w W : World) (Wb B M Bd : Nat) (vc : Value) (bt : Nat) (v11 : Value) (Ls : List Nat) (D1 : PD) (s : Int) (st : List Int) : Prop where
  box : LB w W Wb w.heap.size (.slice none 0 0) (.int .u64 0) (.int .i64 0)
  t12 : W.heap[bt]? = some (.cells #[.int .u64 s] 52 (0, 0))
  at_ : ∃ vc', At w (FP B M Bd vc) W B M Bd vc' D1
  st_ : Kd.R (Kd.int .u64) 52 W (bt + 1) (fun _ => True) v11 st
  marks : ∀ l ∈ Ls, w.heap.size ≤ l ∧ W.heap[l]? = some (.deferred (some []))
theorem LM.tc {v11 : Value} {Ls : List Nat} {s : Int} {st : List Int} {base : Nat} {T : Nat → Obj → Prop} (h : LM w W Wb B M Bd vc bt v11 Ls D s st) (hc : TC base T W W') (h2 : ∀ q, q = 31 ∨ q = 98 ∨ q = 52 ∨ q = 28 → ∀ k cells, ¬ T k (.cells cells q (0, 0))) (h3 : ∀ k x, ¬ T k (.deferred x)) (ha : ∃ vc', At w (FP B M Bd vc) W' B M Bd vc' D') :
    LM w W' Wb B M Bd vc bt v11 Ls D' s st :=
  ⟨⟨hc.blk _ _ h.box.t2 (h2 _ (by simp) _ _), hc.blk _ _ h.box.t4 (h2 _ (by simp) _ _), hc.blk _ _ h.box.t5 (h2 _ (by simp) _ _), hc.blk _ _ h.box.t6 (h2 _ (by simp) _ _)⟩, hc.blk _ _ h.t12 (h2 _ (by simp) _ _), ha,
    R_tc h.st_ hc (fun q hq _ cells => by obtain rfl := q56 q hq; exact h2 _ (by simp) _ _), fun l hl => ⟨(h.marks l hl).1, hc.blk _ _ (h.marks l hl).2 (h3 _ _)⟩⟩
theorem LM.below {v11 : Value} {Ls : List Nat} {s : Int} {st : List Int} (h : LM w W Wb B M Bd vc bt v11 Ls D s st) (hb : Below W.heap.size W W') : LM w W' Wb B M Bd vc bt v11 Ls D s st :=
  h.tc (T := fun _ _ => False) (.of_below hb (Nat.le_refl _)) (fun _ _ _ _ h => h) (fun _ _ h => h) (h.at_.imp fun vc' ha => ha.grow (.of_below hb))
theorem LM.disk {v11 vcW vcN : Value} {Ls : List Nat} {s : Int} {st : List Int} (h : LM w W Wb B M Bd vc bt v11 Ls D s st) (ha : At w (FP B M Bd vc) W B M Bd vcW D) (hn : At W (FP B M Bd vcW) W' B M Bd vcN D') : LM w W' Wb B M Bd vc bt v11 Ls D' s st :=
  h.tc (ha.dk.tc hn.chg) (fun q hq _ cells ht => by
    simp only [isDisk] at ht
    rcases hq with h | h | h | h <;> simp [h] at ht) (fun _ _ h => h) ⟨vcN, ha.then_ hn⟩
theorem LM.turn {v11 v6 : Value} {Ls : List Nat} {s : Int} {st st' : List Int} (h : LM w W Wb B M Bd vc bt v11 Ls D s st) (hbt : w.heap.size + 4 ≤ bt) (hg : W.grownBy W' v11.ownBlock) (ho : Kd.R (Kd.int .u64) 52 W' (bt + 1) (fun _ => True) v6 st') : LM w W' Wb B M Bd vc bt v6 Ls D s st' := by
  have hlt : bt < W.heap.size := (Array.getElem?_eq_some_iff.1 h.t12).1
  have hc : TC (bt + 1) (isT 52) W W' := TC.grown hg (fun k hk => by
    obtain ⟨h1, cells, h2⟩ := own_cells h.st_ k hk
    exact ⟨h1, _, h2, rfl⟩) hlt
  have hbl : ∀ k, k < bt + 1 → W'.heap[k]? = W.heap[k]? := fun k hk => hc.low.block k hk
  exact ⟨⟨(hbl _ (by omega)).trans h.box.t2, (hbl _ (by omega)).trans h.box.t4, (hbl _ (by omega)).trans h.box.t5, (hbl _ (by omega)).trans h.box.t6⟩, (hbl _ (by omega)).trans h.t12,
    h.at_.imp fun vc' ha => ha.other (hc.lower (by omega)) (isT_disk (by decide)), ho, fun l hl => ⟨(h.marks l hl).1, hc.blk _ _ (h.marks l hl).2 (fun e => e)⟩⟩
theorem LM.own {v11 : Value} {Ls : List Nat} {s : Int} {st : List Int} {row : Option Nat} (h : LM w W Wb B M Bd vc bt v11 Ls D s st) (hMB : M < w.heap.size ∧ Bd < w.heap.size) (hg : W.grownBy W' row) (hr : ∀ r, row = some r → w.heap.size ≤ r ∧ r ∉ Ls ∧ ∃ o : Obj, W.heap[r]? = some o ∧ o.isCells = false) : LM w W' Wb B M Bd vc bt v11 Ls D s st :=
  ⟨h.box.keep (.of_grown hg fun r e => (hr r e).2.2), Keep.of_grown hg (fun r e => (hr r e).2.2) bt _ _ (Nat.le_refl bt) h.t12 (by decide) (by decide), h.at_.imp fun vc' ha => at_own ha hMB hg (fun r e => ⟨(hr r e).1, (hr r e).2.2⟩),
    (Keep.of_grown hg fun r e => (hr r e).2.2).R h.st_ r56, fun l hl => ⟨(h.marks l hl).1, (hg.block l (Array.getElem?_eq_some_iff.1 (h.marks l hl).2).1 (fun e => (hr l e.symm).2.1 hl)).trans (h.marks l hl).2⟩⟩
theorem LM.set12 {v11 : Value} {Ls : List Nat} {s s' : Int} {st : List Int} (h : LM w W Wb B M Bd vc bt v11 Ls D s st) (hbt : w.heap.size + 4 ≤ bt) : LM w (W.setCell ⟨bt, 0, none⟩ (.int .u64 s')) Wb B M Bd vc bt v11 Ls D s' st :=
  ⟨h.box.set hbt _, one_setCell h.t12, h.at_.imp fun vc' ha => ha.setNew (by omega) h.t12 (by decide) _, (Keep.set (by omega) _).R h.st_ r56, fun l hl => ⟨(h.marks l hl).1, mark_set (h.marks l hl).2 h.t12 _⟩⟩
theorem LS.mem {v11 : Value} {Ls : List Nat} {s r : Int} {st : List Int} {R : List (List Int)} {res : PD × List Int × Int × Int} {i : Nat} (h : LS w W Wb B M Bd vc bt R r tail res i v11 Ls D s st) : LM w W Wb B M Bd vc bt v11 Ls D s st := ⟨h.box, h.t12, h.at_, h.st_, h.marks⟩
theorem layR_drop {r : Int} {R : List (List Int)} {i : Nat} (h : i < R.length) (D : PD) (s : Int) (st : List Int) :
    layR r (R.drop i) D s st = if (layC r (chs (frameX (R.getD i []))) D s).2.2 ≠ 0 then ((layC r (chs (frameX (R.getD i []))) D s).1, [], 0, (layC r (chs (frameX (R.getD i []))) D s).2.2) else layR r (R.drop (i + 1)) (layC r (chs (frameX (R.getD i []))) D s).1 (layC r (chs (frameX (R.getD i []))) D s).2.1 (st ++ [s]) := by
  rw [List.drop_eq_getElem_cons h]
  have : R.getD i [] = R[i] := by simp [h]
  rw [this]
  rfl
theorem text_at6 {w6 : World} {R : List (List Int)} {v6 v11 : Value} {Ls : List Nat} {s : Int} {st st' x : List Int} {i c9 : Nat} {ad : Addr} {A9 : Option Addr} (hT : ∀ W, Chg w W (FP B M Bd vc) → bytesK.C W (some ad) R.length R) (hm : LM w w6 Wb B M Bd vc bt v6 Ls D s st') (hi : i < R.length) (hx : R.getD i [] = x)
    (hg : W.grownBy w6 v11.ownBlock) (hst : Kd.R (Kd.int .u64) 52 W (bt + 1) (fun _ => True) v11 st) (had : (ad.add i).block < w.heap.size) (hc : W.cell? (ad.add i) = some (.slice A9 x.length c9)) (hbt : w.heap.size ≤ bt) : (Kd.int .u8).C w6 A9 x.length x := by
  obtain ⟨vc', ha⟩ := hm.at_
  obtain ⟨ad', A', c', e, h, _, hC⟩ := texts_at (hT w6 ha.chg) i hi
  cases e
  rw [hx] at h hC
  have hlt := cell_old ⟨_, hc⟩
  have hb : w6.heap[(ad.add i).block]? = W.heap[(ad.add i).block]? := hg.block _ hlt (fun e => by
    obtain ⟨h1, _⟩ := own_cells hst _ e
    omega)
  have hc' : w6.cell? (ad.add i) = W.cell? (ad.add i) := by unfold World.cell?; rw [hb]
  rw [hc', hc] at h
  cases h
  exact hC
def lmark (D : Nat) : Deferred := { target := .collected D, args := #[] }
theorem rangeFunc_cut {α : Type} {n p q : Nat} {g : Operand} {tmps : Array Value} {ds : List Deferred} {assign body : Code} {Q : Exit → Act → World → Prop} {w : World}
    (h1 : 1 ≤ n) {gf : Nat} {lb : Array Value} (hg : ({ tmps := tmps, defers := ds } : Act).eval g = .func (.func gf) #[] lb) (eg : ∀ args w, (callFunc gf args).run Tryz.prog w = .ok (.enter gf args) w)
    {v : α → Value} {Kp : World → World → Prop} {S Sp : List α → Prop} {N : Nat} (hseq : SeqStopsK Fence.wide (n - 1) Tryz.prog gf lb (fun x => #[v x]) Kp S Sp N w)
    (hKt : ∀ {A B C : World}, Kp A B → Kp B C → Kp A C) (hKb : ∀ (W : World) (l : Nat) (o o' : Obj), w.heap.size ≤ l → W.heap[l]? = some o → o.isCells = false → o.isWalk = false → Kp W (W.putObj l o'))
    (I : List α → World → Prop) (Ix : Code → List α → World → Prop) (hI : OwnFrom w.heap.size I) (hIx : ∀ c, OwnFrom w.heap.size (Ix c)) (h0 : I [] w)
    (hassign : ∀ (l : Nat) (x : α) (W : World) (K : Act → World → Prop), K { tmps := (tmps.setIfInBounds p (v x)).setIfInBounds q (v x), defers := [] } W → assign.wpIn (Fence.wide.inRound l) (n - 1 - 1) Tryz.prog (Exit.then K (fun _ _ _ => False)) { tmps := (#[p].zip #[v x]).foldl (fun t (p, v) => t.setIfInBounds p v) tmps, defers := [] } W)
    (hbody : ∀ (l : Nat) (pre : List α) (x : α) (W : World), I pre W → pre.length < N → body.wpIn (Fence.wide.inRound l) (n - 1 - 1) Tryz.prog (ownPostG w.heap.size Kp I Ix (pre ++ [x]) W) { tmps := (tmps.setIfInBounds p (v x)).setIfInBounds q (v x), defers := [] } W)
    (hdone : ∀ (D : Nat) (xs : List α) (W : World), w.heap.size ≤ D → S xs → I xs W → W.heap[D]? = some (.deferred (some [])) → Q .normal { tmps := tmps, defers := lmark D :: ds } W)
    (hstop : ∀ (D : Nat) (c : Code) (pre : List α) (W : World), w.heap.size ≤ D → Sp pre → Ix c pre W → W.heap[D]? = some (.deferred (some [])) → c.wp Tryz.prog Q { tmps := tmps, defers := lmark D :: ds } W) :
    (Code.rangeFunc g #[p] assign body).wp Tryz.prog Q { tmps := tmps, defers := ds } w := by
  exact (wpIn_wide (n := n)).1 (wpIn_rangeFunc_ownG rfl h1 hg trivial eg hseq hKt hKb (Below.refl _ _) (fun _ => rfl) I Ix hI hIx h0 (fun x => { tmps := (tmps.setIfInBounds p (v x)).setIfInBounds q (v x), defers := [] }) hassign hbody hdone (fun D c pre W h1 h2 h3 h4 => wpIn_wide.2 (hstop D c pre W h1 h2 h3 h4)))
theorem lay_results (tmps : Array Value) (b4 b5 b6 : Nat) (v4 v5 v6 : Value) (h4 : tmps.getD 4 undef = .pointer (some ⟨b4, 0, none⟩)) (h5 : tmps.getD 5 undef = .pointer (some ⟨b5, 0, none⟩)) (h6 : tmps.getD 6 undef = .pointer (some ⟨b6, 0, none⟩))
    (c4 : W.cell? ⟨b4, 0, none⟩ = some v4) (c5 : W.cell? ⟨b5, 0, none⟩ = some v5) (c6 : W.cell? ⟨b6, 0, none⟩ = some v6) : (results Tryz.f55 tmps).run Tryz.prog W = .ok (.tuple #[v4, v5, v6]) W := by
  unfold results
  rw [show Tryz.f55.results = #[.cell 4 98, .cell 5 52, .cell 6 28] from rfl]
  rw [show tmps.getD 4 undef = tmps[4]?.getD undef from by simp] at h4
  rw [show tmps.getD 5 undef = tmps[5]?.getD undef from by simp] at h5
  rw [show tmps.getD 6 undef = tmps[6]?.getD undef from by simp] at h6
  simp [go_sem, h4, h5, h6, c4, c5, c6]
/-- lay's last world, marks shut or not -/
structure LF (w : World) (Wb B M Bd : Nat) (vc : Value) (res : PD × List Int × Int × Int) (v4 : Value) (W : World) : Prop where
  box : LB w W Wb w.heap.size v4 (.int .u64 res.2.2.1) (.int .i64 res.2.2.2)
  at_ : ∃ vc', At w (FP B M Bd vc) W B M Bd vc' res.1
  st : Kd.R (Kd.int .u64) 52 W w.heap.size (fun _ => True) v4 res.2.1
theorem LF.q {tmps : Array Value} {res : PD × List Int × Int × Int} {v4 : Value} (h : LF w Wb B M Bd vc res v4 W) (h4 : tmps.getD 4 undef = .pointer (some ⟨w.heap.size + 1, 0, none⟩)) (h5 : tmps.getD 5 undef = .pointer (some ⟨w.heap.size + 2, 0, none⟩)) (h6 : tmps.getD 6 undef = .pointer (some ⟨w.heap.size + 3, 0, none⟩)) :
    ∃ v, (results Tryz.f55 tmps).run Tryz.prog W = .ok v W ∧ LayQ w B M Bd vc res (.returned v) W :=
  ⟨_, lay_results tmps _ _ _ _ _ _ h4 h5 h6 (box_cell h.box.t4) (box_cell h.box.t5) (box_cell h.box.t6), v4, rfl, h.st, h.at_⟩
theorem LF.own {res : PD × List Int × Int × Int} {v4 : Value} {row : Option Nat} (h : LF w Wb B M Bd vc res v4 W) (hMB : M < w.heap.size ∧ Bd < w.heap.size) (hg : W.grownBy W' row) (hr : ∀ r, row = some r → w.heap.size ≤ r ∧ ∃ o : Obj, W.heap[r]? = some o ∧ o.isCells = false) : LF w Wb B M Bd vc res v4 W' := by
  obtain ⟨vc', ha⟩ := h.at_
  have hk : Keep w.heap.size W W' := .of_grown hg fun r e => (hr r e).2
  refine ⟨h.box.keep hk, ⟨vc', at_own ha hMB hg hr⟩, hk.R h.st (fun q hq => ?_)⟩
  rw [show 52 :: (Kd.int .u64).E = [52] from rfl] at hq
  simp only [List.mem_singleton] at hq
  subst hq
  decide
theorem leaves_marks {F : Fence} {n : Nat} {fn : Func} {tmps : Array Value} {R : Ending → World → Prop} (Fin : World → Prop) (hput : ∀ D W, w.heap.size ≤ D → W.heap[D]? = some (.deferred (some [])) → Fin W → Fin (W.putObj D (.deferred none)))
    (hf : ∀ W, Fin W → ∃ v, (results fn tmps).run Tryz.prog W = .ok v W ∧ R (.returned v) W) : ∀ (Ls : List Nat) (W : World), Ls.Nodup → (∀ D ∈ Ls, w.heap.size ≤ D ∧ W.heap[D]? = some (.deferred (some []))) → Fin W →
    LeavesInM F n Tryz.prog fn tmps R (Ls.map lmark) .returning W
  | [], W, _, _, h => hf W h
  | D :: Ls, W, hn, hD, h => by
    have h1 := hD D (List.mem_cons_self ..)
    refine ⟨by simp, .inl ⟨D, _, rfl, run_takeDeferred h1.2, ?_⟩⟩
    refine leaves_marks Fin hput hf Ls _ (List.nodup_cons.1 hn).2 (fun D' hD' => ⟨(hD D' (List.mem_cons_of_mem _ hD')).1, ?_⟩) (hput D W h1.1 h1.2 h)
    have hne : D' ≠ D := fun e => (List.nodup_cons.1 hn).1 (e ▸ hD')
    simp only [World.putObj]
    rw [Array.getElem?_setIfInBounds_ne (by omega)]
    exact (hD D' (List.mem_cons_of_mem _ hD')).2
set_option maxRecDepth 100000 in
set_option maxHeartbeats 4000000 in
theorem lay_calls (A : Option Addr) (c : Nat) (R : List (List Int)) (r f : Int) (res : PD × List Int × Int × Int) (hr : ringP D = r) (hR : RecsOK R) (hf : r - (tail - head) = f) (hres : layP D r f tail R = res)
    (ht : 0 ≤ head ∧ head ≤ tail ∧ tail < 18446744073709540000 ∧ tail - head ≤ 4094) (hl : D.cache.length ≤ 30000) (h : WlC w Wb B gen head tail vs true over) (hW : ¬ FP B M Bd vc Wb) (hd : DK w 0 B M Bd vc D)
    (hT : ∀ W, Chg w W (FP B M Bd vc) → bytesK.C W A R.length R) :
    Calls Tryz.prog 55 #[.pointer (some ⟨Wb, 0, none⟩), .slice A R.length c] w (LayQ w B M Bd vc res) := by
  refine (callsIn_wide (n := 9)).1 ?_
  have HW := Aside0.mk h
  have HA0 := Aside0.mk (At.refl hd)
  have HT := Aside0.mk hT
  have HRES := Aside0.mk hres
  have HRo := Aside0.mk hR
  have hn := needs_le (R := R) (fun b hb => (hR.each b hb).2)
  have HR6 := hR.len
  have HNE := Aside0.mk hn
  obtain ⟨t0, t1, t2, t3⟩ := ht
  have HR1 := Aside0.mk (show R.length ≠ 0 → needs R ≤ f → 1 ≤ r from fun h0 h1 => by
    have h2 := needs_pos (R := R) (fun b hb => (hR.each b hb).2) (by omega)
    omega)
  have HMB := Aside0.mk (show M < w.heap.size ∧ Bd < w.heap.size from ⟨by obtain ⟨_, _, h, _⟩ := hd.kept; exact (Array.getElem?_eq_some_iff.1 h).1, by obtain ⟨_, _, h, _⟩ := hd.bad; exact (Array.getElem?_eq_some_iff.1 h).1⟩)
  clear h hd hT hres hR hn
  refine callsIn_of_wp_marks Tryz.func55 rfl trivial ?_ rfl
  simp only [Tryz.ntmps55, List.size_toArray, List.length_cons, List.length_nil, Nat.reduceAdd, Nat.reduceSub, Array.replicate_succ, Array.replicate_zero, List.push_toArray, List.append_toArray, List.nil_append, List.cons_append]
  refine wpIn_wide.2 ?_
  go_wp2
  obtain ⟨W1, hW1⟩ : ∃ W1, (((w.alloc (.cells #[.pointer (some ⟨Wb, 0, none⟩)] 31)).alloc (.cells #[.slice none 0 0] 98)).alloc (.cells #[.int .u64 0] 52)).alloc (.cells #[.int .i64 0] 28) = W1 := ⟨_, rfl⟩
  rw [hW1, show w.heap.size + 1 + 1 + 1 = w.heap.size + 3 from rfl, show w.heap.size + 1 + 1 = w.heap.size + 2 from rfl]
  have HB1 := Aside0.mk (show Below w.heap.size w W1 from by rw [← hW1]; exact ((((Below.refl w.heap.size w).alloc (Nat.le_refl _) _).alloc (by simp) _).alloc (by simp; omega) _).alloc (by simp; omega) _)
  have HS1 := Aside0.mk (show W1.heap.size = w.heap.size + 4 from by rw [← hW1]; simp)
  have HL1 := Aside0.mk (show LB w W1 Wb w.heap.size (.slice none 0 0) (.int .u64 0) (.int .i64 0) from by rw [← hW1]; exact box4 w _ _ _ _)
  clear hW1
  go_loopw [7, 21] (fun v7 v21 wr => ∃ i : Nat, i ≤ R.length ∧ v21 = .int .i64 (i : Int) ∧ v7 = .int .i64 (needs (R.take i)) ∧ Aside0 (Below W1.heap.size W1 wr)) (fun _ v21 _ => R.length - (intOf v21).toNat)
  case atStart => exact ⟨0, Nat.zero_le _, rfl, rfl, ⟨Below.refl _ _⟩⟩
  case round =>
    obtain ⟨i, hi, rfl, rfl, HB⟩ := hrel
    by_cases hlt : i < R.length
    · have hlt' : decide ((i : Int) < (R.length : Int)) = true := by simp; exact hlt
      have HBw := Aside0.mk (HB1.out.trans (HB.out.mono HB1.out.size))
      obtain ⟨ad, A9, c9, rfl, hc9, hl9, hC9⟩ := texts_at (HT.out wr (.of_below HBw.out)) i hlt
      have HL9 := Aside0.mk hl9
      have HC9 := Aside0.mk hC9
      have hRi := HRo.out.getD i
      obtain ⟨x, hx⟩ : ∃ x, R.getD i [] = x := ⟨_, rfl⟩
      rw [hx] at hc9 HL9 HC9 hRi
      obtain ⟨m, hm⟩ : ∃ m, needN x = m := ⟨_, rfl⟩
      have hmb : 1 ≤ m ∧ m ≤ 700 := by rw [← hm]; unfold needN; rw [if_neg (by omega)]; omega
      have HM := Aside0.mk (show needs (R.take (i + 1)) = needs (R.take i) + m from by rw [needs_take hlt, hx, hm])
      clear hl9 hC9
      have HN5 := Aside0.mk (need_calls wr A9 c9 x m hm hRi.1 (by omega) HL9.out HC9.out)
      have m0 : 1 ≤ m := hmb.1
      have m1 : m ≤ 700 := hmb.2
      have hmn : (m == 0) = false := by simp; omega
      have g0 : 0 ≤ needs (R.take i) := (needs_le (R := R.take i) (fun b hb => (HRo.out.each b (List.mem_of_mem_take hb)).2)).1
      have g1 : needs (R.take i) ≤ 4200 := by have := (needs_le (R := R.take i) (fun b hb => (HRo.out.each b (List.mem_of_mem_take hb)).2)).2; rw [List.length_take] at this; omega
      go_wp2_with (go_at_call 84; (with_reducible refine HN5.out.mono ?_); rintro e w5 ⟨rfl, hb5⟩; have HB5 := Aside0.mk hb5; clear hb5)
      exact ⟨⟨i + 1, hlt, by simp, by rw [HM.out], ⟨HB.out.trans (HB5.out.mono HB.out.size)⟩⟩, by simp [intOf]; omega⟩
    · have hlt' : decide ((i : Int) < (R.length : Int)) = false := by simp; omega
      obtain rfl : i = R.length := by omega
      rw [List.take_length]
      have HBw := Aside0.mk (HB1.out.trans (HB.out.mono HB1.out.size))
      have HLw := Aside0.mk (HL1.out.keep (Keep.of_below HB.out))
      have HAw := Aside0.mk (HA0.out.grow (.of_below HBw.out))
      have x2 := box_cell HLw.out.t2
      have x4 := box_cell HLw.out.t4
      have x5 := box_cell HLw.out.t5
      have x6 := box_cell HLw.out.t6
      have y4 := box_frozen HLw.out.t4
      have y5 := box_frozen HLw.out.t5
      have y6 := box_frozen HLw.out.t6
      have HWw := Aside0.mk (show WlC wr Wb B gen head tail vs true over from (HBw.out.block _ (Array.getElem?_eq_some_iff.1 HW.out).1).trans HW.out)
      obtain ⟨⟨q0, q1, q2, q3, q4, q5, q6⟩, _⟩ := cells7 HWw.out
      clear q0 q1 q2 q4 q5 q6
      have HFR := Aside0.mk (wfree_calls r f hr hf ⟨t0, t1, by omega, t3⟩ HWw.out HAw.out.dk)
      by_cases hfn : f < needs R
      · have hfn' : decide (f < needs R) = true := decide_eq_true hfn
        have HE := Aside0.mk (show res = (D, [], 0, 51) from by rw [← HRES.out]; unfold layP; rw [if_pos hfn])
        go_wp2_with (go_at_call 28; (with_reducible refine HFR.out.mono ?_); rintro e w5 ⟨rfl, rfl⟩)
        have HL6 := HLw.out.keep (W' := wr.drew) (fun k cs t _ h _ _ => h)
        have HL7 := ((HL6.set4 (.slice none 0 0)).set5 (.int .u64 0)).set6 (.int .i64 51)
        refine leaves_marks (w := w) (LF w Wb B M Bd vc (D, [], 0, 51) (.slice none 0 0)) (fun D' W' h1 h2 h3 => h3.own HMB.out (grownBy_putObj' W' D' _) (fun r e => by cases e; exact ⟨h1, _, h2, rfl⟩)) (fun W' h => ?_) [] _ List.nodup_nil (fun _ h => by cases h) ?_
        · rw [HE.out]
          exact h.q rfl rfl rfl
        · have a0 : At w (FP B M Bd vc) wr.drew B M Bd vc D := HAw.out.grow (.of_below (Below.refl _ _).drew)
          exact ⟨HL7, ⟨vc, ((a0.setNew (by omega) HL6.t4 (by decide) _).setNew (by omega) (HL6.set4 _).t5 (by decide) _).setNew (by omega) ((HL6.set4 _).set5 _).t6 (by decide) _⟩, Kd.R_nil _ _ _ _ _⟩
      · have hfn' : decide (f < needs R) = false := decide_eq_false hfn
        go_wp2_with (go_at_call 28; (with_reducible refine HFR.out.mono ?_); rintro e w5 ⟨rfl, rfl⟩)
        have HBT := Aside0.mk (show w.heap.size + 4 ≤ wr.heap.size from by rw [← HS1.out]; exact HB.out.size)
        refine wp_loop (fun a W => ∃ (u14 u15 u16 u17 u18 q45 q46 q47 q48 q49 q50 q51 q52 q53 q54 q55 q56 q57 q58 q59 q60 q61 q62 q63 q64 q65 q66 q67 q68 q69 q70 q71 q72 q73 q74 q75 q76 q77 q78 q79 : Value) (i : Nat) (v11 : Value) (Ls : List Nat) (D1 : PD) (s : Int) (st : List Int), a = { tmps := #[.pointer (some ⟨Wb, 0, none⟩), .slice A R.length c, .pointer (some ⟨w.heap.size, 0, none⟩), undef, .pointer (some ⟨w.heap.size + 1, 0, none⟩), .pointer (some ⟨w.heap.size + 2, 0, none⟩), .pointer (some ⟨w.heap.size + 3, 0, none⟩), .int .i64 (needs R), undef, u9, u10, v11, .pointer (some ⟨wr.heap.size, 0, none⟩), undef, u14, u15, u16, u17, u18, .slice A R.length c, .int .i64 (R.length : Int), .int .i64 (R.length : Int), .bool false, u23, u24, u25, u26, u27, u28, u29, u30, u31, u32, u33, .int .i64 (needs R), .pointer (some ⟨Wb, 0, none⟩), .int .i64 f, .bool false, .pointer (some ⟨Wb, 0, none⟩), .pointer (some ⟨Wb, 0, none⟩), .pointer (some ⟨Wb, 3, none⟩), .int .u64 tail, .slice A R.length c, .int .i64 (R.length : Int), .int .i64 (i : Int), q45, q46, q47, q48, q49, q50, q51, q52, q53, q54, q55, q56, q57, q58, q59, q60, q61, q62, q63, q64, q65, q66, q67, q68, q69, q70, q71, q72, q73, q74, q75, q76, q77, q78, q79], defers := Ls.map lmark } ∧ LS w W Wb B M Bd vc wr.heap.size R r tail res i v11 Ls D1 s st) (fun a _ => R.length - (intOf (a.tmps.getD 44 undef)).toNat) ?start2 ?round2
        case start2 =>
          refine ⟨undef, undef, undef, undef, undef, undef, undef, undef, undef, undef, undef, undef, undef, undef, undef, undef, undef, undef, undef, undef, undef, undef, undef, undef, undef, undef, undef, undef, undef, undef, undef, undef, undef, undef, undef, undef, undef, undef, undef, undef, 0, .slice none 0 0, [], D, tail, [], rfl, ⟨Nat.zero_le _, ?_, ?_, ⟨vc, ?_⟩, Kd.R_nil _ _ _ _ _, List.nodup_nil, fun _ h => (by cases h), ?_, by omega, ⟨by omega, by omega⟩, rfl, hr⟩⟩
          · exact HLw.out.keep (fun k cs t _ h _ _ => (Below.heap_alloc wr _ k (Array.getElem?_eq_some_iff.1 h).1).trans h)
          · exact heap_alloc_new wr _
          · exact HAw.out.grow (.of_below ((Below.refl wr.heap.size wr).alloc (Nat.le_refl _) _).drew)
          · rw [← HRES.out]; unfold layP; rw [if_neg (by omega)]; rfl
        case round2 =>
          rintro a W ⟨u14, u15, u16, u17, u18, q45, q46, q47, q48, q49, q50, q51, q52, q53, q54, q55, q56, q57, q58, q59, q60, q61, q62, q63, q64, q65, q66, q67, q68, q69, q70, q71, q72, q73, q74, q75, q76, q77, q78, q79, i, v11, Ls, D1, s, st, rfl, hs⟩
          by_cases hlt2 : i < R.length
          · have hlt2' : decide ((i : Int) < (R.length : Int)) = true := by simp; exact hlt2
            obtain ⟨vcW, haW⟩ := hs.at_
            obtain ⟨ad, A9, c9, rfl, hc9, hl9, hC9⟩ := texts_at (HT.out W haW.chg) i hlt2
            have HAD := Aside0.mk (cell_old (show ∃ v, w.cell? (ad.add i) = some v from by
              obtain ⟨ad', A', c', e, h, _⟩ := texts_at (HT.out w (Chg.refl _ _)) i hlt2
              cases e
              exact ⟨_, h⟩))
            have hRi := HRo.out.getD i
            obtain ⟨x, hx⟩ : ∃ x, R.getD i [] = x := ⟨_, rfl⟩
            have HRUN := Aside0.mk (layR_drop (r := r) hlt2 D1 s st)
            rw [hs.run, hx] at HRUN
            rw [hx] at hc9 hRi
            have HL9 := Aside0.mk hl9
            rw [hx] at HL9
            obtain ⟨A11, c11, rfl⟩ := Kd.R_slice hs.st_
            have HLN := Aside0.mk (show (st.length + 1) * 8 ≤ 140737488355328 from by have := hs.len; omega)
            have HWS := Aside0.mk (show wr.heap.size + 1 ≤ W.heap.size from (Array.getElem?_eq_some_iff.1 hs.t12).1)
            have x12 := box_cell hs.t12
            have HSS := Aside0.mk hs
            have HAW := Aside0.mk haW
            clear hs haW hl9 hC9
            go_wp2_with (first
              | ((with_reducible refine gate_builtin (b := .append) (xs := #[.tmp 48, .tmp 50]) rfl ?_); at_builtin; go_loud (refine Kd.R_append (Kd.int .u64) (W := W) (w0 := W) (wr.heap.size + 1) rfl (.tmp 48) (.tmp 50) 98 52 (.int .u64 0) 8 rfl Tryz.underlying98 info56 rfl (by decide) (by decide) _ st s [.int .u64 s] (fun _ => True) (fun _ => False) rfl rfl rfl (fun _ h => h.elim) (fun _ _ => trivial) HSS.out.st_ (Below.refl _ _) HWS.out HLN.out ?_); intro v6 w6 ho hb hg hat; have HG6 := Aside0.mk hg; have HM6 := Aside0.mk (HSS.out.mem.turn HBT.out hg ho); have HC6 := Aside0.mk (text_at6 HT.out HM6.out hlt2 hx hg HSS.out.st_ HAD.out hc9 (Nat.le_trans (Nat.le_add_right _ _) HBT.out)); clear ho hb hg hat)
              | (go_at_call 105; (with_reducible refine (put_calls w6 A9 c9 x hRi.1 (by omega) HL9.out HC6.out).mono ?_); rintro e w7 ⟨A7, c7, rfl, ho, hb⟩; have HM7 := Aside0.mk (HM6.out.below hb); have HO7 := Aside0.mk ho; have HB7 := Aside0.mk hb; clear ho hb)
              | (go_at_call 106; (with_reducible refine (chunk_calls w7 A7 (frameX x).length c7).mono ?_); rintro e w8 ⟨rfl, h8⟩; have HW8 := Aside0.mk h8; clear h8))
            have HFL := Aside0.mk (frameX_facts (x := x) hRi.1 hRi.2)
            obtain ⟨fb, hfb⟩ : ∃ fb, frameX x = fb := ⟨_, rfl⟩
            rw [hfb] at HRUN HO7 HW8 HFL
            obtain ⟨ad7, c8, hv7⟩ := Kd.R_slice1 HO7.out (by have := HFL.out.1; omega)
            cases hv7
            have HC7 := Aside0.mk (show fb.length ≤ c7 from (Kd.R_reads' HO7.out).2.1)
            have HL7 := HFL.out.1
            rw [hfb]
            obtain ⟨X, hX⟩ : ∃ X, w7.heap.size = X := ⟨_, rfl⟩
            have HX1 := Aside0.mk (show w8.heap[X]? = some (boxS ad7 fb.length c7) from by rw [HW8.out, ← hX, Below.heap_alloc _ _ _ (by simp)]; exact heap_alloc_new w7 _)
            have HX2 := Aside0.mk (show w8.heap[X + 1]? = some boxN from by
              rw [HW8.out, ← hX]
              have := heap_alloc_new (w7.alloc (.cells #[.slice (some ad7) fb.length c7] 58)) (.cells #[.int .i64 64] 3)
              rwa [World.size_alloc] at this)
            have HB8 := Aside0.mk (show Below w7.heap.size w7 w8 from by rw [HW8.out]; exact ((Below.refl w7.heap.size w7).alloc (Nat.le_refl _) _).alloc (by simp) _)
            have HM8 := Aside0.mk (HM7.out.below HB8.out)
            have HO8 := Aside0.mk (Kd.R_below HO7.out HB8.out)
            rw [hX]
            have HXB := Aside0.mk (show wr.heap.size < w6.heap.size ∧ w6.heap.size ≤ X from ⟨(Array.getElem?_eq_some_iff.1 HM6.out.t12).1, by rw [← hX]; exact HB7.out.size⟩)
            have HMK := Aside0.mk (show ∀ l ∈ Ls, l < w8.heap.size from fun l hl => (Array.getElem?_eq_some_iff.1 (HM8.out.marks l hl).2).1)
            have HW0 := Aside0.mk (show w.heap.size ≤ w8.heap.size from by have h1 := HXB.out; have h2 := HB8.out.size; have h3 := HBT.out; omega)
            refine rangeFunc_cut (n := 9) (q := 17) (by omega) rfl (enters_of Tryz.func137 (by kernel_rfl) rfl) (chunk_stops 8 (by omega) X fb.length c7 ad7 ⟨by omega, by omega⟩ HC7.out w8 HX1.out HX2.out) kpX_t (fun W l o o' _ ho hc _ => kpX_b W l o o' ho hc)
              (fun pre W' => ∃ D2, layC r (pre.map fun k => (fb.drop (64 * k.val)).take 64) D1 s = (D2, s + pre.length, 0) ∧ D2.cache.length ≤ D1.cache.length + pre.length ∧ LM w W' Wb B M Bd vc wr.heap.size v6 Ls D2 (s + pre.length) (st ++ [s]) ∧ OwnB W' w6.heap.size (.slice (some ad7) fb.length c7) fb)
              (fun c' pre W' => c' = .ret ∧ ∃ D2 s2 e2, e2 ≠ 0 ∧ layC r (pre.map fun k => (fb.drop (64 * k.val)).take 64) D1 s = (D2, s2, e2) ∧ LB w W' Wb w.heap.size (.slice none 0 0) (.int .u64 0) (.int .i64 e2) ∧ (∃ vc', At w (FP B M Bd vc) W' B M Bd vc' D2) ∧ ∀ l ∈ Ls, w.heap.size ≤ l ∧ W'.heap[l]? = some (.deferred (some [])))
              ?hI ?hIx ?h0 ?hassign ?hbody ?hdone ?hstop
            case hI =>
              rintro pre Wa Wc row ⟨D2, h1, h2, h3, h4⟩ hg hr
              exact ⟨D2, h1, h2, h3.own HMB.out hg (fun l e => ⟨Nat.le_trans HW0.out (hr l e).1, fun hl => by have h5 := HMK.out l hl; have h6 := (hr l e).1; omega, (hr l e).2⟩), (Keep.of_grown hg fun l e => (hr l e).2).R h4 (fun q hq => by obtain rfl := q5_ q hq; decide)⟩
            case hIx =>
              rintro c' pre Wa Wc row ⟨rfl, D2, s2, e2, h1, h2, h3, ⟨vc', h4⟩, h5⟩ hg hr
              exact ⟨rfl, D2, s2, e2, h1, h2, h3.keep (Keep.of_grown hg fun l e => (hr l e).2), ⟨vc', at_own h4 HMB.out hg (fun l e => ⟨Nat.le_trans HW0.out (hr l e).1, (hr l e).2⟩)⟩, fun l hl => ⟨(h5 l hl).1, (hg.block l (Array.getElem?_eq_some_iff.1 (h5 l hl).2).1 (fun e => by have h6 := (hr l e.symm).1; have h7 := HMK.out l hl; omega)).trans (h5 l hl).2⟩⟩
            case h0 => exact ⟨D1, by simp [layC], by simp, by simpa using HM8.out, HO8.out⟩
            case hassign =>
              intro l k W K hK
              gi_wp2
              exact hK
            case hbody =>
              rintro l pre k Wq ⟨D2, hl2, hc2, hm2, ho2⟩ hlen
              simp only [List.setIfInBounds_toArray, List.set_cons_succ, List.set_cons_zero]
              obtain ⟨vcq, haq⟩ := hm2.at_
              obtain ⟨cb, hcb⟩ : ∃ cb, (fb.drop (64 * k.val)).take 64 = cb := ⟨_, rfl⟩
              have hkN : 64 * k.val < fb.length := by have := k.isLt; omega
              have hcl : cb.length = min 64 (fb.length - 64 * k.val) := by rw [← hcb, List.length_take, List.length_drop]
              have hcut : cutV ad7 fb.length k.val = .slice (some (ad7.add (64 * k.val))) cb.length cb.length := by unfold cutV; rw [hcl]
              rw [hcut]
              clear hcl hcut
              have x2 := box_cell hm2.box.t2
              have x12 := box_cell hm2.t12
              have HWq := Aside0.mk (show WlC Wq Wb B gen head tail vs true over from (haq.chg.block Wb (Array.getElem?_eq_some_iff.1 HW.out).1 hW).trans HW.out)
              obtain ⟨⟨q0, q1, q2, q3, q4, q5, q6⟩, _⟩ := cells7 HWq.out
              clear q1 q2 q3 q4 q5 q6
              have haD : At w (FP B M Bd vc) Wq.drew B M Bd vcq D2 := haq.grow (.of_below (Below.refl _ _).drew)
              obtain ⟨sq, hsq⟩ : ∃ sq : Int, s + pre.length = sq := ⟨_, rfl⟩
              rw [hsq] at hl2 hm2 x12
              obtain ⟨sc, hsc⟩ : ∃ sc, sectP r sq = sc := ⟨_, rfl⟩
              obtain ⟨D3, e3, hw3⟩ : ∃ D3 e3, writeP D2 sc cb = (D3, e3) := ⟨_, _, rfl⟩
              have hsb : 0 ≤ sq ∧ sq < 18446744073709551600 := by have h1 := HSS.out.s_; have h2 := HSS.out.hi; omega
              have HSC := Aside0.mk (sector_calls Wq.drew 0 B M Bd vcq D2 r sq sc (by have := layC_ring r (pre.map fun k => (fb.drop (64 * k.val)).take 64) D1 s; rw [hl2] at this; exact this.trans HSS.out.ring) (HR1.out (by omega) (by omega)) ⟨hsb.1, by omega⟩ hsc haD.dk)
              have HWR := Aside0.mk (at_write (w0 := Wq.drew) sc e3 (some (ad7.add (64 * k.val))) cb.length cb hw3 (by have h1 := HSS.out.cache; have h2 := HSS.out.hi; omega) (fun w' hc' => by
                rw [← hcb]
                have hR' : Kd.R (Kd.int .u8) 5 w' w6.heap.size (fun k => w6.heap.size ≤ k) (.slice (some ad7) fb.length c7) fb := R_tc (show OwnB Wq.drew w6.heap.size (.slice (some ad7) fb.length c7) fb from Kd.R_below ho2 (Below.refl _ _).drew) (haD.dk.tc hc') (fun q hq _ cells => by
                  obtain rfl := q5_ q hq
                  simp [isDisk])
                rw [show (fb.drop (64 * k.val)).take 64 = (fb.drop (64 * k.val)).take (min 64 (fb.length - 64 * k.val)) from by rw [← List.length_drop, List.take_eq_take_min]]
                exact C_cut (Kd.R_reads' hR').2.2 _ _ (by omega)) (At.refl haD.dk))
              have HSCE := Aside0.mk hsc
              clear hsc
              clear HT HRES HRo HNE HB1 HS1 HL1 HB HLw HAw x4 x5 x6 y4 y5 y6 HWw HFR HFL HC7 HX1 HX2 HB8 HM8 HO8 HM7 HO7 HB7 HAD HL9 HC6 HM6 HW8
              gi_wp2
              refine Fork.wpIn_fork (Fork.Lo.rel 0) [11] [] (.one 10 0 (.one 0 1 (.one 1 0 (.one 2 0 (.one 3 1 (.one 4 1 (.one 5 0 (.one 6 0 (.one 7 1 (.one 8 1 (.one 9 2 (.one 11 2 (.one 12 0 .nil))))))))))))) (by kernel_rfl) (by kernel_rfl) ?_
              generalize hops : List.toArray (_ : List Oper) = ops
              have HO := Aside0.mk hops
              clear hops
              ((refine Fork.plain (Fork.at_ HO.out rfl) _ rfl (fun W => by go_simp; exact rfl) ?_); simp only [Act.put, List.setIfInBounds_toArray, List.set_cons_succ, List.set_cons_zero])
              refine Fork.reads (Fork.at_ HO.out rfl) _ rfl (fun W hW => Arr.ex_load1 rfl rfl (by kernel_rfl) (Fork.bel_cell hW (by assumption))) ?_
              simp only [Act.put, List.setIfInBounds_toArray, List.set_cons_succ, List.set_cons_zero]
              iterate 2 ((refine Fork.plain (Fork.at_ HO.out rfl) _ rfl (fun W => by go_simp; exact rfl) ?_); simp only [Act.put, List.setIfInBounds_toArray, List.set_cons_succ, List.set_cons_zero])
              refine Fork.reads (Fork.at_ HO.out rfl) _ rfl (fun W hW => Arr.ex_load1 rfl rfl (by kernel_rfl) (Fork.bel_cell hW (by assumption))) ?_
              simp only [Act.put, List.setIfInBounds_toArray, List.set_cons_succ, List.set_cons_zero]
              refine Fork.reads (Fork.at_ HO.out rfl) _ rfl (fun W hW => Arr.ex_load1 rfl rfl (by kernel_rfl) (Fork.bel_cell hW (by assumption))) ?_
              simp only [Act.put, List.setIfInBounds_toArray, List.set_cons_succ, List.set_cons_zero]
              iterate 2 ((refine Fork.plain (Fork.at_ HO.out rfl) _ rfl (fun W => by go_simp; exact rfl) ?_); simp only [Act.put, List.setIfInBounds_toArray, List.set_cons_succ, List.set_cons_zero])
              refine Fork.reads (Fork.at_ HO.out rfl) _ rfl (fun W hW => Arr.ex_load1 rfl rfl (by kernel_rfl) (Fork.bel_cell hW (by assumption))) ?_
              simp only [Act.put, List.setIfInBounds_toArray, List.set_cons_succ, List.set_cons_zero]
              refine Fork.reads (Fork.at_ HO.out rfl) _ rfl (fun W hW => Arr.ex_load1 rfl rfl (by kernel_rfl) (Fork.bel_cell hW (by assumption))) ?_
              simp only [Act.put, List.setIfInBounds_toArray, List.set_cons_succ, List.set_cons_zero]
              refine Fork.step (Fork.at_ HO.out rfl) (fun K hK => ?_)
              go_simp
              (with_reducible refine HSC.out.mono ?_)
              rintro e w' ⟨rfl, rfl⟩
              refine hK _ _ (.of_new (Below.refl _ _) (Nat.zero_le _)) ?_
              clear hK K
              try simp only [Act.put, List.setIfInBounds_toArray, List.set_cons_succ, List.set_cons_zero]
              refine Fork.step (Fork.at_ HO.out rfl) (fun K hK => ?_)
              go_simp
              (with_reducible refine HWR.out.mono ?_)
              rintro e w9 ⟨rfl, vc9, ha9⟩
              refine hK _ _ (Fork.Grow.of_old (Fork.Lo.zero ha9.chg.os ha9.chg.tape ha9.chg.output) rfl) ?_
              clear hK K
              have HA9 := Aside0.mk ha9
              clear ha9
              try simp only [Act.put, List.setIfInBounds_toArray, List.set_cons_succ, List.set_cons_zero]
              ((refine Fork.plain (Fork.at_ HO.out rfl) _ rfl (fun W => by go_simp; exact rfl) ?_); simp only [Act.put, List.setIfInBounds_toArray, List.set_cons_succ, List.set_cons_zero])
              refine Fork.done ?_
              refine Fork.noOut ?_
              have HM9 := Aside0.mk (((hm2.below (W' := Wq.drew) (Below.refl _ _).drew)).disk haD HA9.out)
              have HTC := Aside0.mk (show TC 0 (isDisk M Bd) Wq w9 from (TC.refl 0 (isDisk M Bd) Wq).drew.trans (haD.dk.tc HA9.out.chg))
              have HKF := Aside0.mk (show KeepsFrom w8.heap.size Wq w9 from keeps_drew <| keeps_disk (W := Wq.drew) haD.dk HA9.out ⟨Nat.lt_of_lt_of_le HMB.out.1 HW0.out, Nat.lt_of_lt_of_le HMB.out.2 HW0.out⟩)
              have HKX := Aside0.mk (show KpX X (boxS ad7 fb.length c7) boxN Wq w9 from ⟨fun e => HTC.out.blk X _ e (by simp [boxS, isDisk]), fun e => HTC.out.blk (X + 1) _ e (by simp [boxN, isDisk])⟩)
              have HLC := Aside0.mk (layC_app r (pre.map fun k => (fb.drop (64 * k.val)).take 64) [cb] D1 s)
              rw [hl2] at HLC
              have HWE := Aside0.mk hw3
              have HO9 := Aside0.mk (show OwnB w9 w6.heap.size (.slice (some ad7) fb.length c7) fb from R_tc ho2 HTC.out (fun q hq _ cells => by
                obtain rfl := q5_ q hq
                simp [isDisk]))
              have hsq1 : sq < 18446744073709551615 := by omega
              have hsq0 : 0 ≤ sq := hsb.1
              clear hw3
              by_cases he3 : e3 = 0
              · subst he3
                have x12' := box_cell HM9.out.t12
                have y12 := box_frozen HM9.out.t12
                gi_wp2
                refine ⟨HKF.out.trans ((KeepsOthers.setCell _ _ _).from _), kpX_t HKX.out (kpX_keep (Below.heap_setCell _ _ _ _ (by have := HXB.out; simp; omega)) (Below.heap_setCell _ _ _ _ (by have := HXB.out; simp; omega))), D3, ?_, ?_, ?_, ?_⟩
                · have h5 := HLC.out
                  simp only [ne_eq, not_true_eq_false, if_false, layC, HSCE.out, HWE.out] at h5
                  rw [List.map_append, List.map_cons, List.map_nil, hcb, h5, List.length_append, List.length_singleton]
                  simp
                  omega
                · have h5 := writeP_cache D2 sc cb
                  rw [HWE.out] at h5
                  simp only at h5
                  rw [List.length_append, List.length_singleton]
                  omega
                · rw [show s + ((pre ++ [k]).length : Int) = sq + 1 from by rw [List.length_append, List.length_singleton]; omega]
                  exact HM9.out.set12 HBT.out
                · exact (Keep.set (by have h1 := HXB.out; omega) _).R HO9.out (fun q hq => by obtain rfl := q5_ q hq; decide)
              · have he3' : (e3 != 0) = true := by simp; exact he3
                have x4 := box_cell HM9.out.box.t4
                have x5 := box_cell HM9.out.box.t5
                have x6 := box_cell HM9.out.box.t6
                have y4 := box_frozen HM9.out.box.t4
                have y5 := box_frozen HM9.out.box.t5
                have y6 := box_frozen HM9.out.box.t6
                gi_wp2
                obtain ⟨vca, haa⟩ := HM9.out.at_
                refine ⟨((HKF.out.trans ((KeepsOthers.setCell _ _ _).from _)).trans ((KeepsOthers.setCell _ _ _).from _)).trans ((KeepsOthers.setCell _ _ _).from _), rfl, D3, sq, e3, he3, ?_, ((HM9.out.box.set4 _).set5 _).set6 _, ⟨vca, ((haa.setNew (by omega) HM9.out.box.t4 (by decide) _).setNew (by omega) (HM9.out.box.set4 _).t5 (by decide) _).setNew (by omega) ((HM9.out.box.set4 _).set5 _).t6 (by decide) _⟩, fun l hl => ⟨(HM9.out.marks l hl).1, mark_set (mark_set (mark_set (HM9.out.marks l hl).2 HM9.out.box.t4 _) (HM9.out.box.set4 _).t5 _) ((HM9.out.box.set4 _).set5 _).t6 _⟩⟩
                have h5 := HLC.out
                simp only [ne_eq, not_true_eq_false, if_false, layC, HSCE.out, HWE.out, he3, not_false_eq_true, if_true] at h5
                rw [List.map_append, List.map_cons, List.map_nil, hcb, h5]
            case hdone =>
              rintro D' ys W' hD rfl ⟨D2, h1, h2, h3, h4⟩ hK
              rw [← chs_fin] at h1
              rw [List.length_finRange] at h1 h2 h3
              have HD1 := Aside0.mk h1
              have HD2 := Aside0.mk h2
              have HD3 := Aside0.mk h3
              have HDK := Aside0.mk hK
              have HDD := Aside0.mk hD
              clear h1 h2 h3 h4 hK
              have hK7 : (fb.length + 63) / 64 ≤ 700 := by have := HFL.out.1; omega
              go_wp2
              refine ⟨⟨_, _, _, _, _, _, _, _, _, _, _, _, _, _, _, _, _, _, _, _, _, _, _, _, _, _, _, _, _, _, _, _, _, _, _, _, _, _, _, _, i + 1, v6, D' :: Ls, D2, _, st ++ [s], rfl, ⟨hlt2, HD3.out.box, HD3.out.t12, HD3.out.at_, HD3.out.st_, List.nodup_cons.2 ⟨fun hl => by have h5 := HMK.out _ hl; have h6 := HDD.out; omega, HSS.out.nodup⟩, ?_, ?_, ?_, ?_, ?_, ?_⟩⟩, ?_⟩
              · intro l hl
                rcases List.mem_cons.1 hl with rfl | hl
                · exact ⟨Nat.le_trans HW0.out HDD.out, HDK.out⟩
                · exact HD3.out.marks l hl
              · have h5 := HRUN.out
                rw [HD1.out] at h5
                simp only [ne_eq, not_true_eq_false, if_false] at h5
                exact h5.symm
              · have h5 := HD2.out; have h6 := HSS.out.cache; omega
              · have h6 := HSS.out.s_; omega
              · rw [List.length_append, List.length_singleton, HSS.out.len]
              · have h5 := layC_ring r (chs fb) D1 s
                rw [HD1.out] at h5
                exact h5.trans HSS.out.ring
              · simp [intOf]; omega
            case hstop =>
              rintro D' c' pre W' hD ⟨k, rfl⟩ ⟨rfl, D2, s2, e2, he, h1, h2, ⟨vc', h3⟩, h4⟩ hK
              have HE := Aside0.mk (show res = (D2, [], 0, e2) from by
                have h5 := HRUN.out
                have h6 : layC r (chs fb) D1 s = (D2, s2, e2) := by
                  rw [chs_fin, ← List.take_append_drop k (List.finRange _), List.map_append, layC_app, h1, if_pos (by exact he)]
                rw [h6, if_pos (by exact he)] at h5
                exact h5)
              have HLF := Aside0.mk (show LF w Wb B M Bd vc res (.slice none 0 0) W' from by rw [HE.out]; exact ⟨h2, ⟨vc', h3⟩, Kd.R_nil _ _ _ _ _⟩)
              have HMs := Aside0.mk h4
              have HDK := Aside0.mk hK
              have HDD := Aside0.mk hD
              clear h1 h2 h3 h4 hK
              go_wp2
              refine leaves_marks (w := w) (LF w Wb B M Bd vc res (.slice none 0 0)) (fun D' W' h1 h2 h3 => h3.own HMB.out (grownBy_putObj' W' D' _) (fun r e => by cases e; exact ⟨h1, _, h2, rfl⟩)) (fun W' h => h.q rfl rfl rfl) (D' :: Ls) _ (List.nodup_cons.2 ⟨fun hl => by have h5 := HMK.out _ hl; have h6 := HDD.out; omega, HSS.out.nodup⟩) (fun l hl => ?_) HLF.out
              rcases List.mem_cons.1 hl with rfl | hl
              · exact ⟨Nat.le_trans HW0.out HDD.out, HDK.out⟩
              · exact HMs.out l hl
          · have hlt2' : decide ((i : Int) < (R.length : Int)) = false := by simp; omega
            obtain rfl : i = R.length := by have := hs.hi; omega
            have HE := Aside0.mk (show res = (D1, st, s, 0) from by rw [← hs.run, List.drop_length]; rfl)
            have x12 := box_cell hs.t12
            have x4 := box_cell hs.box.t4
            have x5 := box_cell hs.box.t5
            have x6 := box_cell hs.box.t6
            have y4 := box_frozen hs.box.t4
            have y5 := box_frozen hs.box.t5
            have y6 := box_frozen hs.box.t6
            obtain ⟨A11, c11, rfl⟩ := Kd.R_slice hs.st_
            have HSS := Aside0.mk hs
            clear hs
            go_wp2
            refine Fork.wp_fork (keepRel wr.heap.size) [2, 3, 4] [] (.one 0 0 (.one 1 3 (.one 2 2 (.one 3 2 (.one 4 2 .nil))))) (by kernel_rfl) (by kernel_rfl) ?_
            generalize hops : List.toArray (_ : List Oper) = ops
            have HO := Aside0.mk hops
            clear hops
            ((refine Fork.plain (Fork.at_ HO.out rfl) _ rfl (fun W => by go_simp; exact rfl) ?_); simp only [Act.put, List.setIfInBounds_toArray, List.set_cons_succ, List.set_cons_zero])
            refine Fork.olds (Fork.at_ HO.out rfl) _ rfl (fun W hW => Arr.ex_load1 rfl rfl (by kernel_rfl) (box_cell (hW.trans HSS.out.t12))) ?_
            simp only [Act.put, List.setIfInBounds_toArray, List.set_cons_succ, List.set_cons_zero]
            refine Fork.step (Fork.at_ HO.out rfl) (fun K hK => ?_)
            go_simp
            refine hK _ _ (Fork.Grow.of_old (keepAt_set _ _ (by have := HBT.out; simp; omega)) rfl) ?_
            clear hK K
            try simp only [Act.put, List.setIfInBounds_toArray, List.set_cons_succ, List.set_cons_zero]
            refine Fork.step (Fork.at_ HO.out rfl) (fun K hK => ?_)
            go_simp
            refine hK _ _ (Fork.Grow.of_old (keepAt_set _ _ (by have := HBT.out; simp; omega)) rfl) ?_
            clear hK K
            try simp only [Act.put, List.setIfInBounds_toArray, List.set_cons_succ, List.set_cons_zero]
            refine Fork.step (Fork.at_ HO.out rfl) (fun K hK => ?_)
            go_simp
            refine hK _ _ (Fork.Grow.of_old (keepAt_set _ _ (by have := HBT.out; simp; omega)) rfl) ?_
            clear hK K
            try simp only [Act.put, List.setIfInBounds_toArray, List.set_cons_succ, List.set_cons_zero]
            refine Fork.done ?_
            go_wp2
            refine leaves_marks (w := w) (LF w Wb B M Bd vc res (.slice A11 st.length c11)) (fun D' W' h1 h2 h3 => h3.own HMB.out (grownBy_putObj' W' D' _) (fun r e => by cases e; exact ⟨h1, _, h2, rfl⟩)) (fun W' h => h.q rfl rfl rfl) Ls _ HSS.out.nodup (fun l hl => ⟨(HSS.out.marks l hl).1, ?_⟩) ?_
            · exact mark_set (mark_set (mark_set (W := W.drew) (HSS.out.marks l hl).2 HSS.out.box.t4 _) (HSS.out.box.keep (W' := W.drew) Keep.drew |>.set4 _).t5 _) ((HSS.out.box.keep (W' := W.drew) Keep.drew |>.set4 _).set5 _).t6 _
            · rw [HE.out]
              have HL6 := HSS.out.box.keep (W' := W.drew) (fun k cs t _ h _ _ => h)
              obtain ⟨vc6, ha6⟩ := HSS.out.at_
              have a0 : At w (FP B M Bd vc) W.drew B M Bd vc6 D1 := ha6.grow (.of_below (Below.refl _ _).drew)
              refine ⟨((HL6.set4 _).set5 _).set6 _, ⟨vc6, ((a0.setNew (by omega) HL6.t4 (by decide) _).setNew (by omega) (HL6.set4 _).t5 (by decide) _).setNew (by omega) ((HL6.set4 _).set5 _).t6 (by decide) _⟩, ?_⟩
              exact Kd.R_lower ((((Keep.drew.trans (Keep.set (by have := HBT.out; omega) _)).trans (Keep.set (by have := HBT.out; omega) _)).trans (Keep.set (by have := HBT.out; omega) _)).R HSS.out.st_ r56) (by have := HBT.out; omega)
end
end Go.Proofs.YtlepcmljmibdnaaGreat
namespace Go.Proofs.YtlepcmljmibdnaaGreat
open Go.RowKit Go.Proofs.YtlepcmljmibdnaaGreatW.PrintWords Go.Proofs.YtlepcmljmibdnaaGreatW.PrintLast Go.Proofs.YtlepcmljmibdnaaGreatW.PrintMore PWalOpens
set_option linter.unusedVariables false
set_option linter.unusedSimpArgs false
def txt (x : List Int) : List UInt8 := (strOfNums x).toList
def sameT (a b : List (List Int)) : Bool := decide (a.map txt = b.map txt)
end Go.Proofs.YtlepcmljmibdnaaGreat
namespace Go.Proofs.YtlepcmljmibdnaaGreat
open Go.RowKit Go.Proofs.YtlepcmljmibdnaaGreatW.PrintWords Go.Proofs.YtlepcmljmibdnaaGreatW.PrintLast Go.Proofs.YtlepcmljmibdnaaGreatW.PrintMore PWalOpens
open PStoreRecords (S66 k66 rd_T66 at_T66 z66)
set_option linter.unusedVariables false
set_option linter.unusedSimpArgs false
set_option maxRecDepth 100000 in
set_option maxHeartbeats 2000000 in
theorem sameputs_same (w : World) (A B : Option Addr) (c d : Nat) (l : List S66) (ha : k66.C w A l.length l) (hb : k66.C w B l.length l) :
    Calls Tryz.prog 36 #[.slice A l.length c, .slice B l.length d] w fun e w' => e = .returned (.bool true) ∧ Drawn0 w w' := by
  have HA := Aside0.mk ha
  have HB := Aside0.mk hb
  have c1 : ((l.length : Int) != (l.length : Int)) = false := by simp
  have hl1 : (l.length : Int) ≤ 9223372036854775807 := by have := ha.2.1; omega
  clear ha hb
  go_enter Tryz.func36, Tryz.ntmps36
  go_wp2
  go_loopg [13] l.length (fun kq v13 w' => ∃ i : Nat, v13 = .int .i64 (i : Int) ∧ Aside0 (i + kq = l.length) ∧ Drawn0 w w')
  case atStart => exact ⟨0, rfl, ⟨by omega⟩, Drawn0.refl _⟩
  case round =>
    obtain ⟨i, rfl, HI, ⟨m1, rfl⟩⟩ := hrel
    clear c1
    by_cases hi : i < l.length
    · obtain ⟨ad, A1, d1, e, x0, x1, x2, hl1', hc1⟩ := at_T66 HA.out (i : Int) (by omega) (by omega)
      subst e
      obtain ⟨bd, B1, e1, e, y0, y1, y2, hl2', hc2⟩ := at_T66 HB.out (i : Int) (by omega) (by omega)
      subst e
      generalize rd_T66 l (i : Int) = x at x0 x1 x2 hl1' hc1 y0 y1 y2 hl2' hc2
      rw [Int.toNat_natCast] at x0 x1 x2 y0 y1 y2
      obtain ⟨s, b, g⟩ := x
      simp only at x0 x1 x2 hl1' hc1 y0 y1 y2 hl2' hc2
      have hcvx : ∀ k, (convert 58 9 (.slice A1 b.length d1)).run Tryz.prog (w.drewN k) = .ok (.string (strOfNums b)) (w.drewN k) := fun k => Kd.C_string Tryz.underlying58 Tryz.underlying5 Tryz.underlying9 (Kd.C_below hc1 (bel_drewN (Below.refl _ _) k))
      have hcvy : ∀ k, (convert 58 9 (.slice B1 b.length e1)).run Tryz.prog (w.drewN k) = .ok (.string (strOfNums b)) (w.drewN k) := fun k => Kd.C_string Tryz.underlying58 Tryz.underlying5 Tryz.underlying9 (Kd.C_below hc2 (bel_drewN (Below.refl _ _) k))
      clear hl1' hc1 hl2' hc2
      have hi1 : (i : Int) < (l.length : Int) := by omega
      have hi0 : (0 : Int) ≤ (i : Int) := by omega
      have k1 : (s.toList == s.toList) = true := by simp
      have k2 : (s.toList != s.toList) = false := by simp
      have k3 : ((strOfNums b).toList == (strOfNums b).toList) = true := by simp
      have k4 : ((strOfNums b).toList != (strOfNums b).toList) = false := by simp
      have k5 : (g != g) = false := by simp
      have k6 : (g == g) = true := by simp
      go_wp2
      go_quiet (fail)
      go_wp2
      have hk1 := HI.out
      obtain ⟨gq, rfl⟩ : ∃ gq, gk = gq + 1 := ⟨gk - 1, by omega⟩
      go_roundg gq
      case rel => exact ⟨i + 1, by go_num, ⟨by omega⟩, by repeat (first | exact Drawn0.refl _ | apply Drawn0.step)⟩
      case measure => omega
    · have hi0 := HI.out
      obtain rfl : gk = 0 := by omega
      obtain rfl : i = l.length := by omega
      clear hi0
      have hm : ¬ ((l.length : Int) < (l.length : Int)) := by omega
      go_wp2
      go_ret
      exact ⟨rfl, by repeat (first | exact Drawn0.refl _ | apply Drawn0.step)⟩
end Go.Proofs.YtlepcmljmibdnaaGreat
namespace Go.Proofs.YtlepcmljmibdnaaGreat
open Go.RowKit Go.Proofs.YtlepcmljmibdnaaGreatW.PrintWords Go.Proofs.YtlepcmljmibdnaaGreatW.PrintLast Go.Proofs.YtlepcmljmibdnaaGreatW.PrintMore PWalOpens
open PStoreRecords (S66 k66 rd_T66 at_T66 z66 factotumlaw08_Few.f factotumlaw08_Few.l0 factotumlaw08_Few.calls)
set_option linter.unusedVariables false
set_option linter.unusedSimpArgs false
theorem few8_loop (l : List S66) (hl : l.length ≤ 9223372036854775807) : ∀ (m i : Nat), i + m = l.length → (∀ j, j < i → (l.getD j z66).f0.size ≤ 30 ∧ (l.getD j z66).f1.length ≤ 200) →
    ∃ r, PStoreRecords.factotumlaw08_Few.l0 (m + 1) l l (l.length : Int) (i : Int) = some r ∧ (r = true → l.length ≤ 8 ∧ ∀ p ∈ l, p.f0.size ≤ 30 ∧ p.f1.length ≤ 200)
  | 0, i, hi, hall => by
    refine ⟨decide ((l.length : Int) ≤ 8), ?_, fun h => ⟨by have := of_decide_eq_true h; omega, fun x hx => ?_⟩⟩
    · rw [PStoreRecords.factotumlaw08_Few.l0, if_neg (by omega)]
    · obtain ⟨j, hj, rfl⟩ := List.mem_iff_getElem.1 hx
      have := hall j (by omega)
      simpa [List.getD, hj] using this
  | m + 1, i, hi, hall => by
    rw [PStoreRecords.factotumlaw08_Few.l0, if_pos (by omega), if_pos (by omega), if_pos (by omega)]
    have e : rd_T66 l (i : Int) = l.getD i z66 := by simp [rd_T66]
    rw [e]
    by_cases h1 : ((l.getD i z66).f0.size : Int) > 30
    · exact ⟨false, by rw [if_pos h1], fun h => by cases h⟩
    · by_cases h2 : ((l.getD i z66).f1.length : Int) > 200
      · exact ⟨false, by rw [if_neg h1, if_pos h2], fun h => by cases h⟩
      · rw [if_neg h1, if_neg h2, show wrap64 ((i : Int) + 1) = ((i + 1 : Nat) : Int) by unfold wrap64; omega]
        exact few8_loop l hl m (i + 1) (by omega) (fun j hj => by
          by_cases hji : j < i
          · exact hall j hji
          · obtain rfl : j = i := by omega
            omega)
theorem few8_f (l : List S66) (hl : l.length ≤ 9223372036854775807) : ∃ r, PStoreRecords.factotumlaw08_Few.f (l.length + 1) l = some r ∧ (r = true → l.length ≤ 8 ∧ ∀ p ∈ l, p.f0.size ≤ 30 ∧ p.f1.length ≤ 200) := few8_loop l hl l.length 0 (by omega) (by omega)
theorem few8_at {w0 : World} (A : Option Addr) (c : Nat) (l : List S66) (r : Bool) (hc : l.length ≤ c) (hC : k66.C w0 A l.length l) (hr : PStoreRecords.factotumlaw08_Few.f (l.length + 1) l = some r) (w1 : World) (hb : Below w0.heap.size w0 w1) :
    Calls Tryz.prog 31 #[.slice A l.length c] w1 fun e w' => e = .returned (.bool r) ∧ Below w1.heap.size w1 w' :=
  PStoreRecords.factotumlaw08_Few.calls (l.length + 1) A c l r w1 (Kd.C_below hC hb) hc hr
/-- puts whose bytes lie in an elder world -/
def farP (w0 : World) : Kd S66 where
  sz := 3
  E := []
  K := fun _ x cs => k66.K w0 x cs
  M := fun _ _ _ x cs => k66.K w0 x cs
  K_len := fun h => k66.K_len h
  K_one := fun h => k66.K_one h
  K_below := fun _ h => h
  K_of_M := fun h => h
  M_mono := fun _ h => h
  M_bound := fun h => h
  M_move := fun _ h => h
  M_lower := fun _ h => h
end Go.Proofs.YtlepcmljmibdnaaGreat
namespace Go.Proofs.YtlepcmljmibdnaaGreat
open Go.RowKit Go.Proofs.YtlepcmljmibdnaaGreatW.PrintWords Go.Proofs.YtlepcmljmibdnaaGreatW.PrintLast Go.Proofs.YtlepcmljmibdnaaGreatW.PrintMore PWalOpens
open PStoreRecords (S66 k66 rd_T66 at_T66 z66)
set_option linter.unusedVariables false
set_option linter.unusedSimpArgs false
/-- bytes v grew to v': no block but v's own has changed -/
structure RT (w w' : World) (base : Nat) (v v' : Value) (ys : List Int) : Prop where
  R : Kd.R (Kd.int .u8) 5 w' base (fun _ => True) v' ys
  chg : Chg w w' (fun k => some k = v.ownBlock)
  fp : ∀ k, k < w.heap.size → some k = v'.ownBlock → some k = v.ownBlock
  low : Below base w w'
section
variable {w w' w2 : World} {base : Nat} {v v' v2 : Value} {xs ys zs : List Int}
end
section
variable {w0 w w1 : World} {v v1 : Value} {xs ys : List Int}
end
end Go.Proofs.YtlepcmljmibdnaaGreat
namespace Go.Proofs.YtlepcmljmibdnaaGreat
open Go.RowKit Go.Proofs.YtlepcmljmibdnaaGreatW.PrintWords Go.Proofs.YtlepcmljmibdnaaGreatW.PrintLast Go.Proofs.YtlepcmljmibdnaaGreatW.PrintMore PWalOpens
set_option linter.unusedVariables false
set_option linter.unusedSimpArgs false
/-- a frame's sectors, all of them -/
def fzs (b : List Int) : List Int := frameB b ++ List.replicate (64 * ((b.length + 70) / 64) - (b.length + 7)) 0
theorem fzs_len (b : List Int) : (fzs b).length = 64 * ((b.length + 70) / 64) := by
  unfold fzs
  rw [List.length_append, frameB_len, List.length_replicate]
  omega
theorem frN_frame {b t : List Int} (h : b.length ≤ 60000) : frN (frameB b ++ t) = b.length := by
  have e1 : rd (frameB b ++ t) 1 = (b.length : Int) / 256 % 256 := rfl
  have e2 : rd (frameB b ++ t) 2 = (b.length : Int) % 256 := rfl
  unfold frN
  rw [e1, e2]
  omega
theorem rd_take (l : List Int) (m : Nat) (i : Nat) (h : i < m) : rd (l.take m) (i : Int) = rd l (i : Int) := by
  simp [rd, List.getD, List.getElem?_take, h]
theorem frN_take (l : List Int) (m : Nat) (h : 3 ≤ m) : frN (l.take m) = frN l := by
  unfold frN
  rw [show (1 : Int) = ((1 : Nat) : Int) from rfl, show (2 : Int) = ((2 : Nat) : Int) from rfl, rd_take l m 1 (by omega), rd_take l m 2 (by omega)]
theorem unF_whole {b t : List Int} (hb : isBytes b) (ht : isBytes t) (h : b.length ≤ 60000) : unF (frameB b ++ t) = (b, 7 + (b.length : Int), 0) := by
  have hfr := frN_frame (t := t) h
  have hd : ((frameB b ++ t).drop 3).take b.length = b := by
    have : frameB b ++ t = [165, (b.length : Int) / 256 % 256, (b.length : Int) % 256] ++ (b ++ (be4 (crcB (lenB b ++ b)) ++ t)) := by
      simp [frameB, lenB]
    rw [this, List.drop_left' (by rfl), List.take_left' rfl]
  have hB : isBytes (frameB b ++ t) := fun x hx => (List.mem_append.1 hx).elim (frameB_bytes hb x) (ht x)
  have hv : unV (frameB b ++ t) = true := (unV_iff hB).2 ⟨b, h, List.prefix_append _ _, by rw [hfr, hd]⟩
  unfold unF
  rw [if_pos hv, hfr, hd]
theorem unF_part {b t : List Int} (h : b.length ≤ 60000) (m : Nat) (h3 : 3 ≤ m) (hm : m < b.length + 7) : (unF ((frameB b ++ t).take m)).2.2 = 40 := by
  have hfr : frN ((frameB b ++ t).take m) = b.length := by rw [frN_take _ m h3, frN_frame h]
  have hv : unV ((frameB b ++ t).take m) = false := by
    unfold unV
    rw [hfr]
    have hl : ((frameB b ++ t).take m).length ≤ m := by rw [List.length_take]; omega
    have : decide (b.length + 7 ≤ ((frameB b ++ t).take m).length) = false := by simp only [decide_eq_false_iff_not]; omega
    rw [this]
    simp
  unfold unF
  rw [hv]
  rfl
/-- the frame of b lies in the ring from p on -/
def Frm (S : Int → List Int) (r p : Int) (b : List Int) : Prop := ∀ j : Nat, j < (b.length + 70) / 64 → S (sectP r (p + j)) = ((fzs b).drop (64 * j)).take 64
section
variable {D : PD} {n : Int} {S : Int → List Int} {r : Int}
theorem sectP_in {p : Int} (hr : 1 ≤ r) : 2 ≤ sectP r p ∧ sectP r p < r + 2 := by
  unfold sectP
  have := Int.emod_nonneg p (show r ≠ 0 by omega)
  have := Int.emod_lt_of_pos p (show 0 < r by omega)
  omega
theorem rec_frm {p : Int} {b : List Int} (hR : Rdy D n S) (hn : n = r + 2) (hr : 1 ≤ r) (hb : isBytes b) (hl : b.length ≤ 60000) (hF : Frm S r p b) :
    ∀ (d j k : Nat), j + d = (b.length + 70) / 64 → 0 < d → recGo D r p (k + d) ((fzs b).take (64 * j)) (p + j) = (b, p + needN b, 0) := by
  intro d
  induction d with
  | zero => intro j k _ h; omega
  | succ d ih =>
    intro j k hj _
    have hrd : readP D (sectP r (p + j)) = (((fzs b).drop (64 * j)).take 64, 0) := by
      have h1 := sectP_in (p := p + j) hr
      rw [hR.read _ (by omega) (by omega), hF j (by omega)]
    have hcat : (fzs b).take (64 * j) ++ ((fzs b).drop (64 * j)).take 64 = (fzs b).take (64 * (j + 1)) := by
      rw [show 64 * (j + 1) = 64 * j + 64 by omega, List.take_add]
    rw [show k + (d + 1) = (k + d) + 1 by omega]
    unfold recGo
    rw [hrd]
    simp only [hcat, ne_eq, not_true_eq_false, if_false]
    by_cases hd : d = 0
    · subst hd
      have hw : (fzs b).take (64 * (j + 1)) = fzs b := List.take_of_length_le (by rw [fzs_len]; omega)
      rw [hw]
      have hu : unF (fzs b) = (b, 7 + (b.length : Int), 0) := unF_whole hb (fun x hx => by have := List.eq_of_mem_replicate hx; omega) hl
      rw [hu, if_pos rfl]
      unfold needN
      rw [if_neg (by omega)]
      simp
      omega
    · have hu := unF_part (b := b) (t := List.replicate (64 * ((b.length + 70) / 64) - (b.length + 7)) 0) hl (64 * (j + 1)) (by omega) (by omega)
      rw [show frameB b ++ List.replicate (64 * ((b.length + 70) / 64) - (b.length + 7)) 0 = fzs b from rfl] at hu
      rw [if_neg (by rw [hu]; decide)]
      have := ih (j + 1) k (by omega) (by omega)
      rw [show p + (j : Int) + 1 = p + ((j + 1 : Nat) : Int) by omega]
      exact this
/-- records one behind the other -/
def Run (S : Int → List Int) (r : Int) : Int → List (List Int) → Int → Prop
  | p, [], t => p = t
  | p, b :: bs, t => Frm S r p b ∧ Run S r (p + needN b) bs t
def startsP : Int → List (List Int) → List Int
  | _, [] => []
  | p, b :: bs => p :: startsP (p + needN b) bs
theorem need_eq {b : List Int} (h : b.length ≤ 60000) : needN b = (((b.length + 70) / 64 : Nat) : Int) := by
  unfold needN
  rw [if_neg (by omega)]
  omega
theorem run_le {t : Int} : ∀ {R : List (List Int)} {p : Int}, (∀ b ∈ R, b.length ≤ 60000) → Run S r p R t → p + R.length ≤ t
  | [], p, _, h => by have : p = t := h; simp; omega
  | b :: bs, p, hl, h => by
    have h1 := run_le (fun b hb => hl b (List.mem_cons_of_mem _ hb)) h.2
    have h2 := need_eq (hl b (List.mem_cons_self ..))
    rw [List.length_cons]
    omega
theorem openGo_run {t : Int} (hR : Rdy D n S) (hn : n = r + 2) (hr : 1 ≤ r) : ∀ (R : List (List Int)) (p : Int) (k : Nat), (∀ b ∈ R, isBytes b ∧ b.length ≤ 60000) → Run S r p R t → R.length ≤ k → openGo D r t k p = (startsP p R, R, 0)
  | [], p, 0, _, h, _ => by
    have : p = t := h
    simp [openGo, startsP, this]
  | [], p, k + 1, _, h, _ => by
    have : p = t := h
    simp [openGo, startsP, this]
  | b :: bs, p, 0, _, _, hk => by simp at hk
  | b :: bs, p, k + 1, hb, h, hk => by
    have h1 := run_le (R := b :: bs) (fun b h => (hb b h).2) h
    have h3 := run_le (R := bs) (fun b h => (hb b (List.mem_cons_of_mem _ h)).2) h.2
    have hb0 := hb b (List.mem_cons_self ..)
    have h2 := need_eq hb0.2
    rw [List.length_cons] at h1
    have hg := rec_frm (p := p) hR hn hr hb0.1 hb0.2 h.1 ((b.length + 70) / 64) 0 ((t - p).toNat - (b.length + 70) / 64) (by omega) (by omega)
    rw [show (t - p).toNat - (b.length + 70) / 64 + (b.length + 70) / 64 = (t - p).toNat by omega, show p + ((0 : Nat) : Int) = p by omega, show (fzs b).take (64 * 0) = [] by simp] at hg
    have ih := openGo_run hR hn hr bs (p + needN b) k (fun b h => hb b (List.mem_cons_of_mem _ h)) h.2 (by rw [List.length_cons] at hk; omega)
    unfold openGo
    rw [if_neg (by omega), hg]
    simp only [ne_eq, not_true_eq_false, if_false, ih]
    rfl
theorem sect_inj {p q : Int} (hr : 1 ≤ r) (h1 : p < q) (h2 : q < p + r) : sectP r p ≠ sectP r q := by
  intro h
  unfold sectP at h
  have h3 : q % r = p % r := by omega
  have h4 := Int.emod_eq_emod_iff_emod_sub_eq_zero.1 h3
  rw [Int.emod_eq_of_lt (by omega) (by omega)] at h4
  omega
def wrS (S : Int → List Int) (r : Int) : List (List Int) → Int → Int → List Int
  | [], _ => S
  | c :: cs, s => wrS (updS S (sectP r s) (pad c)) r cs (s + 1)
theorem wrS_off (a : Int) : ∀ (cs : List (List Int)) (S : Int → List Int) (s : Int), (∀ j : Nat, j < cs.length → a ≠ sectP r (s + j)) → wrS S r cs s a = S a
  | [], S, s, _ => rfl
  | c :: cs, S, s, h => by
    unfold wrS
    rw [wrS_off a cs _ (s + 1) (fun j hj => by
      have := h (j + 1) (by simp; omega)
      rwa [show s + 1 + (j : Int) = s + ((j + 1 : Nat) : Int) by omega])]
    unfold updS
    rw [if_neg (by have := h 0 (by simp); rwa [show s + ((0 : Nat) : Int) = s by omega] at this)]
theorem wrS_at (hr : 1 ≤ r) : ∀ (cs : List (List Int)) (S : Int → List Int) (s : Int) (j : Nat), j < cs.length → (cs.length : Int) ≤ r → wrS S r cs s (sectP r (s + j)) = pad (cs.getD j [])
  | [], S, s, j, h, _ => by simp at h
  | c :: cs, S, s, 0, _, hl => by
    unfold wrS
    rw [List.length_cons] at hl
    rw [show s + ((0 : Nat) : Int) = s by omega, wrS_off _ cs _ (s + 1) (fun j hj => sect_inj hr (by omega) (by omega))]
    simp [updS]
  | c :: cs, S, s, j + 1, h, hl => by
    unfold wrS
    rw [List.length_cons] at h hl
    rw [show s + ((j + 1 : Nat) : Int) = s + 1 + (j : Int) by omega, wrS_at hr cs _ (s + 1) j (by omega) (by omega)]
    simp
theorem layC_rdy (hn : n = r + 2) (hr : 1 ≤ r) : ∀ (cs : List (List Int)) (D : PD) (S : Int → List Int) (s : Int), Rdy D n S → (∀ c ∈ cs, c.length ≤ 64) →
    ∃ D', layC r cs D s = (D', s + cs.length, 0) ∧ Rdy D' n (wrS S r cs s) ∧ D'.cache.length = D.cache.length + cs.length ∧ (OKD D → (∀ c ∈ cs, isBytes c) → OKD D')
  | [], D, S, s, h, _ => ⟨D, by simp [layC], h, by simp, fun h _ => h⟩
  | c :: cs, D, S, s, h, hc => by
    have h1 := sectP_in (p := s) hr
    have hw := h.write (sectP r s) c (by omega) (by omega) (hc c (List.mem_cons_self ..))
    obtain ⟨D', e1, e2, e3, e4⟩ := layC_rdy hn hr cs _ _ (s + 1) (h.wrote (sectP r s) c) (fun c hc' => hc c (List.mem_cons_of_mem _ hc'))
    refine ⟨D', ?_, e2, ?_, fun ho hb => e4 ?_ (fun c hc' => hb c (List.mem_cons_of_mem _ hc'))⟩
    · unfold layC
      rw [hw]
      simp only [ne_eq, not_true_eq_false, if_false, e1, List.length_cons]
      rw [show s + 1 + (cs.length : Int) = s + ((cs.length + 1 : Nat) : Int) by omega]
    · rw [e3]; simp; omega
    · have := ho.write (sectP r s) (b := c) (hb c (List.mem_cons_self ..))
      rwa [hw] at this
end
theorem chs_pad {b : List Int} (h : b.length ≤ 40000) (j : Nat) (hj : j < (b.length + 70) / 64) : pad ((chs (frameX b)).getD j []) = ((fzs b).drop (64 * j)).take 64 := by
  have hfx : frameX b = frameB b := by unfold frameX; rw [if_neg (by omega)]
  have hl := frameB_len b
  rw [hfx]
  have hg : (chs (frameB b)).getD j [] = ((frameB b).drop (64 * j)).take 64 := by
    unfold chs
    rw [List.getD_eq_getElem?_getD, List.getElem?_map, List.getElem?_range (by rw [hl]; omega)]
    rfl
  rw [hg]
  unfold fzs pad
  rw [List.drop_append_of_le_length (by omega), List.take_append, List.length_take, List.length_drop, List.take_replicate]
  congr 2
  omega
end Go.Proofs.YtlepcmljmibdnaaGreat
namespace Go.Proofs.YtlepcmljmibdnaaGreat
open Go.RowKit Go.Proofs.YtlepcmljmibdnaaGreatW.PrintWords Go.Proofs.YtlepcmljmibdnaaGreatW.PrintLast Go.Proofs.YtlepcmljmibdnaaGreatW.PrintMore PWalOpens
set_option linter.unusedVariables false
set_option linter.unusedSimpArgs false
/-- no bad sector, nothing cached, whatever it is armed for -/
structure Qt (D : PD) (n : Int) (S : Int → List Int) : Prop where
  bad : ∀ a, D.bad a = false
  n : D.n = n
  kept : ∀ a, (D.kept a).getD zsec = S a
theorem Qt.act {D : PD} {n : Int} {S : Int → List Int} (h : Qt D n S) : Qt (actP D).1 n S ∧ (actP D).1.cache = D.cache ∧ ((actP D).2 = 0 → (actP D).1.dead = false) := by
  unfold actP
  simp only
  split
  · exact ⟨⟨h.bad, h.n, h.kept⟩, rfl, fun h => by cases h⟩
  · rename_i hd
    have hd' : D.dead = false := by
      cases hh : D.dead with
      | false => rfl
      | true => rw [hh] at hd; simp at hd
    split
    · exact ⟨⟨h.bad, h.n, h.kept⟩, rfl, fun _ => hd'⟩
    · exact ⟨h, rfl, fun _ => hd'⟩
theorem Qt.keep {D : PD} {n : Int} {S : Int → List Int} (h : Qt D n S) (p : Int × List Int) : Qt (keepP D p) n (updS S p.1 p.2) := by
  refine ⟨h.bad, h.n, fun a => ?_⟩
  rw [keepP_at]
  unfold updS
  split
  · rfl
  · exact h.kept a
theorem Qt.rest {D : PD} {n : Int} {S : Int → List Int} (h : Qt D n S) : Rdy (restP D) n S := ⟨rfl, rfl, h.bad, h.n, fun a => h.kept a⟩
theorem Qt.crash0 {D : PD} {n : Int} {S : Int → List Int} (h : Qt D n S) (hc : D.cache = []) (ks : List Bool) : Rdy (crashP D ks) n S := by
  unfold crashP
  rw [hc]
  exact h.rest
theorem Qt.crash1 {D : PD} {n : Int} {S : Int → List Int} (h : Qt D n S) (p : Int × List Int) (hc : D.cache = [p]) (ks : List Bool) : Rdy (crashP D ks) n S ∨ Rdy (crashP D ks) n (updS S p.1 p.2) := by
  unfold crashP
  rw [hc]
  show Rdy (restP (sel D [p] ks 1)) n S ∨ Rdy (restP (sel D [p] ks 1)) n (updS S p.1 p.2)
  rw [show sel D [p] ks 1 = if ks.getD 0 false then keepP D p else D from rfl]
  split
  · exact .inr (h.keep p).rest
  · exact .inl h.rest
/-- what a slot that doesn't count may be -/
def lesser (u : Int × List Int × Int) (g : Int) : Prop := u.2.2 ≠ 0 ∨ u.1 < g
structure KInv (D : PD) (S : Int → List Int) (g : Int) (l : List Int) : Prop where
  rdy : Rdy D 4 S
  cache : D.cache = []
  ok : OKD D
  mine : unP (S (g % 2)) = (g, l, 0)
  other : lesser (unP (S ((g + 1) % 2))) g
  g0 : 0 ≤ g
  len : l.length ≤ 4
theorem pick_of {S : Int → List Int} {g : Int} {l : List Int} (hg : 0 ≤ g) (mine : unP (S (g % 2)) = (g, l, 0)) (other : lesser (unP (S ((g + 1) % 2))) g) : pickL (unP (S 0)) (unP (S 1)) = (g, l, 0) := by
  have h2 : g % 2 = 0 ∨ g % 2 = 1 := by omega
  rcases h2 with h | h
  · have h' : (g + 1) % 2 = 1 := by omega
    rw [h] at mine
    rw [h'] at other
    rw [mine]
    generalize unP (S 1) = u at other ⊢
    obtain ⟨ug, ul, ue⟩ := u
    have hs : stepL (true, g, l) (ug, ul, ue) = (true, g, l) := by
      unfold stepL
      rw [if_neg]
      rintro ⟨h1, h2⟩
      rcases other with ho | ho
      · exact ho h1
      · rcases h2 with h2 | h2
        · cases h2
        · exact absurd ho (Int.not_lt.2 (Int.le_of_lt h2))
    unfold pickL
    rw [show stepL (false, 0, []) (g, l, 0) = (true, g, l) from rfl, hs]
    rfl
  · have h' : (g + 1) % 2 = 0 := by omega
    rw [h] at mine
    rw [h'] at other
    rw [mine]
    generalize unP (S 0) = u at other ⊢
    obtain ⟨ug, ul, ue⟩ := u
    have hs : ∃ st, stepL (false, 0, []) (ug, ul, ue) = st ∧ (st.1 = false ∨ st.2.1 < g) := by
      refine ⟨_, rfl, ?_⟩
      unfold stepL
      split
      · rename_i hh
        rcases other with ho | ho
        · exact absurd hh.1 ho
        · exact .inr ho
      · exact .inl rfl
    obtain ⟨st, hst, hc⟩ := hs
    unfold pickL
    rw [hst]
    have : stepL st (g, l, 0) = (true, g, l) := by
      unfold stepL
      rw [if_pos ⟨rfl, hc⟩]
    rw [this]
    rfl
theorem next_mine {S : Int → List Int} {g : Int} {l k : List Int} (hg : 0 ≤ g ∧ g + 1 < 18446744073709551616) (mine : unP (S (g % 2)) = (g, l, 0)) (hk : k.length ≤ 4) (hn : ∀ n ∈ k, 0 ≤ n ∧ n < 18446744073709551616) :
    unP (updS S ((g + 1) % 2) (pad (slotB (g + 1) k)) ((g + 1) % 2)) = (g + 1, k, 0) ∧ lesser (unP (updS S ((g + 1) % 2) (pad (slotB (g + 1) k)) ((g + 1 + 1) % 2))) (g + 1) := by
  constructor
  · unfold updS
    rw [if_pos rfl]
    exact unP_pad (g + 1) k ⟨by omega, hg.2⟩ hk hn
  · unfold updS
    rw [if_neg (by omega), show (g + 1 + 1) % 2 = g % 2 by omega, mine]
    exact .inr (by show g < g + 1; omega)
theorem OKD.arm {D : PD} (h : OKD D) (n : Int) : OKD (armP D n) := ⟨h.ok, h.c64⟩
theorem OKD.crash {D : PD} (h : OKD D) (ks : List Bool) : OKD (crashP D ks) := by
  have key : ∀ i, i ≤ D.cache.length → OKD (sel D D.cache ks i) := by
    intro i
    induction i with
    | zero => intro _; exact h
    | succ i ih =>
      intro hi
      unfold sel
      split
      · refine (ih (by omega)).keep ?_
        have hm : D.cache[i]? = some D.cache[i] := List.getElem?_eq_getElem (by omega)
        simp only [List.getD, hm, Option.getD_some]
        exact h.ok.2 _ (List.getElem_mem _)
      · exact ih (by omega)
  have hk := key D.cache.length (Nat.le_refl _)
  exact ⟨⟨hk.ok.1, fun p hp => by cases hp⟩, fun p hp => by cases hp⟩
end Go.Proofs.YtlepcmljmibdnaaGreat
namespace Go.Proofs.YtlepcmljmibdnaaGreat
open Go.RowKit Go.Proofs.YtlepcmljmibdnaaGreatW.PrintWords Go.Proofs.YtlepcmljmibdnaaGreatW.PrintLast Go.Proofs.YtlepcmljmibdnaaGreatW.PrintMore PWalOpens
set_option linter.unusedVariables false
set_option linter.unusedSimpArgs false
section
variable {D : PD} {n : Int} {S S' : Int → List Int} {r : Int}
theorem run_keep {t : Int} : ∀ {R : List (List Int)} {p : Int}, (∀ b ∈ R, b.length ≤ 60000) → (∀ q, p ≤ q → q < t → S' (sectP r q) = S (sectP r q)) → Run S r p R t → Run S' r p R t
  | [], p, _, _, h => h
  | b :: bs, p, hl, hq, h => by
    have hb := need_eq (hl b (List.mem_cons_self ..))
    have h1 := run_le (fun b hb => hl b (List.mem_cons_of_mem _ hb)) h.2
    refine ⟨fun j hj => ?_, run_keep (fun b hb => hl b (List.mem_cons_of_mem _ hb)) (fun q h1 h2 => hq q (by omega) h2) h.2⟩
    rw [hq (p + j) (by omega) (by omega)]
    exact h.1 j hj
theorem run_app {q t : Int} {R' : List (List Int)} : ∀ {R : List (List Int)} {p : Int}, Run S r p R q → Run S r q R' t → Run S r p (R ++ R') t
  | [], p, h, h' => by
    have : p = q := h
    rw [this]
    exact h'
  | b :: bs, p, h, h' => ⟨h.1, run_app h.2 h'⟩
theorem chs_len {b : List Int} (h : b.length ≤ 40000) : (chs (frameX b)).length = (b.length + 70) / 64 := by
  unfold chs frameX
  rw [if_neg (by omega), List.length_map, List.length_range, frameB_len]
theorem chs_each {b : List Int} (hb : isBytes b) (h : b.length ≤ 40000) : ∀ c ∈ chs (frameX b), c.length ≤ 64 ∧ isBytes c := by
  intro c hc
  unfold chs at hc
  obtain ⟨i, _, rfl⟩ := List.mem_map.1 hc
  refine ⟨by rw [List.length_take]; omega, ?_⟩
  exact ((frameX_facts hb h).2.1.drop _).take _
theorem lay_one {b : List Int} {s : Int} (hn : n = r + 2) (hr : 1 ≤ r) (hR : Rdy D n S) (hb : isBytes b ∧ b.length ≤ 40000) (hK : needN b ≤ r) :
    ∃ D' S', layC r (chs (frameX b)) D s = (D', s + needN b, 0) ∧ Rdy D' n S' ∧ D'.cache.length ≤ D.cache.length + 700 ∧ Frm S' r s b ∧ (∀ a, (∀ j : Nat, j < (b.length + 70) / 64 → a ≠ sectP r (s + j)) → S' a = S a) ∧ (OKD D → OKD D') := by
  have hl := chs_len hb.2
  have he := chs_each hb.1 hb.2
  have hk := need_eq (b := b) (by omega)
  obtain ⟨D', e1, e2, e3, e4⟩ := layC_rdy hn hr (chs (frameX b)) D S s hR (fun c hc => (he c hc).1)
  refine ⟨D', wrS S r (chs (frameX b)) s, ?_, e2, by rw [e3, hl]; omega, fun j hj => ?_, fun a ha => wrS_off a _ S s (by rw [hl]; exact ha), fun h => e4 h fun c hc => (he c hc).2⟩
  · rw [e1, hl, hk]
  · rw [wrS_at hr _ S s j (by rw [hl]; exact hj) (by rw [hl]; omega)]
    exact chs_pad hb.2 j hj
theorem layR_run {head : Int} (hn : n = r + 2) (hr : 1 ≤ r) : ∀ (R : List (List Int)) (D : PD) (S : Int → List Int) (s : Int) (st : List Int) (recs : List (List Int)), Rdy D n S → (∀ b ∈ R, isBytes b ∧ b.length ≤ 40000) → (∀ b ∈ recs, b.length ≤ 60000) → Run S r head recs s → s + needs R - head ≤ r →
    ∃ D' S', layR r R D s st = (D', st ++ startsP s R, s + needs R, 0) ∧ Rdy D' n S' ∧ Run S' r head (recs ++ R) (s + needs R) ∧ S' 0 = S 0 ∧ S' 1 = S 1 ∧ D'.cache.length ≤ D.cache.length + 700 * R.length ∧ (OKD D → OKD D')
  | [], D, S, s, st, recs, hR, _, _, hrun, _ => ⟨D, S, by simp [layR, startsP, needs], hR, by simpa [needs] using hrun, rfl, rfl, by simp, id⟩
  | b :: bs, D, S, s, st, recs, hR, hb, hrl, hrun, hfit => by
    have hb0 := hb b (List.mem_cons_self ..)
    have hk := need_eq (b := b) (by omega)
    have hns : needs (b :: bs) = needN b + needs bs := rfl
    have hns0 := (needs_le (R := bs) fun b h => (hb b (List.mem_cons_of_mem _ h)).2).1
    have hle := run_le hrl hrun
    rw [hns] at hfit
    obtain ⟨D1, S1, e1, e2, e3, e4, e5, e6⟩ := lay_one (s := s) hn hr hR hb0 (by omega)
    have hrun1 : Run S1 r head (recs ++ [b]) (s + needN b) := run_app (run_keep hrl (fun q h1 h2 => e5 _ (fun j hj => sect_inj hr (by omega) (by omega))) hrun) ⟨e4, rfl⟩
    obtain ⟨D2, S2, f1, f2, f3, f4, f4', f5, f6⟩ := layR_run (head := head) hn hr bs D1 S1 (s + needN b) (st ++ [s]) (recs ++ [b]) e2 (fun b h => hb b (List.mem_cons_of_mem _ h)) (fun c hc => by
      rcases List.mem_append.1 hc with h | h
      · exact hrl c h
      · rw [List.mem_singleton.1 h]; omega) hrun1 (by omega)
    have hs0 : ∀ a : Int, a < 2 → S1 a = S a := fun a ha => e5 a (fun j hj h => by have := sectP_in (p := s + j) hr; omega)
    refine ⟨D2, S2, ?_, f2, ?_, by rw [f4, hs0 0 (by omega)], by rw [f4', hs0 1 (by omega)], by rw [List.length_cons]; omega, fun h => f6 (e6 h)⟩
    · have : layR r (b :: bs) D s st = if (layC r (chs (frameX b)) D s).2.2 ≠ 0 then ((layC r (chs (frameX b)) D s).1, [], 0, (layC r (chs (frameX b)) D s).2.2) else layR r bs (layC r (chs (frameX b)) D s).1 (layC r (chs (frameX b)) D s).2.1 (st ++ [s]) := rfl
      rw [this, e1]
      simp only [ne_eq, not_true_eq_false, if_false, f1, hns, startsP, List.append_assoc, List.cons_append, List.nil_append]
      rw [Int.add_assoc]
    · rw [hns, ← Int.add_assoc]
      rw [List.append_assoc] at f3
      exact f3
end
/-- a wal that holds R -/
structure WInv (D : PD) (S : Int → List Int) (r g head tail : Int) (R : List (List Int)) : Prop where
  rdy : Rdy D (r + 2) S
  hr : 1 ≤ r
  cache : D.cache = []
  ok : OKD D
  mine : unP (S (g % 2)) = (g, [head, tail], 0)
  other : lesser (unP (S ((g + 1) % 2))) g
  g0 : 0 ≤ g
  run : Run S r head R tail
  fit : tail - head ≤ r
  h0 : 0 ≤ head
  recs : ∀ b ∈ R, isBytes b ∧ b.length ≤ 40000
section
variable {D : PD} {S : Int → List Int} {r g head tail : Int} {R : List (List Int)}
theorem WInv.ring (h : WInv D S r g head tail R) : ringP D = r := by
  unfold ringP
  rw [h.rdy.n]
  have := h.hr
  omega
theorem WInv.le (h : WInv D S r g head tail R) : head + R.length ≤ tail := run_le (fun b hb => by have := (h.recs b hb).2; omega) h.run
theorem WInv.load (h : WInv D S r g head tail R) : loadP D = (g, [head, tail], 0) := by
  rw [h.rdy.load (by have := h.hr; omega)]
  exact pick_of h.g0 h.mine h.other
theorem WInv.open_ (h : WInv D S r g head tail R) : openP D = (g, head, tail, startsP head R, R, 0) := by
  have hle := h.le
  unfold openP
  rw [h.load]
  simp only [ne_eq, not_true_eq_false, if_false]
  rw [h.ring, if_neg (by have := h.fit; omega), openGo_run h.rdy rfl h.hr R head _ (fun b hb => ⟨(h.recs b hb).1, by have := (h.recs b hb).2; omega⟩) h.run (by omega)]
theorem WInv.save (h : WInv D S r g head tail R) {S1 : Int → List Int} {D1 : PD} {h1 t1 : Int} {R1 : List (List Int)} (h2 : Rdy D1 (r + 2) S1) (ho : OKD D1) (e0 : S1 0 = S 0) (e1 : S1 1 = S 1) (hrun : Run S1 r h1 R1 t1) (hfit : t1 - h1 ≤ r) (hh : 0 ≤ h1 ∧ t1 < 18446744073709551616) (hrec : ∀ b ∈ R1, isBytes b ∧ b.length ≤ 40000) (hg : g + 1 < 18446744073709551616) :
    ∃ D2 S2, saveP D1 (g + 1) [h1, t1] = (D2, 0) ∧ WInv D2 S2 r (g + 1) h1 t1 R1 := by
  have hr := h.hr
  have g0 := h.g0
  have hle := run_le (fun b hb => by have := (hrec b hb).2; omega) hrun
  have hk : ∀ n ∈ [h1, t1], 0 ≤ n ∧ n < 18446744073709551616 := by
    intro n hn
    simp only [List.mem_cons, List.not_mem_nil, or_false] at hn
    rcases hn with rfl | rfl <;> omega
  obtain ⟨s1, s2, s3⟩ := h2.save (by omega) (g + 1) [h1, t1] (by omega) (by simp)
  have hp : ∀ a : Int, a = 0 ∨ a = 1 → S1 a = S a := by
    rintro a (rfl | rfl)
    · exact e0
    · exact e1
  obtain ⟨m1, m2⟩ := next_mine (S := S1) (g := g) (l := [head, tail]) (k := [h1, t1]) ⟨g0, hg⟩ (by rw [hp _ (by omega)]; exact h.mine) (by simp) hk
  refine ⟨_, _, Prod.ext rfl s1, s2, hr, s3, ho.save (g + 1) _ ⟨by omega, hg⟩ hk, m1, m2, by omega, ?_, hfit, hh.1, hrec⟩
  refine run_keep (fun b hb => by have := (hrec b hb).2; omega) (fun q _ _ => ?_) hrun
  have := sectP_in (p := q) hr
  unfold updS
  rw [if_neg (by omega)]
theorem WInv.add (h : WInv D S r g head tail R) {X : List (List Int)} (hX : RecsOK X) (hf : needs X ≤ r - (tail - head)) (ht : tail + needs X < 18446744073709551616) (hg : g + 1 < 18446744073709551616) :
    ∃ D1 D2 S2, layP D r (r - (tail - head)) tail X = (D1, startsP tail X, tail + needs X, 0) ∧ D1.cache.length ≤ 4200 ∧ saveP D1 (g + 1) [head, tail + needs X] = (D2, 0) ∧ WInv D2 S2 r (g + 1) head (tail + needs X) (R ++ X) := by
  obtain ⟨D1, S1, f1, f2, f3, f4, f4', f5, f6⟩ := layR_run (head := head) rfl h.hr X D S tail [] R h.rdy hX.each (fun b hb => by have := (h.recs b hb).2; omega) h.run (by omega)
  have hrec : ∀ b ∈ R ++ X, isBytes b ∧ b.length ≤ 40000 := fun b hb => (List.mem_append.1 hb).elim (h.recs b) (hX.each b)
  obtain ⟨D2, S2, g1, g2⟩ := h.save f2 (f6 h.ok) f4 f4' f3 (by omega) ⟨h.h0, ht⟩ hrec hg
  refine ⟨D1, D2, S2, ?_, ?_, g1, g2⟩
  · unfold layP
    rw [if_neg (by omega), f1]
    rfl
  · rw [h.cache] at f5
    have := hX.len
    simp only [List.length_nil] at f5
    omega
end
end Go.Proofs.YtlepcmljmibdnaaGreat
namespace Go.Proofs.YtlepcmljmibdnaaGreat
open Go.RowKit Go.Proofs.YtlepcmljmibdnaaGreatW.PrintWords Go.Proofs.YtlepcmljmibdnaaGreatW.PrintLast Go.Proofs.YtlepcmljmibdnaaGreatW.PrintMore PWalOpens
set_option linter.unusedVariables false
set_option linter.unusedSimpArgs false
/-- what a wal's deeds may change: the disk, the wal's own block -/
def isWD (M Bd : Nat) (k : Nat) (o : Obj) : Prop := isDisk M Bd k o ∨ isT 102 k o
/-- a wal, its disk, its starts -/
structure WV (n0 : Nat) (w : World) (Wb B M Bd : Nat) (vc vs : Value) (D : PD) (gen head tail : Int) (S : List Int) (over : Bool) : Prop where
  blk : WlC w Wb B gen head tail vs true over
  hW : n0 ≤ Wb
  dk : DK w n0 B M Bd vc D
  st : Kd.R (Kd.int .u64) 52 w n0 (fun _ => True) vs S
section
variable {n0 : Nat} {w w' : World} {Wb B M Bd : Nat} {vc vs v1 : Value} {D D1 : PD} {gen head tail h1 t1 : Int} {S S1 : List Int} {over : Bool}
theorem WV.away (h : WV n0 w Wb B M Bd vc vs D gen head tail S over) : ¬ FP B M Bd vc Wb := by
  have hb := h.blk
  unfold WlC at hb
  rintro (rfl | rfl | rfl | hk)
  · rw [h.dk.blk] at hb; simp at hb
  · obtain ⟨_, _, hk, _⟩ := h.dk.kept; rw [hk] at hb; cases hb
  · obtain ⟨_, _, hk, _⟩ := h.dk.bad; rw [hk] at hb; cases hb
  · obtain ⟨inner, ho⟩ := Kd.R_own h.dk.cache
    obtain ⟨cells, hc⟩ := own_typed ho Wb hk.symm
    rw [hc] at hb; simp at hb
theorem WV.fresh (h : WV n0 w Wb B M Bd vc vs D gen head tail S over) (hb : Below w.heap.size w w') : WV n0 w' Wb B M Bd vc vs D gen head tail S over :=
  ⟨(hb.block _ (Array.getElem?_eq_some_iff.1 h.blk).1).trans h.blk, h.hW, h.dk.chg (.of_below hb), Kd.R_below h.st hb⟩
/-- the disk alone went on -/
theorem WV.disk {vc' : Value} (h : WV n0 w Wb B M Bd vc vs D gen head tail S over) (ha : At w (FP B M Bd vc) w' B M Bd vc' D1) : WV n0 w' Wb B M Bd vc' vs D1 gen head tail S over ∧ TC n0 (isDisk M Bd) w w' := by
  have hc := h.dk.tc ha.chg
  exact ⟨⟨hc.blk _ _ h.blk (fun e => by simp [isDisk] at e), h.hW, At.based h.dk ha, R_tc h.st hc (fun q hq _ cells => by
    obtain rfl := q56 q hq
    simp [isDisk])⟩, hc⟩
theorem WV.tcW (h : WV n0 w Wb B M Bd vc vs D gen head tail S over) (i : Nat) (v : Value) : TC n0 (isT 102) w (w.setCell ⟨Wb, i, none⟩ v) := TC.set (T := isT 102) h.blk rfl h.hW v
theorem WV.overed (h : WV n0 w Wb B M Bd vc vs D gen head tail S over) : WV n0 (w.setCell ⟨Wb, 6, none⟩ (.bool true)) Wb B M Bd vc vs D gen head tail S true :=
  ⟨h.blk.overed, h.hW, h.dk.tkeep (h.tcW 6 _) (isT_disk (by decide)), R_tc h.st (h.tcW 6 _) (fun q hq _ cells => by
    obtain rfl := q56 q hq
    simp [isT])⟩
/-- four fields turned -/
theorem WV.turned (h : WV n0 w Wb B M Bd vc vs D gen head tail S over) (hr : Kd.R (Kd.int .u64) 52 w n0 (fun _ => True) v1 S1) (g1 : Int) :
    WV n0 ((((w.setCell ⟨Wb, 1, none⟩ (.int .u64 g1)).setCell ⟨Wb, 2, none⟩ (.int .u64 h1)).setCell ⟨Wb, 3, none⟩ (.int .u64 t1)).setCell ⟨Wb, 4, none⟩ v1) Wb B M Bd vc v1 D g1 h1 t1 S1 over ∧
      TC n0 (isT 102) w ((((w.setCell ⟨Wb, 1, none⟩ (.int .u64 g1)).setCell ⟨Wb, 2, none⟩ (.int .u64 h1)).setCell ⟨Wb, 3, none⟩ (.int .u64 t1)).setCell ⟨Wb, 4, none⟩ v1) := by
  have b0 := h.blk
  unfold WlC at b0
  have b1 := set7 b0 1 (.int .u64 g1)
  have b2 := set7 b1 2 (.int .u64 h1)
  have b3 := set7 b2 3 (.int .u64 t1)
  have b4 := set7 b3 4 v1
  have c1 : TC n0 (isT 102) w (w.setCell ⟨Wb, 1, none⟩ (.int .u64 g1)) := TC.set (T := isT 102) b0 rfl h.hW _
  have c2 := c1.trans (TC.set (T := isT 102) b1 rfl h.hW (.int .u64 h1) (j := 2))
  have c3 := c2.trans (TC.set (T := isT 102) b2 rfl h.hW (.int .u64 t1) (j := 3))
  have c4 := c3.trans (TC.set (T := isT 102) b3 rfl h.hW v1 (j := 4))
  exact ⟨⟨b4, h.hW, h.dk.tkeep c4 (isT_disk (by decide)), R_tc hr c4 (fun q hq _ cells => by
    obtain rfl := q56 q hq
    simp [isT])⟩, c4⟩
theorem save_two (g x y e : Int) (hsv : saveP D g [x, y] = (D1, e)) (hg : 0 ≤ g ∧ g < 18446744073709551616) (hx : 0 ≤ x ∧ x < 18446744073709551616) (hy : 0 ≤ y ∧ y < 18446744073709551616) (hc : D.cache.length ≤ 30000) (h : At w (FP B M Bd vc) w B M Bd vc D) :
    Calls Tryz.prog 94 #[.pointer (some ⟨B, 0, none⟩), .int .u64 g, .slice (some ⟨w.heap.size, 0, none⟩) 2 2] (w.alloc (.cells #[.int .u64 x, .int .u64 y] 52)).drew fun r w' => r = .returned (.int .i64 e) ∧ ∃ vc', At w (FP B M Bd vc) w' B M Bd vc' D1 :=
  at_save (l := [x, y]) (A := some ⟨w.heap.size, 0, none⟩) (c := 2) hsv hg (by simp; exact ⟨hx, hy⟩) (Kd.C_drew (lit_Cu w [x, y] (fun _ => False) (by simp) (fun h => h) _ (Chg.refl _ _))) hc (h.grow (.of_below ((Below.refl w.heap.size w).alloc (Nat.le_refl _) _).drew))
theorem froz {w : World} {b : Nat} {cs : Array Value} {t : Nat} (h : w.heap[b]? = some (.cells cs t (0, 0))) (i : Nat) : w.frozen? ⟨b, i, none⟩ = false := by
  unfold World.frozen?
  simp [h]
/-- what turn does: 0, or over -/
def TuQ (n0 : Nat) (w : World) (Wb B M Bd : Nat) (vs v1 : Value) (D1 : PD) (gen head tail h1 t1 : Int) (S S1 : List Int) (over : Bool) (e : Int) (r : Ending) (w' : World) : Prop :=
  TC n0 (isWD M Bd) w w' ∧ ∃ vc', (e = 0 → r = .returned (.int .i64 0) ∧ WV n0 w' Wb B M Bd vc' v1 D1 (gen + 1) h1 t1 S1 over) ∧ (e ≠ 0 → r = .returned (.int .i64 50) ∧ WV n0 w' Wb B M Bd vc' vs D1 gen head tail S true)
theorem turn_calls (e : Int) (hsv : saveP D (gen + 1) [h1, t1] = (D1, e)) (hg : 0 ≤ gen ∧ gen < 18446744073709551615) (hh : 0 ≤ h1 ∧ h1 < 18446744073709551616) (ht : 0 ≤ t1 ∧ t1 < 18446744073709551616) (hc : D.cache.length ≤ 30000)
    (h : WV n0 w Wb B M Bd vc vs D gen head tail S over) (hr : Kd.R (Kd.int .u64) 52 w n0 (fun _ => True) v1 S1) :
    Calls Tryz.prog 57 #[.pointer (some ⟨Wb, 0, none⟩), .int .u64 h1, .int .u64 t1, v1] w (TuQ n0 w Wb B M Bd vs v1 D1 gen head tail h1 t1 S S1 over e) := by
  have HH := Aside0.mk h
  have HRR := Aside0.mk hr
  have HSV := Aside0.mk (save_two (w := w) (B := B) (M := M) (Bd := Bd) (vc := vc) (gen + 1) h1 t1 e hsv ⟨by omega, by omega⟩ hh ht hc (At.refl h.dk))
  have HWG := Aside0.mk (IntWalk.u64_in (gen + 1) (by omega))
  obtain ⟨⟨q0, q1, q2, q3, q4, q5, q6⟩, k2, k4, k5, k6⟩ := cells7 h.blk
  obtain ⟨A1, c1, rfl⟩ := Kd.R_slice hr
  have g0 : 0 ≤ gen := hg.1
  have g1 : gen < 18446744073709551615 := hg.2
  clear hsv h hr q2 q3 q4 q5 q6 k2 k4 k5 k6
  go_enter Tryz.func57, Tryz.ntmps57
  go_wp2
  refine Fork.wp_fork (Fork.Lo.rel 0) [12] [] (.one 0 0 (.one 1 0 (.one 2 0 (.one 4 0 (.one 5 0 (.one 6 0 (.one 9 0 (.one 10 0 (.one 3 1 (.one 7 1 (.one 8 0 (.one 11 2 (.one 12 2 (.one 13 0 .nil)))))))))))))) (by kernel_rfl) (by kernel_rfl) ?_
  generalize hops : List.toArray (_ : List Oper) = ops
  have HO := Aside0.mk hops
  clear hops
  iterate 8 ((refine Fork.plain (Fork.at_ HO.out rfl) _ rfl (fun W => by go_simp; exact rfl) ?_); simp only [Act.put, List.setIfInBounds_toArray, List.set_cons_succ, List.set_cons_zero])
  refine Fork.reads (Fork.at_ HO.out rfl) _ rfl (fun W hW => Arr.ex_load1 rfl rfl (by kernel_rfl) (Fork.bel_cell hW (by assumption))) ?_
  simp only [Act.put, List.setIfInBounds_toArray, List.set_cons_succ, List.set_cons_zero]
  refine Fork.reads (Fork.at_ HO.out rfl) _ rfl (fun W hW => Arr.ex_load1 rfl rfl (by kernel_rfl) (Fork.bel_cell hW (by assumption))) ?_
  simp only [Act.put, List.setIfInBounds_toArray, List.set_cons_succ, List.set_cons_zero]
  ((refine Fork.plain (Fork.at_ HO.out rfl) _ rfl (fun W => by go_simp; exact rfl) ?_); simp only [Act.put, List.setIfInBounds_toArray, List.set_cons_succ, List.set_cons_zero])
  refine Fork.step (Fork.at_ HO.out rfl) (fun K hK => ?_)
  go_simp
  refine hK _ _ (.of_new ((Below.refl _ _).alloc (Nat.le_refl _) _) (Nat.zero_le _)) ?_
  clear hK K
  try simp only [Act.put, List.setIfInBounds_toArray, List.set_cons_succ, List.set_cons_zero]
  refine Fork.step (Fork.at_ HO.out rfl) (fun K hK => ?_)
  go_simp
  rw [HWG.out]
  (with_reducible refine HSV.out.mono ?_)
  rintro er w5 ⟨rfl, vc5, hd5⟩
  refine hK _ _ (Fork.Grow.of_old (Fork.Lo.zero hd5.chg.os hd5.chg.tape hd5.chg.output) rfl) ?_
  clear hK K
  have HD5 := Aside0.mk (HH.out.disk hd5)
  clear hd5
  try simp only [Act.put, List.setIfInBounds_toArray, List.set_cons_succ, List.set_cons_zero]
  ((refine Fork.plain (Fork.at_ HO.out rfl) _ rfl (fun W => by go_simp; exact rfl) ?_); simp only [Act.put, List.setIfInBounds_toArray, List.set_cons_succ, List.set_cons_zero])
  refine Fork.done ?_
  obtain ⟨⟨p0, p1, p2, p3, p4, p5, p6⟩, _⟩ := cells7 HD5.out.1.blk
  have f1 := froz HD5.out.1.blk 1
  have f2 := froz HD5.out.1.blk 2
  have f3 := froz HD5.out.1.blk 3
  have f4 := froz HD5.out.1.blk 4
  have f6 := froz HD5.out.1.blk 6
  have HR5 := Aside0.mk (R_tc HRR.out HD5.out.2 (fun q hq _ cells => by
    obtain rfl := q56 q hq
    simp [isDisk]))
  have HTD := Aside0.mk (show TC n0 (isWD M Bd) w w5 from HD5.out.2.mono fun _ _ h => .inl h)
  by_cases he : e = 0
  · subst he
    go_wp2
    go_ret
    have h5 := HD5.out.1.turned (h1 := h1) (t1 := t1) HR5.out (gen + 1)
    exact ⟨HTD.out.trans (h5.2.mono fun _ _ h => .inr h), vc5, fun _ => ⟨rfl, h5.1⟩, fun h => absurd rfl h⟩
  · have he' : (e != 0) = true := by simp; exact he
    go_wp2
    go_ret
    exact ⟨HTD.out.trans ((HD5.out.1.tcW 6 _).mono fun _ _ h => .inr h), vc5, fun h => absurd h he, fun _ => ⟨rfl, HD5.out.1.overed⟩⟩
end
end Go.Proofs.YtlepcmljmibdnaaGreat
