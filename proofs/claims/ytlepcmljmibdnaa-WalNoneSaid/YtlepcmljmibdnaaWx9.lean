/- Parts of one proof, joined: Sn, Rd, Rdx, Ss, Fr, Ff, So, Wl. Conditions: those of each statement. -/
import Derived.Test.YtlepcmljmibdnaaWx8
import Derived.Test.YtlepcmljmibdnaaWWords
import Derived.Deep.Slices
import Derived.ChangeArms
import Derived.Test.YtlepcmljmibdnaaPDiskArmsx1
import Derived.WalkKit
import Derived.ProofKit
import Derived.OpenShut
import Derived.ShutString
import Derived.ChangeOld
import Derived.Below
namespace Go.Proofs.Ytlepcmljmibdnaa
open Go.RowKit Go.Proofs.YtlepcmljmibdnaaW.PrintWords Go.Proofs.YtlepcmljmibdnaaW.PrintLast Go.Proofs.YtlepcmljmibdnaaW.PrintMore PWalOpens
set_option linter.unusedVariables false
set_option linter.unusedSimpArgs false
end Go.Proofs.Ytlepcmljmibdnaa
namespace Go.Rd
open Go.RowKit Go.Proofs.YtlepcmljmibdnaaW.PrintWords

structure Reads (P : Program) (t : TypeId) {α : Type} (d : Kd α) (ok : α → Prop) : Prop where
  cells : P.cellsOf t = d.sz
  rd : ∀ {H : Type} (enc : TypeId × Value → H) (w : World) (sp : Nat → Bool) (held : Bool) (fuel : Nat) (cs : List Value) (x : DataW H × List MemPlace),
    DataW.trod enc P w 0 sp held fuel t cs = some x → ∃ a, d.K w a cs ∧ ok a

section
variable {P : Program} {t e : TypeId}
theorem int {k : IntKind} (ht : P.underlying t = some (.int k)) (hc : P.cellsOf t = 1) : Reads P t (Kd.int k) (fun n => (Lit.int k n).wf = true) :=
  ⟨hc, fun enc w sp held fuel cs x h => by
    obtain ⟨n, rfl, _, hw⟩ := DataW.trod_int ht h
    exact ⟨n, rfl, hw⟩⟩
theorem slice {α : Type} {d : Kd α} {ok : α → Prop} (hd : Reads P e d ok) (ht : P.underlying t = some (.slice e)) (hc : P.cellsOf t = 1) : Reads P t (Kd.slice e d) (fun xs => ∀ a ∈ xs, ok a) :=
  ⟨hc, fun enc w sp held fuel cs x h => by
    rcases Deep.open_slice ht h with ⟨rfl, _⟩ | ⟨a, len, cap, m, n, D, Pl, rfl, hb, hl, hm, hmm, _, hx⟩
    · exact ⟨[], ⟨none, 0, rfl, Nat.le_refl _, Kd.C_nil _ _⟩, by simp⟩
    · have hlm : len ≤ m := by rw [hmm]; split <;> omega
      have hall : ∀ i, i < len → ∃ y : α, ok y ∧ ∃ c, c.length = d.sz ∧ d.K w y c ∧ ∀ j u, c[j]? = some u → w.cell? (a.add (i * d.sz + j)) = some u := by
        intro i hi
        obtain ⟨cs', h1, h2⟩ := hx i (by omega)
        obtain ⟨y, hy, hok⟩ := hd.rd enc w sp held n cs' _ h2
        obtain ⟨_, h4, h5⟩ := World.cells?_some h1
        rw [hd.cells] at h4 h5
        refine ⟨y, hok, cs', h4, hy, fun j u hj => ?_⟩
        have hjl : j < d.sz := by rw [← h4]; exact (List.getElem?_eq_some_iff.1 hj).1
        have := h5 j hjl
        rw [Deep.add_add] at this
        rw [this, hj]
      by_cases h0 : len = 0
      · subst h0
        exact ⟨[], ⟨some a, cap, rfl, by simp, ⟨rfl, by simp, fun h => absurd h (Nat.lt_irrefl 0)⟩⟩, by simp⟩
      · obtain ⟨y0, _⟩ := hall 0 (by omega)
        haveI : Inhabited α := ⟨y0⟩
        obtain ⟨f, hf⟩ := Deep.choose_lt (p := fun i y => ok y ∧ ∃ c, c.length = d.sz ∧ d.K w y c ∧ ∀ j u, c[j]? = some u → w.cell? (a.add (i * d.sz + j)) = some u) hall
        have hlen : ((List.range len).map f).length = len := by simp
        refine ⟨(List.range len).map f, ⟨some a, cap, by rw [hlen], by rw [hlen]; exact hl, ?_⟩, fun y hy => ?_⟩
        · refine ⟨rfl, by rw [hlen]; simp only [maxLen] at hm; omega, fun _ => ⟨a, rfl, fun j p hj => ?_⟩⟩
          have hjl : j < len := by rw [← hlen]; exact (List.getElem?_eq_some_iff.1 hj).1
          rw [List.getElem?_map, List.getElem?_range hjl] at hj
          obtain rfl := Option.some.inj hj
          exact (hf j hjl).2
        · obtain ⟨i, hi, rfl⟩ := List.mem_map.1 hy
          exact (hf i (List.mem_range.1 hi)).1⟩

structure FieldsR (P : Program) (fs : List Field) (o : Nat) {α : Type} (d : Kd α) (ok : α → Prop) : Prop where
  rd : ∀ {H : Type} (enc : TypeId × Value → H) (w : World) (sp : Nat → Bool) (held : Bool) (n : Nat) (cs : List Value), o + d.sz ≤ cs.length →
    (∀ f ∈ fs, ∃ y, DataW.trod enc P w 0 sp held n f.type ((cs.drop f.offset).take (P.cellsOf f.type)) = some y) → ∃ a, d.K w a ((cs.drop o).take d.sz) ∧ ok a
/-- A slice that came in. -/
theorem arg {α : Type} {d : Kd α} {ok : α → Prop} (hd : Reads P e d ok) (ht : P.underlying t = some (.slice e)) (hc : P.cellsOf t = 1) {H : Type} {enc : TypeId × Value → H} {W : World} {a : Option Addr} {len cap : Nat} {D : DataW H} {ps : List MemPlace}
    (h : DataW.Trod enc P W 0 (fun _ => true) true t (.slice a len cap) D ps) : ∃ l : List α, len = l.length ∧ l.length ≤ cap ∧ d.C W a l.length l ∧ ∀ x ∈ l, ok x := by
  obtain ⟨fuel, hf⟩ := h
  obtain ⟨l, ⟨A, c, he, hl, hC⟩, hok⟩ := (slice hd ht hc).rd enc W _ _ fuel _ _ hf
  simp only [Value.cells, List.cons.injEq, and_true] at he
  injection he with h1 h2 h3
  subst h1; subst h2; subst h3
  exact ⟨l, rfl, hl, hC, hok⟩
end
end Go.Rd
namespace Go.Proofs.Ytlepcmljmibdnaa
open Go.ChangeShapes Go.WideShapes Go.ChangeAt Go.RowKit Go.Proofs.YtlepcmljmibdnaaW.PrintWords Go.Proofs.YtlepcmljmibdnaaW.PrintLast Go.Proofs.YtlepcmljmibdnaaW.PrintMore PDiskArms
theorem rU8 : Rd.Reads Try.prog 5 (Kd.int .u8) (fun n => (Lit.int .u8 n).wf = true) := Rd.int Try.underlying5 (by kernel_rfl)
end Go.Proofs.Ytlepcmljmibdnaa
namespace Go.Rd
end Go.Rd
namespace Go.Proofs.Ytlepcmljmibdnaa
open Go.RowKit Go.Proofs.YtlepcmljmibdnaaW.PrintWords Go.Proofs.YtlepcmljmibdnaaW.PrintLast Go.Proofs.YtlepcmljmibdnaaW.PrintMore PWalOpens
set_option linter.unusedVariables false
set_option linter.unusedSimpArgs false
def slotX (gen : Int) (l : List Int) : List Int := if 4 < l.length then [] else slotB gen l
def slotE (l : List Int) : Int := if 4 < l.length then 2 else 0
end Go.Proofs.Ytlepcmljmibdnaa
namespace Go.Proofs.Ytlepcmljmibdnaa
open Go.RowKit Go.Proofs.YtlepcmljmibdnaaW.PrintWords Go.Proofs.YtlepcmljmibdnaaW.PrintLast Go.Proofs.YtlepcmljmibdnaaW.PrintMore PWalOpens
set_option linter.unusedVariables false
set_option linter.unusedSimpArgs false
def lenB (b : List Int) : List Int := [(b.length : Int) / 256 % 256, (b.length : Int) % 256]
def frameB (b : List Int) : List Int := 165 :: (lenB b ++ b ++ be4 (crcB (lenB b ++ b)))
def frameX (b : List Int) : List Int := if 60000 < b.length then [] else frameB b
def frameE (b : List Int) : Int := if 60000 < b.length then 2 else 0
def needN (b : List Int) : Int := if 60000 < b.length then 0 else (b.length + 70) / 64
theorem frameB_len (b : List Int) : (frameB b).length = b.length + 7 := by simp [frameB, lenB, be4]
theorem lenB_bytes {b : List Int} (h : isBytes b) : isBytes (lenB b ++ b) := by
  intro x hx
  rcases List.mem_append.1 hx with hx | hx
  · simp only [lenB, List.mem_cons, List.not_mem_nil, or_false] at hx
    rcases hx with rfl | rfl <;> omega
  · exact h x hx
theorem put_f (b : List Int) (h : isBytes b) (hl : b.length ≤ 1000000) : frame_Put.f (b.length + 12) b = some (frameX b, frameE b) := by
  unfold frame_Put.f frameX frameE
  by_cases h6 : 60000 < b.length
  · rw [if_pos (by omega), if_pos h6, if_pos h6]
  · rw [if_neg (by omega), if_neg h6, if_neg h6]
    simp only [Option.bind_some]
    rw [if_pos (by simp; omega), if_pos (by simp; omega)]
    have hd : ([165, (b.length : Int) / 256 % 256, (b.length : Int) % 256] ++ b).drop 1 = lenB b ++ b := rfl
    have hc := crc_f (lenB b ++ b) (lenB_bytes h) (by rw [List.length_append]; show 2 + _ ≤ _; omega)
    rw [show (lenB b ++ b).length + 10 = b.length + 12 by rw [List.length_append]; show 2 + _ + 10 = _; omega] at hc
    rw [hd, hc]
    simp only [Option.bind_some]
    rw [if_pos (by simp; omega)]
    simp [frameB, lenB, be4]
theorem cut_f (n : Nat) (h : n ≤ 1000000) : wal_cut.f (n : Int) = some ((n + 63) / 64 : Int) := by
  unfold wal_cut.f
  have e1 : wrap64 ((n : Int) + 64) = (n : Int) + 64 := by unfold wrap64; omega
  have e2 : wrap64 ((n : Int) + 64 - 1) = (n : Int) + 63 := by unfold wrap64; omega
  rw [e1, e2, Int.tdiv_eq_ediv_of_nonneg (by omega)]
  congr 1
  unfold wrap64
  omega
theorem need_f (b : List Int) (h : isBytes b) (hl : b.length ≤ 1000000) : wal_Need.f (b.length + 12) b = some (needN b) := by
  unfold wal_Need.f
  rw [put_f b h hl]
  simp only [Option.bind_some]
  unfold frameX frameE needN
  by_cases h6 : 60000 < b.length
  · simp only [if_pos h6]
    rfl
  · rw [if_neg h6, if_neg h6, if_pos rfl, if_neg h6, frameB_len, cut_f _ (by omega)]
    simp only [Option.bind_some]
    congr 2
theorem put_calls (w : World) (A : Option Addr) (c : Nat) (b : List Int) (h : isBytes b) (hl : b.length ≤ 1000000) (hc : b.length ≤ c) (hC : (Kd.int .u8).C w A b.length b) :
    Calls Try.prog 95 #[.slice A b.length c] w fun e w' => ∃ A' c', e = .returned (.tuple #[.slice A' (frameX b).length c', .int .i64 (frameE b)]) ∧ OwnB w' w.heap.size (.slice A' (frameX b).length c') (frameX b) ∧ Below w.heap.size w w' := by
  refine (frame_Put.calls (b.length + 12) A c b (frameX b) (frameE b) w hC hc (put_f b h hl)).mono ?_
  rintro e w' ⟨v, rfl, hr, hb⟩
  obtain ⟨A', c', rfl⟩ := Kd.R_slice hr
  exact ⟨A', c', rfl, Kd.R_mono (Kd.R_bound hr) (fun k hk => hk.2.1), hb⟩
theorem need_calls (w : World) (A : Option Addr) (c : Nat) (b : List Int) (n : Int) (hn : needN b = n) (h : isBytes b) (hl : b.length ≤ 1000000) (hc : b.length ≤ c) (hC : (Kd.int .u8).C w A b.length b) :
    Calls Try.prog 57 #[.slice A b.length c] w fun e w' => e = .returned (.int .i64 n) ∧ Below w.heap.size w w' := by
  subst hn
  exact wal_Need.calls (b.length + 12) A c b (needN b) w hC hc (need_f b h hl)
theorem cut_calls (w : World) (n : Nat) (k : Int) (hk : ((n : Int) + 63) / 64 = k) (h : n ≤ 1000000) : Calls Try.prog 96 #[.int .i64 (n : Int)] w fun e w' => e = .returned (.int .i64 k) ∧ Drawn0 w w' := by
  subst hk
  exact wal_cut.calls _ _ w (cut_f n h)
/-- the length that a frame's head tells -/
def frN (b : List Int) : Nat := (rd b 1 * 256 + rd b 2).toNat
/-- do bytes begin with a frame -/
def unV (b : List Int) : Bool := decide (7 ≤ b.length) && decide (rd b 0 = 165) && decide (frN b ≤ 60000) && decide (frN b + 7 ≤ b.length) && decide (be4 (crcB ((b.drop 1).take (2 + frN b))) = (b.drop (3 + frN b)).take 4)
def unF (b : List Int) : List Int × Int × Int := if unV b then ((b.drop 3).take (frN b), 7 + frN b, 0) else ([], 0, 40)
theorem rd_byte {b : List Int} (h : isBytes b) (i : Nat) : 0 ≤ rd b (i : Int) ∧ rd b (i : Int) < 256 := by
  have e : rd b (i : Int) = b.getD i 0 := by simp [rd]
  rw [e]
  by_cases hi : i < b.length
  · have h1 : b[i]? = some b[i] := List.getElem?_eq_getElem hi
    simp only [List.getD, h1, Option.getD_some]
    exact h _ (List.getElem_mem _)
  · rw [List.getD, List.getElem?_eq_none (by omega)]
    simp
theorem three_head (b : List Int) (h : 3 ≤ b.length) : ∃ b0 b1 b2 r, b = b0 :: b1 :: b2 :: r := by
  cases b with
  | nil => simp at h
  | cons b0 b =>
    cases b with
    | nil => simp at h
    | cons b1 b =>
      cases b with
      | nil => simp at h
      | cons b2 r => exact ⟨b0, b1, b2, r, rfl⟩
/-- bytes begin with a frame, if and only if they begin with what Put makes of some body -/
theorem unV_iff {b : List Int} (h : isBytes b) : unV b = true ↔ ∃ x, x.length ≤ 60000 ∧ frameB x <+: b ∧ x = (b.drop 3).take (frN b) := by
  constructor
  · intro hv
    unfold unV at hv
    simp only [Bool.and_eq_true, decide_eq_true_eq] at hv
    obtain ⟨⟨⟨⟨h7, h0⟩, h6⟩, hn⟩, hcr⟩ := hv
    obtain ⟨b0, b1, b2, r, rfl⟩ := three_head b (by omega)
    · skip
      have e0 : rd (b0 :: b1 :: b2 :: r) 0 = b0 := rfl
      have e1 : rd (b0 :: b1 :: b2 :: r) 1 = b1 := rfl
      have e2 : rd (b0 :: b1 :: b2 :: r) 2 = b2 := rfl
      have hb1 := h b1 (by simp)
      have hb2 := h b2 (by simp)
      obtain ⟨n, hnn⟩ : ∃ n, frN (b0 :: b1 :: b2 :: r) = n := ⟨_, rfl⟩
      have hni : b1 * 256 + b2 = (n : Int) := by
        rw [← hnn]; unfold frN; rw [e1, e2]; omega
      rw [hnn] at h6 hn hcr ⊢
      rw [e0] at h0
      subst h0
      simp only [List.length_cons] at hn
      refine ⟨r.take n, by rw [List.length_take]; omega, ?_, by simp⟩
      have hl : (r.take n).length = n := by rw [List.length_take]; omega
      have hle : lenB (r.take n) = [b1, b2] := by
        unfold lenB
        rw [hl]
        congr 1
        · omega
        · congr 1; omega
      have hcr' : be4 (crcB ([b1, b2] ++ r.take n)) = (r.drop n).take 4 := by
        have q1 : List.take (2 + n) (List.drop 1 (165 :: b1 :: b2 :: r)) = [b1, b2] ++ r.take n := by
          rw [Nat.add_comm 2 n]; rfl
        have q2 : List.drop (3 + n) (165 :: b1 :: b2 :: r) = r.drop n := by
          rw [Nat.add_comm 3 n]; rfl
        rw [q1, q2] at hcr
        exact hcr
      refine ⟨(r.drop n).drop 4, ?_⟩
      unfold frameB
      rw [hle, hcr']
      simp only [List.append_assoc, List.cons_append, List.nil_append, List.take_append_drop]
  · rintro ⟨x, hx, ⟨t, rfl⟩, hxx⟩
    have e0 : rd (frameB x ++ t) 0 = 165 := rfl
    have hfr : frN (frameB x ++ t) = x.length := by
      unfold frN
      have e1 : rd (frameB x ++ t) 1 = (x.length : Int) / 256 % 256 := rfl
      have e2 : rd (frameB x ++ t) 2 = (x.length : Int) % 256 := rfl
      rw [e1, e2]
      omega
    unfold unV
    rw [hfr, e0]
    have hl := frameB_len x
    simp only [Bool.and_eq_true, decide_eq_true_eq, List.length_append]
    refine ⟨⟨⟨⟨by omega, trivial⟩, hx⟩, by omega⟩, ?_⟩
    have q1 : List.take (2 + x.length) (List.drop 1 (frameB x ++ t)) = lenB x ++ x := by
      unfold frameB
      rw [List.cons_append, List.drop_succ_cons, List.drop_zero, List.append_assoc (lenB x ++ x), List.take_append_of_le_length (by simp [lenB]; omega), List.take_of_length_le (by simp [lenB]; omega)]
    have q2 : List.take 4 (List.drop (3 + x.length) (frameB x ++ t)) = be4 (crcB (lenB x ++ x)) := by
      have e : frameB x ++ t = (165 :: (lenB x ++ x)) ++ (be4 (crcB (lenB x ++ x)) ++ t) := by unfold frameB; simp
      rw [e, List.drop_append_of_le_length (by simp [lenB]; omega), List.drop_of_length_le (by simp [lenB]; omega), List.nil_append]
      rfl
    rw [q1, q2]
end Go.Proofs.Ytlepcmljmibdnaa
namespace Go.Proofs.Ytlepcmljmibdnaa
open Go.RowKit Go.Proofs.YtlepcmljmibdnaaW.PrintWords Go.Proofs.YtlepcmljmibdnaaW.PrintLast Go.Proofs.YtlepcmljmibdnaaW.PrintMore PWalOpens
set_option linter.unusedVariables false
set_option linter.unusedSimpArgs false
def FfQ (w : World) (b : List Int) (e : Ending) (w' : World) : Prop := ∃ A c, e = .returned (.tuple #[.slice A (unF b).1.length c, .int .i64 (unF b).2.1, .int .i64 (unF b).2.2]) ∧ OwnB w' w.heap.size (.slice A (unF b).1.length c) (unF b).1 ∧ Below w.heap.size w w'
theorem ff_bad {w w' : World} {b : List Int} {e : Ending} (hu : unF b = ([], 0, 40)) (he : e = .returned (.tuple #[.slice none 0 0, .int .i64 0, .int .i64 40])) (hb : Below w.heap.size w w') : FfQ w b e w' := by
  unfold FfQ
  rw [hu, he]
  exact ⟨none, 0, rfl, Kd.R_nil _ _ _ _ _, hb⟩
theorem ff_short (w : World) (A : Option Addr) (c : Nat) (b : List Int) (hl : b.length < 7) : Calls Try.prog 113 #[.slice A b.length c] w (FfQ w b) := by
  have HU := Aside0.mk (show unF b = ([], 0, 40) from by unfold unF unV; rw [if_neg]; simp; omega)
  have h1 : decide ((b.length : Int) < 7) = true := by simp; omega
  go_enter Try.func113, Try.ntmps113
  go_wp2_with fail
  go_ret3
  exact ff_bad HU.out rfl (Below.refl _ _)
theorem ff_mark (w : World) (A : Option Addr) (c : Nat) (b : List Int) (hl : 7 ≤ b.length) (h0 : rd b 0 ≠ 165) (hC : (Kd.int .u8).C w A b.length b) : Calls Try.prog 113 #[.slice A b.length c] w (FfQ w b) := by
  have HU := Aside0.mk (show unF b = ([], 0, 40) from by unfold unF unV; rw [if_neg]; simp [h0])
  have h1 : decide ((b.length : Int) < 7) = false := by simp; omega
  obtain ⟨ad, e, x0⟩ := Kd.at_int hC (0 : Int) (by omega) (by omega)
  subst e
  rw [show ad.add (Int.toNat 0) = ad from rfl] at x0
  obtain ⟨x, hx⟩ : ∃ x, rd b 0 = x := ⟨_, rfl⟩
  rw [hx] at x0 h0
  have hq : (x == 165) = false := by simpa using h0
  have hq2 : (x != 165) = true := by simpa using h0
  have hl0 : 0 < b.length := by omega
  clear hx hC
  go_enter Try.func113, Try.ntmps113
  go_wp2_with fail
  go_ret3
  exact ff_bad HU.out rfl (Below.refl _ _)
theorem or_bytes (a b : Nat) (ha : a < 256) (hb : b < 256) : Go.bits .or .i64 ((a : Int) * 256) (b : Int) = ((a * 256 + b : Nat) : Int) := by
  unfold Go.bits
  have e : ∀ x : Nat, BitVec.ofInt IntKind.i64.bits (x : Int) = BitVec.ofNat 64 x := fun x => by
    show BitVec.ofInt 64 (x : Int) = _
    rw [BitVec.ofInt_natCast]
  rw [show ((a : Int) * 256) = ((a * 256 : Nat) : Int) by omega]
  simp only [e]
  have e3 : (BitVec.ofNat 64 (a * 256) ||| BitVec.ofNat 64 b).toNat = a * 256 + b := by
    rw [BitVec.toNat_or]
    simp only [BitVec.toNat_ofNat]
    rw [Nat.mod_eq_of_lt (by omega), Nat.mod_eq_of_lt (by omega)]
    have := Nat.shiftLeft_add_eq_or_of_lt (i := 8) (b := b) hb a
    rw [Nat.shiftLeft_eq] at this
    exact this.symm
  refine (show IntKind.i64.wrap (((BitVec.ofNat 64 (a * 256) ||| BitVec.ofNat 64 b).toNat : Nat) : Int) = _ from ?_)
  rw [e3]
  exact IntWalk.i64_in _ (by omega)
theorem be4_at (c : Int) (i : Nat) (hi : i < 4) : (be4 c)[i]? = some (c / 2 ^ (24 - 8 * i) % 256) := by
  have : i = 0 ∨ i = 1 ∨ i = 2 ∨ i = 3 := by omega
  rcases this with rfl | rfl | rfl | rfl
  · rfl
  · rfl
  · rfl
  · show some (c % 256) = some (c / 1 % 256)
    rw [Int.ediv_one]
theorem sum_calls (w : World) (A : Option Addr) (c m : Nat) (l : List Int) (r : Int) (hr : crcB l = r) (hm : l.length = m) (hb : isBytes l) (hl : m ≤ 1000000) (hc : m ≤ c) (hC : (Kd.int .u8).C w A m l) :
    Calls Try.prog 74 #[.slice A m c] w fun e w' => e = .returned (.int .u32 r) ∧ Drawn0 w w' := by
  subst hr hm
  refine (crc_Sum.calls (l.length + 10) A c l (crcB l) w hC hc (crc_f l hb (by omega))).mono ?_
  rintro e w' ⟨rfl, hd⟩
  exact ⟨rfl, hd⟩
set_option maxRecDepth 100000 in
theorem ff_main (w : World) (A : Option Addr) (c : Nat) (b : List Int) (hl : 7 ≤ b.length) (hl2 : b.length ≤ 1000000) (h0 : rd b 0 = 165) (hby : isBytes b) (hcap : b.length ≤ c) (hc63 : c ≤ 9223372036854775807) (hC : (Kd.int .u8).C w A b.length b) : Calls Try.prog 113 #[.slice A b.length c] w (FfQ w b) := by
  have h1 : decide ((b.length : Int) < 7) = false := by simp; omega
  obtain ⟨ad, e, x0⟩ := Kd.at_int hC (0 : Int) (by omega) (by omega)
  subst e
  obtain ⟨ad1, e1, x1⟩ := Kd.at_int hC (1 : Int) (by omega) (by omega)
  cases e1
  obtain ⟨ad2, e2, x2⟩ := Kd.at_int hC (2 : Int) (by omega) (by omega)
  cases e2
  rw [show ad.add (Int.toNat 0) = ad from rfl, h0] at x0
  obtain ⟨p1, p2⟩ := rd_byte hby 1
  obtain ⟨p3, p4⟩ := rd_byte hby 2
  obtain ⟨k1, hk1⟩ := Int.eq_ofNat_of_zero_le p1
  obtain ⟨k2, hk2⟩ := Int.eq_ofNat_of_zero_le p3
  have hk1' : rd b 1 = (k1 : Int) := hk1
  have hk2' : rd b 2 = (k2 : Int) := hk2
  rw [hk1', show ad.add (Int.toNat 1) = { block := ad.block, off := ad.off + 1 } from rfl] at x1
  rw [hk2', show ad.add (Int.toNat 2) = { block := ad.block, off := ad.off + 2 } from rfl] at x2
  have hfr : frN b = k1 * 256 + k2 := by unfold frN; rw [hk1', hk2']; omega
  have q1 : k1 < 256 := by rw [hk1] at p2; omega
  have q2 : k2 < 256 := by rw [hk2] at p4; omega
  have hor := or_bytes k1 k2 q1 q2
  obtain ⟨n, hnn⟩ : ∃ n, k1 * 256 + k2 = n := ⟨_, rfl⟩
  rw [hnn] at hor hfr
  have hl0 : 0 < b.length := by omega
  have hl1 : 1 < b.length := by omega
  have hl2' : 2 < b.length := by omega
  have hI1 : (1 : Int) < (b.length : Int) := by omega
  have hI2 : (2 : Int) < (b.length : Int) := by omega
  have HC := Aside0.mk hC
  have HFR := Aside0.mk hfr
  have H0 := Aside0.mk h0
  have HBY := Aside0.mk hby
  clear hC hk1 hk2 hk1' hk2' p1 p2 p3 p4 hfr hby h0
  by_cases hn6 : 60000 < n
  · have HU := Aside0.mk (show unF b = ([], 0, 40) from by unfold unF unV; rw [HFR.out, if_neg]; simp; omega)
    have hn6' : (60000 : Int) < (n : Int) := by omega
    clear hn6
    go_enter Try.func113, Try.ntmps113
    go_wp2_with fail
    go_quiet (fail)
    go_wp2_with fail
    go_ret3
    exact ff_bad HU.out rfl (bel_drewN (Below.refl _ _) _)
  by_cases hn7 : b.length < n + 7
  · have HU := Aside0.mk (show unF b = ([], 0, 40) from by unfold unF unV; rw [HFR.out, if_neg]; simp; omega)
    have hn6' : (n : Int) ≤ 60000 := by omega
    have hn7' : (b.length : Int) - 7 < (n : Int) := by omega
    clear hn6 hn7
    go_enter Try.func113, Try.ntmps113
    go_wp2_with fail
    go_quiet (fail)
    go_wp2_with fail
    go_ret3
    exact ff_bad HU.out rfl (bel_drewN (Below.refl _ _) _)
  have hn6' : (n : Int) ≤ 60000 := by omega
  have hn7' : (n : Int) ≤ (b.length : Int) - 7 := by omega
  have hc1 : ¬ c = 1 := by omega
  have hnc : (n : Int) + 7 ≤ (c : Int) := by omega
  have hc3 : ¬ c = 3 + n := by omega
  obtain ⟨cs, hcs⟩ : ∃ cs, (b.drop 1).take (2 + n) = cs := ⟨_, rfl⟩
  obtain ⟨cr, hcr⟩ : ∃ cr, crcB cs = cr := ⟨_, rfl⟩
  have hcrl := crcB_lt cs
  rw [hcr] at hcrl
  obtain ⟨hcr0, hcr1⟩ := hcrl
  have hC1 := Kd.C_drop (m := 1) HC.out (by omega) hcap
  rw [if_neg hc1] at hC1
  have hC2 := Kd.C_take (m := 2 + n) hC1 (by rw [List.length_drop]; omega)
  rw [hcs] at hC2
  have hcsl : cs.length = 2 + n := by rw [← hcs, List.length_take, List.length_drop]; omega
  rw [hcsl] at hC2
  have HCS := Aside0.mk (show (Kd.int .u8).C w (some { block := ad.block, off := ad.off + 1 }) (2 + n) cs from hC2)
  have HCSL := Aside0.mk hcsl
  have HCR := Aside0.mk hcr
  have HCSB := Aside0.mk (show isBytes cs from by rw [← hcs]; exact (HBY.out.drop 1).take _)
  have HCSM := Aside0.mk (show 2 + n ≤ 1000000 by omega)
  have HCSC := Aside0.mk (show 2 + n ≤ c - 1 by omega)
  have HCS0 := Aside0.mk hcs
  have he4 : 7 + n - (3 + n) = 4 := by omega
  obtain ⟨t, ht⟩ : ∃ t, (b.drop (3 + n)).take 4 = t := ⟨_, rfl⟩
  have hD1 := Kd.C_drop (m := 3 + n) HC.out (by omega) hcap
  rw [if_neg hc3] at hD1
  have hD2 := Kd.C_take (m := 4) hD1 (by rw [List.length_drop]; omega)
  rw [ht] at hD2
  have htl : t.length = 4 := by rw [← ht, List.length_take, List.length_drop]; omega
  rw [htl] at hD2
  have HT := Aside0.mk (show (Kd.int .u8).C w (some (ad.add (3 + n))) 4 t from by have hz : (3 + n) * (Kd.int .u8).sz = 3 + n := Nat.mul_one _; simpa only [Option.map_some, hz] using hD2)
  have HTL := Aside0.mk htl
  have HTE := Aside0.mk ht
  clear hn6 hn7 hcs hcr hC1 hC2 hcsl ht hD1 hD2 htl
  go_enter Try.func113, Try.ntmps113
  go_wp2_with fail
  go_quiet (fail)
  go_wp2_with (first
    | (go_at_call 74; (with_reducible refine (sum_calls _ (some { block := ad.block, off := ad.off + 1 }) (c - 1) (2 + n) cs cr HCR.out HCSL.out HCSB.out HCSM.out HCSC.out (Kd.C_drewN HCS.out _)).mono ?_); rintro e w2 ⟨rfl, hd⟩; obtain ⟨nd, rfl⟩ := hd))
  obtain ⟨wq, hwq⟩ : ∃ wq, w.drewN (nq + nd) = wq := ⟨_, rfl⟩
  have HBQ := Aside0.mk (show Below w.heap.size w wq from by rw [← hwq]; exact bel_drewN (Below.refl _ _) _)
  rw [hwq]
  clear hwq
  go_loopg [49] 4 (fun kq v49 w' => ∃ i : Nat, v49 = .int .i64 (i : Int) ∧ Aside0 (i + kq = 4) ∧ Aside0 (t.take i = (be4 cr).take i) ∧ w' = wq)
  case atStart => exact ⟨0, rfl, ⟨by omega⟩, ⟨rfl⟩, rfl⟩
  case round =>
    obtain ⟨i, rfl, HI, HE, rfl⟩ := hrel
    by_cases hi : i < 4
    · have hit : i < t.length := by have := HTL.out; omega
      obtain ⟨x, hx⟩ : ∃ x, t[i]? = some x := ⟨_, List.getElem?_eq_getElem hit⟩
      obtain ⟨a2, e, x9⟩ := Kd.at_int (Kd.C_below HT.out HBQ.out) (i : Int) (by omega) (by omega)
      cases e
      rw [show rd t (i : Int) = x by simp [rd, List.getD, hx], Int.toNat_natCast] at x9
      have hi4 : (i : Int) < 4 := by omega
      have hi0 : (0 : Int) ≤ (i : Int) := by omega
      have HX := Aside0.mk hx
      clear hx hit
      have HBE := Aside0.mk (be4_at cr i hi)
      obtain ⟨y, hy⟩ : ∃ y, cr / 2 ^ (24 - 8 * i) % 256 = y := ⟨_, rfl⟩
      rw [hy] at HBE
      by_cases hxy : y = x
      · subst hxy
        have hyx : (cr / 2 ^ (24 - 8 * i) % 256 != y) = false := by rw [hy]; simp
        clear hy
        go_wp2_with fail
        have hk1 := HI.out
        obtain ⟨gq, rfl⟩ : ∃ gq, gk = gq + 1 := ⟨gk - 1, by omega⟩
        go_roundg gq
        case rel => exact ⟨i + 1, by go_num, ⟨by omega⟩, ⟨by rw [List.take_add_one, List.take_add_one, HX.out, HBE.out, HE.out]⟩, rfl⟩
        case measure => omega
      · have hyx : (cr / 2 ^ (24 - 8 * i) % 256 != x) = true := by rw [hy]; simpa using hxy
        have HU := Aside0.mk (show unF b = ([], 0, 40) from by
          unfold unF unV
          rw [HFR.out, HCS0.out, HCR.out, HTE.out, if_neg]
          intro hh
          simp only [Bool.and_eq_true, decide_eq_true_eq] at hh
          have h1 := hh.2
          rw [h1] at HBE
          exact hxy (Option.some.inj (HBE.out.symm.trans HX.out)))
        clear hy hxy
        go_wp2_with fail
        go_ret3
        exact ff_bad HU.out rfl HBQ.out
    · have hi0 := HI.out
      obtain rfl : gk = 0 := by omega
      obtain rfl : i = 4 := by omega
      clear hi0 hi
      have hte : t = be4 cr := by
        have h1 := HE.out
        rw [List.take_of_length_le (by rw [HTL.out]; exact Nat.le_refl _), List.take_of_length_le (by simp [be4])] at h1
        exact h1
      obtain ⟨bd, hbd⟩ : ∃ bd, (b.drop 3).take n = bd := ⟨_, rfl⟩
      have HU := Aside0.mk (show unF b = (bd, 7 + (n : Int), 0) from by
        unfold unF unV
        rw [HFR.out, HCS0.out, HCR.out, HTE.out, if_pos, hbd]
        simp only [Bool.and_eq_true, decide_eq_true_eq]
        exact ⟨⟨⟨⟨by omega, H0.out⟩, by omega⟩, by omega⟩, hte.symm⟩)
      have hbl : bd.length = n := by rw [← hbd, List.length_take, List.length_drop]; omega
      have hc33 : ¬ c = 3 := by omega
      have hB1 := Kd.C_drop (m := 3) (Kd.C_below HC.out HBQ.out) (by omega) hcap
      rw [if_neg hc33] at hB1
      have hB2 := Kd.C_take (m := n) hB1 (by rw [List.length_drop]; omega)
      rw [hbd] at hB2
      have HCL := Aside0.mk (clone_any wr (some { block := ad.block, off := ad.off + 3 }) (c - 3) bd (by omega) (fun h => by cases h) hB2)
      have HBL := Aside0.mk hbl
      rw [hbl] at HCL
      have hm4 : ¬ ((4 : Int) < 4) := by omega
      clear hte hbd hbl hB1 hB2
      go_wp2_with (first
        | (go_at_call 69; (with_reducible refine HCL.out.mono ?_); rintro e w3 ⟨A3, c3, rfl, hr, hb⟩; have HR3 := Aside0.mk hr; have HB3 := Aside0.mk (HBQ.out.trans (hb.mono HBQ.out.size)); clear hr hb))
      go_ret3
      unfold FfQ
      rw [HU.out]
      simp only
      rw [HBL.out]
      exact ⟨A3, c3, rfl, OwnB.low HR3.out HBQ.out.size, HB3.out⟩
theorem ff_calls (w : World) (A : Option Addr) (c : Nat) (b : List Int) (hl2 : b.length ≤ 1000000) (hby : isBytes b) (h : SB w A c b) : Calls Try.prog 113 #[.slice A b.length c] w (FfQ w b) := by
  by_cases hl : b.length < 7
  · exact ff_short w A c b hl
  · by_cases h0 : rd b 0 = 165
    · exact ff_main w A c b (by omega) hl2 h0 hby h.cap h.c63 h.C
    · exact ff_mark w A c b (by omega) h0 h.C
end Go.Proofs.Ytlepcmljmibdnaa
namespace Go.Proofs.Ytlepcmljmibdnaa
open Go.RowKit Go.Proofs.YtlepcmljmibdnaaW.PrintWords Go.Proofs.YtlepcmljmibdnaaW.PrintLast Go.Proofs.YtlepcmljmibdnaaW.PrintMore PWalOpens
set_option linter.unusedVariables false
set_option linter.unusedSimpArgs false
theorem own_raise {w : World} {b b' e size n : Nat} {v : Value} {xs : List Value} (h : w.ownsRow b e size v n xs) (hb : ∀ k, v.ownBlock = some k → b' ≤ k) : w.ownsRow b' e size v n xs := by
  obtain ⟨h1, h2⟩ := h
  refine ⟨h1, ?_⟩
  rcases h2 with h2 | ⟨g, cap, cur, he, hg, hr⟩
  · exact .inl h2
  · exact .inr ⟨g, cap, cur, he, hb g (by subst he; rfl), hr⟩
theorem DK.raise {w : World} {b b' B M Bd : Nat} {vc : Value} {D : PD} (h : DK w b B M Bd vc D) (hb : ∀ k, FP B M Bd vc k → b' ≤ k) : DK w b' B M Bd vc D := by
  refine ⟨h.blk, h.kept, h.bad, ?_, hb B (.inl rfl), hb M (.inr (.inl rfl)), hb Bd (.inr (.inr (.inl rfl))), h.hne, h.sec, h.hn, h.hl⟩
  obtain ⟨h0, inner, ho, hr⟩ := h.cache
  exact ⟨h0, inner, own_raise ho (fun k hk => hb k (.inr (.inr (.inr hk.symm)))), hr⟩
theorem At.based {w w' : World} {base B M Bd : Nat} {vc vc' : Value} {D D' : PD} (h0 : DK w base B M Bd vc D) (h : At w (FP B M Bd vc) w' B M Bd vc' D') : DK w' base B M Bd vc' D' :=
  h.dk.raise fun k hk => by
    by_cases hl : k < w.heap.size
    · exact (h0.fp k (h.fp k hl hk)).1
    · have := h0.base_le
      omega
section
variable {w0 w w' : World} {B M Bd R : Nat} {vc vS vC vB : Value} {D D' : PD} {X X' : RX}
end
/-- after so many saves -/
noncomputable def savesP (D : PD) (l : List Int) : List Int → PD
  | [] => D
  | g :: gs => savesP (saveP D g l).1 l gs
structure Pair (D : PD) (X : RX) (m : Nat) : Prop where
  corr : Corr D X
  ok : OKD D
  cache : D.cache.length ≤ m
end Go.Proofs.Ytlepcmljmibdnaa
namespace Go.Proofs.Ytlepcmljmibdnaa
open Go.RowKit Go.Proofs.YtlepcmljmibdnaaW.PrintWords Go.Proofs.YtlepcmljmibdnaaW.PrintLast Go.Proofs.YtlepcmljmibdnaaW.PrintMore PWalOpens
attribute [local go_sem] max2_int min2_int max_two min_two
set_option linter.unusedVariables false
set_option linter.unusedSimpArgs false
def ringP (D : PD) : Int := max (D.n - 2) 0
theorem ring_calls (w : World) (base B M Bd : Nat) (vc : Value) (D : PD) (r : Int) (hr : ringP D = r) (h : DK w base B M Bd vc D) :
    Calls Try.prog 84 #[.pointer (some ⟨B, 0, none⟩)] w fun e w' => e = .returned (.int .i64 r) ∧ w = w' := by
  obtain ⟨⟨h0, h1, h2, h3, h4, h5, h6⟩, f2, f4, f5, f6⟩ := cells7 h.blk
  have hn := h.hn
  obtain ⟨n, hnn⟩ : ∃ n, D.n = n := ⟨_, rfl⟩
  rw [hnn] at h0 hn
  obtain ⟨hn0, hn1⟩ := hn
  have HS := Aside0.mk (size_calls w B M n h0 h1)
  clear h h0 h1 h2 h3 h4 h5 h6 f2 f4 f5 f6
  by_cases h2 : n < 2
  · have HR := Aside0.mk (show r = 0 by rw [← hr]; unfold ringP; rw [hnn]; omega)
    clear hr hnn
    go_enter Try.func84, Try.ntmps84
    go_wp2_with (go_at_call 22; (with_reducible refine HS.out.mono ?_); rintro e w' ⟨rfl, rfl⟩)
    go_ret
    rw [HR.out]
    exact ⟨rfl, rfl⟩
  · have HR := Aside0.mk (show r = n - 2 by rw [← hr]; unfold ringP; rw [hnn]; omega)
    clear hr hnn
    go_enter Try.func84, Try.ntmps84
    go_wp2_with (go_at_call 22; (with_reducible refine HS.out.mono ?_); rintro e w' ⟨rfl, rfl⟩)
    go_ret
    rw [HR.out]
    exact ⟨rfl, rfl⟩
theorem ringP_le {w : World} {base B M Bd : Nat} {vc : Value} {D : PD} (h : DK w base B M Bd vc D) : 0 ≤ ringP D ∧ ringP D ≤ 4094 := by
  have := h.hn
  unfold ringP
  omega
def sectP (r p : Int) : Int := 2 + p % r
theorem sector_calls (w : World) (base B M Bd : Nat) (vc : Value) (D : PD) (r p s : Int) (hr : ringP D = r) (h1 : 1 ≤ r) (hp : 0 ≤ p ∧ p < 18446744073709551616) (hs : sectP r p = s) (h : DK w base B M Bd vc D) :
    Calls Try.prog 112 #[.pointer (some ⟨B, 0, none⟩), .int .u64 p] w fun e w' => e = .returned (.int .i64 s) ∧ w = w' := by
  subst hs
  have HR := Aside0.mk (ring_calls w base B M Bd vc D r hr h)
  have hl := (ringP_le h).2
  rw [hr] at hl
  obtain ⟨hp0, hp1⟩ := hp
  have q0 : 0 ≤ p % r := Int.emod_nonneg _ (by omega)
  have q1 : p % r < r := Int.emod_lt_of_pos _ (by omega)
  have q2 : p % r ≤ 4094 := by omega
  have HE := Aside0.mk (show sectP r p = 2 + p % r from rfl)
  clear h hr
  go_enter Try.func112, Try.ntmps112
  go_wp2_with (go_at_call 84; (with_reducible refine HR.out.mono ?_); rintro e w' ⟨rfl, rfl⟩)
  go_ret
  rw [HE.out]
  exact ⟨rfl, rfl⟩
noncomputable def wformatP (D : PD) : PD × Int := if ringP D < 1 then (D, 51) else formatP D [0, 0]
section
variable {w0 w : World} {F : Nat → Prop} {B M Bd : Nat} {vc : Value} {D D1 : PD}
theorem format_two (x y e : Int) (hf : formatP D [x, y] = (D1, e)) (hx : 0 ≤ x ∧ x < 18446744073709551616) (hy : 0 ≤ y ∧ y < 18446744073709551616) (hc : D.cache.length ≤ 800) (h : At w0 F w B M Bd vc D) :
    Calls Try.prog 46 #[.pointer (some ⟨B, 0, none⟩), .slice (some ⟨w.heap.size, 0, none⟩) 2 2] (w.alloc (.cells #[.int .u64 x, .int .u64 y] 56)) fun r w' => r = .returned (.int .i64 e) ∧ ∃ vc', At w0 F w' B M Bd vc' D1 :=
  at_format (l := [x, y]) (A := some ⟨w.heap.size, 0, none⟩) (c := 2) hf hc (by simp; exact ⟨hx, hy⟩) (fun w' hc' => lit_Cu w [x, y] (FP B M Bd vc) (by simp) (fun hk => absurd (h.dk.fp _ hk).2 (Nat.lt_irrefl _)) w' hc') (h.grow (.of_below (Below.alloc (Below.refl w.heap.size w) (Nat.le_refl _) (.cells #[.int .u64 x, .int .u64 y] 56))))
theorem at_wformat (e : Int) (hf : wformatP D = (D1, e)) (hc : D.cache.length ≤ 800) (h : At w0 F w B M Bd vc D) :
    Calls Try.prog 49 #[.pointer (some ⟨B, 0, none⟩)] w fun r w' => r = .returned (.int .i64 e) ∧ ∃ vc', At w0 F w' B M Bd vc' D1 := by
  unfold wformatP at hf
  obtain ⟨r, hr⟩ : ∃ r, ringP D = r := ⟨_, rfl⟩
  rw [hr] at hf
  have HR := Aside0.mk (ring_calls w 0 B M Bd vc D r hr h.dk)
  have HA := Aside0.mk h
  have H0 := Aside0.mk (show (0 : Int) ≤ 0 ∧ (0 : Int) < 18446744073709551616 by omega)
  have HC := Aside0.mk hc
  clear h hr hc
  by_cases h1 : r < 1
  · rw [if_pos h1] at hf
    cases hf
    go_enter Try.func49, Try.ntmps49
    go_wp2_with (go_at_call 84; (with_reducible refine HR.out.mono ?_); rintro e w' ⟨rfl, rfl⟩)
    go_ret
    exact ⟨rfl, vc, HA.out⟩
  · rw [if_neg h1] at hf
    have HF := Aside0.mk hf
    have h1' : 1 ≤ r := by omega
    clear hf h1
    go_enter Try.func49, Try.ntmps49
    go_wp2_with (first
      | (go_at_call 84; (with_reducible refine HR.out.mono ?_); rintro e w' ⟨rfl, rfl⟩)
      | (go_at_call 46; (with_reducible refine (format_two 0 0 e HF.out H0.out H0.out HC.out HA.out).mono ?_); rintro e w2 ⟨rfl, vc2, hd⟩; have HD2 := Aside0.mk hd; clear hd))
    go_ret
    exact ⟨rfl, vc2, HD2.out⟩
end
end Go.Proofs.Ytlepcmljmibdnaa
