/- The disk's memory, and the contracts of its small functions: ok, Size, has, act, Dead, Cached, Arm, rest. Conditions: those of each statement. -/
import Derived.Test.YtlepcmljmibdnaaPDiskArmsx1
import Derived.Test.YtlepcmljmibdnaaMp
import Derived.Test.YtlepcmljmibdnaaCalm
import Derived.WalkSpells
import Derived.WalkMore
namespace Go.Proofs.Ytlepcmljmibdnaa
open Go.RowKit Go.Proofs.YtlepcmljmibdnaaW.PrintWords Go.Proofs.YtlepcmljmibdnaaW.PrintLast Go.Proofs.YtlepcmljmibdnaaW.PrintMore
attribute [local go_sem] max2_int min2_int max_two min_two
set_option linter.unusedVariables false
set_option linter.unusedSimpArgs false

/-- a sector as a value -/
def secV (s : List Int) : Value := .agg (encs (Value.int .u8) s).toArray
/-- what a disk is -/
structure PD where
  n : Int
  kept : Int → Option (List Int)
  cache : List (Int × List Int)
  bad : Int → Bool
  armed : Bool
  left : Int
  dead : Bool
def keptF (K : Int → Option (List Int)) : Value → Option Value
  | .int .i64 a => (K a).map secV
  | _ => none
def badF (b : Int → Bool) : Value → Option Value
  | .int .i64 a => if b a then some (.bool true) else none
  | _ => none
def wrK : Kd (Int × List Int) := Kd.pair (Kd.int .i64) (Kd.arr 64 (Kd.int .u8) (by decide))
/-- the seven cells of a disk at block B -/
def DCells (w : World) (B M Bd : Nat) (vc : Value) (D : PD) : Prop :=
  w.heap[B]? = some (.cells #[.int .i64 D.n, .map (some M), vc, .map (some Bd), .bool D.armed, .int .i64 D.left, .bool D.dead] 96 (0, 0))
structure DK (w : World) (base B M Bd : Nat) (vc : Value) (D : PD) : Prop where
  blk : DCells w B M Bd vc D
  kept : Mp.Is (.int .i64) w M (keptF D.kept)
  bad : Mp.Is (.int .i64) w Bd (badF D.bad)
  cache : Kd.R wrK 101 w base (fun k => k ≠ B ∧ k ≠ M ∧ k ≠ Bd) vc D.cache
  hB : base ≤ B
  hM : base ≤ M
  hBd : base ≤ Bd
  hne : M ≠ Bd ∧ M ≠ B ∧ Bd ≠ B
  sec : ∀ a s, D.kept a = some s → s.length = 64
  hn : 0 ≤ D.n ∧ D.n ≤ 4096
  hl : 0 ≤ D.left ∧ D.left ≤ 9223372036854775807

theorem cells7 {w : World} {B : Nat} {a b c d e f g : Value} {t : Nat} (h : w.heap[B]? = some (.cells #[a, b, c, d, e, f, g] t (0, 0))) :
    (w.cell? ⟨B, 0, none⟩ = some a ∧ w.cell? ⟨B, 1, none⟩ = some b ∧ w.cell? ⟨B, 2, none⟩ = some c ∧ w.cell? ⟨B, 3, none⟩ = some d ∧ w.cell? ⟨B, 4, none⟩ = some e ∧ w.cell? ⟨B, 5, none⟩ = some f ∧ w.cell? ⟨B, 6, none⟩ = some g) ∧
    (w.frozen? ⟨B, 2, none⟩ = false ∧ w.frozen? ⟨B, 4, none⟩ = false ∧ w.frozen? ⟨B, 5, none⟩ = false ∧ w.frozen? ⟨B, 6, none⟩ = false) := by
  refine ⟨⟨?_, ?_, ?_, ?_, ?_, ?_, ?_⟩, ?_, ?_, ?_, ?_⟩ <;> simp [World.cell?, World.frozen?, h]
theorem set7 {w : World} {B : Nat} {cs : Array Value} {t : Nat} (h : w.heap[B]? = some (.cells cs t (0, 0))) (i : Nat) (u : Value) : (w.setCell ⟨B, i, none⟩ u).heap[B]? = some (.cells (cs.setIfInBounds i u) t (0, 0)) := by
  simp [World.setCell, Array.getElem?_modify, h]
/-- all but block B as it was -/
def Only (w w' : World) (B : Nat) : Prop := w'.os = w.os ∧ w'.tape = w.tape ∧ w'.output = w.output ∧ w.heap.size ≤ w'.heap.size ∧ ∀ k, k ≠ B → w'.heap[k]? = w.heap[k]?
theorem Only.refl (w : World) (B : Nat) : Only w w B := ⟨rfl, rfl, rfl, Nat.le_refl _, fun _ _ => rfl⟩
theorem Only.set {w w' : World} {B i : Nat} (h : Only w w' B) (u : Value) : Only w (w'.setCell ⟨B, i, none⟩ u) B :=
  ⟨h.1, h.2.1, h.2.2.1, by simpa [World.setCell] using h.2.2.2.1, fun k hk => (Below.heap_setCell w' ⟨B, i, none⟩ u k hk).trans (h.2.2.2.2 k hk)⟩
theorem Only.below {w w' : World} {B base : Nat} (h : Only w w' B) (hb : base ≤ B) : Below base w w' := ⟨h.1, h.2.1, h.2.2.1, h.2.2.2.1, fun k hk => h.2.2.2.2 k (by omega)⟩
theorem Only.kept {w w' : World} {B : Nat} (h : Only w w' B) : Kept w w' (fun k => k = B) := ⟨h.2.2.2.1, fun i _ hn => h.2.2.2.2 i hn⟩
/-- A disk whose block alone was written, its cache and maps as they were. -/
theorem DK.only {w w' : World} {base B M Bd : Nat} {vc vc' : Value} {D D' : PD} (h : DK w base B M Bd vc D) (ho : Only w w' B) (hb : DCells w' B M Bd vc' D') (hk : D'.kept = D.kept) (hbd : D'.bad = D.bad)
    (hc : (vc' = vc ∧ D'.cache = D.cache) ∨ (vc' = .slice none 0 0 ∧ D'.cache = [])) (hn : D'.n = D.n) (hl : 0 ≤ D'.left ∧ D'.left ≤ 9223372036854775807) : DK w' base B M Bd vc' D' := by
  refine ⟨hb, ?_, ?_, ?_, h.hB, h.hM, h.hBd, h.hne, by rw [hk]; exact h.sec, by rw [hn]; exact h.hn, hl⟩
  · rw [hk]; exact h.kept.same (ho.2.2.2.2 M h.hne.2.1)
  · rw [hbd]; exact h.bad.same (ho.2.2.2.2 Bd h.hne.2.2)
  · rcases hc with ⟨rfl, hc⟩ | ⟨rfl, hc⟩
    · rw [hc]; exact Kd.R_step h.cache (fun k hk _ => ho.2.2.2.2 k hk.1)
    · rw [hc]; exact Kd.R_nil _ _ _ _ _

theorem ok_calls (w : World) (B M : Nat) (h1 : w.cell? ⟨B, 1, none⟩ = some (.map (some M))) :
    Calls Try.prog 63 #[.pointer (some ⟨B, 0, none⟩)] w fun e w' => e = .returned (.bool true) ∧ w = w' := by
  have hq := run_neq_map_nil (P := Try.prog) w 92 3 99 (some M) Try.underlying92
  simp only [Option.isNone_some, Bool.not_false] at hq
  go_enter Try.func63, Try.ntmps63
  go_wp2
  go_ret
  exact ⟨rfl, rfl⟩
theorem ok_none (w : World) : Calls Try.prog 63 #[.pointer none] w fun e w' => e = .returned (.bool false) ∧ w = w' := by
  go_enter Try.func63, Try.ntmps63
  go_wp2
  go_ret
  exact ⟨rfl, rfl⟩
theorem size_calls (w : World) (B M : Nat) (n : Int) (h0 : w.cell? ⟨B, 0, none⟩ = some (.int .i64 n)) (h1 : w.cell? ⟨B, 1, none⟩ = some (.map (some M))) :
    Calls Try.prog 22 #[.pointer (some ⟨B, 0, none⟩)] w fun e w' => e = .returned (.int .i64 n) ∧ w = w' := by
  go_enter Try.func22, Try.ntmps22
  go_wp2_with (go_at_call 63; refine (ok_calls _ _ _ h1).mono ?_; rintro e w' ⟨rfl, rfl⟩)
  go_ret
  exact ⟨rfl, rfl⟩
theorem size_none (w : World) : Calls Try.prog 22 #[.pointer none] w fun e w' => e = .returned (.int .i64 0) ∧ w = w' := by
  go_enter Try.func22, Try.ntmps22
  go_wp2_with (go_at_call 63; refine (ok_none _).mono ?_; rintro e w' ⟨rfl, rfl⟩)
  go_ret
  exact ⟨rfl, rfl⟩
def inB (at_ n : Int) : Bool := decide (0 ≤ at_ ∧ at_ < n)
theorem has_calls (w : World) (B M : Nat) (n at_ : Int) (h0 : w.cell? ⟨B, 0, none⟩ = some (.int .i64 n)) (h1 : w.cell? ⟨B, 1, none⟩ = some (.map (some M))) :
    Calls Try.prog 64 #[.pointer (some ⟨B, 0, none⟩), .int .i64 at_] w fun e w' => e = .returned (.bool (inB at_ n)) ∧ w = w' := by
  by_cases h : 0 ≤ at_
  · by_cases h' : at_ < n
    · rw [show inB at_ n = true by simp [inB]; omega]
      go_enter Try.func64, Try.ntmps64
      go_wp2_with (go_at_call 22; refine (size_calls _ _ _ n h0 h1).mono ?_; rintro e w' ⟨rfl, rfl⟩)
      go_ret
      exact ⟨rfl, rfl⟩
    · rw [show inB at_ n = false by simp [inB]; omega]
      have h2 : decide (at_ < n) = false := by simp; omega
      go_enter Try.func64, Try.ntmps64
      go_wp2_with (go_at_call 22; refine (size_calls _ _ _ n h0 h1).mono ?_; rintro e w' ⟨rfl, rfl⟩)
      go_ret
      exact ⟨rfl, rfl⟩
  · rw [show inB at_ n = false by simp [inB]; omega]
    go_enter Try.func64, Try.ntmps64
    go_wp2_with fail
    go_ret
    exact ⟨rfl, rfl⟩
theorem has_none (w : World) (at_ : Int) : Calls Try.prog 64 #[.pointer none, .int .i64 at_] w fun e w' => e = .returned (.bool false) ∧ w = w' := by
  by_cases h : 0 ≤ at_
  · have h2 : decide (at_ < 0) = false := by simp; omega
    go_enter Try.func64, Try.ntmps64
    go_wp2_with (go_at_call 22; refine (size_none _).mono ?_; rintro e w' ⟨rfl, rfl⟩)
    go_ret
    exact ⟨rfl, rfl⟩
  · go_enter Try.func64, Try.ntmps64
    go_wp2_with fail
    go_ret
    exact ⟨rfl, rfl⟩
theorem dead_calls (w : World) (B M : Nat) (d : Bool) (h1 : w.cell? ⟨B, 1, none⟩ = some (.map (some M))) (h6 : w.cell? ⟨B, 6, none⟩ = some (.bool d)) :
    Calls Try.prog 19 #[.pointer (some ⟨B, 0, none⟩)] w fun e w' => e = .returned (.bool d) ∧ w = w' := by
  go_enter Try.func19, Try.ntmps19
  go_wp2_with (go_at_call 63; refine (ok_calls _ _ _ h1).mono ?_; rintro e w' ⟨rfl, rfl⟩)
  go_ret
  exact ⟨rfl, rfl⟩
theorem dead_none (w : World) : Calls Try.prog 19 #[.pointer none] w fun e w' => e = .returned (.bool false) ∧ w = w' := by
  go_enter Try.func19, Try.ntmps19
  go_wp2_with (go_at_call 63; refine (ok_none _).mono ?_; rintro e w' ⟨rfl, rfl⟩)
  go_ret
  exact ⟨rfl, rfl⟩

/-- act: the disk behind it, the error -/
def actP (D : PD) : PD × Int :=
  let dead := D.dead || (D.armed && D.left == 0)
  if dead then ({ D with dead := true }, 50) else if D.armed then ({ D with left := D.left - 1 }, 0) else (D, 0)
theorem act_calls (w : World) (base B M Bd : Nat) (vc : Value) (D : PD) (h : DK w base B M Bd vc D) :
    Calls Try.prog 65 #[.pointer (some ⟨B, 0, none⟩)] w fun e w' => e = .returned (.int .i64 (actP D).2) ∧ DK w' base B M Bd vc (actP D).1 ∧ Only w w' B := by
  obtain ⟨⟨h0, h1, h2, h3, h4, h5, h6⟩, f2, f4, f5, f6⟩ := cells7 h.blk
  have HD := Aside0.mk h
  obtain ⟨n, kept, cache, bad, armed, left, dead⟩ := D
  simp only at h0 h1 h2 h3 h4 h5 h6
  have hl := h.hl
  simp only at hl
  obtain ⟨hl1, hl2⟩ := hl
  clear h
  cases armed with
  | false =>
    cases dead with
    | false =>
      go_enter Try.func65, Try.ntmps65
      go_wp2
      go_ret
      exact ⟨rfl, HD.out, Only.refl _ _⟩
    | true =>
      go_enter Try.func65, Try.ntmps65
      go_wp2
      go_ret
      exact ⟨rfl, HD.out, Only.refl _ _⟩
  | true =>
    by_cases hz : left = 0
    · subst hz
      go_enter Try.func65, Try.ntmps65
      go_wp2
      go_ret
      have hd : actP { n := n, kept := kept, cache := cache, bad := bad, armed := true, left := 0, dead := dead } = ({ n := n, kept := kept, cache := cache, bad := bad, armed := true, left := 0, dead := true }, 50) := by simp [actP]
      rw [hd]
      have ho := (Only.refl w B).set (i := 6) (.bool true)
      exact ⟨rfl, HD.out.only ho (set7 HD.out.blk 6 (.bool true)) rfl rfl (.inl ⟨rfl, rfl⟩) rfl ⟨by omega, by omega⟩, ho⟩
    · have hz0 : (left == 0) = false := by simpa using hz
      cases dead with
      | false =>
        have hd : actP { n := n, kept := kept, cache := cache, bad := bad, armed := true, left := left, dead := false } = ({ n := n, kept := kept, cache := cache, bad := bad, armed := true, left := left - 1, dead := false }, 0) := by simp [actP, hz]
        rw [hd]
        go_enter Try.func65, Try.ntmps65
        go_wp2
        go_ret
        have ho := (Only.refl w B).set (i := 5) (.int .i64 (left - 1))
        exact ⟨rfl, HD.out.only ho (set7 HD.out.blk 5 (.int .i64 (left - 1))) rfl rfl (.inl ⟨rfl, rfl⟩) rfl ⟨by simp only []; omega, by simp only []; omega⟩, ho⟩
      | true =>
        have hd : actP { n := n, kept := kept, cache := cache, bad := bad, armed := true, left := left, dead := true } = ({ n := n, kept := kept, cache := cache, bad := bad, armed := true, left := left, dead := true }, 50) := by simp [actP]
        rw [hd]
        go_enter Try.func65, Try.ntmps65
        go_wp2
        go_ret
        exact ⟨rfl, HD.out, Only.refl _ _⟩
theorem cached_calls (w : World) (base B M Bd : Nat) (vc : Value) (D : PD) (h : DK w base B M Bd vc D) :
    Calls Try.prog 24 #[.pointer (some ⟨B, 0, none⟩)] w fun e w' => e = .returned (.int .i64 D.cache.length) ∧ w = w' := by
  obtain ⟨⟨h0, h1, h2, h3, h4, h5, h6⟩, f2, f4, f5, f6⟩ := cells7 h.blk
  obtain ⟨A, c, rfl⟩ := Kd.R_slice h.cache
  clear h
  go_enter Try.func24, Try.ntmps24
  go_wp2_with (go_at_call 63; refine (ok_calls _ _ _ h1).mono ?_; rintro e w' ⟨rfl, rfl⟩)
  go_ret
  exact ⟨rfl, rfl⟩
theorem cached_none (w : World) : Calls Try.prog 24 #[.pointer none] w fun e w' => e = .returned (.int .i64 0) ∧ w = w' := by
  go_enter Try.func24, Try.ntmps24
  go_wp2_with (go_at_call 63; refine (ok_none _).mono ?_; rintro e w' ⟨rfl, rfl⟩)
  go_ret
  exact ⟨rfl, rfl⟩
def armP (D : PD) (n : Int) : PD := { D with armed := decide (0 ≤ n), left := max n 0 }
theorem arm_calls (w : World) (base B M Bd : Nat) (vc : Value) (D : PD) (n : Int) (hn : -9223372036854775808 ≤ n ∧ n ≤ 9223372036854775807) (h : DK w base B M Bd vc D) :
    Calls Try.prog 16 #[.pointer (some ⟨B, 0, none⟩), .int .i64 n] w fun e w' => e = .returned (.tuple #[]) ∧ DK w' base B M Bd vc (armP D n) ∧ Only w w' B := by
  obtain ⟨⟨h0, h1, h2, h3, h4, h5, h6⟩, f2, f4, f5, f6⟩ := cells7 h.blk
  have HD := Aside0.mk h
  clear h
  obtain ⟨m, hm⟩ : ∃ m, (if n < 0 then 0 else n) = m := ⟨_, rfl⟩
  obtain ⟨b, hb⟩ : ∃ b, decide (0 ≤ n) = b := ⟨_, rfl⟩
  have HM := Aside0.mk (show max n 0 = m by rw [← hm]; split <;> omega)
  have HB := Aside0.mk hb
  go_enter Try.func16, Try.ntmps16
  go_wp2_with (go_at_call 63; refine (ok_calls _ _ _ h1).mono ?_; rintro e w' ⟨rfl, rfl⟩)
  go_end0
  rw [show armP D n = { D with armed := b, left := m } by unfold armP; rw [HB.out, HM.out]]
  have ho := ((Only.refl w B).set (i := 4) (.bool b)).set (i := 5) (.int .i64 m)
  exact ⟨rfl, HD.out.only ho (set7 (set7 HD.out.blk 4 _) 5 _) rfl rfl (.inl ⟨rfl, rfl⟩) rfl (by have := HM.out; simp only []; omega), ho⟩
theorem arm_none (w : World) (n : Int) : Calls Try.prog 16 #[.pointer none, .int .i64 n] w fun e w' => e = .returned (.tuple #[]) ∧ w = w' := by
  go_enter Try.func16, Try.ntmps16
  go_wp2_with (go_at_call 63; refine (ok_none _).mono ?_; rintro e w' ⟨rfl, rfl⟩)
  go_end0
  exact ⟨rfl, rfl⟩
def restP (D : PD) : PD := { D with cache := [], dead := false, armed := false, left := 0 }
theorem rest_calls (w : World) (base B M Bd : Nat) (vc : Value) (D : PD) (h : DK w base B M Bd vc D) :
    Calls Try.prog 67 #[.pointer (some ⟨B, 0, none⟩)] w fun e w' => e = .returned (.tuple #[]) ∧ DK w' base B M Bd (.slice none 0 0) (restP D) ∧ Only w w' B := by
  obtain ⟨⟨h0, h1, h2, h3, h4, h5, h6⟩, f2, f4, f5, f6⟩ := cells7 h.blk
  have HD := Aside0.mk h
  clear h
  obtain ⟨A, c, rfl⟩ := Kd.R_slice HD.out.cache
  go_enter Try.func67, Try.ntmps67
  go_wp2
  go_end0
  have ho := ((((Only.refl w B).set (i := 2) (.slice none 0 0)).set (i := 6) (.bool false)).set (i := 4) (.bool false)).set (i := 5) (.int .i64 0)
  exact ⟨rfl, HD.out.only ho (set7 (set7 (set7 (set7 HD.out.blk 2 _) 6 _) 4 _) 5 _) rfl rfl (.inr ⟨rfl, rfl⟩) rfl ⟨by simp [restP], by simp [restP]⟩, ho⟩
end Go.Proofs.Ytlepcmljmibdnaa
