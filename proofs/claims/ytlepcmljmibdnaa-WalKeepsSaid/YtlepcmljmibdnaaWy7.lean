/- Parts of one proof, joined: Ri, Rj, Cr, Bt, Sr, Fo. Conditions: those of each statement. -/
import Derived.Test.YtlepcmljmibdnaaWy6
import Derived.ArgAppend
import Derived.Test.YtlepcmljmibdnaaWy5
namespace Go.Kd2
open Go.RowKit Go.Proofs.YtlepcmljmibdnaaW.PrintWords
end Go.Kd2
namespace Go.Proofs.Ytlepcmljmibdnaa
open Go.RowKit Go.Proofs.YtlepcmljmibdnaaW.PrintWords Go.Proofs.YtlepcmljmibdnaaW.PrintLast Go.Proofs.YtlepcmljmibdnaaW.PrintMore PDiskArms
set_option linter.unusedVariables false
set_option linter.unusedSimpArgs false
def rwriteX (X : RX) (at_ : Int) (b : List Int) : RX × Int :=
  if X.dead then (X, 50) else if inB at_ X.S.length = false then (X, 1) else if 64 < b.length then (X, 2) else
    if (ractX X).2 ≠ 0 then ractX X else ({ (ractX X).1 with cache := (ractX X).1.cache ++ [(at_, pad b)] }, 0)
end Go.Proofs.Ytlepcmljmibdnaa
namespace Go.Proofs.Ytlepcmljmibdnaa
open Go.RowKit Go.Proofs.YtlepcmljmibdnaaW.PrintWords Go.Proofs.YtlepcmljmibdnaaW.PrintLast Go.Proofs.YtlepcmljmibdnaaW.PrintMore PDiskArms
set_option linter.unusedVariables false
set_option linter.unusedSimpArgs false
def rwipeX (X : RX) : RX := rnewX X.S.length
def rcloneX (X : RX) : RX := { rnewX X.S.length with S := X.S }
def RCloneP (w : World) (X : RX) (e : Ending) (w' : World) : Prop := ∃ B' vS' vB', e = .returned (.pointer (some ⟨B', 0, none⟩)) ∧ RK w' w.heap.size B' vS' (.slice none 0 0) vB' (rcloneX X) ∧ Below w.heap.size w w'
def half (S : List (List Int)) (i : Nat) : List (List Int) := S.take i ++ List.replicate (S.length - i) zsec
end Go.Proofs.Ytlepcmljmibdnaa
namespace Go.Proofs.Ytlepcmljmibdnaa
open Go.RowKit Go.Proofs.YtlepcmljmibdnaaW.PrintWords Go.Proofs.YtlepcmljmibdnaaW.PrintLast Go.Proofs.YtlepcmljmibdnaaW.PrintMore PDiskArms
set_option linter.unusedVariables false
set_option linter.unusedSimpArgs false
structure Corr (D : PD) (X : RX) : Prop where
  n : D.n = X.S.length
  cache : D.cache = X.cache
  dead : D.dead = X.dead
  armed : D.armed = decide (0 ≤ X.left)
  left : 0 ≤ X.left → D.left = X.left
  S : ∀ (i : Nat) s, X.S[i]? = some s → (D.kept i).getD zsec = s
  bad : ∀ (i : Nat) b, X.bad[i]? = some b → D.bad i = b
end Go.Proofs.Ytlepcmljmibdnaa
namespace Go.Proofs.Ytlepcmljmibdnaa
open Go.RowKit Go.Proofs.YtlepcmljmibdnaaW.PrintWords Go.Proofs.YtlepcmljmibdnaaW.PrintLast Go.Proofs.YtlepcmljmibdnaaW.PrintMore PDiskArms
set_option linter.unusedVariables false
set_option linter.unusedSimpArgs false
def isDR (o : Obj) : Prop := isDisk o ∨ isRef o
structure Both (w0 w : World) (B M Bd : Nat) (vc : Value) (D : PD) (R : Nat) (vS vC vB : Value) (X : RX) : Prop where
  dk : DK w w0.heap.size B M Bd vc D
  rk : RK w w0.heap.size R vS vC vB X
  low : Below w0.heap.size w0 w
section
variable {w0 w w' : World} {B M Bd R : Nat} {vc vS vC vB : Value} {D D' : PD} {X X' : RX}
end
end Go.Proofs.Ytlepcmljmibdnaa
namespace Go.Proofs.Ytlepcmljmibdnaa
open Go.RowKit Go.Proofs.YtlepcmljmibdnaaW.PrintWords Go.Proofs.YtlepcmljmibdnaaW.PrintLast Go.Proofs.YtlepcmljmibdnaaW.PrintMore PWalOpens
set_option linter.unusedVariables false
set_option linter.unusedSimpArgs false
def rsaveX (X : RX) (g : Int) (l : List Int) : RX × Int :=
  if 4 < l.length then (X, 2) else if (rflushX X).2 ≠ 0 then rflushX X else
    if (rwriteX (rflushX X).1 (g % 2) (slotB g l)).2 ≠ 0 then rwriteX (rflushX X).1 (g % 2) (slotB g l) else rflushX (rwriteX (rflushX X).1 (g % 2) (slotB g l)).1
def RvQ (w : World) (base R : Nat) (vS vB : Value) (X' : RX) (e : Int) (r : Ending) (w' : World) : Prop := r = .returned (.int .i64 e) ∧ TC base isRef w w' ∧ ∃ vC', RK w' base R vS vC' vB X'
section
variable {w : World} {base R : Nat} {vS vC vB : Value} {X X1 X2 X3 : RX} {g : Int} {l : List Int} {A : Option Addr} {c : Nat} {e : Int}
end
end Go.Proofs.Ytlepcmljmibdnaa
namespace Go.Proofs.Ytlepcmljmibdnaa
open Go.RowKit Go.Proofs.YtlepcmljmibdnaaW.PrintWords Go.Proofs.YtlepcmljmibdnaaW.PrintLast Go.Proofs.YtlepcmljmibdnaaW.PrintMore PWalOpens
set_option linter.unusedVariables false
set_option linter.unusedSimpArgs false
noncomputable def formatP (D : PD) (l : List Int) : PD × Int :=
  if (writeP D 0 []).2 ≠ 0 then writeP D 0 [] else if (writeP (writeP D 0 []).1 1 []).2 ≠ 0 then writeP (writeP D 0 []).1 1 [] else saveP (writeP (writeP D 0 []).1 1 []).1 0 l
def rformatX (X : RX) (l : List Int) : RX × Int :=
  if (rwriteX X 0 []).2 ≠ 0 then rwriteX X 0 [] else if (rwriteX (rwriteX X 0 []).1 1 []).2 ≠ 0 then rwriteX (rwriteX X 0 []).1 1 [] else rsaveX (rwriteX (rwriteX X 0 []).1 1 []).1 0 l
section
variable {w : World} {base B M Bd : Nat} {vc : Value} {D D' : PD} {l : List Int} {A : Option Addr} {c : Nat} {e : Int}
theorem format_go (Df : Nat → PD) (Er : Nat → Int) (h0 : Df 0 = D) (hs : ∀ i, i < 2 → writeP (Df i) (i : Int) [] = (Df (i + 1), Er i)) (hcl : ∀ i, i ≤ 2 → (Df i).cache.length ≤ 900)
    (hE : ∀ i, i < 2 → (∀ j, j < i → Er j = 0) → Er i ≠ 0 → D' = Df (i + 1) ∧ e = Er i) (hO : (∀ j, j < 2 → Er j = 0) → saveP (Df 2) 0 l = (D', e))
    (hn : ∀ n ∈ l, 0 ≤ n ∧ n < 18446744073709551616) (hC : ∀ w', Chg w w' (FP B M Bd vc) → (Kd.int .u64).C w' A l.length l) (h : DK w base B M Bd vc D) :
    Calls Try.prog 46 #[.pointer (some ⟨B, 0, none⟩), .slice A l.length c] w (SvQ w B M Bd vc D' e) := by
  have HD := Aside0.mk (At.refl h)
  have HC := Aside0.mk hC
  have HN := Aside0.mk hn
  have HS := Aside0.mk hs
  have HL := Aside0.mk hcl
  have HE := Aside0.mk hE
  have HO := Aside0.mk hO
  have H0 := Aside0.mk h0
  clear h hn hC hs hcl hE hO h0
  go_enter Try.func46, Try.ntmps46
  go_wp2
  go_loopg [7] 2 (fun kq v7 w' => ∃ (i : Nat) (vc' : Value), v7 = .int .i64 (i : Int) ∧ Aside0 (i + kq = 2) ∧ Aside0 (∀ j, j < i → Er j = 0) ∧ Aside0 (At w (FP B M Bd vc) w' B M Bd vc' (Df i)))
  case atStart => exact ⟨0, vc, rfl, ⟨by omega⟩, ⟨fun j hj => by omega⟩, ⟨by rw [H0.out]; exact HD.out⟩⟩
  case round =>
    obtain ⟨i, vc', rfl, HI, HZ, HA⟩ := hrel
    by_cases hi : i < 2
    · have hi' : (i : Int) < 2 := by omega
      obtain ⟨er, her⟩ : ∃ er, Er i = er := ⟨_, rfl⟩
      have HW := Aside0.mk (HS.out i hi)
      have HLi := Aside0.mk (HL.out i (by omega))
      have HEi := Aside0.mk (HE.out i hi HZ.out)
      rw [her] at HW HEi
      by_cases hz : er = 0
      · subst hz
        have HER := Aside0.mk her
        clear her
        go_wp2_with (go_at_call 17; go_loud (refine (at_write (i : Int) 0 none 0 [] HW.out (Nat.le_trans HLi.out (by omega)) (fun w' hc => Kd.C_nil _ _) (At.refl HA.out.dk)).mono ?_); rintro e w5 ⟨rfl, vc5, hd⟩; have HD5 := Aside0.mk (HA.out.then_ hd); clear hd)
        have hk1 := HI.out
        obtain ⟨gq, rfl⟩ : ∃ gq, gk = gq + 1 := ⟨gk - 1, by omega⟩
        go_roundg gq
        case rel => exact ⟨i + 1, vc5, by go_num, ⟨by omega⟩, ⟨fun j hj => by
          by_cases hji : j = i
          · subst hji; exact HER.out
          · exact HZ.out j (by omega)⟩, HD5⟩
        case measure => omega
      · have hzb : (er != 0) = true := by simpa using hz
        obtain ⟨hD, he⟩ := HEi.out hz
        have HQ := Aside0.mk (And.intro hD he)
        clear her hz hD he
        go_wp2_with (go_at_call 17; go_loud (refine (at_write (i : Int) er none 0 [] HW.out (Nat.le_trans HLi.out (by omega)) (fun w' hc => Kd.C_nil _ _) (At.refl HA.out.dk)).mono ?_); rintro e w5 ⟨rfl, vc5, hd⟩; have HD5 := Aside0.mk (HA.out.then_ hd); clear hd)
        go_ret
        obtain ⟨rfl, rfl⟩ := HQ.out
        exact ⟨rfl, vc5, HD5.out⟩
    · have hi0 := HI.out
      obtain rfl : gk = 0 := by omega
      obtain rfl : i = 2 := by omega
      clear hi0 hi
      have HSV := Aside0.mk (save_calls (HO.out HZ.out) (by omega) HN.out (HC.out wr HA.out.chg) (HL.out 2 (by omega)) HA.out.dk (c := c))
      go_wp2_with (go_at_call 42; (with_reducible refine HSV.out.mono ?_); rintro e w6 ⟨rfl, vc6, hd⟩; have HD6 := Aside0.mk (HA.out.then_ hd); clear hd)
      go_ret
      exact ⟨rfl, vc6, HD6.out⟩
theorem format_calls (hf : formatP D l = (D', e)) (hc : D.cache.length ≤ 800) (hn : ∀ n ∈ l, 0 ≤ n ∧ n < 18446744073709551616) (hC : ∀ w', Chg w w' (FP B M Bd vc) → (Kd.int .u64).C w' A l.length l) (h : DK w base B M Bd vc D) :
    Calls Try.prog 46 #[.pointer (some ⟨B, 0, none⟩), .slice A l.length c] w (SvQ w B M Bd vc D' e) := by
  have q1 := writeP_cache D 0 []
  have q2 := writeP_cache (writeP D 0 []).1 1 []
  unfold formatP at hf
  refine format_go (D := D) (fun i => match i with | 0 => D | 1 => (writeP D 0 []).1 | _ => (writeP (writeP D 0 []).1 1 []).1) (fun i => match i with | 0 => (writeP D 0 []).2 | _ => (writeP (writeP D 0 []).1 1 []).2) rfl (fun i hi => ?_) (fun i hi => ?_) (fun i hi hz hne => ?_) (fun hz => ?_) hn hC h
  · have : i = 0 ∨ i = 1 := by omega
    rcases this with rfl | rfl <;> rfl
  · have : i = 0 ∨ i = 1 ∨ i = 2 := by omega
    rcases this with rfl | rfl | rfl <;> simp only <;> omega
  · have : i = 0 ∨ i = 1 := by omega
    rcases this with rfl | rfl
    · have hne' : (writeP D 0 []).2 ≠ 0 := hne
      rw [if_pos hne'] at hf
      exact ⟨(congrArg Prod.fst hf).symm, (congrArg Prod.snd hf).symm⟩
    · have h0 : (writeP D 0 []).2 = 0 := hz 0 (by omega)
      have hne' : (writeP (writeP D 0 []).1 1 []).2 ≠ 0 := hne
      rw [if_neg (fun hh => hh h0), if_pos hne'] at hf
      exact ⟨(congrArg Prod.fst hf).symm, (congrArg Prod.snd hf).symm⟩
  · have h0 : (writeP D 0 []).2 = 0 := hz 0 (by omega)
    have h1 : (writeP (writeP D 0 []).1 1 []).2 = 0 := hz 1 (by omega)
    rw [if_neg (fun hh => hh h0), if_neg (fun hh => hh h1)] at hf
    exact hf
end
section
variable {w : World} {base R : Nat} {vS vC vB : Value} {X X1 X2 X' : RX} {l : List Int} {A : Option Addr} {c : Nat} {e : Int}
end
end Go.Proofs.Ytlepcmljmibdnaa
