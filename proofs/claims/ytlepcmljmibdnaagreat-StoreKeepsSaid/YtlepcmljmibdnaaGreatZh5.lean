/- Parts of one proof, joined: Fo, Ld, Vw, Ay, Sn, Rd, Rdx, Ss, Fr, Ff, So, Wl, Wr, Wo. Conditions: those of each statement. -/
import Derived.Test.YtlepcmljmibdnaaGreatZh4
import Derived.Test.YtlepcmljmibdnaaGreatZhFWWords
import Derived.Deep.Slices
import Derived.ChangeArms
import Derived.Test.YtlepcmljmibdnaaGreatZh0
import Derived.WalkKit
import Derived.ProofKit
import Derived.OpenShut
import Derived.ShutString
import Derived.ChangeOld
import Derived.Below
import Derived.WalkMore
import Derived.Deep.LoopGhost
namespace Go.Proofs.YtlepcmljmibdnaaGreat
open Go.RowKit Go.Proofs.YtlepcmljmibdnaaGreatW.PrintWords Go.Proofs.YtlepcmljmibdnaaGreatW.PrintLast Go.Proofs.YtlepcmljmibdnaaGreatW.PrintMore PWalOpens
set_option linter.unusedVariables false
set_option linter.unusedSimpArgs false
noncomputable def formatP (D : PD) (l : List Int) : PD × Int :=
  if (writeP D 0 []).2 ≠ 0 then writeP D 0 [] else if (writeP (writeP D 0 []).1 1 []).2 ≠ 0 then writeP (writeP D 0 []).1 1 [] else saveP (writeP (writeP D 0 []).1 1 []).1 0 l
def rformatX (X : RX) (l : List Int) : RX × Int :=
  if (rwriteX X 0 []).2 ≠ 0 then rwriteX X 0 [] else if (rwriteX (rwriteX X 0 []).1 1 []).2 ≠ 0 then rwriteX (rwriteX X 0 []).1 1 [] else rsaveX (rwriteX (rwriteX X 0 []).1 1 []).1 0 l
section
variable {w : World} {base B M Bd : Nat} {vc : Value} {D D' : PD} {l : List Int} {A : Option Addr} {c : Nat} {e : Int}
theorem format_go (Df : Nat → PD) (Er : Nat → Int) (h0 : Df 0 = D) (hs : ∀ i, i < 2 → writeP (Df i) (i : Int) [] = (Df (i + 1), Er i)) (hcl : ∀ i, i ≤ 2 → (Df i).cache.length ≤ 30000)
    (hE : ∀ i, i < 2 → (∀ j, j < i → Er j = 0) → Er i ≠ 0 → D' = Df (i + 1) ∧ e = Er i) (hO : (∀ j, j < 2 → Er j = 0) → saveP (Df 2) 0 l = (D', e))
    (hn : ∀ n ∈ l, 0 ≤ n ∧ n < 18446744073709551616) (hC : ∀ w', Chg w w' (FP B M Bd vc) → (Kd.int .u64).C w' A l.length l) (h : DK w base B M Bd vc D) :
    Calls Tryz.prog 46 #[.pointer (some ⟨B, 0, none⟩), .slice A l.length c] w (SvQ w B M Bd vc D' e) := by
  have HD := Aside0.mk (At.refl h)
  have HC := Aside0.mk hC
  have HN := Aside0.mk hn
  have HS := Aside0.mk hs
  have HL := Aside0.mk hcl
  have HE := Aside0.mk hE
  have HO := Aside0.mk hO
  have H0 := Aside0.mk h0
  clear h hn hC hs hcl hE hO h0
  go_enter Tryz.func46, Tryz.ntmps46
  go_wp2
  go_loopg [7] 2 (fun kq v7 w' => ∃ (i : Nat) (vc' : Value), v7 = .int .i64 (i : Int) ∧ Aside0 (i + kq = 2) ∧ Aside0 (∀ j, j < i → Er j = 0) ∧ Aside0 (At w (FP B M Bd vc) w' B M Bd vc' (Df i)))
  case atStart => exact ⟨0, vc, rfl, ⟨by omega⟩, ⟨fun j hj => by omega⟩, ⟨by rw [H0.out]; exact HD.out⟩⟩
  case round =>
    obtain ⟨i, vc', rfl, HI, HZ, HA⟩ := hrel
    by_cases hi : i < 2
    · have hi' : (i : Int) < 2 := by omega
      obtain ⟨er, her⟩ : ∃ er, Er i = er := ⟨_, rfl⟩
      have HW := Aside0.mk (HS.out i hi)
      have HLi := Aside0.mk (HL.out i (by omega))
      have HEi := Aside0.mk (HE.out i hi HZ.out)
      rw [her] at HW HEi
      by_cases hz : er = 0
      · subst hz
        have HER := Aside0.mk her
        clear her
        go_wp2_with (go_at_call 93; go_loud (refine (at_write (i : Int) 0 none 0 [] HW.out (Nat.le_trans HLi.out (by omega)) (fun w' hc => Kd.C_nil _ _) (At.refl HA.out.dk)).mono ?_); rintro e w5 ⟨rfl, vc5, hd⟩; have HD5 := Aside0.mk (HA.out.then_ hd); clear hd)
        have hk1 := HI.out
        obtain ⟨gq, rfl⟩ : ∃ gq, gk = gq + 1 := ⟨gk - 1, by omega⟩
        go_roundg gq
        case rel => exact ⟨i + 1, vc5, by go_num, ⟨by omega⟩, ⟨fun j hj => by
          by_cases hji : j = i
          · subst hji; exact HER.out
          · exact HZ.out j (by omega)⟩, HD5⟩
        case measure => omega
      · have hzb : (er != 0) = true := by simpa using hz
        obtain ⟨hD, he⟩ := HEi.out hz
        have HQ := Aside0.mk (And.intro hD he)
        clear her hz hD he
        go_wp2_with (go_at_call 93; go_loud (refine (at_write (i : Int) er none 0 [] HW.out (Nat.le_trans HLi.out (by omega)) (fun w' hc => Kd.C_nil _ _) (At.refl HA.out.dk)).mono ?_); rintro e w5 ⟨rfl, vc5, hd⟩; have HD5 := Aside0.mk (HA.out.then_ hd); clear hd)
        go_ret
        obtain ⟨rfl, rfl⟩ := HQ.out
        exact ⟨rfl, vc5, HD5.out⟩
    · have hi0 := HI.out
      obtain rfl : gk = 0 := by omega
      obtain rfl : i = 2 := by omega
      clear hi0 hi
      have HSV := Aside0.mk (save_calls (HO.out HZ.out) (by omega) HN.out (HC.out wr HA.out.chg) (HL.out 2 (by omega)) HA.out.dk (c := c))
      go_wp2_with (go_at_call 94; (with_reducible refine HSV.out.mono ?_); rintro e w6 ⟨rfl, vc6, hd⟩; have HD6 := Aside0.mk (HA.out.then_ hd); clear hd)
      go_ret
      exact ⟨rfl, vc6, HD6.out⟩
theorem format_calls (hf : formatP D l = (D', e)) (hc : D.cache.length ≤ 10000) (hn : ∀ n ∈ l, 0 ≤ n ∧ n < 18446744073709551616) (hC : ∀ w', Chg w w' (FP B M Bd vc) → (Kd.int .u64).C w' A l.length l) (h : DK w base B M Bd vc D) :
    Calls Tryz.prog 46 #[.pointer (some ⟨B, 0, none⟩), .slice A l.length c] w (SvQ w B M Bd vc D' e) := by
  have q1 := writeP_cache D 0 []
  have q2 := writeP_cache (writeP D 0 []).1 1 []
  unfold formatP at hf
  refine format_go (D := D) (fun i => match i with | 0 => D | 1 => (writeP D 0 []).1 | _ => (writeP (writeP D 0 []).1 1 []).1) (fun i => match i with | 0 => (writeP D 0 []).2 | _ => (writeP (writeP D 0 []).1 1 []).2) rfl (fun i hi => ?_) (fun i hi => ?_) (fun i hi hz hne => ?_) (fun hz => ?_) hn hC h
  · have : i = 0 ∨ i = 1 := by omega
    rcases this with rfl | rfl <;> rfl
  · have : i = 0 ∨ i = 1 ∨ i = 2 := by omega
    rcases this with rfl | rfl | rfl <;> simp only <;> omega
  · have : i = 0 ∨ i = 1 := by omega
    rcases this with rfl | rfl
    · have hne' : (writeP D 0 []).2 ≠ 0 := hne
      rw [if_pos hne'] at hf
      exact ⟨(congrArg Prod.fst hf).symm, (congrArg Prod.snd hf).symm⟩
    · have h0 : (writeP D 0 []).2 = 0 := hz 0 (by omega)
      have hne' : (writeP (writeP D 0 []).1 1 []).2 ≠ 0 := hne
      rw [if_neg (fun hh => hh h0), if_pos hne'] at hf
      exact ⟨(congrArg Prod.fst hf).symm, (congrArg Prod.snd hf).symm⟩
  · have h0 : (writeP D 0 []).2 = 0 := hz 0 (by omega)
    have h1 : (writeP (writeP D 0 []).1 1 []).2 = 0 := hz 1 (by omega)
    rw [if_neg (fun hh => hh h0), if_neg (fun hh => hh h1)] at hf
    exact hf
end
section
variable {w : World} {base R : Nat} {vS vC vB : Value} {X X1 X2 X' : RX} {l : List Int} {A : Option Addr} {c : Nat} {e : Int}
end
end Go.Proofs.YtlepcmljmibdnaaGreat
namespace Go.Proofs.YtlepcmljmibdnaaGreat
open Go.RowKit Go.Proofs.YtlepcmljmibdnaaGreatW.PrintWords Go.Proofs.YtlepcmljmibdnaaGreatW.PrintLast Go.Proofs.YtlepcmljmibdnaaGreatW.PrintMore PWalOpens
set_option linter.unusedVariables false
set_option linter.unusedSimpArgs false
/-- what a disk keeps are bytes -/
def okD (D : PD) : Prop := (∀ a s, D.kept a = some s → isBytes s) ∧ ∀ p ∈ D.cache, isBytes p.2
theorem zsec_bytes : isBytes zsec := by
  intro x hx
  have := List.eq_of_mem_replicate hx
  omega
theorem readL_bytes (l : List (Int × List Int)) (hl : ∀ p ∈ l, isBytes p.2) (at_ : Int) : ∀ s, isBytes s → isBytes (readL s l at_) := by
  induction l with
  | nil => intro s hs; exact hs
  | cons p l ih =>
    intro s hs
    unfold readL
    rw [List.foldl_cons]
    refine ih (fun q hq => hl q (by simp [hq])) _ ?_
    split
    · exact hl p (by simp)
    · exact hs
theorem readP_bytes {D : PD} (h : okD D) (at_ : Int) : isBytes (readP D at_).1 := by
  have nil : isBytes [] := fun x hx => by cases hx
  unfold readP
  repeat' split
  · exact nil
  · exact nil
  · exact nil
  · refine readL_bytes _ h.2 _ _ ?_
    cases hk : D.kept at_ with
    | none => exact zsec_bytes
    | some s => exact h.1 _ _ hk
theorem readP_len {w : World} {base B M Bd : Nat} {vc : Value} {D : PD} (h : DK w base B M Bd vc D) (hc : ∀ p ∈ D.cache, p.2.length = 64) (at_ : Int) : (readP D at_).1.length ≤ 64 := by
  unfold readP
  repeat' split
  · simp
  · simp
  · simp
  · have key : ∀ (l : List (Int × List Int)), (∀ p ∈ l, p.2.length = 64) → ∀ s : List Int, s.length = 64 → (readL s l at_).length ≤ 64 := by
      intro l
      induction l with
      | nil => intro _ s hs; exact Nat.le_of_eq hs
      | cons p l ih =>
        intro hl s hs
        unfold readL
        rw [List.foldl_cons]
        refine ih (fun q hq => hl q (by simp [hq])) _ ?_
        split
        · exact hl p (by simp)
        · exact hs
    refine key _ hc _ ?_
    cases hk : D.kept at_ with
    | none => rfl
    | some s => exact h.sec _ _ hk
theorem SB.of_R {w : World} {b c n : Nat} {A : Option Addr} {xs : List Int} {ok : Nat → Prop} (h : Kd.R (Kd.int .u8) 5 w b ok (.slice A n c) xs) : SB w A c xs := by
  obtain ⟨h1, h2, h3⟩ := Kd.R_reads' h
  obtain ⟨_, inner, ho, _⟩ := h
  refine ⟨h3, by omega, ?_, fun hA => ?_⟩
  · rcases ho.2 with ⟨e, _⟩ | ⟨g, cap, cur, e, _, _, _, hm, _⟩
    · injection e with e1 e2 e3; omega
    · injection e with e1 e2 e3; rw [e3]; exact Nat.le_trans hm (by decide)
  · have := own_none ho hA
    omega
def stepL (st : Bool × Int × List Int) (u : Int × List Int × Int) : Bool × Int × List Int := if u.2.2 = 0 ∧ (st.1 = false ∨ st.2.1 < u.1) then (true, u.1, u.2.1) else st
def pickL (u v : Int × List Int × Int) : Int × List Int × Int :=
  if (stepL (stepL (false, 0, []) u) v).1 then ((stepL (stepL (false, 0, []) u) v).2.1, (stepL (stepL (false, 0, []) u) v).2.2, 0) else (0, [], 60)
def loadP (D : PD) : Int × List Int × Int :=
  if (readP D 0).2 ≠ 0 then (0, [], (readP D 0).2) else if (readP D 1).2 ≠ 0 then (0, [], (readP D 1).2) else pickL (unP (readP D 0).1) (unP (readP D 1).1)
def LdQ (w : World) (r : Int × List Int × Int) (e : Ending) (w' : World) : Prop := ∃ A c, e = .returned (.tuple #[.int .u64 r.1, .slice A r.2.1.length c, .int .i64 r.2.2]) ∧ Kd.R (Kd.int .u64) 52 w' w.heap.size (fun k => w.heap.size ≤ k) (.slice A r.2.1.length c) r.2.1 ∧ Below w.heap.size w w'
section
variable {w : World} {base B M Bd : Nat} {vc : Value} {D : PD} {r : Int × List Int × Int}
theorem load_walk (Lf : Nat → Bool × Int × List Int) (h0 : Lf 0 = (false, 0, [])) (hs : ∀ i, i < 2 → Lf (i + 1) = stepL (Lf i) (unP (readP D i).1))
    (hE : ∀ i : Nat, i < 2 → (∀ j : Nat, j < i → (readP D j).2 = 0) → (readP D i).2 ≠ 0 → r = (0, [], (readP D i).2)) (hO : (∀ j : Nat, j < 2 → (readP D j).2 = 0) → r = if (Lf 2).1 then ((Lf 2).2.1, (Lf 2).2.2, 0) else (0, [], 60))
    (ho : okD D) (h64 : ∀ p ∈ D.cache, p.2.length = 64) (hl : D.cache.length ≤ 40000) (h : DK w base B M Bd vc D) :
    Calls Tryz.prog 49 #[.pointer (some ⟨B, 0, none⟩)] w (LdQ w r) := by
  have HD := Aside0.mk h
  have H64 := Aside0.mk (fun i : Int => readP_len h h64 i)
  have HB := Aside0.mk (fun i : Int => readP_bytes ho i)
  have HL := Aside0.mk hl
  have HS := Aside0.mk hs
  have HE := Aside0.mk hE
  have HO := Aside0.mk hO
  have H0 := Aside0.mk h0
  clear h ho h64 hl hs hE hO h0
  go_enter Tryz.func49, Tryz.ntmps49
  go_wp2
  go_loopg [2, 3, 5, 11] 2 (fun kq v2 v3 v5 v11 w' => ∃ (i : Nat) (f : Bool) (g : Int) (l : List Int), v11 = .int .i64 (i : Int) ∧ v5 = .bool f ∧ v2 = .int .u64 g ∧ Aside0 (Lf i = (f, g, l)) ∧ Aside0 (i + kq = 2) ∧ Aside0 (∀ j : Nat, j < i → (readP D j).2 = 0) ∧ Aside0 (Kd.R (Kd.int .u64) 52 w' w.heap.size (fun k => w.heap.size ≤ k) v3 l) ∧ Aside0 (Below w.heap.size w w'))
  case atStart => exact ⟨0, false, 0, [], rfl, rfl, rfl, H0, ⟨by omega⟩, ⟨fun j hj => by omega⟩, ⟨Kd.R_nil _ _ _ _ _⟩, ⟨Below.refl _ _⟩⟩
  case round =>
    obtain ⟨i, f, g, l, rfl, rfl, rfl, HF, HI, HZ, HR, HW⟩ := hrel
    by_cases hi : i < 2
    · have hi' : (i : Int) < 2 := by omega
      obtain ⟨s, er, hse⟩ : ∃ s er, readP D i = (s, er) := ⟨_, _, rfl⟩
      have HRD := Aside0.mk hse
      have HS64 := Aside0.mk (show s.length ≤ 1000000 from by have := H64.out i; rw [hse] at this; exact Nat.le_trans this (by omega))
      have HSB := Aside0.mk (show isBytes s from by have := HB.out i; rwa [hse] at this)
      have HNX := Aside0.mk (HS.out i hi)
      have HEi := Aside0.mk (HE.out i hi HZ.out)
      rw [hse, HF.out] at HNX
      rw [hse] at HEi
      simp only at HNX HEi
      have HDr := Aside0.mk (At.refl (HD.out.chg (.of_below HW.out)))
      obtain ⟨u, hu⟩ : ∃ u, unP s = u := ⟨_, rfl⟩
      have HOF := Aside0.mk (fun (w : World) (A : Option Addr) (c : Nat) (h : SB w A c s) => of_calls w A c s HS64.out h HSB.out)
      unfold OfQ at HOF
      rw [hu] at HNX HOF
      obtain ⟨ug, ul, ue⟩ := u
      simp only at HOF
      have HUE := Aside0.mk (show ue = 0 ∨ ue = 60 from (unP_bytes s HSB.out hu).2.2.2)
      clear hu
      by_cases hz : er = 0
      · subst hz
        have HZ1 := Aside0.mk (show ∀ j : Nat, j < i + 1 → (readP D j).2 = 0 from fun j hj => by
          by_cases hji : j = i
          · subst hji; rw [HRD.out]
          · exact HZ.out j (by omega))
        clear hse
        rcases HUE.out with rfl | rfl
        · cases f with
          | false =>
            have HN1 := Aside0.mk (show Lf (i + 1) = (true, ug, ul) from by rw [HNX.out]; rfl)
            go_wp2_with (first
              | (go_at_call 97; (with_reducible refine (at_read (i : Int) 0 s HRD.out HL.out HDr.out).mono ?_); rintro e w5 ⟨A5, c5, rfl, hr, hd, hb⟩; have HSB5 := Aside0.mk (SB.of_R hr); have HB5 := Aside0.mk (HW.out.trans (hb.mono HW.out.size)); have HR5 := Aside0.mk (Kd.R_below HR.out hb); clear hd hr hb)
              | (go_at_call 98; (with_reducible refine (HOF.out w5 A5 c5 HSB5.out).mono ?_); rintro e w6 ⟨A6, c6, rfl, hr, hb⟩; have HB6 := Aside0.mk (HB5.out.trans (hb.mono HB5.out.size)); have HR6 := Aside0.mk (Kd.R_below HR5.out hb); have HN6 := Aside0.mk (Kd.R_mono (Kd.R_lower hr HB5.out.size) (fun k hk => Nat.le_trans HB5.out.size hk)); clear hr hb))
            have hk1 := HI.out
            obtain ⟨gq, rfl⟩ : ∃ gq, gk = gq + 1 := ⟨gk - 1, by omega⟩
            go_roundg gq
            case rel => exact ⟨i + 1, _, _, _, by go_num, rfl, rfl, HN1, ⟨by omega⟩, HZ1, HN6, HB6⟩
            case measure => omega
          | true =>
            by_cases hgt : g < ug
            · have HN1 := Aside0.mk (show Lf (i + 1) = (true, ug, ul) from by rw [HNX.out]; unfold stepL; rw [if_pos ⟨rfl, .inr hgt⟩])
              go_wp2_with (first
                | (go_at_call 97; (with_reducible refine (at_read (i : Int) 0 s HRD.out HL.out HDr.out).mono ?_); rintro e w5 ⟨A5, c5, rfl, hr, hd, hb⟩; have HSB5 := Aside0.mk (SB.of_R hr); have HB5 := Aside0.mk (HW.out.trans (hb.mono HW.out.size)); have HR5 := Aside0.mk (Kd.R_below HR.out hb); clear hd hr hb)
                | (go_at_call 98; (with_reducible refine (HOF.out w5 A5 c5 HSB5.out).mono ?_); rintro e w6 ⟨A6, c6, rfl, hr, hb⟩; have HB6 := Aside0.mk (HB5.out.trans (hb.mono HB5.out.size)); have HR6 := Aside0.mk (Kd.R_below HR5.out hb); have HN6 := Aside0.mk (Kd.R_mono (Kd.R_lower hr HB5.out.size) (fun k hk => Nat.le_trans HB5.out.size hk)); clear hr hb))
              have hk1 := HI.out
              obtain ⟨gq, rfl⟩ : ∃ gq, gk = gq + 1 := ⟨gk - 1, by omega⟩
              go_roundg gq
              case rel => exact ⟨i + 1, _, _, _, by go_num, rfl, rfl, HN1, ⟨by omega⟩, HZ1, HN6, HB6⟩
              case measure => omega
            · have HN1 := Aside0.mk (show Lf (i + 1) = (true, g, l) from by rw [HNX.out]; unfold stepL; rw [if_neg (fun hh => hh.2.elim (fun h => by cases h) hgt)])
              go_wp2_with (first
                | (go_at_call 97; (with_reducible refine (at_read (i : Int) 0 s HRD.out HL.out HDr.out).mono ?_); rintro e w5 ⟨A5, c5, rfl, hr, hd, hb⟩; have HSB5 := Aside0.mk (SB.of_R hr); have HB5 := Aside0.mk (HW.out.trans (hb.mono HW.out.size)); have HR5 := Aside0.mk (Kd.R_below HR.out hb); clear hd hr hb)
                | (go_at_call 98; (with_reducible refine (HOF.out w5 A5 c5 HSB5.out).mono ?_); rintro e w6 ⟨A6, c6, rfl, hr, hb⟩; have HB6 := Aside0.mk (HB5.out.trans (hb.mono HB5.out.size)); have HR6 := Aside0.mk (Kd.R_below HR5.out hb); have HN6 := Aside0.mk (Kd.R_mono (Kd.R_lower hr HB5.out.size) (fun k hk => Nat.le_trans HB5.out.size hk)); clear hr hb))
              have hk1 := HI.out
              obtain ⟨gq, rfl⟩ : ∃ gq, gk = gq + 1 := ⟨gk - 1, by omega⟩
              go_roundg gq
              case rel => exact ⟨i + 1, _, _, _, by go_num, rfl, rfl, HN1, ⟨by omega⟩, HZ1, HR6, HB6⟩
              case measure => omega
        · have HN1 := Aside0.mk (show Lf (i + 1) = (f, g, l) from by rw [HNX.out]; rfl)
          go_wp2_with (first
            | (go_at_call 97; (with_reducible refine (at_read (i : Int) 0 s HRD.out HL.out HDr.out).mono ?_); rintro e w5 ⟨A5, c5, rfl, hr, hd, hb⟩; have HSB5 := Aside0.mk (SB.of_R hr); have HB5 := Aside0.mk (HW.out.trans (hb.mono HW.out.size)); have HR5 := Aside0.mk (Kd.R_below HR.out hb); clear hd hr hb)
            | (go_at_call 98; (with_reducible refine (HOF.out w5 A5 c5 HSB5.out).mono ?_); rintro e w6 ⟨A6, c6, rfl, hr, hb⟩; have HB6 := Aside0.mk (HB5.out.trans (hb.mono HB5.out.size)); have HR6 := Aside0.mk (Kd.R_below HR5.out hb); have HN6 := Aside0.mk (Kd.R_mono (Kd.R_lower hr HB5.out.size) (fun k hk => Nat.le_trans HB5.out.size hk)); clear hr hb))
          have hk1 := HI.out
          obtain ⟨gq, rfl⟩ : ∃ gq, gk = gq + 1 := ⟨gk - 1, by omega⟩
          go_roundg gq
          case rel => exact ⟨i + 1, _, _, _, by go_num, rfl, rfl, HN1, ⟨by omega⟩, HZ1, HR6, HB6⟩
          case measure => omega
      · have hzb : (er != 0) = true := by simpa using hz
        have HQ := Aside0.mk (HEi.out hz)
        clear hse hz
        go_wp2_with (go_at_call 97; (with_reducible refine (at_read (i : Int) er s HRD.out HL.out HDr.out).mono ?_); rintro e w5 ⟨A5, c5, rfl, hr, hd, hb⟩; have HB5 := Aside0.mk (HW.out.trans (hb.mono HW.out.size)); clear hd hr hb)
        go_ret3
        unfold LdQ
        rw [HQ.out]
        exact ⟨none, 0, rfl, Kd.R_nil _ _ _ _ _, HB5.out⟩
    · have hi0 := HI.out
      obtain rfl : gk = 0 := by omega
      obtain rfl : i = 2 := by omega
      clear hi0 hi
      have HQ := Aside0.mk (HO.out HZ.out)
      rw [HF.out] at HQ
      simp only at HQ
      obtain ⟨A3, c3, rfl⟩ := Kd.R_slice HR.out
      cases f with
      | true =>
        go_wp2
        go_ret3
        unfold LdQ
        rw [HQ.out]
        exact ⟨A3, c3, rfl, HR.out, HW.out⟩
      | false =>
        go_wp2
        go_ret3
        unfold LdQ
        rw [HQ.out]
        exact ⟨none, 0, rfl, Kd.R_nil _ _ _ _ _, HW.out⟩
theorem load_calls (hr : loadP D = r) (ho : okD D) (h64 : ∀ p ∈ D.cache, p.2.length = 64) (hl : D.cache.length ≤ 40000) (h : DK w base B M Bd vc D) :
    Calls Tryz.prog 49 #[.pointer (some ⟨B, 0, none⟩)] w (LdQ w r) := by
  subst hr
  have e0 : ((0 : Nat) : Int) = 0 := rfl
  have e1 : ((1 : Nat) : Int) = 1 := rfl
  refine load_walk (fun i => match i with | 0 => (false, 0, []) | 1 => stepL (false, 0, []) (unP (readP D 0).1) | _ => stepL (stepL (false, 0, []) (unP (readP D 0).1)) (unP (readP D 1).1)) rfl (fun i hi => ?_) (fun i hi hz hne => ?_) (fun hz => ?_) ho h64 hl h
  · have : i = 0 ∨ i = 1 := by omega
    rcases this with rfl | rfl <;> rfl
  · have : i = 0 ∨ i = 1 := by omega
    rcases this with rfl | rfl
    · rw [e0] at hne ⊢
      unfold loadP
      rw [if_pos hne]
    · have h0 : (readP D 0).2 = 0 := hz 0 (by omega)
      rw [e1] at hne ⊢
      unfold loadP
      rw [if_neg (fun hh => hh h0), if_pos hne]
  · have h0 : (readP D 0).2 = 0 := hz 0 (by omega)
    have h1 : (readP D 1).2 = 0 := hz 1 (by omega)
    unfold loadP
    rw [if_neg (fun hh => hh h0), if_neg (fun hh => hh h1)]
    rfl
end
def rloadX (X : RX) : Int × List Int × Int :=
  if (rreadX X 0).2 ≠ 0 then (0, [], (rreadX X 0).2) else if (rreadX X 1).2 ≠ 0 then (0, [], (rreadX X 1).2) else pickL (unP (rreadX X 0).1) (unP (rreadX X 1).1)
def OwnL (w : World) (b : Nat) (v : Value) (xs : List Int) : Prop := Kd.R (Kd.int .u64) 52 w b (fun k => b ≤ k) v xs
section
variable {w : World} {base R : Nat} {vS vC vB : Value} {X : RX} {r : Int × List Int × Int}
end
end Go.Proofs.YtlepcmljmibdnaaGreat
namespace Go.Proofs.YtlepcmljmibdnaaGreat
open Go.RowKit Go.Proofs.YtlepcmljmibdnaaGreatW.PrintWords Go.Proofs.YtlepcmljmibdnaaGreatW.PrintLast Go.Proofs.YtlepcmljmibdnaaGreatW.PrintMore PWalOpens
set_option linter.unusedVariables false
set_option linter.unusedSimpArgs false
def view (D : PD) (a : Int) : List Int := readL ((D.kept a).getD zsec) D.cache a
def updS (S : Int → List Int) (at_ : Int) (s : List Int) : Int → List Int := fun a => if a = at_ then s else S a
theorem readL_snoc (s : List Int) (l : List (Int × List Int)) (p : Int × List Int) (a : Int) : readL s (l ++ [p]) a = if p.1 = a then p.2 else readL s l a := by
  unfold readL
  rw [List.foldl_append]
  rfl
theorem keepAll_view (l : List (Int × List Int)) : ∀ (D : PD) (a : Int), ((keepAll D l).kept a).getD zsec = readL ((D.kept a).getD zsec) l a := by
  induction l with
  | nil => intro D a; rfl
  | cons p l ih =>
    intro D a
    show ((keepAll (keepP D p) l).kept a).getD zsec = readL _ (p :: l) a
    rw [ih (keepP D p) a, keepP_at]
    unfold readL
    rw [List.foldl_cons]
    by_cases h : a = p.1
    · rw [if_pos h, if_pos h.symm]
    · rw [if_neg h, if_neg (fun e => h e.symm)]
theorem keepAll_keeps (l : List (Int × List Int)) : ∀ D : PD, (keepAll D l).n = D.n ∧ (keepAll D l).bad = D.bad ∧ (keepAll D l).armed = D.armed ∧ (keepAll D l).left = D.left ∧ (keepAll D l).dead = D.dead := by
  induction l with
  | nil => intro D; exact ⟨rfl, rfl, rfl, rfl, rfl⟩
  | cons p l ih => intro D; exact ih (keepP D p)
/-- alive, not armed, no bad sector -/
structure Rdy (D : PD) (n : Int) (S : Int → List Int) : Prop where
  dead : D.dead = false
  armed : D.armed = false
  bad : ∀ a, D.bad a = false
  n : D.n = n
  view : ∀ a, view D a = S a
section
variable {D : PD} {n : Int} {S : Int → List Int}
theorem Rdy.act (h : Rdy D n S) : actP D = (D, 0) := by
  unfold actP
  rw [h.dead, h.armed]
  rfl
theorem Rdy.write (h : Rdy D n S) (at_ : Int) (b : List Int) (h0 : 0 ≤ at_) (h1 : at_ < n) (hb : b.length ≤ 64) : writeP D at_ b = ({ D with cache := D.cache ++ [(at_, pad b)] }, 0) := by
  unfold writeP
  rw [h.act, h.dead]
  simp only [Bool.false_eq_true, if_false]
  rw [if_neg (by rw [h.n]; unfold inB; simp; omega), if_neg (by omega), if_neg (by simp), ← h.dead]
theorem Rdy.wrote (h : Rdy D n S) (at_ : Int) (b : List Int) : Rdy { D with cache := D.cache ++ [(at_, pad b)] } n (updS S at_ (pad b)) := by
  refine ⟨h.dead, h.armed, h.bad, h.n, fun a => ?_⟩
  have hv := h.view a
  unfold Proofs.YtlepcmljmibdnaaGreat.view at hv ⊢
  show readL _ (D.cache ++ _) a = _
  rw [readL_snoc, hv]
  unfold updS
  by_cases e : a = at_
  · rw [if_pos e, if_pos e.symm]
  · rw [if_neg e, if_neg (fun h => e h.symm)]
theorem Rdy.flush (h : Rdy D n S) : (flushP D).2 = 0 ∧ Rdy (flushP D).1 n S ∧ (flushP D).1.cache = [] := by
  unfold flushP
  rw [h.act]
  rw [if_neg (by simp)]
  obtain ⟨k1, k2, k3, k4, k5⟩ := keepAll_keeps D.cache D
  refine ⟨rfl, ⟨k5.trans h.dead, k3.trans h.armed, fun a => by show (keepAll D D.cache).bad a = false; rw [k2]; exact h.bad a, k1.trans h.n, fun a => ?_⟩, rfl⟩
  have := keepAll_view D.cache D a
  have hv := h.view a
  unfold Proofs.YtlepcmljmibdnaaGreat.view at hv ⊢
  exact this.trans hv
theorem Rdy.read (h : Rdy D n S) (a : Int) (h0 : 0 ≤ a) (h1 : a < n) : readP D a = (S a, 0) := by
  unfold readP
  rw [h.dead, h.bad a]
  simp only [Bool.false_eq_true, if_false]
  rw [if_neg (by rw [h.n]; unfold inB; simp; omega)]
  have hv := h.view a
  unfold Proofs.YtlepcmljmibdnaaGreat.view at hv
  rw [hv]
theorem Rdy.save (h : Rdy D n S) (hn : 2 ≤ n) (g : Int) (l : List Int) (hg : 0 ≤ g) (hl : l.length ≤ 4) : (saveP D g l).2 = 0 ∧ Rdy (saveP D g l).1 n (updS S (g % 2) (pad (slotB g l))) ∧ (saveP D g l).1.cache = [] := by
  obtain ⟨f1, f2, f3⟩ := h.flush
  have hw := f2.write (g % 2) (slotB g l) (by omega) (by omega) (slotB_64 g l hl)
  have hw2 := f2.wrote (g % 2) (slotB g l)
  obtain ⟨q1, q2, q3⟩ := hw2.flush
  unfold saveP
  rw [if_neg (by omega), if_neg (by rw [f1]; simp), hw, if_neg (by simp)]
  exact ⟨q1, q2, q3⟩
theorem Rdy.format (h : Rdy D n S) (hn : 2 ≤ n) (l : List Int) (hl : l.length ≤ 4) : (formatP D l).2 = 0 ∧ Rdy (formatP D l).1 n (updS (updS (updS S 0 zsec) 1 zsec) 0 (pad (slotB 0 l))) ∧ (formatP D l).1.cache = [] := by
  have w1 := h.write 0 [] (by omega) (by omega) (by simp)
  have w1' := h.wrote 0 []
  have w2 := w1'.write 1 [] (by omega) (by omega) (by simp)
  have w2' := w1'.wrote 1 []
  have q := w2'.save hn 0 l (by omega) hl
  unfold formatP
  rw [w1, if_neg (by simp), w2, if_neg (by simp)]
  exact q
theorem Rdy.load (h : Rdy D n S) (hn : 2 ≤ n) : loadP D = pickL (unP (S 0)) (unP (S 1)) := by
  unfold loadP
  rw [h.read 0 (by omega) (by omega), h.read 1 (by omega) (by omega), if_neg (by simp), if_neg (by simp)]
end
theorem rdy_new (n : Int) : Rdy (newP n) (min (max n 0) 4096) (fun _ => zsec) := ⟨rfl, rfl, fun _ => rfl, rfl, fun _ => rfl⟩
theorem unP_zsec : unP zsec = (0, [], 60) := by
  unfold unP
  rw [if_neg (by decide)]
theorem unP_pad (g : Int) (l : List Int) (hg : 0 ≤ g ∧ g < 18446744073709551616) (hl : l.length ≤ 4) (hn : ∀ n ∈ l, 0 ≤ n ∧ n < 18446744073709551616) : unP (pad (slotB g l)) = (g, l, 0) := unP_slot g l _ hg hl hn
/-- what a disk holds: bytes, sectors whole -/
structure OKD (D : PD) : Prop where
  ok : okD D
  c64 : ∀ p ∈ D.cache, p.2.length = 64
theorem pad_bytes {b : List Int} (h : isBytes b) : isBytes (pad b) := by
  intro x hx
  unfold pad at hx
  rcases List.mem_append.1 hx with hx | hx
  · exact h x hx
  · have := List.eq_of_mem_replicate hx
    omega
theorem OKD.act {D : PD} (h : OKD D) : OKD (actP D).1 := by
  have hk : (actP D).1.kept = D.kept := by unfold actP; simp only; (repeat' split) <;> rfl
  have hc : (actP D).1.cache = D.cache := by unfold actP; simp only; (repeat' split) <;> rfl
  exact ⟨⟨by rw [hk]; exact h.ok.1, by rw [hc]; exact h.ok.2⟩, by rw [hc]; exact h.c64⟩
theorem OKD.write {D : PD} (h : OKD D) (at_ : Int) {b : List Int} (hb : isBytes b) : OKD (writeP D at_ b).1 := by
  unfold writeP
  split
  · exact h
  · split
    · exact h
    · split
      · exact h
      · split
        · exact h.act
        · rename_i h64 _
          have h' := h.act
          refine ⟨⟨h'.ok.1, fun p hp => ?_⟩, fun p hp => ?_⟩
          · rcases List.mem_append.1 hp with hp | hp
            · exact h'.ok.2 p hp
            · rw [List.mem_singleton] at hp; subst hp; exact pad_bytes hb
          · rcases List.mem_append.1 hp with hp | hp
            · exact h'.c64 p hp
            · rw [List.mem_singleton] at hp; subst hp; exact pad_length b (by omega)
theorem OKD.keep {D : PD} (h : OKD D) {p : Int × List Int} (hp : isBytes p.2) : OKD (keepP D p) := by
  refine ⟨⟨fun a s hs => ?_, h.ok.2⟩, h.c64⟩
  unfold keepP at hs
  simp only at hs
  split at hs
  · split at hs
    · cases hs
    · cases hs; exact hp
  · exact h.ok.1 a s hs
theorem OKD.keepAll (l : List (Int × List Int)) : ∀ {D : PD}, OKD D → (∀ p ∈ l, isBytes p.2) → OKD (keepAll D l) := by
  induction l with
  | nil => intro D h _; exact h
  | cons p l ih => intro D h hl; exact ih (h.keep (hl p (by simp))) (fun q hq => hl q (by simp [hq]))
theorem OKD.flush {D : PD} (h : OKD D) : OKD (flushP D).1 := by
  unfold flushP
  split
  · exact h.act
  · have h' := h.act
    have hk := OKD.keepAll (actP D).1.cache h' h'.ok.2
    exact ⟨⟨hk.ok.1, fun p hp => by cases hp⟩, fun p hp => by cases hp⟩
theorem OKD.save {D : PD} (h : OKD D) (g : Int) (l : List Int) (hg : 0 ≤ g ∧ g < 18446744073709551616) (hn : ∀ n ∈ l, 0 ≤ n ∧ n < 18446744073709551616) : OKD (saveP D g l).1 := by
  unfold saveP
  split
  · exact h
  · rename_i hl
    split
    · exact h.flush
    · split
      · exact h.flush.write _ (slotB_bytes g l hg hn (by omega))
      · exact (h.flush.write _ (slotB_bytes g l hg hn (by omega))).flush
theorem OKD.new (n : Int) : OKD (newP n) := ⟨⟨fun a s hs => (by cases hs), fun p hp => by cases hp⟩, fun p hp => by cases hp⟩
theorem OKD.format {D : PD} (h : OKD D) (l : List Int) (hn : ∀ n ∈ l, 0 ≤ n ∧ n < 18446744073709551616) : OKD (formatP D l).1 := by
  have nil : isBytes [] := fun x hx => by cases hx
  unfold formatP
  split
  · exact h.write 0 nil
  · split
    · exact (h.write 0 nil).write 1 nil
    · exact ((h.write 0 nil).write 1 nil).save 0 l (by omega) hn
end Go.Proofs.YtlepcmljmibdnaaGreat
namespace Go.Proofs.YtlepcmljmibdnaaGreat
open Go.RowKit Go.Proofs.YtlepcmljmibdnaaGreatW.PrintWords Go.Proofs.YtlepcmljmibdnaaGreatW.PrintLast Go.Proofs.YtlepcmljmibdnaaGreatW.PrintMore PWalOpens
set_option linter.unusedVariables false
set_option linter.unusedSimpArgs false
section
variable {w0 w : World} {F : Nat → Prop} {B M Bd : Nat} {vc : Value} {D D1 : PD}
theorem at_save {g : Int} {l : List Int} {A : Option Addr} {c : Nat} {e : Int} (hsv : saveP D g l = (D1, e)) (hg : 0 ≤ g ∧ g < 18446744073709551616) (hn : ∀ n ∈ l, 0 ≤ n ∧ n < 18446744073709551616) (hC : (Kd.int .u64).C w A l.length l) (hc : D.cache.length ≤ 30000) (h : At w0 F w B M Bd vc D) :
    Calls Tryz.prog 94 #[.pointer (some ⟨B, 0, none⟩), .int .u64 g, .slice A l.length c] w fun r w' => r = .returned (.int .i64 e) ∧ ∃ vc', At w0 F w' B M Bd vc' D1 := by
  refine (save_calls hsv hg hn hC hc h.dk).mono ?_
  rintro r w' ⟨rfl, vc', hd⟩
  exact ⟨rfl, vc', h.then_ hd⟩
theorem at_format {l : List Int} {A : Option Addr} {c : Nat} {e : Int} (hf : formatP D l = (D1, e)) (hc : D.cache.length ≤ 10000) (hn : ∀ n ∈ l, 0 ≤ n ∧ n < 18446744073709551616) (hC : ∀ w', Chg w w' (FP B M Bd vc) → (Kd.int .u64).C w' A l.length l) (h : At w0 F w B M Bd vc D) :
    Calls Tryz.prog 46 #[.pointer (some ⟨B, 0, none⟩), .slice A l.length c] w fun r w' => r = .returned (.int .i64 e) ∧ ∃ vc', At w0 F w' B M Bd vc' D1 := by
  refine (format_calls hf hc hn hC h.dk).mono ?_
  rintro r w' ⟨rfl, vc', hd⟩
  exact ⟨rfl, vc', h.then_ hd⟩
end
end Go.Proofs.YtlepcmljmibdnaaGreat
namespace Go.Proofs.YtlepcmljmibdnaaGreat
open Go.RowKit Go.Proofs.YtlepcmljmibdnaaGreatW.PrintWords Go.Proofs.YtlepcmljmibdnaaGreatW.PrintLast Go.Proofs.YtlepcmljmibdnaaGreatW.PrintMore PWalOpens
set_option linter.unusedVariables false
set_option linter.unusedSimpArgs false
end Go.Proofs.YtlepcmljmibdnaaGreat
namespace Go.Rd
open Go.RowKit Go.Proofs.YtlepcmljmibdnaaGreatW.PrintWords

section
variable {P : Program} {t e : TypeId}
end
end Go.Rd
namespace Go.Proofs.YtlepcmljmibdnaaGreat
open Go.ChangeShapes Go.WideShapes Go.ChangeAt Go.RowKit Go.Proofs.YtlepcmljmibdnaaGreatW.PrintWords Go.Proofs.YtlepcmljmibdnaaGreatW.PrintLast Go.Proofs.YtlepcmljmibdnaaGreatW.PrintMore PDiskArms
end Go.Proofs.YtlepcmljmibdnaaGreat
namespace Go.Rd
end Go.Rd
namespace Go.Proofs.YtlepcmljmibdnaaGreat
open Go.RowKit Go.Proofs.YtlepcmljmibdnaaGreatW.PrintWords Go.Proofs.YtlepcmljmibdnaaGreatW.PrintLast Go.Proofs.YtlepcmljmibdnaaGreatW.PrintMore PWalOpens
set_option linter.unusedVariables false
set_option linter.unusedSimpArgs false
end Go.Proofs.YtlepcmljmibdnaaGreat
namespace Go.Proofs.YtlepcmljmibdnaaGreat
open Go.RowKit Go.Proofs.YtlepcmljmibdnaaGreatW.PrintWords Go.Proofs.YtlepcmljmibdnaaGreatW.PrintLast Go.Proofs.YtlepcmljmibdnaaGreatW.PrintMore PWalOpens
set_option linter.unusedVariables false
set_option linter.unusedSimpArgs false
def lenB (b : List Int) : List Int := [(b.length : Int) / 256 % 256, (b.length : Int) % 256]
def frameB (b : List Int) : List Int := 165 :: (lenB b ++ b ++ be4 (crcB (lenB b ++ b)))
def frameX (b : List Int) : List Int := if 60000 < b.length then [] else frameB b
def frameE (b : List Int) : Int := if 60000 < b.length then 2 else 0
def needN (b : List Int) : Int := if 60000 < b.length then 0 else (b.length + 70) / 64
theorem frameB_len (b : List Int) : (frameB b).length = b.length + 7 := by simp [frameB, lenB, be4]
theorem lenB_bytes {b : List Int} (h : isBytes b) : isBytes (lenB b ++ b) := by
  intro x hx
  rcases List.mem_append.1 hx with hx | hx
  · simp only [lenB, List.mem_cons, List.not_mem_nil, or_false] at hx
    rcases hx with rfl | rfl <;> omega
  · exact h x hx
theorem put_f (b : List Int) (h : isBytes b) (hl : b.length ≤ 1000000) : frame_Put.f (b.length + 12) b = some (frameX b, frameE b) := by
  unfold frame_Put.f frameX frameE
  by_cases h6 : 60000 < b.length
  · rw [if_pos (by omega), if_pos h6, if_pos h6]
  · rw [if_neg (by omega), if_neg h6, if_neg h6]
    simp only [Option.bind_some]
    rw [if_pos (by simp; omega), if_pos (by simp; omega)]
    have hd : ([165, (b.length : Int) / 256 % 256, (b.length : Int) % 256] ++ b).drop 1 = lenB b ++ b := rfl
    have hc := crc_f (lenB b ++ b) (lenB_bytes h) (by rw [List.length_append]; show 2 + _ ≤ _; omega)
    rw [show (lenB b ++ b).length + 10 = b.length + 12 by rw [List.length_append]; show 2 + _ + 10 = _; omega] at hc
    rw [hd, hc]
    simp only [Option.bind_some]
    rw [if_pos (by simp; omega)]
    simp [frameB, lenB, be4]
theorem cut_f (n : Nat) (h : n ≤ 1000000) : wal_cut.f (n : Int) = some ((n + 63) / 64 : Int) := by
  unfold wal_cut.f
  have e1 : wrap64 ((n : Int) + 64) = (n : Int) + 64 := by unfold wrap64; omega
  have e2 : wrap64 ((n : Int) + 64 - 1) = (n : Int) + 63 := by unfold wrap64; omega
  rw [e1, e2, Int.tdiv_eq_ediv_of_nonneg (by omega)]
  congr 1
  unfold wrap64
  omega
theorem need_f (b : List Int) (h : isBytes b) (hl : b.length ≤ 1000000) : wal_Need.f (b.length + 12) b = some (needN b) := by
  unfold wal_Need.f
  rw [put_f b h hl]
  simp only [Option.bind_some]
  unfold frameX frameE needN
  by_cases h6 : 60000 < b.length
  · simp only [if_pos h6]
    rfl
  · rw [if_neg h6, if_neg h6, if_pos rfl, if_neg h6, frameB_len, cut_f _ (by omega)]
    simp only [Option.bind_some]
    congr 2
theorem put_calls (w : World) (A : Option Addr) (c : Nat) (b : List Int) (h : isBytes b) (hl : b.length ≤ 1000000) (hc : b.length ≤ c) (hC : (Kd.int .u8).C w A b.length b) :
    Calls Tryz.prog 105 #[.slice A b.length c] w fun e w' => ∃ A' c', e = .returned (.tuple #[.slice A' (frameX b).length c', .int .i64 (frameE b)]) ∧ OwnB w' w.heap.size (.slice A' (frameX b).length c') (frameX b) ∧ Below w.heap.size w w' := by
  refine (frame_Put.calls (b.length + 12) A c b (frameX b) (frameE b) w hC hc (put_f b h hl)).mono ?_
  rintro e w' ⟨v, rfl, hr, hb⟩
  obtain ⟨A', c', rfl⟩ := Kd.R_slice hr
  exact ⟨A', c', rfl, Kd.R_mono (Kd.R_bound hr) (fun k hk => hk.2.1), hb⟩
theorem need_calls (w : World) (A : Option Addr) (c : Nat) (b : List Int) (n : Int) (hn : needN b = n) (h : isBytes b) (hl : b.length ≤ 1000000) (hc : b.length ≤ c) (hC : (Kd.int .u8).C w A b.length b) :
    Calls Tryz.prog 84 #[.slice A b.length c] w fun e w' => e = .returned (.int .i64 n) ∧ Below w.heap.size w w' := by
  subst hn
  exact wal_Need.calls (b.length + 12) A c b (needN b) w hC hc (need_f b h hl)
theorem cut_calls (w : World) (n : Nat) (k : Int) (hk : ((n : Int) + 63) / 64 = k) (h : n ≤ 1000000) : Calls Tryz.prog 101 #[.int .i64 (n : Int)] w fun e w' => e = .returned (.int .i64 k) ∧ Drawn0 w w' := by
  subst hk
  exact wal_cut.calls _ _ w (cut_f n h)
/-- the length that a frame's head tells -/
def frN (b : List Int) : Nat := (rd b 1 * 256 + rd b 2).toNat
/-- do bytes begin with a frame -/
def unV (b : List Int) : Bool := decide (7 ≤ b.length) && decide (rd b 0 = 165) && decide (frN b ≤ 60000) && decide (frN b + 7 ≤ b.length) && decide (be4 (crcB ((b.drop 1).take (2 + frN b))) = (b.drop (3 + frN b)).take 4)
def unF (b : List Int) : List Int × Int × Int := if unV b then ((b.drop 3).take (frN b), 7 + frN b, 0) else ([], 0, 40)
theorem rd_byte {b : List Int} (h : isBytes b) (i : Nat) : 0 ≤ rd b (i : Int) ∧ rd b (i : Int) < 256 := by
  have e : rd b (i : Int) = b.getD i 0 := by simp [rd]
  rw [e]
  by_cases hi : i < b.length
  · have h1 : b[i]? = some b[i] := List.getElem?_eq_getElem hi
    simp only [List.getD, h1, Option.getD_some]
    exact h _ (List.getElem_mem _)
  · rw [List.getD, List.getElem?_eq_none (by omega)]
    simp
theorem three_head (b : List Int) (h : 3 ≤ b.length) : ∃ b0 b1 b2 r, b = b0 :: b1 :: b2 :: r := by
  cases b with
  | nil => simp at h
  | cons b0 b =>
    cases b with
    | nil => simp at h
    | cons b1 b =>
      cases b with
      | nil => simp at h
      | cons b2 r => exact ⟨b0, b1, b2, r, rfl⟩
/-- bytes begin with a frame, if and only if they begin with what Put makes of some body -/
theorem unV_iff {b : List Int} (h : isBytes b) : unV b = true ↔ ∃ x, x.length ≤ 60000 ∧ frameB x <+: b ∧ x = (b.drop 3).take (frN b) := by
  constructor
  · intro hv
    unfold unV at hv
    simp only [Bool.and_eq_true, decide_eq_true_eq] at hv
    obtain ⟨⟨⟨⟨h7, h0⟩, h6⟩, hn⟩, hcr⟩ := hv
    obtain ⟨b0, b1, b2, r, rfl⟩ := three_head b (by omega)
    · skip
      have e0 : rd (b0 :: b1 :: b2 :: r) 0 = b0 := rfl
      have e1 : rd (b0 :: b1 :: b2 :: r) 1 = b1 := rfl
      have e2 : rd (b0 :: b1 :: b2 :: r) 2 = b2 := rfl
      have hb1 := h b1 (by simp)
      have hb2 := h b2 (by simp)
      obtain ⟨n, hnn⟩ : ∃ n, frN (b0 :: b1 :: b2 :: r) = n := ⟨_, rfl⟩
      have hni : b1 * 256 + b2 = (n : Int) := by
        rw [← hnn]; unfold frN; rw [e1, e2]; omega
      rw [hnn] at h6 hn hcr ⊢
      rw [e0] at h0
      subst h0
      simp only [List.length_cons] at hn
      refine ⟨r.take n, by rw [List.length_take]; omega, ?_, by simp⟩
      have hl : (r.take n).length = n := by rw [List.length_take]; omega
      have hle : lenB (r.take n) = [b1, b2] := by
        unfold lenB
        rw [hl]
        congr 1
        · omega
        · congr 1; omega
      have hcr' : be4 (crcB ([b1, b2] ++ r.take n)) = (r.drop n).take 4 := by
        have q1 : List.take (2 + n) (List.drop 1 (165 :: b1 :: b2 :: r)) = [b1, b2] ++ r.take n := by
          rw [Nat.add_comm 2 n]; rfl
        have q2 : List.drop (3 + n) (165 :: b1 :: b2 :: r) = r.drop n := by
          rw [Nat.add_comm 3 n]; rfl
        rw [q1, q2] at hcr
        exact hcr
      refine ⟨(r.drop n).drop 4, ?_⟩
      unfold frameB
      rw [hle, hcr']
      simp only [List.append_assoc, List.cons_append, List.nil_append, List.take_append_drop]
  · rintro ⟨x, hx, ⟨t, rfl⟩, hxx⟩
    have e0 : rd (frameB x ++ t) 0 = 165 := rfl
    have hfr : frN (frameB x ++ t) = x.length := by
      unfold frN
      have e1 : rd (frameB x ++ t) 1 = (x.length : Int) / 256 % 256 := rfl
      have e2 : rd (frameB x ++ t) 2 = (x.length : Int) % 256 := rfl
      rw [e1, e2]
      omega
    unfold unV
    rw [hfr, e0]
    have hl := frameB_len x
    simp only [Bool.and_eq_true, decide_eq_true_eq, List.length_append]
    refine ⟨⟨⟨⟨by omega, trivial⟩, hx⟩, by omega⟩, ?_⟩
    have q1 : List.take (2 + x.length) (List.drop 1 (frameB x ++ t)) = lenB x ++ x := by
      unfold frameB
      rw [List.cons_append, List.drop_succ_cons, List.drop_zero, List.append_assoc (lenB x ++ x), List.take_append_of_le_length (by simp [lenB]; omega), List.take_of_length_le (by simp [lenB]; omega)]
    have q2 : List.take 4 (List.drop (3 + x.length) (frameB x ++ t)) = be4 (crcB (lenB x ++ x)) := by
      have e : frameB x ++ t = (165 :: (lenB x ++ x)) ++ (be4 (crcB (lenB x ++ x)) ++ t) := by unfold frameB; simp
      rw [e, List.drop_append_of_le_length (by simp [lenB]; omega), List.drop_of_length_le (by simp [lenB]; omega), List.nil_append]
      rfl
    rw [q1, q2]
end Go.Proofs.YtlepcmljmibdnaaGreat
namespace Go.Proofs.YtlepcmljmibdnaaGreat
open Go.RowKit Go.Proofs.YtlepcmljmibdnaaGreatW.PrintWords Go.Proofs.YtlepcmljmibdnaaGreatW.PrintLast Go.Proofs.YtlepcmljmibdnaaGreatW.PrintMore PWalOpens
set_option linter.unusedVariables false
set_option linter.unusedSimpArgs false
def FfQ (w : World) (b : List Int) (e : Ending) (w' : World) : Prop := ∃ A c, e = .returned (.tuple #[.slice A (unF b).1.length c, .int .i64 (unF b).2.1, .int .i64 (unF b).2.2]) ∧ OwnB w' w.heap.size (.slice A (unF b).1.length c) (unF b).1 ∧ Below w.heap.size w w'
theorem ff_bad {w w' : World} {b : List Int} {e : Ending} (hu : unF b = ([], 0, 40)) (he : e = .returned (.tuple #[.slice none 0 0, .int .i64 0, .int .i64 40])) (hb : Below w.heap.size w w') : FfQ w b e w' := by
  unfold FfQ
  rw [hu, he]
  exact ⟨none, 0, rfl, Kd.R_nil _ _ _ _ _, hb⟩
theorem ff_short (w : World) (A : Option Addr) (c : Nat) (b : List Int) (hl : b.length < 7) : Calls Tryz.prog 100 #[.slice A b.length c] w (FfQ w b) := by
  have HU := Aside0.mk (show unF b = ([], 0, 40) from by unfold unF unV; rw [if_neg]; simp; omega)
  have h1 : decide ((b.length : Int) < 7) = true := by simp; omega
  go_enter Tryz.func100, Tryz.ntmps100
  go_wp2_with fail
  go_ret3
  exact ff_bad HU.out rfl (Below.refl _ _)
theorem ff_mark (w : World) (A : Option Addr) (c : Nat) (b : List Int) (hl : 7 ≤ b.length) (h0 : rd b 0 ≠ 165) (hC : (Kd.int .u8).C w A b.length b) : Calls Tryz.prog 100 #[.slice A b.length c] w (FfQ w b) := by
  have HU := Aside0.mk (show unF b = ([], 0, 40) from by unfold unF unV; rw [if_neg]; simp [h0])
  have h1 : decide ((b.length : Int) < 7) = false := by simp; omega
  obtain ⟨ad, e, x0⟩ := Kd.at_int hC (0 : Int) (by omega) (by omega)
  subst e
  rw [show ad.add (Int.toNat 0) = ad from rfl] at x0
  obtain ⟨x, hx⟩ : ∃ x, rd b 0 = x := ⟨_, rfl⟩
  rw [hx] at x0 h0
  have hq : (x == 165) = false := by simpa using h0
  have hq2 : (x != 165) = true := by simpa using h0
  have hl0 : 0 < b.length := by omega
  clear hx hC
  go_enter Tryz.func100, Tryz.ntmps100
  go_wp2_with fail
  go_ret3
  exact ff_bad HU.out rfl (Below.refl _ _)
theorem or_bytes (a b : Nat) (ha : a < 256) (hb : b < 256) : Go.bits .or .i64 ((a : Int) * 256) (b : Int) = ((a * 256 + b : Nat) : Int) := by
  unfold Go.bits
  have e : ∀ x : Nat, BitVec.ofInt IntKind.i64.bits (x : Int) = BitVec.ofNat 64 x := fun x => by
    show BitVec.ofInt 64 (x : Int) = _
    rw [BitVec.ofInt_natCast]
  rw [show ((a : Int) * 256) = ((a * 256 : Nat) : Int) by omega]
  simp only [e]
  have e3 : (BitVec.ofNat 64 (a * 256) ||| BitVec.ofNat 64 b).toNat = a * 256 + b := by
    rw [BitVec.toNat_or]
    simp only [BitVec.toNat_ofNat]
    rw [Nat.mod_eq_of_lt (by omega), Nat.mod_eq_of_lt (by omega)]
    have := Nat.shiftLeft_add_eq_or_of_lt (i := 8) (b := b) hb a
    rw [Nat.shiftLeft_eq] at this
    exact this.symm
  refine (show IntKind.i64.wrap (((BitVec.ofNat 64 (a * 256) ||| BitVec.ofNat 64 b).toNat : Nat) : Int) = _ from ?_)
  rw [e3]
  exact IntWalk.i64_in _ (by omega)
theorem be4_at (c : Int) (i : Nat) (hi : i < 4) : (be4 c)[i]? = some (c / 2 ^ (24 - 8 * i) % 256) := by
  have : i = 0 ∨ i = 1 ∨ i = 2 ∨ i = 3 := by omega
  rcases this with rfl | rfl | rfl | rfl
  · rfl
  · rfl
  · rfl
  · show some (c % 256) = some (c / 1 % 256)
    rw [Int.ediv_one]
theorem sum_calls (w : World) (A : Option Addr) (c m : Nat) (l : List Int) (r : Int) (hr : crcB l = r) (hm : l.length = m) (hb : isBytes l) (hl : m ≤ 1000000) (hc : m ≤ c) (hC : (Kd.int .u8).C w A m l) :
    Calls Tryz.prog 135 #[.slice A m c] w fun e w' => e = .returned (.int .u32 r) ∧ Drawn0 w w' := by
  subst hr hm
  refine (crc_Sum.calls (l.length + 10) A c l (crcB l) w hC hc (crc_f l hb (by omega))).mono ?_
  rintro e w' ⟨rfl, hd⟩
  exact ⟨rfl, hd⟩
set_option maxRecDepth 100000 in
theorem ff_main (w : World) (A : Option Addr) (c : Nat) (b : List Int) (hl : 7 ≤ b.length) (hl2 : b.length ≤ 1000000) (h0 : rd b 0 = 165) (hby : isBytes b) (hcap : b.length ≤ c) (hc63 : c ≤ 9223372036854775807) (hC : (Kd.int .u8).C w A b.length b) : Calls Tryz.prog 100 #[.slice A b.length c] w (FfQ w b) := by
  have h1 : decide ((b.length : Int) < 7) = false := by simp; omega
  obtain ⟨ad, e, x0⟩ := Kd.at_int hC (0 : Int) (by omega) (by omega)
  subst e
  obtain ⟨ad1, e1, x1⟩ := Kd.at_int hC (1 : Int) (by omega) (by omega)
  cases e1
  obtain ⟨ad2, e2, x2⟩ := Kd.at_int hC (2 : Int) (by omega) (by omega)
  cases e2
  rw [show ad.add (Int.toNat 0) = ad from rfl, h0] at x0
  obtain ⟨p1, p2⟩ := rd_byte hby 1
  obtain ⟨p3, p4⟩ := rd_byte hby 2
  obtain ⟨k1, hk1⟩ := Int.eq_ofNat_of_zero_le p1
  obtain ⟨k2, hk2⟩ := Int.eq_ofNat_of_zero_le p3
  have hk1' : rd b 1 = (k1 : Int) := hk1
  have hk2' : rd b 2 = (k2 : Int) := hk2
  rw [hk1', show ad.add (Int.toNat 1) = { block := ad.block, off := ad.off + 1 } from rfl] at x1
  rw [hk2', show ad.add (Int.toNat 2) = { block := ad.block, off := ad.off + 2 } from rfl] at x2
  have hfr : frN b = k1 * 256 + k2 := by unfold frN; rw [hk1', hk2']; omega
  have q1 : k1 < 256 := by rw [hk1] at p2; omega
  have q2 : k2 < 256 := by rw [hk2] at p4; omega
  have hor := or_bytes k1 k2 q1 q2
  obtain ⟨n, hnn⟩ : ∃ n, k1 * 256 + k2 = n := ⟨_, rfl⟩
  rw [hnn] at hor hfr
  have hl0 : 0 < b.length := by omega
  have hl1 : 1 < b.length := by omega
  have hl2' : 2 < b.length := by omega
  have hI1 : (1 : Int) < (b.length : Int) := by omega
  have hI2 : (2 : Int) < (b.length : Int) := by omega
  have HC := Aside0.mk hC
  have HFR := Aside0.mk hfr
  have H0 := Aside0.mk h0
  have HBY := Aside0.mk hby
  clear hC hk1 hk2 hk1' hk2' p1 p2 p3 p4 hfr hby h0
  by_cases hn6 : 60000 < n
  · have HU := Aside0.mk (show unF b = ([], 0, 40) from by unfold unF unV; rw [HFR.out, if_neg]; simp; omega)
    have hn6' : (60000 : Int) < (n : Int) := by omega
    clear hn6
    go_enter Tryz.func100, Tryz.ntmps100
    go_wp2_with fail
    go_quiet (fail)
    go_wp2_with fail
    go_ret3
    exact ff_bad HU.out rfl (bel_drewN (Below.refl _ _) _)
  by_cases hn7 : b.length < n + 7
  · have HU := Aside0.mk (show unF b = ([], 0, 40) from by unfold unF unV; rw [HFR.out, if_neg]; simp; omega)
    have hn6' : (n : Int) ≤ 60000 := by omega
    have hn7' : (b.length : Int) - 7 < (n : Int) := by omega
    clear hn6 hn7
    go_enter Tryz.func100, Tryz.ntmps100
    go_wp2_with fail
    go_quiet (fail)
    go_wp2_with fail
    go_ret3
    exact ff_bad HU.out rfl (bel_drewN (Below.refl _ _) _)
  have hn6' : (n : Int) ≤ 60000 := by omega
  have hn7' : (n : Int) ≤ (b.length : Int) - 7 := by omega
  have hc1 : ¬ c = 1 := by omega
  have hnc : (n : Int) + 7 ≤ (c : Int) := by omega
  have hc3 : ¬ c = 3 + n := by omega
  obtain ⟨cs, hcs⟩ : ∃ cs, (b.drop 1).take (2 + n) = cs := ⟨_, rfl⟩
  obtain ⟨cr, hcr⟩ : ∃ cr, crcB cs = cr := ⟨_, rfl⟩
  have hcrl := crcB_lt cs
  rw [hcr] at hcrl
  obtain ⟨hcr0, hcr1⟩ := hcrl
  have hC1 := Kd.C_drop (m := 1) HC.out (by omega) hcap
  rw [if_neg hc1] at hC1
  have hC2 := Kd.C_take (m := 2 + n) hC1 (by rw [List.length_drop]; omega)
  rw [hcs] at hC2
  have hcsl : cs.length = 2 + n := by rw [← hcs, List.length_take, List.length_drop]; omega
  rw [hcsl] at hC2
  have HCS := Aside0.mk (show (Kd.int .u8).C w (some { block := ad.block, off := ad.off + 1 }) (2 + n) cs from hC2)
  have HCSL := Aside0.mk hcsl
  have HCR := Aside0.mk hcr
  have HCSB := Aside0.mk (show isBytes cs from by rw [← hcs]; exact (HBY.out.drop 1).take _)
  have HCSM := Aside0.mk (show 2 + n ≤ 1000000 by omega)
  have HCSC := Aside0.mk (show 2 + n ≤ c - 1 by omega)
  have HCS0 := Aside0.mk hcs
  have he4 : 7 + n - (3 + n) = 4 := by omega
  obtain ⟨t, ht⟩ : ∃ t, (b.drop (3 + n)).take 4 = t := ⟨_, rfl⟩
  have hD1 := Kd.C_drop (m := 3 + n) HC.out (by omega) hcap
  rw [if_neg hc3] at hD1
  have hD2 := Kd.C_take (m := 4) hD1 (by rw [List.length_drop]; omega)
  rw [ht] at hD2
  have htl : t.length = 4 := by rw [← ht, List.length_take, List.length_drop]; omega
  rw [htl] at hD2
  have HT := Aside0.mk (show (Kd.int .u8).C w (some (ad.add (3 + n))) 4 t from by have hz : (3 + n) * (Kd.int .u8).sz = 3 + n := Nat.mul_one _; simpa only [Option.map_some, hz] using hD2)
  have HTL := Aside0.mk htl
  have HTE := Aside0.mk ht
  clear hn6 hn7 hcs hcr hC1 hC2 hcsl ht hD1 hD2 htl
  go_enter Tryz.func100, Tryz.ntmps100
  go_wp2_with fail
  go_quiet (fail)
  go_wp2_with (first
    | (go_at_call 135; (with_reducible refine (sum_calls _ (some { block := ad.block, off := ad.off + 1 }) (c - 1) (2 + n) cs cr HCR.out HCSL.out HCSB.out HCSM.out HCSC.out (Kd.C_drewN HCS.out _)).mono ?_); rintro e w2 ⟨rfl, hd⟩; obtain ⟨nd, rfl⟩ := hd))
  obtain ⟨wq, hwq⟩ : ∃ wq, w.drewN (nq + nd) = wq := ⟨_, rfl⟩
  have HBQ := Aside0.mk (show Below w.heap.size w wq from by rw [← hwq]; exact bel_drewN (Below.refl _ _) _)
  rw [hwq]
  clear hwq
  go_loopg [49] 4 (fun kq v49 w' => ∃ i : Nat, v49 = .int .i64 (i : Int) ∧ Aside0 (i + kq = 4) ∧ Aside0 (t.take i = (be4 cr).take i) ∧ w' = wq)
  case atStart => exact ⟨0, rfl, ⟨by omega⟩, ⟨rfl⟩, rfl⟩
  case round =>
    obtain ⟨i, rfl, HI, HE, rfl⟩ := hrel
    by_cases hi : i < 4
    · have hit : i < t.length := by have := HTL.out; omega
      obtain ⟨x, hx⟩ : ∃ x, t[i]? = some x := ⟨_, List.getElem?_eq_getElem hit⟩
      obtain ⟨a2, e, x9⟩ := Kd.at_int (Kd.C_below HT.out HBQ.out) (i : Int) (by omega) (by omega)
      cases e
      rw [show rd t (i : Int) = x by simp [rd, List.getD, hx], Int.toNat_natCast] at x9
      have hi4 : (i : Int) < 4 := by omega
      have hi0 : (0 : Int) ≤ (i : Int) := by omega
      have HX := Aside0.mk hx
      clear hx hit
      have HBE := Aside0.mk (be4_at cr i hi)
      obtain ⟨y, hy⟩ : ∃ y, cr / 2 ^ (24 - 8 * i) % 256 = y := ⟨_, rfl⟩
      rw [hy] at HBE
      by_cases hxy : y = x
      · subst hxy
        have hyx : (cr / 2 ^ (24 - 8 * i) % 256 != y) = false := by rw [hy]; simp
        clear hy
        go_wp2_with fail
        have hk1 := HI.out
        obtain ⟨gq, rfl⟩ : ∃ gq, gk = gq + 1 := ⟨gk - 1, by omega⟩
        go_roundg gq
        case rel => exact ⟨i + 1, by go_num, ⟨by omega⟩, ⟨by rw [List.take_add_one, List.take_add_one, HX.out, HBE.out, HE.out]⟩, rfl⟩
        case measure => omega
      · have hyx : (cr / 2 ^ (24 - 8 * i) % 256 != x) = true := by rw [hy]; simpa using hxy
        have HU := Aside0.mk (show unF b = ([], 0, 40) from by
          unfold unF unV
          rw [HFR.out, HCS0.out, HCR.out, HTE.out, if_neg]
          intro hh
          simp only [Bool.and_eq_true, decide_eq_true_eq] at hh
          have h1 := hh.2
          rw [h1] at HBE
          exact hxy (Option.some.inj (HBE.out.symm.trans HX.out)))
        clear hy hxy
        go_wp2_with fail
        go_ret3
        exact ff_bad HU.out rfl HBQ.out
    · have hi0 := HI.out
      obtain rfl : gk = 0 := by omega
      obtain rfl : i = 4 := by omega
      clear hi0 hi
      have hte : t = be4 cr := by
        have h1 := HE.out
        rw [List.take_of_length_le (by rw [HTL.out]; exact Nat.le_refl _), List.take_of_length_le (by simp [be4])] at h1
        exact h1
      obtain ⟨bd, hbd⟩ : ∃ bd, (b.drop 3).take n = bd := ⟨_, rfl⟩
      have HU := Aside0.mk (show unF b = (bd, 7 + (n : Int), 0) from by
        unfold unF unV
        rw [HFR.out, HCS0.out, HCR.out, HTE.out, if_pos, hbd]
        simp only [Bool.and_eq_true, decide_eq_true_eq]
        exact ⟨⟨⟨⟨by omega, H0.out⟩, by omega⟩, by omega⟩, hte.symm⟩)
      have hbl : bd.length = n := by rw [← hbd, List.length_take, List.length_drop]; omega
      have hc33 : ¬ c = 3 := by omega
      have hB1 := Kd.C_drop (m := 3) (Kd.C_below HC.out HBQ.out) (by omega) hcap
      rw [if_neg hc33] at hB1
      have hB2 := Kd.C_take (m := n) hB1 (by rw [List.length_drop]; omega)
      rw [hbd] at hB2
      have HCL := Aside0.mk (clone_any wr (some { block := ad.block, off := ad.off + 3 }) (c - 3) bd (by omega) (fun h => by cases h) hB2)
      have HBL := Aside0.mk hbl
      rw [hbl] at HCL
      have hm4 : ¬ ((4 : Int) < 4) := by omega
      clear hte hbd hbl hB1 hB2
      go_wp2_with (first
        | (go_at_call 86; (with_reducible refine HCL.out.mono ?_); rintro e w3 ⟨A3, c3, rfl, hr, hb⟩; have HR3 := Aside0.mk hr; have HB3 := Aside0.mk (HBQ.out.trans (hb.mono HBQ.out.size)); clear hr hb))
      go_ret3
      unfold FfQ
      rw [HU.out]
      simp only
      rw [HBL.out]
      exact ⟨A3, c3, rfl, OwnB.low HR3.out HBQ.out.size, HB3.out⟩
theorem ff_calls (w : World) (A : Option Addr) (c : Nat) (b : List Int) (hl2 : b.length ≤ 1000000) (hby : isBytes b) (h : SB w A c b) : Calls Tryz.prog 100 #[.slice A b.length c] w (FfQ w b) := by
  by_cases hl : b.length < 7
  · exact ff_short w A c b hl
  · by_cases h0 : rd b 0 = 165
    · exact ff_main w A c b (by omega) hl2 h0 hby h.cap h.c63 h.C
    · exact ff_mark w A c b (by omega) h0 h.C
end Go.Proofs.YtlepcmljmibdnaaGreat
namespace Go.Proofs.YtlepcmljmibdnaaGreat
open Go.RowKit Go.Proofs.YtlepcmljmibdnaaGreatW.PrintWords Go.Proofs.YtlepcmljmibdnaaGreatW.PrintLast Go.Proofs.YtlepcmljmibdnaaGreatW.PrintMore PWalOpens
set_option linter.unusedVariables false
set_option linter.unusedSimpArgs false
theorem own_raise {w : World} {b b' e size n : Nat} {v : Value} {xs : List Value} (h : w.ownsRow b e size v n xs) (hb : ∀ k, v.ownBlock = some k → b' ≤ k) : w.ownsRow b' e size v n xs := by
  obtain ⟨h1, h2⟩ := h
  refine ⟨h1, ?_⟩
  rcases h2 with h2 | ⟨g, cap, cur, he, hg, hr⟩
  · exact .inl h2
  · exact .inr ⟨g, cap, cur, he, hb g (by subst he; rfl), hr⟩
theorem DK.raise {w : World} {b b' B M Bd : Nat} {vc : Value} {D : PD} (h : DK w b B M Bd vc D) (hb : ∀ k, FP B M Bd vc k → b' ≤ k) : DK w b' B M Bd vc D := by
  refine ⟨h.blk, h.kept, h.bad, ?_, hb B (.inl rfl), hb M (.inr (.inl rfl)), hb Bd (.inr (.inr (.inl rfl))), h.hne, h.sec, h.hn, h.hl⟩
  obtain ⟨h0, inner, ho, hr⟩ := h.cache
  exact ⟨h0, inner, own_raise ho (fun k hk => hb k (.inr (.inr (.inr hk.symm)))), hr⟩
theorem At.based {w w' : World} {base B M Bd : Nat} {vc vc' : Value} {D D' : PD} (h0 : DK w base B M Bd vc D) (h : At w (FP B M Bd vc) w' B M Bd vc' D') : DK w' base B M Bd vc' D' :=
  h.dk.raise fun k hk => by
    by_cases hl : k < w.heap.size
    · exact (h0.fp k (h.fp k hl hk)).1
    · have := h0.base_le
      omega
section
variable {w0 w w' : World} {B M Bd R : Nat} {vc vS vC vB : Value} {D D' : PD} {X X' : RX}
end
theorem saveP_cache (D : PD) (g : Int) (l : List Int) : (saveP D g l).1.cache.length ≤ D.cache.length + 1 := by
  have q1 := flushP_cache D
  have q2 := writeP_cache (flushP D).1 (g % 2) (slotB g l)
  have q3 := flushP_cache (writeP (flushP D).1 (g % 2) (slotB g l)).1
  unfold saveP
  repeat' split
  all_goals (first | (dsimp only; omega) | omega)
end Go.Proofs.YtlepcmljmibdnaaGreat
namespace Go.Proofs.YtlepcmljmibdnaaGreat
open Go.RowKit Go.Proofs.YtlepcmljmibdnaaGreatW.PrintWords Go.Proofs.YtlepcmljmibdnaaGreatW.PrintLast Go.Proofs.YtlepcmljmibdnaaGreatW.PrintMore PWalOpens
attribute [local go_sem] max2_int min2_int max_two min_two
set_option linter.unusedVariables false
set_option linter.unusedSimpArgs false
def ringP (D : PD) : Int := max (D.n - 2) 0
theorem ring_calls (w : World) (base B M Bd : Nat) (vc : Value) (D : PD) (r : Int) (hr : ringP D = r) (h : DK w base B M Bd vc D) :
    Calls Tryz.prog 45 #[.pointer (some ⟨B, 0, none⟩)] w fun e w' => e = .returned (.int .i64 r) ∧ w = w' := by
  obtain ⟨⟨h0, h1, h2, h3, h4, h5, h6⟩, f2, f4, f5, f6⟩ := cells7 h.blk
  have hn := h.hn
  obtain ⟨n, hnn⟩ : ∃ n, D.n = n := ⟨_, rfl⟩
  rw [hnn] at h0 hn
  obtain ⟨hn0, hn1⟩ := hn
  have HS := Aside0.mk (size_calls w B M n h0 h1)
  clear h h0 h1 h2 h3 h4 h5 h6 f2 f4 f5 f6
  by_cases h2 : n < 2
  · have HR := Aside0.mk (show r = 0 by rw [← hr]; unfold ringP; rw [hnn]; omega)
    clear hr hnn
    go_enter Tryz.func45, Tryz.ntmps45
    go_wp2_with (go_at_call 92; (with_reducible refine HS.out.mono ?_); rintro e w' ⟨rfl, rfl⟩)
    go_ret
    rw [HR.out]
    exact ⟨rfl, rfl⟩
  · have HR := Aside0.mk (show r = n - 2 by rw [← hr]; unfold ringP; rw [hnn]; omega)
    clear hr hnn
    go_enter Tryz.func45, Tryz.ntmps45
    go_wp2_with (go_at_call 92; (with_reducible refine HS.out.mono ?_); rintro e w' ⟨rfl, rfl⟩)
    go_ret
    rw [HR.out]
    exact ⟨rfl, rfl⟩
theorem ringP_le {w : World} {base B M Bd : Nat} {vc : Value} {D : PD} (h : DK w base B M Bd vc D) : 0 ≤ ringP D ∧ ringP D ≤ 4094 := by
  have := h.hn
  unfold ringP
  omega
def sectP (r p : Int) : Int := 2 + p % r
theorem sector_calls (w : World) (base B M Bd : Nat) (vc : Value) (D : PD) (r p s : Int) (hr : ringP D = r) (h1 : 1 ≤ r) (hp : 0 ≤ p ∧ p < 18446744073709551616) (hs : sectP r p = s) (h : DK w base B M Bd vc D) :
    Calls Tryz.prog 99 #[.pointer (some ⟨B, 0, none⟩), .int .u64 p] w fun e w' => e = .returned (.int .i64 s) ∧ w = w' := by
  subst hs
  have HR := Aside0.mk (ring_calls w base B M Bd vc D r hr h)
  have hl := (ringP_le h).2
  rw [hr] at hl
  obtain ⟨hp0, hp1⟩ := hp
  have q0 : 0 ≤ p % r := Int.emod_nonneg _ (by omega)
  have q1 : p % r < r := Int.emod_lt_of_pos _ (by omega)
  have q2 : p % r ≤ 4094 := by omega
  have HE := Aside0.mk (show sectP r p = 2 + p % r from rfl)
  clear h hr
  go_enter Tryz.func99, Tryz.ntmps99
  go_wp2_with (go_at_call 45; (with_reducible refine HR.out.mono ?_); rintro e w' ⟨rfl, rfl⟩)
  go_ret
  rw [HE.out]
  exact ⟨rfl, rfl⟩
noncomputable def wformatP (D : PD) : PD × Int := if ringP D < 1 then (D, 51) else formatP D [0, 0]
section
variable {w0 w : World} {F : Nat → Prop} {B M Bd : Nat} {vc : Value} {D D1 : PD}
theorem format_two (x y e : Int) (hf : formatP D [x, y] = (D1, e)) (hx : 0 ≤ x ∧ x < 18446744073709551616) (hy : 0 ≤ y ∧ y < 18446744073709551616) (hc : D.cache.length ≤ 10000) (h : At w0 F w B M Bd vc D) :
    Calls Tryz.prog 46 #[.pointer (some ⟨B, 0, none⟩), .slice (some ⟨w.heap.size, 0, none⟩) 2 2] (w.alloc (.cells #[.int .u64 x, .int .u64 y] 52)) fun r w' => r = .returned (.int .i64 e) ∧ ∃ vc', At w0 F w' B M Bd vc' D1 :=
  at_format (l := [x, y]) (A := some ⟨w.heap.size, 0, none⟩) (c := 2) hf hc (by simp; exact ⟨hx, hy⟩) (fun w' hc' => lit_Cu w [x, y] (FP B M Bd vc) (by simp) (fun hk => absurd (h.dk.fp _ hk).2 (Nat.lt_irrefl _)) w' hc') (h.grow (.of_below (Below.alloc (Below.refl w.heap.size w) (Nat.le_refl _) (.cells #[.int .u64 x, .int .u64 y] 52))))
theorem at_wformat (e : Int) (hf : wformatP D = (D1, e)) (hc : D.cache.length ≤ 10000) (h : At w0 F w B M Bd vc D) :
    Calls Tryz.prog 10 #[.pointer (some ⟨B, 0, none⟩)] w fun r w' => r = .returned (.int .i64 e) ∧ ∃ vc', At w0 F w' B M Bd vc' D1 := by
  unfold wformatP at hf
  obtain ⟨r, hr⟩ : ∃ r, ringP D = r := ⟨_, rfl⟩
  rw [hr] at hf
  have HR := Aside0.mk (ring_calls w 0 B M Bd vc D r hr h.dk)
  have HA := Aside0.mk h
  have H0 := Aside0.mk (show (0 : Int) ≤ 0 ∧ (0 : Int) < 18446744073709551616 by omega)
  have HC := Aside0.mk hc
  clear h hr hc
  by_cases h1 : r < 1
  · rw [if_pos h1] at hf
    cases hf
    go_enter Tryz.func10, Tryz.ntmps10
    go_wp2_with (go_at_call 45; (with_reducible refine HR.out.mono ?_); rintro e w' ⟨rfl, rfl⟩)
    go_ret
    exact ⟨rfl, vc, HA.out⟩
  · rw [if_neg h1] at hf
    have HF := Aside0.mk hf
    have h1' : 1 ≤ r := by omega
    clear hf h1
    go_enter Tryz.func10, Tryz.ntmps10
    go_wp2_with (first
      | (go_at_call 45; (with_reducible refine HR.out.mono ?_); rintro e w' ⟨rfl, rfl⟩)
      | (go_at_call 46; (with_reducible refine (format_two 0 0 e HF.out H0.out H0.out HC.out HA.out).mono ?_); rintro e w2 ⟨rfl, vc2, hd⟩; have HD2 := Aside0.mk hd; clear hd))
    go_ret
    exact ⟨rfl, vc2, HD2.out⟩
end
end Go.Proofs.YtlepcmljmibdnaaGreat
namespace Go.Proofs.YtlepcmljmibdnaaGreat
open Go.RowKit Go.Proofs.YtlepcmljmibdnaaGreatW.PrintWords Go.Proofs.YtlepcmljmibdnaaGreatW.PrintLast Go.Proofs.YtlepcmljmibdnaaGreatW.PrintMore PWalOpens
set_option linter.unusedVariables false
set_option linter.unusedSimpArgs false
/-- a wal at block Wb: its disk, its cells -/
structure WlB (w : World) (Wb B : Nat) (A : Option Addr) (n c : Nat) (gen head tail : Int) (made over : Bool) : Prop where
  blk : w.heap[Wb]? = some (.cells #[.pointer (some ⟨B, 0, none⟩), .int .u64 gen, .int .u64 head, .int .u64 tail, .slice A n c, .bool made, .bool over] 102 (0, 0))
theorem WlB.below {w w' : World} {Wb B n c : Nat} {A : Option Addr} {gen head tail : Int} {made over : Bool} (h : WlB w Wb B A n c gen head tail made over) (hb : Below w.heap.size w w') : WlB w' Wb B A n c gen head tail made over :=
  ⟨(hb.block _ (Array.getElem?_eq_some_iff.1 h.blk).1).trans h.blk⟩
/-- the record that begins at p: with k sectors to go from q on, all of those before read -/
def recGo (D : PD) (r p : Int) : Nat → List Int → Int → List Int × Int × Int
  | 0, _, _ => ([], 0, 70)
  | k + 1, all, q =>
    if (readP D (sectP r q)).2 ≠ 0 then ([], 0, (readP D (sectP r q)).2) else
      if (unF (all ++ (readP D (sectP r q)).1)).2.2 = 0 then ((unF (all ++ (readP D (sectP r q)).1)).1, p + ((unF (all ++ (readP D (sectP r q)).1)).2.1 + 63) / 64, 0)
      else recGo D r p k (all ++ (readP D (sectP r q)).1) (q + 1)
theorem unF_size {b : List Int} (h : (unF b).2.2 = 0) : ∃ n : Nat, (unF b).2.1 = (n : Int) ∧ 7 ≤ n ∧ n ≤ b.length := by
  unfold unF at h ⊢
  split at h
  · rename_i hv
    rw [if_pos hv]
    unfold unV at hv
    simp only [Bool.and_eq_true, decide_eq_true_eq] at hv
    exact ⟨7 + frN b, by simp, by omega, by omega⟩
  · cases h
theorem unF_err (b : List Int) : (unF b).2.2 = 0 ∨ (unF b).2.2 = 40 := by
  unfold unF
  split
  · exact .inl rfl
  · exact .inr rfl
theorem readP_64 {w : World} {base B M Bd : Nat} {vc : Value} {D : PD} (h : DK w base B M Bd vc D) (hc : ∀ p ∈ D.cache, p.2.length = 64) {at_ : Int} {s : List Int} (hr : readP D at_ = (s, 0)) : s.length = 64 := by
  unfold readP at hr
  split at hr
  · cases hr
  · split at hr
    · cases hr
    · split at hr
      · cases hr
      · cases hr
        have key : ∀ (l : List (Int × List Int)), (∀ p ∈ l, p.2.length = 64) → ∀ s : List Int, s.length = 64 → (readL s l at_).length = 64 := by
          intro l
          induction l with
          | nil => intro _ s hs; exact hs
          | cons p l ih =>
            intro hl s hs
            unfold readL
            rw [List.foldl_cons]
            refine ih (fun q hq => hl q (by simp [hq])) _ ?_
            split
            · exact hl p (by simp)
            · exact hs
        refine key _ hc _ ?_
        cases hk : D.kept at_ with
        | none => rfl
        | some s => exact h.sec _ _ hk
def RcQ (w : World) (res : List Int × Int × Int) (e : Ending) (w' : World) : Prop := ∃ A c, e = .returned (.tuple #[.slice A res.1.length c, .int .u64 res.2.1, .int .i64 res.2.2]) ∧ OwnB w' w.heap.size (.slice A res.1.length c) res.1 ∧ Below w.heap.size w w'
set_option maxRecDepth 100000 in
set_option maxHeartbeats 1000000 in
theorem record_calls (w : World) (Wb B M Bd : Nat) (vc : Value) (D : PD) (A : Option Addr) (n c : Nat) (gen head tail : Int) (made over : Bool) (r p : Int) (k0 : Nat) (res : List Int × Int × Int)
    (hr : ringP D = r) (h1 : 1 ≤ r) (hp : 0 ≤ p ∧ p + k0 = tail ∧ tail < 18446744073709551616) (hk : k0 ≤ 4094) (hres : recGo D r p k0 [] p = res)
    (ho : OKD D) (hl : D.cache.length ≤ 40000) (hd0 : DK w 0 B M Bd vc D) (hw : WlB w Wb B A n c gen head tail made over) :
    Calls Tryz.prog 50 #[.pointer (some ⟨Wb, 0, none⟩), .int .u64 p] w (RcQ w res) := by
  have HW := Aside0.mk hw
  have hd := At.refl hd0
  have HD := Aside0.mk hd
  have HOK := Aside0.mk ho
  have HL := Aside0.mk hl
  have HR := Aside0.mk hr
  have HRES := Aside0.mk hres
  obtain ⟨hp0, hpk, hpt⟩ := hp
  have HPK := Aside0.mk hpk
  clear hw hd hd0 ho hl hr hres hpk
  go_enter Tryz.func50, Tryz.ntmps50
  go_wp2
  go_loopg [7, 8] k0 (fun kq v7 v8 w' => ∃ (q : Int) (all : List Int), v8 = .int .u64 q ∧ Aside0 (q + kq = tail) ∧ Aside0 (p ≤ q) ∧ Aside0 (OwnB w' w.heap.size v7 all) ∧ Aside0 ((all.length : Int) = 64 * (q - p)) ∧ Aside0 (isBytes all) ∧ Aside0 (recGo D r p kq all q = res) ∧ Aside0 (Below w.heap.size w w'))
  case atStart => exact ⟨p, [], rfl, HPK, ⟨Int.le_refl _⟩, ⟨Kd.R_nil _ _ _ _ _⟩, ⟨by simp⟩, ⟨fun x hx => by cases hx⟩, HRES, ⟨Below.refl _ _⟩⟩
  case round =>
    obtain ⟨q, all, rfl, HQ, HPQ, HA, HAL, HAB, HG, HB⟩ := hrel
    obtain ⟨A7, c7, rfl⟩ := Kd.R_slice HA.out
    have HWr := Aside0.mk (HW.out.below HB.out)
    obtain ⟨⟨q0, q1, q2, q3, q4, q5, q6⟩, _⟩ := cells7 HWr.out.blk
    clear q1 q2 q4 q5 q6
    have hq0 : 0 ≤ q := by have := HPQ.out; omega
    have hqt : q ≤ tail := by have := HQ.out; omega
    by_cases hk0 : gk = 0
    · subst hk0
      have hqe : (q == tail) = true := by have := HQ.out; simp; omega
      have hqn : (q != tail) = false := by have := HQ.out; simp; omega
      have HRE := Aside0.mk (show res = ([], 0, 70) from HG.out.symm)
      go_wp2
      go_ret3
      unfold RcQ
      rw [HRE.out]
      exact ⟨none, 0, rfl, Kd.R_nil _ _ _ _ _, HB.out⟩
    · obtain ⟨gq, rfl⟩ : ∃ gq, gk = gq + 1 := ⟨gk - 1, by omega⟩
      clear hk0
      have hqe : (q == tail) = false := by have := HQ.out; simp; omega
      have hqn : (q != tail) = true := by have := HQ.out; simp; omega
      have hq1 : q < 18446744073709551615 := by have := HQ.out; omega
      obtain ⟨sc, hsc⟩ : ∃ sc, sectP r q = sc := ⟨_, rfl⟩
      obtain ⟨s, er, hse⟩ : ∃ s er, readP D sc = (s, er) := ⟨_, _, rfl⟩
      have HSC := Aside0.mk (sector_calls wr.drew 0 B M Bd vc D r q sc HR.out h1 ⟨hq0, by omega⟩ hsc (HD.out.grow (.of_below HB.out.drew)).dk)
      have HRD := Aside0.mk (at_read sc er s hse HL.out (HD.out.grow (.of_below HB.out.drew)))
      have q0' : wr.drew.cell? ⟨Wb, 0, none⟩ = some (.pointer (some ⟨B, 0, none⟩)) := q0
      have HSB := Aside0.mk (show isBytes s from by have := readP_bytes HOK.out.ok sc; rwa [hse] at this)
      have HGN := Aside0.mk (show (if er ≠ 0 then (([], 0, er) : List Int × Int × Int) else if (unF (all ++ s)).2.2 = 0 then ((unF (all ++ s)).1, p + ((unF (all ++ s)).2.1 + 63) / 64, 0) else recGo D r p gq (all ++ s) (q + 1)) = res from by
        have := HG.out
        unfold recGo at this
        rw [hsc, hse] at this
        exact this)
      have HS64 := Aside0.mk (show er = 0 → s.length = 64 from fun he => readP_64 HD.out.dk HOK.out.c64 (by rw [hse, he]))
      clear hsc hse
      by_cases hz : er = 0
      · subst hz
        have HL64 := Aside0.mk (HS64.out rfl)
        have HBYN := Aside0.mk (show isBytes (all ++ s) from fun x hx => (List.mem_append.1 hx).elim (HAB.out x) (HSB.out x))
        have HALN := Aside0.mk (show ((all ++ s).length : Int) = 64 * (q + 1 - p) from by rw [List.length_append, Int.natCast_add, HAL.out, HL64.out]; omega)
        have HAM := Aside0.mk (show (all ++ s).length ≤ 1000000 from by have h1 := HALN.out; have h2 := HPQ.out; have h3 := HQ.out; have h4 := HPK.out; omega)
        have HAX := Aside0.mk (show (all.length + s.length) * 1 ≤ 140737488355328 from by have := HAM.out; rw [List.length_append] at this; omega)
        have HUS := Aside0.mk (fun h => unF_size (b := all ++ s) h)
        have HUE := Aside0.mk (unF_err (all ++ s))
        obtain ⟨nb, hnb⟩ : ∃ nb, all ++ s = nb := ⟨_, rfl⟩
        have HFF := Aside0.mk (fun (w : World) (A : Option Addr) (c : Nat) (h : SB w A c (all ++ s)) => ff_calls w A c (all ++ s) HAM.out HBYN.out h)
        unfold FfQ at HFF
        rw [hnb] at HUS HUE HGN HBYN HALN HFF HAM
        have HNB := Aside0.mk hnb
        obtain ⟨u, hu⟩ : ∃ u, unF nb = u := ⟨_, rfl⟩
        rw [hu] at HUS HUE HGN HFF
        obtain ⟨ux, un, ue⟩ := u
        simp only [ne_eq, not_true_eq_false, if_false] at HUS HUE HGN HFF
        clear hnb hu
        rcases HUE.out with rfl | rfl
        · obtain ⟨m, hm, hm7, hml⟩ := HUS.out rfl
          subst hm
          obtain ⟨ct, hct⟩ : ∃ ct : Int, ((m : Int) + 63) / 64 = ct := ⟨_, rfl⟩
          have hctb : 0 ≤ ct ∧ ct ≤ q + 1 - p := by have h1 := HALN.out; omega
          obtain ⟨hct0, hct1⟩ := hctb
          have hpc : p + ct < 18446744073709551616 := by have := HQ.out; omega
          have HRE := Aside0.mk (show res = (ux, p + ct, 0) from by rw [← HGN.out, if_pos rfl, hct])
          have HCT := Aside0.mk hct
          have HM1 := Aside0.mk (show m ≤ 1000000 from Nat.le_trans hml HAM.out)
          clear hct hml
          go_wp2
          refine Fork.wp_fork (Fork.Lo.rel 0) [] [] (.one 0 0 (.one 1 0 (.one 2 0 (.one 4 0 (.one 5 0 (.one 6 0 (.one 8 0 (.one 3 1 (.one 7 1 (.one 9 2 (.one 10 2 (.one 11 0 (.one 12 0 (.one 13 0 (.one 14 0 (.one 15 0 .nil)))))))))))))))) (by kernel_rfl) (by kernel_rfl) ?_
          generalize hops : List.toArray (_ : List Oper) = ops
          have HO := Aside0.mk hops
          clear hops
          iterate 7 ((refine Fork.plain (Fork.at_ HO.out rfl) _ rfl (fun W => by go_simp; exact rfl) ?_); simp only [Act.put, List.setIfInBounds_toArray, List.set_cons_succ, List.set_cons_zero])
          refine Fork.reads (Fork.at_ HO.out rfl) _ rfl (fun W hW => Arr.ex_load1 rfl rfl (by kernel_rfl) (Fork.bel_cell hW (by assumption))) ?_
          simp only [Act.put, List.setIfInBounds_toArray, List.set_cons_succ, List.set_cons_zero]
          refine Fork.reads (Fork.at_ HO.out rfl) _ rfl (fun W hW => Arr.ex_load1 rfl rfl (by kernel_rfl) (Fork.bel_cell hW (by assumption))) ?_
          simp only [Act.put, List.setIfInBounds_toArray, List.set_cons_succ, List.set_cons_zero]
          refine Fork.step (Fork.at_ HO.out rfl) (fun K hK => ?_)
          go_simp
          refine HSC.out.mono ?_
          rintro e w' ⟨rfl, rfl⟩
          refine hK _ _ (.of_new (Below.refl _ _) (Nat.zero_le _)) ?_
          clear hK K
          try simp only [Act.put, List.setIfInBounds_toArray, List.set_cons_succ, List.set_cons_zero]
          refine Fork.step (Fork.at_ HO.out rfl) (fun K hK => ?_)
          go_simp
          refine HRD.out.mono ?_
          rintro e w5 ⟨A5, c5, rfl, hr, hdd, hb⟩
          refine hK _ _ (.of_new hb (Nat.zero_le _)) ?_
          clear hK K
          have HR5 := Aside0.mk hr
          have HA5 := Aside0.mk (Kd.R_below HA.out ((Below.refl wr.heap.size wr).drew.trans hb))
          have HB5 := Aside0.mk (HB.out.drew.trans (hb.mono HB.out.size))
          clear hr hdd hb
          try simp only [Act.put, List.setIfInBounds_toArray, List.set_cons_succ, List.set_cons_zero]
          iterate 5 ((refine Fork.plain (Fork.at_ HO.out rfl) _ rfl (fun W => by go_simp; exact rfl) ?_); simp only [Act.put, List.setIfInBounds_toArray, List.set_cons_succ, List.set_cons_zero])
          refine Fork.done ?_
          go_wp2_with (first
            | ((with_reducible refine gate_builtin (b := .append) (xs := #[.tmp 40, .tmp 41]) rfl ?_); at_builtin; go_loud (refine Kd.R_append_rows (Kd.int .u8) (W := w5) (w0 := w5) w.heap.size rfl (.tmp 40) (.tmp 41) 58 5 (.int .u8 0) 1 rfl Tryz.underlying58 info5w rfl (by decide) (by decide) _ all s A5 s.length c5 (fun k => w.heap.size ≤ k) (fun _ => False) rfl rfl HA5.out (Kd.R_reads' HR5.out).2.2 (fun _ _ h => h) (fun _ h => h.elim) (fun k hk => Nat.le_trans HB5.out.size hk) (Below.refl _ _) HB5.out.size HAX.out ?_); intro v6 w6 ho hb hg hat; rw [HNB.out] at ho; obtain ⟨A6, c6, hv6⟩ := Kd.R_slice ho; subst hv6; have HS6 := Aside0.mk (SB.of_R ho); have HA6 := Aside0.mk ho; have HB6 := Aside0.mk (HB5.out.trans hb); clear ho hb hg hat)
            | (go_at_call 100; (with_reducible refine (HFF.out w6 A6 c6 HS6.out).mono ?_); rintro e w7 ⟨A7, c7, rfl, hr, hb⟩; have HR7 := Aside0.mk hr; have HB7 := Aside0.mk (HB6.out.trans (hb.mono HB6.out.size)); clear hr hb)
            | (go_at_call 101; (with_reducible refine (cut_calls w7 m ct HCT.out HM1.out).mono ?_); rintro e w8 ⟨rfl, hd⟩; obtain ⟨nd, rfl⟩ := hd))
          go_ret3
          unfold RcQ
          rw [HRE.out]
          exact ⟨A7, c7, rfl, OwnB.low HR7.out HB6.out.size, bel_drewN HB7.out nd⟩
        · have HGO := Aside0.mk (show recGo D r p gq nb (q + 1) = res from by rw [← HGN.out, if_neg (by decide)])
          go_wp2
          refine Fork.wp_fork (Fork.Lo.rel 0) [] [] (.one 0 0 (.one 1 0 (.one 2 0 (.one 4 0 (.one 5 0 (.one 6 0 (.one 8 0 (.one 3 1 (.one 7 1 (.one 9 2 (.one 10 2 (.one 11 0 (.one 12 0 (.one 13 0 (.one 14 0 (.one 15 0 .nil)))))))))))))))) (by kernel_rfl) (by kernel_rfl) ?_
          generalize hops : List.toArray (_ : List Oper) = ops
          have HO := Aside0.mk hops
          clear hops
          iterate 7 ((refine Fork.plain (Fork.at_ HO.out rfl) _ rfl (fun W => by go_simp; exact rfl) ?_); simp only [Act.put, List.setIfInBounds_toArray, List.set_cons_succ, List.set_cons_zero])
          refine Fork.reads (Fork.at_ HO.out rfl) _ rfl (fun W hW => Arr.ex_load1 rfl rfl (by kernel_rfl) (Fork.bel_cell hW (by assumption))) ?_
          simp only [Act.put, List.setIfInBounds_toArray, List.set_cons_succ, List.set_cons_zero]
          refine Fork.reads (Fork.at_ HO.out rfl) _ rfl (fun W hW => Arr.ex_load1 rfl rfl (by kernel_rfl) (Fork.bel_cell hW (by assumption))) ?_
          simp only [Act.put, List.setIfInBounds_toArray, List.set_cons_succ, List.set_cons_zero]
          refine Fork.step (Fork.at_ HO.out rfl) (fun K hK => ?_)
          go_simp
          refine HSC.out.mono ?_
          rintro e w' ⟨rfl, rfl⟩
          refine hK _ _ (.of_new (Below.refl _ _) (Nat.zero_le _)) ?_
          clear hK K
          try simp only [Act.put, List.setIfInBounds_toArray, List.set_cons_succ, List.set_cons_zero]
          refine Fork.step (Fork.at_ HO.out rfl) (fun K hK => ?_)
          go_simp
          refine HRD.out.mono ?_
          rintro e w5 ⟨A5, c5, rfl, hr, hdd, hb⟩
          refine hK _ _ (.of_new hb (Nat.zero_le _)) ?_
          clear hK K
          have HR5 := Aside0.mk hr
          have HA5 := Aside0.mk (Kd.R_below HA.out ((Below.refl wr.heap.size wr).drew.trans hb))
          have HB5 := Aside0.mk (HB.out.drew.trans (hb.mono HB.out.size))
          clear hr hdd hb
          try simp only [Act.put, List.setIfInBounds_toArray, List.set_cons_succ, List.set_cons_zero]
          iterate 5 ((refine Fork.plain (Fork.at_ HO.out rfl) _ rfl (fun W => by go_simp; exact rfl) ?_); simp only [Act.put, List.setIfInBounds_toArray, List.set_cons_succ, List.set_cons_zero])
          refine Fork.done ?_
          go_wp2_with (first
            | ((with_reducible refine gate_builtin (b := .append) (xs := #[.tmp 40, .tmp 41]) rfl ?_); at_builtin; go_loud (refine Kd.R_append_rows (Kd.int .u8) (W := w5) (w0 := w5) w.heap.size rfl (.tmp 40) (.tmp 41) 58 5 (.int .u8 0) 1 rfl Tryz.underlying58 info5w rfl (by decide) (by decide) _ all s A5 s.length c5 (fun k => w.heap.size ≤ k) (fun _ => False) rfl rfl HA5.out (Kd.R_reads' HR5.out).2.2 (fun _ _ h => h) (fun _ h => h.elim) (fun k hk => Nat.le_trans HB5.out.size hk) (Below.refl _ _) HB5.out.size HAX.out ?_); intro v6 w6 ho hb hg hat; rw [HNB.out] at ho; obtain ⟨A6, c6, hv6⟩ := Kd.R_slice ho; subst hv6; have HS6 := Aside0.mk (SB.of_R ho); have HA6 := Aside0.mk ho; have HB6 := Aside0.mk (HB5.out.trans hb); clear ho hb hg hat)
            | (go_at_call 100; (with_reducible refine (HFF.out w6 A6 c6 HS6.out).mono ?_); rintro e w7 ⟨A7, c7, rfl, hr, hb⟩; have HA7 := Aside0.mk (Kd.R_below HA6.out hb); have HB7 := Aside0.mk (HB6.out.trans (hb.mono HB6.out.size)); clear hr hb))
          go_roundg gq
          case rel => exact ⟨q + 1, nb, rfl, ⟨by have := HQ.out; omega⟩, ⟨by have := HPQ.out; omega⟩, HA7, HALN, HBYN, HGO, HB7⟩
          case measure => omega
      · have hzb : (er != 0) = true := by simpa using hz
        have HRE := Aside0.mk (show res = ([], 0, er) from by rw [← HGN.out, if_pos hz])
        clear hz
        go_wp2
        refine Fork.wp_fork (Fork.Lo.rel 0) [] [] (.one 0 0 (.one 1 0 (.one 2 0 (.one 4 0 (.one 5 0 (.one 6 0 (.one 8 0 (.one 3 1 (.one 7 1 (.one 9 2 (.one 10 2 (.one 11 0 (.one 12 0 (.one 13 0 (.one 14 0 (.one 15 0 .nil)))))))))))))))) (by kernel_rfl) (by kernel_rfl) ?_
        generalize hops : List.toArray (_ : List Oper) = ops
        have HO := Aside0.mk hops
        clear hops
        iterate 7 ((refine Fork.plain (Fork.at_ HO.out rfl) _ rfl (fun W => by go_simp; exact rfl) ?_); simp only [Act.put, List.setIfInBounds_toArray, List.set_cons_succ, List.set_cons_zero])
        refine Fork.reads (Fork.at_ HO.out rfl) _ rfl (fun W hW => Arr.ex_load1 rfl rfl (by kernel_rfl) (Fork.bel_cell hW (by assumption))) ?_
        simp only [Act.put, List.setIfInBounds_toArray, List.set_cons_succ, List.set_cons_zero]
        refine Fork.reads (Fork.at_ HO.out rfl) _ rfl (fun W hW => Arr.ex_load1 rfl rfl (by kernel_rfl) (Fork.bel_cell hW (by assumption))) ?_
        simp only [Act.put, List.setIfInBounds_toArray, List.set_cons_succ, List.set_cons_zero]
        refine Fork.step (Fork.at_ HO.out rfl) (fun K hK => ?_)
        go_simp
        refine HSC.out.mono ?_
        rintro e w' ⟨rfl, rfl⟩
        refine hK _ _ (.of_new (Below.refl _ _) (Nat.zero_le _)) ?_
        clear hK K
        try simp only [Act.put, List.setIfInBounds_toArray, List.set_cons_succ, List.set_cons_zero]
        refine Fork.step (Fork.at_ HO.out rfl) (fun K hK => ?_)
        go_simp
        refine HRD.out.mono ?_
        rintro e w5 ⟨A5, c5, rfl, hr, hdd, hb⟩
        refine hK _ _ (.of_new hb (Nat.zero_le _)) ?_
        clear hK K
        have HR5 := Aside0.mk hr
        have HA5 := Aside0.mk (Kd.R_below HA.out ((Below.refl wr.heap.size wr).drew.trans hb))
        have HB5 := Aside0.mk (HB.out.drew.trans (hb.mono HB.out.size))
        clear hr hdd hb
        try simp only [Act.put, List.setIfInBounds_toArray, List.set_cons_succ, List.set_cons_zero]
        iterate 5 ((refine Fork.plain (Fork.at_ HO.out rfl) _ rfl (fun W => by go_simp; exact rfl) ?_); simp only [Act.put, List.setIfInBounds_toArray, List.set_cons_succ, List.set_cons_zero])
        refine Fork.done ?_
        go_wp2
        go_ret3
        unfold RcQ
        rw [HRE.out]
        exact ⟨none, 0, rfl, Kd.R_nil _ _ _ _ _, HB5.out⟩
end Go.Proofs.YtlepcmljmibdnaaGreat
namespace Go.Proofs.YtlepcmljmibdnaaGreat
open Go.RowKit Go.Proofs.YtlepcmljmibdnaaGreatW.PrintWords Go.Proofs.YtlepcmljmibdnaaGreatW.PrintLast Go.Proofs.YtlepcmljmibdnaaGreatW.PrintMore PWalOpens
set_option linter.unusedVariables false
set_option linter.unusedSimpArgs false
/-- the records from p on: where they begin, what they are, the error -/
def openGo (D : PD) (r tail : Int) : Nat → Int → List Int × List (List Int) × Int
  | 0, p => ([], [], if p = tail then 0 else 70)
  | k + 1, p => if p = tail then ([], [], 0) else
      if (recGo D r p (tail - p).toNat [] p).2.2 ≠ 0 then ([], [], (recGo D r p (tail - p).toNat [] p).2.2) else
        (p :: (openGo D r tail k (recGo D r p (tail - p).toNat [] p).2.1).1, (recGo D r p (tail - p).toNat [] p).1 :: (openGo D r tail k (recGo D r p (tail - p).toNat [] p).2.1).2.1, (openGo D r tail k (recGo D r p (tail - p).toNat [] p).2.1).2.2)
/-- where a record ends -/
theorem recGo_next (D : PD) (r p : Int) (hr : ∀ q, (readP D q).2 = 0 → (readP D q).1.length = 64) : ∀ (k : Nat) (all : List Int) (q : Int), p ≤ q → (all.length : Int) = 64 * (q - p) → (recGo D r p k all q).2.2 = 0 → p < (recGo D r p k all q).2.1 ∧ (recGo D r p k all q).2.1 ≤ q + k := by
  intro k
  induction k with
  | zero => intro all q _ _ h; cases h
  | succ k ih =>
    intro all q hq hl h
    unfold recGo at h ⊢
    split at h
    · rename_i he
      exact absurd h he
    · rename_i he
      rw [if_neg he]
      have h64 := hr (sectP r q) (by simpa using he)
      split at h
      · rename_i hu
        rw [if_pos hu]
        obtain ⟨n, hn, h7, hnl⟩ := unF_size hu
        rw [List.length_append, h64] at hnl
        simp only
        rw [hn]
        omega
      · rename_i hu
        rw [if_neg hu]
        have := ih (all ++ (readP D (sectP r q)).1) (q + 1) (by omega) (by rw [List.length_append, h64]; omega) h
        omega
def openP (D : PD) : Int × Int × Int × List Int × List (List Int) × Int :=
  if (loadP D).2.2 ≠ 0 then (0, 0, 0, [], [], (loadP D).2.2) else
    match (loadP D).2.1 with
    | [h, t] => if t < h ∨ ringP D < t - h then (0, 0, 0, [], [], 70) else
        ((loadP D).1, h, t, (openGo D (ringP D) t (t - h).toNat h).1, (openGo D (ringP D) t (t - h).toNat h).2.1, (openGo D (ringP D) t (t - h).toNat h).2.2)
    | _ => (0, 0, 0, [], [], 70)
def isWal (o : Obj) : Prop := match o with
  | .cells _ t _ => t = 102 ∨ t = 52 ∨ t = 58
  | _ => False
def isT (t : Nat) (_ : Nat) (o : Obj) : Prop := match o with
  | .cells _ q _ => q = t
  | _ => False
theorem isT_disk {t : Nat} (h : t ≠ 90 ∧ t ≠ 124) {M Bd : Nat} (k : Nat) (o : Obj) (hd : isDisk M Bd k o) : ¬ isT t k o := by
  cases o with
  | cells c q f =>
    simp only [isDisk, isT] at hd ⊢
    intro e
    subst e
    rcases hd with hd | hd
    · exact h.1 hd
    · exact h.2 hd
  | _ => intro e; exact e
theorem q56 : ∀ q, q ∈ 52 :: (Kd.int .u64).E → q = 52 := by
  intro q hq
  rw [show 52 :: (Kd.int .u64).E = [52] from rfl] at hq
  simpa using hq
/-- the wal, its starts, the records, seen from w -/
structure WlS (w w' : World) (Wb B M Bd : Nat) (vc : Value) (vs vo : Value) (D : PD) (gen head tail : Int) (S : List Int) (X : List (List Int)) : Prop where
  blk : w'.heap[Wb]? = some (.cells #[.pointer (some ⟨B, 0, none⟩), .int .u64 gen, .int .u64 head, .int .u64 tail, vs, .bool true, .bool false] 102 (0, 0))
  hW : w.heap.size ≤ Wb
  dk : DK w' 0 B M Bd vc D
  low : Below w.heap.size w w'
  st : Kd.R (Kd.int .u64) 52 w' w.heap.size (fun _ => True) vs S
  out : Kd.R bytesK 58 w' w.heap.size (fun _ => True) vo X
section
variable {w w' w2 : World} {Wb B M Bd : Nat} {vc vs vo v1 : Value} {D : PD} {gen head tail : Int} {S S' : List Int} {X X' : List (List Int)}
theorem WlS.fresh (h : WlS w w' Wb B M Bd vc vs vo D gen head tail S X) (hb : Below w'.heap.size w' w2) : WlS w w2 Wb B M Bd vc vs vo D gen head tail S X :=
  ⟨(hb.block _ (Array.getElem?_eq_some_iff.1 h.blk).1).trans h.blk, h.hW, h.dk.chg (.of_below hb), h.low.trans (hb.mono h.low.size), Kd.R_below h.st hb, Kd.R_below h.out hb⟩
/-- the starts' row was turned, then the field that holds it -/
theorem WlS.turnS (h : WlS w w' Wb B M Bd vc vs vo D gen head tail S X) (hg : w'.grownBy w2 vs.ownBlock) (ho : Kd.R (Kd.int .u64) 52 w2 w.heap.size (fun _ => True) v1 S') :
    w2.heap[Wb]? = some (.cells #[.pointer (some ⟨B, 0, none⟩), .int .u64 gen, .int .u64 head, .int .u64 tail, vs, .bool true, .bool false] 102 (0, 0)) ∧ DK w2 0 B M Bd vc D ∧ Below w.heap.size w w2 ∧ Kd.R bytesK 58 w2 w.heap.size (fun _ => True) vo X := by
  have hc : TC w.heap.size (isT 52) w' w2 := TC.grown hg (fun k hk => by
    obtain ⟨h1, cells, h2⟩ := own_cells h.st k hk
    exact ⟨h1, _, h2, rfl⟩) h.low.size
  refine ⟨hc.blk Wb _ h.blk (by simp [isT]), h.dk.tkeep hc (isT_disk (by decide)), h.low.trans hc.low, R_tc h.out hc (fun q hq _ cells => ?_)⟩
  rcases q29 q hq with rfl | rfl <;> simp [isT]
theorem outs_turn {cs : Array Value} (hblk : w'.heap[Wb]? = some (.cells cs 102 (0, 0))) (hdk : DK w' 0 B M Bd vc D) (hlow : Below w.heap.size w w') (hst : Kd.R (Kd.int .u64) 52 w' w.heap.size (fun _ => True) vs S) (hout : Kd.R bytesK 58 w' w.heap.size (fun _ => True) vo X) (hg : w'.grownBy w2 vo.ownBlock) :
    w2.heap[Wb]? = some (.cells cs 102 (0, 0)) ∧ DK w2 0 B M Bd vc D ∧ Below w.heap.size w w2 ∧ Kd.R (Kd.int .u64) 52 w2 w.heap.size (fun _ => True) vs S := by
  have hc : TC w.heap.size (isT 58) w' w2 := TC.grown hg (fun k hk => by
    obtain ⟨h1, cells, h2⟩ := own_cells hout k hk
    exact ⟨h1, _, h2, rfl⟩) hlow.size
  refine ⟨hc.blk Wb _ hblk (by simp [isT]), hdk.tkeep hc (isT_disk (by decide)), hlow.trans hc.low, R_tc hst hc (fun q hq _ cells => ?_)⟩
  obtain rfl := q56 q hq
  simp [isT]
theorem starts_put (hblk : w'.heap[Wb]? = some (.cells #[.pointer (some ⟨B, 0, none⟩), .int .u64 gen, .int .u64 head, .int .u64 tail, vs, .bool true, .bool false] 102 (0, 0))) (hW : w.heap.size ≤ Wb) (hdk : DK w' 0 B M Bd vc D) (hlow : Below w.heap.size w w') (hst : Kd.R (Kd.int .u64) 52 w' w.heap.size (fun _ => True) v1 S) (hout : Kd.R bytesK 58 w' w.heap.size (fun _ => True) vo X) :
    WlS w (w'.setCell ⟨Wb, 4, none⟩ v1) Wb B M Bd vc v1 vo D gen head tail S X := by
  have hc : TC w.heap.size (isT 102) w' (w'.setCell ⟨Wb, 4, none⟩ v1) := TC.set (T := isT 102) hblk (show isT 102 _ _ from rfl) hW v1
  refine ⟨set7 hblk 4 v1, hW, hdk.tkeep hc (isT_disk (by decide)), hlow.trans hc.low, R_tc hst hc (fun q hq _ cells => ?_), R_tc hout hc (fun q hq _ cells => ?_)⟩
  · obtain rfl := q56 q hq
    simp [isT]
  · rcases q29 q hq with rfl | rfl <;> simp [isT]
end
theorem two_cells {w : World} {g b c : Nat} {h t : Int} {ok : Nat → Prop} (hr : Kd.R (Kd.int .u64) 52 w b ok (.slice (some ⟨g, 0, none⟩) 2 c) [h, t]) : w.cell? ⟨g, 0, none⟩ = some (.int .u64 h) ∧ w.cell? ⟨g, 1, none⟩ = some (.int .u64 t) := by
  have hC := (Kd.R_reads' hr).2.2
  obtain ⟨a0, e0, x0⟩ := Kd.at_int hC (0 : Int) (by omega) (by simp)
  obtain ⟨a1, e1, x1⟩ := Kd.at_int hC (1 : Int) (by omega) (by simp)
  cases e0; cases e1
  exact ⟨x0, x1⟩
theorem wls_new {w wq : World} {base B M Bd : Nat} {vc : Value} {D : PD} (hd : DK w base B M Bd vc D) (hb : Below w.heap.size w wq) (g h t : Int) :
    WlS w ((wq.alloc (.cells #[.pointer (some ⟨B, 0, none⟩), .int .u64 g, .int .u64 h, .int .u64 t, .slice none 0 0, .bool true, .bool false] 102)).drew) wq.heap.size B M Bd vc (.slice none 0 0) (.slice none 0 0) D g h t [] [] := by
  have hb2 := Below.alloc (Below.refl wq.heap.size wq) (Nat.le_refl _) (.cells #[.pointer (some ⟨B, 0, none⟩), .int .u64 g, .int .u64 h, .int .u64 t, .slice none 0 0, .bool true, .bool false] 102)
  have hb3 := (hb.trans (hb2.mono hb.size)).drew
  exact ⟨heap_alloc_new wq _, hb.size, (hd.low 0 (Nat.zero_le _)).chg (.of_below hb3), hb3, Kd.R_nil _ _ _ _ _, Kd.R_nil _ _ _ _ _⟩
theorem own_past {α : Type} {d : Kd α} {e b k : Nat} {w : World} {ok : Nat → Prop} {v : Value} {xs : List α} (h : d.R e w b ok v xs) (hk : w.heap.size ≤ k) : some k ≠ v.ownBlock := fun he => by
  have := Kd.R_lt h k he.symm
  omega
theorem row_past {α β : Type} {d : Kd α} {d' : Kd β} {e e' b b' : Nat} {w w7 w8 : World} {ok : Nat → Prop} {v v' : Value} {xs : List α} {ys : List β} (h : d.R e w b ok v xs) (h7 : d'.R e' w7 b' (fun k => w.heap.size ≤ k) v' ys) (hg : w7.grownBy w8 v.ownBlock) : d'.R e' w8 b' (fun k => w.heap.size ≤ k) v' ys :=
  Kd.R_grown h7 hg (fun k hk => own_past h hk)
def opErr (res : Int × Int × Int × List Int × List (List Int) × Int) : Int := res.2.2.2.2.2
def OpQ (w : World) (B M Bd : Nat) (vc : Value) (D : PD) (res : Int × Int × Int × List Int × List (List Int) × Int) (e : Ending) (w' : World) : Prop :=
  (opErr res ≠ 0 ∧ e = .returned (.tuple #[.pointer none, .slice none 0 0, .int .i64 (opErr res)]) ∧ Below w.heap.size w w') ∨
  (opErr res = 0 ∧ ∃ Wb vs vo, e = .returned (.tuple #[.pointer (some ⟨Wb, 0, none⟩), vo, .int .i64 0]) ∧ WlS w w' Wb B M Bd vc vs vo D res.1 res.2.1 res.2.2.1 res.2.2.2.1 res.2.2.2.2.1)
section
variable {w : World} {base B M Bd : Nat} {vc : Value} {D : PD} {res : Int × Int × Int × List Int × List (List Int) × Int}
theorem open_load (gl : Int × List Int × Int) (hld : loadP D = gl) (he : gl.2.2 ≠ 0) (ho : OKD D) (hl : D.cache.length ≤ 40000) (h : DK w base B M Bd vc D) :
    Calls Tryz.prog 12 #[.pointer (some ⟨B, 0, none⟩)] w (OpQ w B M Bd vc D (0, 0, 0, [], [], gl.2.2)) := by
  have HL := Aside0.mk (load_calls (w := w) hld ho.ok ho.c64 hl h)
  obtain ⟨gg, gls, ge⟩ := gl
  simp only at he HL ⊢
  unfold LdQ at HL
  have hb : (ge != 0) = true := by simpa using he
  have HE := Aside0.mk he
  clear h hld ho hl he
  go_enter Tryz.func12, Tryz.ntmps12
  go_wp2
  go_step3
  go_wp2_with (first
    | (go_at_call 49; (with_reducible refine HL.out.mono ?_); rintro e w1 ⟨A1, c1, rfl, hr, hb⟩; have HB1 := Aside0.mk hb; clear hr hb))
  rw [Exit.noGoto_ret]
  go_ret3
  exact .inl ⟨HE.out, rfl, HB1.out⟩
theorem open_len (g : Int) (l : List Int) (hld : loadP D = (g, l, 0)) (h2 : l.length ≠ 2) (ho : OKD D) (hl : D.cache.length ≤ 40000) (h : DK w base B M Bd vc D) :
    Calls Tryz.prog 12 #[.pointer (some ⟨B, 0, none⟩)] w (OpQ w B M Bd vc D (0, 0, 0, [], [], 70)) := by
  have HL := Aside0.mk (load_calls (w := w) hld ho.ok ho.c64 hl h)
  unfold LdQ at HL
  have hb : ((l.length : Int) != 2) = true := by simp; omega
  have hb2 : ((l.length : Int) == 2) = false := by simp; omega
  have hb3 : (l.length == 2) = false := by simpa using h2
  have hb4 : (l.length != 2) = true := by simpa using h2
  clear h hld ho hl
  go_enter Tryz.func12, Tryz.ntmps12
  go_wp2
  go_step3
  go_wp2_with (first
    | (go_at_call 49; (with_reducible refine HL.out.mono ?_); rintro e w1 ⟨A1, c1, rfl, hr, hb⟩; have HB1 := Aside0.mk hb; clear hr hb))
  go_quiet (fail)
  go_wp2
  rw [Exit.noGoto_ret]
  go_ret3
  exact .inl ⟨(show (70 : Int) ≠ 0 by decide), rfl, bel_drewN HB1.out _⟩
set_option maxRecDepth 100000 in
theorem open_bad (g h t r : Int) (hld : loadP D = (g, [h, t], 0)) (hr : ringP D = r) (hbad : t < h ∨ r < t - h) (hrg : (0 ≤ h ∧ h < 18446744073709551616) ∧ (0 ≤ t ∧ t < 18446744073709551616)) (ho : OKD D) (hl : D.cache.length ≤ 40000) (hd : DK w base B M Bd vc D) :
    Calls Tryz.prog 12 #[.pointer (some ⟨B, 0, none⟩)] w (OpQ w B M Bd vc D (0, 0, 0, [], [], 70)) := by
  have HL := Aside0.mk (load_calls (w := w) hld ho.ok ho.c64 hl hd)
  have hrb := ringP_le hd
  rw [hr] at hrb
  obtain ⟨hr0, hr1⟩ := hrb
  have HD := Aside0.mk hd
  have HR := Aside0.mk hr
  unfold LdQ at HL
  obtain ⟨⟨h0, h1⟩, t0, t1⟩ := hrg
  clear hd hld ho hl hr
  by_cases hth : t < h
  · clear hbad
    go_enter Tryz.func12, Tryz.ntmps12
    go_wp2
    go_step3
    go_wp2_with (first
      | (go_at_call 49; (with_reducible refine HL.out.mono ?_); rintro e w1 ⟨A1, c1, rfl, hr, hb⟩; have HB1 := Aside0.mk hb; obtain ⟨g4, c4', hv⟩ := R_addr hr (by simp); cases hv; have x0 := two_cells hr; clear hr hb))
    obtain ⟨x0, x1⟩ := x0
    go_quiet (fail)
    go_wp2
    rw [Exit.noGoto_ret]
    go_ret3
    exact .inl ⟨(show (70 : Int) ≠ 0 by decide), rfl, bel_drewN HB1.out _⟩
  · have hth' : h ≤ t := by omega
    have hrt : r < t - h := by omega
    have hrt2 : decide (r < t - h) = true := decide_eq_true hrt
    have hth2 : decide (t < h) = false := decide_eq_false hth
    clear hbad
    go_enter Tryz.func12, Tryz.ntmps12
    go_wp2
    go_step3
    go_wp2_with (first
      | (go_at_call 49; (with_reducible refine HL.out.mono ?_); rintro e w1 ⟨A1, c1, rfl, hr, hb⟩; have HB1 := Aside0.mk hb; obtain ⟨g4, c4', hv⟩ := R_addr hr (by simp); cases hv; have x0 := two_cells hr; clear hr hb))
    obtain ⟨x0, x1⟩ := x0
    have HDq := Aside0.mk (fun n => HD.out.chg (w' := w1.drewN n) (.of_below (bel_drewN HB1.out n)))
    go_quiet ((go_at_call 45; exact Calls.quiet_of_same ((ring_calls _ base B M Bd vc D r HR.out (HDq.out _)).mono fun e w' h => ⟨h.1, h.2.symm⟩)))
    go_wp2
    rw [Exit.noGoto_ret]
    go_ret3
    exact .inl ⟨(show (70 : Int) ≠ 0 by decide), rfl, bel_drewN HB1.out _⟩
set_option maxRecDepth 100000 in
set_option maxHeartbeats 4000000 in
theorem open_main (g h t r : Int) (SS : List Int) (XX : List (List Int)) (EE : Int) (hgo : openGo D r t (t - h).toNat h = (SS, XX, EE)) (hld : loadP D = (g, [h, t], 0)) (hr : ringP D = r) (hht : h ≤ t) (htr : t - h ≤ r) (hrg : (0 ≤ h ∧ h < 18446744073709551616) ∧ (0 ≤ t ∧ t < 18446744073709551616)) (ho : OKD D) (hl : D.cache.length ≤ 40000) (hd : DK w base B M Bd vc D) :
    Calls Tryz.prog 12 #[.pointer (some ⟨B, 0, none⟩)] w (OpQ w B M Bd vc D (g, h, t, SS, XX, EE)) := by
  have HGO := Aside0.mk hgo
  have HL := Aside0.mk (load_calls (w := w) hld ho.ok ho.c64 hl hd)
  have hrb := ringP_le hd
  rw [hr] at hrb
  obtain ⟨hr0, hr1⟩ := hrb
  have HD := Aside0.mk hd
  have HR := Aside0.mk hr
  have HOK := Aside0.mk ho
  have HCL := Aside0.mk hl
  unfold LdQ at HL
  obtain ⟨⟨h0, h1⟩, t0, t1⟩ := hrg
  have hth2 : decide (t < h) = false := decide_eq_false (by omega)
  have hrt2 : decide (r < t - h) = false := decide_eq_false (by omega)
  clear hd hld ho hl hr hgo
  go_enter Tryz.func12, Tryz.ntmps12
  go_wp2
  go_step3
  go_wp2_with (first
    | (go_at_call 49; (with_reducible refine HL.out.mono ?_); rintro e w1 ⟨A1, c1, rfl, hr, hb⟩; have HB1 := Aside0.mk hb; obtain ⟨g4, c4', hv⟩ := R_addr hr (by simp); cases hv; have x0 := two_cells hr; clear hr hb))
  obtain ⟨x0, x1⟩ := x0
  have HDq := Aside0.mk (fun n => HD.out.chg (w' := w1.drewN n) (.of_below (bel_drewN HB1.out n)))
  go_quiet ((go_at_call 45; exact Calls.quiet_of_same ((ring_calls _ base B M Bd vc D r HR.out (HDq.out _)).mono fun e w' h => ⟨h.1, h.2.symm⟩)))
  go_wp2
  have y0 : (w1.drewN nq).drew.cell? ⟨g4, 0, none⟩ = some (.int .u64 h) := x0
  have y1 : (w1.drewN nq).drew.cell? ⟨g4, 1, none⟩ = some (.int .u64 t) := x1
  have HBQ := Aside0.mk (bel_drewN HB1.out nq)
  obtain ⟨wq, hwq⟩ : ∃ wq, w1.drewN nq = wq := ⟨_, rfl⟩
  rw [hwq] at HBQ y0 y1 ⊢
  clear hwq x0 x1
  refine Fork.wp_fork (Fork.Lo.rel 0) [] [] (.one 0 0 (.one 1 0 (.one 2 0 (.one 3 0 (.one 5 0 (.one 6 0 (.one 4 1 (.one 7 1 (.one 8 0 (.one 9 2 (.one 10 0 .nil))))))))))) (by kernel_rfl) (by kernel_rfl) ?_
  generalize hops : List.toArray (_ : List Oper) = ops
  have HO := Aside0.mk hops
  clear hops
  iterate 6 ((refine Fork.plain (Fork.at_ HO.out rfl) _ rfl (fun W => by go_simp; exact rfl) ?_); simp only [Act.put, List.setIfInBounds_toArray, List.set_cons_succ, List.set_cons_zero])
  refine Fork.reads (Fork.at_ HO.out rfl) _ rfl (fun W hW => Arr.ex_load1 rfl rfl (by kernel_rfl) (Fork.bel_cell hW (by assumption))) ?_
  simp only [Act.put, List.setIfInBounds_toArray, List.set_cons_succ, List.set_cons_zero]
  refine Fork.reads (Fork.at_ HO.out rfl) _ rfl (fun W hW => Arr.ex_load1 rfl rfl (by kernel_rfl) (Fork.bel_cell hW (by assumption))) ?_
  simp only [Act.put, List.setIfInBounds_toArray, List.set_cons_succ, List.set_cons_zero]
  ((refine Fork.plain (Fork.at_ HO.out rfl) _ rfl (fun W => by go_simp; exact rfl) ?_); simp only [Act.put, List.setIfInBounds_toArray, List.set_cons_succ, List.set_cons_zero])
  refine Fork.step (Fork.at_ HO.out rfl) (fun K hK => ?_)
  go_simp
  refine hK _ _ (.of_new (Below.alloc (Below.refl _ _) (Nat.le_refl _) _) (Nat.zero_le _)) ?_
  clear hK K
  try simp only [Act.put, List.setIfInBounds_toArray, List.set_cons_succ, List.set_cons_zero]
  ((refine Fork.plain (Fork.at_ HO.out rfl) _ rfl (fun W => by go_simp; exact rfl) ?_); simp only [Act.put, List.setIfInBounds_toArray, List.set_cons_succ, List.set_cons_zero])
  refine Fork.done ?_
  go_wp2
  go_step3
  go_wp2
  have HS0 := Aside0.mk (wls_new HD.out HBQ.out g h t)
  obtain ⟨Wb, hWb⟩ : ∃ Wb, wq.heap.size = Wb := ⟨_, rfl⟩
  obtain ⟨w4, hw4⟩ : ∃ w4, (wq.alloc (.cells #[.pointer (some ⟨B, 0, none⟩), .int .u64 g, .int .u64 h, .int .u64 t, .slice none 0 0, .bool true, .bool false] 102)).drew = w4 := ⟨_, rfl⟩
  rw [hw4, hWb] at HS0
  rw [hw4, hWb]
  have HT0 := Aside0.mk (show (openGo D r t (t - h).toNat h).2.2 = EE ∧ (EE = 0 → [] ++ (openGo D r t (t - h).toNat h).1 = SS ∧ [] ++ (openGo D r t (t - h).toNat h).2.1 = XX) from by rw [HGO.out]; exact ⟨rfl, fun _ => ⟨rfl, rfl⟩⟩)
  have HP0 := Aside0.mk (show h + ((t - h).toNat : Int) = t by omega)
  clear hw4 hWb y0 y1 HL HDq HGO
  go_loopg [9, 10] (t - h).toNat (fun kq v9 v10 w' => ∃ (p : Int) (f : Nat) (S : List Int) (X : List (List Int)) (vs : Value), v10 = .int .u64 p ∧ Aside0 (p + (kq : Int) = t) ∧ Aside0 (h ≤ p) ∧ Aside0 (kq ≤ f) ∧ Aside0 (S.length ≤ 4094 ∧ (S.length : Int) ≤ p - h) ∧ Aside0 (X.length = S.length) ∧ Aside0 (WlS w w' Wb B M Bd vc vs v9 D g h t S X) ∧ Aside0 ((openGo D r t f p).2.2 = EE ∧ (EE = 0 → S ++ (openGo D r t f p).1 = SS ∧ X ++ (openGo D r t f p).2.1 = XX)))
  case atStart => exact ⟨h, (t - h).toNat, [], [], .slice none 0 0, rfl, HP0, ⟨Int.le_refl _⟩, ⟨Nat.le_refl _⟩, ⟨by simp⟩, ⟨rfl⟩, HS0, HT0⟩
  case round =>
    obtain ⟨p, f, S, X, vs, rfl, HP, HPH, HF, HSL, HXL, HS, HT⟩ := hrel
    clear HS0 HT0 HP0
    obtain ⟨As, cs, rfl⟩ := Kd.R_slice HS.out.st
    obtain ⟨Ao, co, rfl⟩ := Kd.R_slice HS.out.out
    obtain ⟨⟨q0, q1, q2, q3, q4, q5, q6⟩, _⟩ := cells7 HS.out.blk
    have hpt : p ≤ t := by have := HP.out; omega
    have hp0 : 0 ≤ p := by have := HPH.out; omega
    by_cases hk0 : gk = 0
    · subst hk0
      have hpe : p = t := by have := HP.out; omega
      have hpe1 : (p == t) = true := by simpa using hpe
      have hEE : EE = 0 ∧ S = SS ∧ X = XX := by
        obtain ⟨e1, e2⟩ := HT.out
        have h0 : openGo D r t f p = ([], [], 0) := by
          cases f with
          | zero => unfold openGo; rw [if_pos hpe]
          | succ f => unfold openGo; rw [if_pos hpe]
        rw [h0] at e1 e2
        subst e1
        obtain ⟨e3, e4⟩ := e2 rfl
        exact ⟨rfl, by simpa using e3, by simpa using e4⟩
      obtain ⟨rfl, rfl, rfl⟩ := hEE
      clear hpe
      go_wp2
      try rw [Exit.noGoto_ret]
      go_ret3
      exact .inr ⟨rfl, Wb, _, _, rfl, HS.out⟩
    · obtain ⟨f', rfl⟩ : ∃ f', f = f' + 1 := ⟨f - 1, by have := HF.out; omega⟩
      have hpn : ¬ p = t := by have := HP.out; omega
      have hpe1 : (p == t) = false := by simpa using hpn
      have hgk : (t - p).toNat = gk := by have := HP.out; omega
      obtain ⟨x, nx, e, hrc⟩ : ∃ x nx e, recGo D r p (t - p).toNat [] p = (x, nx, e) := ⟨_, _, _, rfl⟩
      have hT2 := HT.out
      unfold openGo at hT2
      rw [if_neg hpn, hrc] at hT2
      simp only at hT2
      have HREC := Aside0.mk (record_calls wr Wb B M Bd vc D As S.length cs g h t true false r p (t - p).toNat (x, nx, e) HR.out (by have := HP.out; have := HPH.out; omega) ⟨hp0, by omega, by omega⟩ (by have := HP.out; have := HPH.out; omega) hrc HOK.out HCL.out HS.out.dk ⟨HS.out.blk⟩)
      unfold RcQ at HREC
      simp only at HREC
      have hlt : p < t := by omega
      clear q0 q1 q2 q3 q4 q5 q6
      obtain ⟨⟨q0, q1, q2, q3, q4, q5, q6⟩, _⟩ := cells7 HS.out.blk
      by_cases he : e = 0
      · subst he
        have HNX := Aside0.mk (recGo_next D r p (fun q hq => readP_64 HS.out.dk HOK.out.c64 (s := (readP D q).1) (by rw [← hq])) (t - p).toNat [] p (Int.le_refl _) (by simp) (by rw [hrc]))
        rw [hrc] at HNX
        simp only at HNX
        have HT3 := Aside0.mk (show (openGo D r t f' nx).2.2 = EE ∧ (EE = 0 → (S ++ [p]) ++ (openGo D r t f' nx).1 = SS ∧ (X ++ [x]) ++ (openGo D r t f' nx).2.1 = XX) from by
          simpa using hT2)
        have HSL8 := Aside0.mk (show (S.length + 1) * 8 ≤ 140737488355328 by have := HSL.out.1; omega)
        have HXL8 := Aside0.mk (show (X.length + 1) * 24 ≤ 140737488355328 by have := HSL.out.1; have := HXL.out; omega)
        clear hT2 hrc hpn
        go_wp2_with (first
          | (go_at_call 50; (with_reducible refine HREC.out.mono ?_); rintro e w7 ⟨A7, c7, rfl, hr, hb⟩; have HX7 := Aside0.mk hr; have HW7 := Aside0.mk hb; have HS7 := Aside0.mk (HS.out.fresh hb); obtain ⟨⟨z0, z1, z2, z3, z4, z5, z6⟩, _⟩ := cells7 HS7.out.blk; clear hr hb)
          | ((with_reducible refine gate_builtin (b := .append) (xs := #[.tmp 82, .tmp 84]) rfl ?_); at_builtin; go_loud (refine Kd.R_append (Kd.int .u64) (W := w7) (w0 := w7) w.heap.size rfl (.tmp 82) (.tmp 84) 98 52 (.int .u64 0) 8 rfl Tryz.underlying98 info56 rfl (by decide) (by decide) _ S p [.int .u64 p] (fun _ => True) (fun _ => False) rfl rfl rfl (fun _ h => h.elim) (fun _ _ => trivial) HS7.out.st (Below.refl _ _) HS7.out.low.size HSL8.out ?_); intro v8 w8 ho hb hg hat; obtain ⟨A8, n8, c8, rfl⟩ := R_slice3 ho; obtain ⟨b8, d8, l8, o8⟩ := HS7.out.turnS hg ho; have HO8 := Aside0.mk (And.intro b8 (And.intro d8 (And.intro l8 (And.intro o8 ho)))); have HX8 := Aside0.mk (row_past HS.out.st HX7.out hg); clear b8 d8 l8 o8 ho hb hg hat)
          | ((with_reducible refine gate_builtin (b := .append) (xs := #[.tmp 86, .tmp 88]) rfl ?_); at_builtin; go_loud (refine Kd.R_append bytesK (W := w8) (w0 := w8) w.heap.size rfl (.tmp 86) (.tmp 88) 32 58 (.slice none 0 0) 24 rfl Tryz.underlying32 info29e rfl (by decide) (by decide) _ X x [.slice A7 x.length c7] (fun _ => True) (fun k => wr.heap.size ≤ k) rfl rfl ⟨_, rfl, Kd.R_lower HX8.out HS.out.low.size⟩ (fun k hk => ⟨trivial, own_past HS.out.out hk⟩) (fun _ _ => trivial) HO8.out.2.2.2.1 (Below.refl _ _) HO8.out.2.2.1.size HXL8.out ?_); intro v9 w9 ho hb hg hat; obtain ⟨b9, d9, l9, s9⟩ := outs_turn HO8.out.1 HO8.out.2.1 HO8.out.2.2.1 HO8.out.2.2.2.2 HO8.out.2.2.2.1 hg; have HO9 := Aside0.mk (starts_put b9 HS.out.hW d9 l9 s9 ho); obtain ⟨⟨y0, y1, y2, y3, y4, y5, y6⟩, k2, k4, k5, k6⟩ := cells7 b9; clear b9 d9 l9 s9 ho hb hg hat))
        have hnx := HNX.out
        go_roundg (t - nx).toNat
        case rel => exact ⟨nx, f', S ++ [p], X ++ [x], _, rfl, ⟨by omega⟩, ⟨by have := HPH.out; omega⟩, ⟨by have := HF.out; omega⟩, ⟨by have := HSL.out; have := HPH.out; rw [List.length_append, List.length_singleton]; omega⟩, ⟨by rw [List.length_append, List.length_append, HXL.out]; rfl⟩, HO9, HT3⟩
        case measure => omega
      · have hb : (e != 0) = true := by simpa using he
        have hEE : EE = e := by
          rw [if_pos he] at hT2
          exact hT2.1.symm
        have HEE := Aside0.mk (And.intro he hEE)
        clear hT2 hrc hpn he hEE
        go_wp2_with (first
          | (go_at_call 50; (with_reducible refine HREC.out.mono ?_); rintro e w7 ⟨A7, c7, rfl, hr, hb⟩; have HW7 := Aside0.mk (HS.out.low.trans (hb.mono HS.out.low.size)); clear hr hb))
        try rw [Exit.noGoto_ret]
        go_ret3
        obtain ⟨k1, rfl⟩ := HEE.out
        exact .inl ⟨k1, rfl, HW7.out⟩
end
theorem pickL_in (u v : Int × List Int × Int) (P : Int × List Int → Prop) (h0 : P (0, [])) (hu : P (u.1, u.2.1)) (hv : P (v.1, v.2.1)) : P ((pickL u v).1, (pickL u v).2.1) := by
  have key : ∀ (st : Bool × Int × List Int) (u : Int × List Int × Int), P (st.2.1, st.2.2) → P (u.1, u.2.1) → P ((stepL st u).2.1, (stepL st u).2.2) := by
    intro st u h1 h2
    unfold stepL
    split
    · exact h2
    · exact h1
  unfold pickL
  split
  · exact key _ _ (key _ _ h0 hu) hv
  · exact h0
def okL (x : Int × List Int) : Prop := (0 ≤ x.1 ∧ x.1 < 18446744073709551616) ∧ ∀ n ∈ x.2, 0 ≤ n ∧ n < 18446744073709551616
theorem loadP_in {D : PD} (h : OKD D) : okL ((loadP D).1, (loadP D).2.1) := by
  have nil : okL (0, []) := ⟨by simp only; omega, fun n hn => by cases hn⟩
  have un : ∀ b, isBytes b → okL ((unP b).1, (unP b).2.1) := fun b hb => by
    obtain ⟨h1, _, h3, _⟩ := unP_bytes b hb (g := (unP b).1) (l := (unP b).2.1) (e := (unP b).2.2) rfl
    exact ⟨h1, h3⟩
  unfold loadP
  split
  · exact nil
  · split
    · exact nil
    · exact pickL_in _ _ okL nil (un _ (readP_bytes h.ok 0)) (un _ (readP_bytes h.ok 1))
theorem open_calls {w : World} {base B M Bd : Nat} {vc : Value} {D : PD} {res : Int × Int × Int × List Int × List (List Int) × Int} (hres : openP D = res) (ho : OKD D) (hl : D.cache.length ≤ 40000) (hd : DK w base B M Bd vc D) :
    Calls Tryz.prog 12 #[.pointer (some ⟨B, 0, none⟩)] w (OpQ w B M Bd vc D res) := by
  subst hres
  have hin := loadP_in ho
  obtain ⟨g, l, e, hld⟩ : ∃ g l e, loadP D = (g, l, e) := ⟨_, _, _, rfl⟩
  rw [hld] at hin
  unfold openP
  rw [hld]
  simp only
  by_cases he : e = 0
  · subst he
    rw [if_neg (by simp)]
    match l, hld, hin with
    | [], hld, _ => exact open_len g [] hld (by simp) ho hl hd
    | [x], hld, _ => exact open_len g [x] hld (by simp) ho hl hd
    | [h, t], hld, hin =>
      have h1 := hin.2 h (by simp)
      have h2 := hin.2 t (by simp)
      simp only
      split
      · rename_i hb
        exact open_bad g h t (ringP D) hld rfl hb ⟨h1, h2⟩ ho hl hd
      · rename_i hb
        exact open_main g h t (ringP D) _ _ _ rfl hld rfl (by omega) (by omega) ⟨h1, h2⟩ ho hl hd
    | x :: y :: z :: r, hld, _ => exact open_len g (x :: y :: z :: r) hld (by simp) ho hl hd
  · rw [if_pos he]
    exact open_load (g, l, e) hld he ho hl hd
end Go.Proofs.YtlepcmljmibdnaaGreat
