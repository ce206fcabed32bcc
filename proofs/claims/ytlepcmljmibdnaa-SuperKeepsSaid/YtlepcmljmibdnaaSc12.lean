/- Parts of one proof, joined: Ld, Vw, Ay, Sn, Rd, Rdx. Conditions: those of each statement. -/
import Derived.Test.YtlepcmljmibdnaaSc11
import Derived.Test.YtlepcmljmibdnaaWWords
import Derived.Deep.Slices
import Derived.ChangeArms
import Derived.Test.YtlepcmljmibdnaaPDiskArmsx1
import Derived.WalkKit
import Derived.ProofKit
import Derived.OpenShut
import Derived.ShutString
import Derived.ChangeOld
import Derived.Below
namespace Go.Proofs.Ytlepcmljmibdnaa
open Go.RowKit Go.Proofs.YtlepcmljmibdnaaW.PrintWords Go.Proofs.YtlepcmljmibdnaaW.PrintLast Go.Proofs.YtlepcmljmibdnaaW.PrintMore PWalOpens
set_option linter.unusedVariables false
set_option linter.unusedSimpArgs false
/-- what a disk keeps are bytes -/
def okD (D : PD) : Prop := (∀ a s, D.kept a = some s → isBytes s) ∧ ∀ p ∈ D.cache, isBytes p.2
theorem zsec_bytes : isBytes zsec := by
  intro x hx
  have := List.eq_of_mem_replicate hx
  omega
theorem readL_bytes (l : List (Int × List Int)) (hl : ∀ p ∈ l, isBytes p.2) (at_ : Int) : ∀ s, isBytes s → isBytes (readL s l at_) := by
  induction l with
  | nil => intro s hs; exact hs
  | cons p l ih =>
    intro s hs
    unfold readL
    rw [List.foldl_cons]
    refine ih (fun q hq => hl q (by simp [hq])) _ ?_
    split
    · exact hl p (by simp)
    · exact hs
theorem readP_bytes {D : PD} (h : okD D) (at_ : Int) : isBytes (readP D at_).1 := by
  have nil : isBytes [] := fun x hx => by cases hx
  unfold readP
  repeat' split
  · exact nil
  · exact nil
  · exact nil
  · refine readL_bytes _ h.2 _ _ ?_
    cases hk : D.kept at_ with
    | none => exact zsec_bytes
    | some s => exact h.1 _ _ hk
theorem readP_len {w : World} {base B M Bd : Nat} {vc : Value} {D : PD} (h : DK w base B M Bd vc D) (hc : ∀ p ∈ D.cache, p.2.length = 64) (at_ : Int) : (readP D at_).1.length ≤ 64 := by
  unfold readP
  repeat' split
  · simp
  · simp
  · simp
  · have key : ∀ (l : List (Int × List Int)), (∀ p ∈ l, p.2.length = 64) → ∀ s : List Int, s.length = 64 → (readL s l at_).length ≤ 64 := by
      intro l
      induction l with
      | nil => intro _ s hs; exact Nat.le_of_eq hs
      | cons p l ih =>
        intro hl s hs
        unfold readL
        rw [List.foldl_cons]
        refine ih (fun q hq => hl q (by simp [hq])) _ ?_
        split
        · exact hl p (by simp)
        · exact hs
    refine key _ hc _ ?_
    cases hk : D.kept at_ with
    | none => rfl
    | some s => exact h.sec _ _ hk
theorem SB.of_R {w : World} {b c n : Nat} {A : Option Addr} {xs : List Int} {ok : Nat → Prop} (h : Kd.R (Kd.int .u8) 5 w b ok (.slice A n c) xs) : SB w A c xs := by
  obtain ⟨h1, h2, h3⟩ := Kd.R_reads' h
  obtain ⟨_, inner, ho, _⟩ := h
  refine ⟨h3, by omega, ?_, fun hA => ?_⟩
  · rcases ho.2 with ⟨e, _⟩ | ⟨g, cap, cur, e, _, _, _, hm, _⟩
    · injection e with e1 e2 e3; omega
    · injection e with e1 e2 e3; rw [e3]; exact Nat.le_trans hm (by decide)
  · have := own_none ho hA
    omega
def stepL (st : Bool × Int × List Int) (u : Int × List Int × Int) : Bool × Int × List Int := if u.2.2 = 0 ∧ (st.1 = false ∨ st.2.1 < u.1) then (true, u.1, u.2.1) else st
def pickL (u v : Int × List Int × Int) : Int × List Int × Int :=
  if (stepL (stepL (false, 0, []) u) v).1 then ((stepL (stepL (false, 0, []) u) v).2.1, (stepL (stepL (false, 0, []) u) v).2.2, 0) else (0, [], 60)
def loadP (D : PD) : Int × List Int × Int :=
  if (readP D 0).2 ≠ 0 then (0, [], (readP D 0).2) else if (readP D 1).2 ≠ 0 then (0, [], (readP D 1).2) else pickL (unP (readP D 0).1) (unP (readP D 1).1)
def LdQ (w : World) (r : Int × List Int × Int) (e : Ending) (w' : World) : Prop := ∃ A c, e = .returned (.tuple #[.int .u64 r.1, .slice A r.2.1.length c, .int .i64 r.2.2]) ∧ Kd.R (Kd.int .u64) 56 w' w.heap.size (fun k => w.heap.size ≤ k) (.slice A r.2.1.length c) r.2.1 ∧ Below w.heap.size w w'
section
variable {w : World} {base B M Bd : Nat} {vc : Value} {D : PD} {r : Int × List Int × Int}
theorem load_walk (Lf : Nat → Bool × Int × List Int) (h0 : Lf 0 = (false, 0, [])) (hs : ∀ i, i < 2 → Lf (i + 1) = stepL (Lf i) (unP (readP D i).1))
    (hE : ∀ i : Nat, i < 2 → (∀ j : Nat, j < i → (readP D j).2 = 0) → (readP D i).2 ≠ 0 → r = (0, [], (readP D i).2)) (hO : (∀ j : Nat, j < 2 → (readP D j).2 = 0) → r = if (Lf 2).1 then ((Lf 2).2.1, (Lf 2).2.2, 0) else (0, [], 60))
    (ho : okD D) (h64 : ∀ p ∈ D.cache, p.2.length = 64) (hl : D.cache.length ≤ 1000) (h : DK w base B M Bd vc D) :
    Calls Try.prog 44 #[.pointer (some ⟨B, 0, none⟩)] w (LdQ w r) := by
  have HD := Aside0.mk h
  have H64 := Aside0.mk (fun i : Int => readP_len h h64 i)
  have HB := Aside0.mk (fun i : Int => readP_bytes ho i)
  have HL := Aside0.mk hl
  have HS := Aside0.mk hs
  have HE := Aside0.mk hE
  have HO := Aside0.mk hO
  have H0 := Aside0.mk h0
  clear h ho h64 hl hs hE hO h0
  go_enter Try.func44, Try.ntmps44
  go_wp2
  go_loopg [2, 3, 5, 11] 2 (fun kq v2 v3 v5 v11 w' => ∃ (i : Nat) (f : Bool) (g : Int) (l : List Int), v11 = .int .i64 (i : Int) ∧ v5 = .bool f ∧ v2 = .int .u64 g ∧ Aside0 (Lf i = (f, g, l)) ∧ Aside0 (i + kq = 2) ∧ Aside0 (∀ j : Nat, j < i → (readP D j).2 = 0) ∧ Aside0 (Kd.R (Kd.int .u64) 56 w' w.heap.size (fun k => w.heap.size ≤ k) v3 l) ∧ Aside0 (Below w.heap.size w w'))
  case atStart => exact ⟨0, false, 0, [], rfl, rfl, rfl, H0, ⟨by omega⟩, ⟨fun j hj => by omega⟩, ⟨Kd.R_nil _ _ _ _ _⟩, ⟨Below.refl _ _⟩⟩
  case round =>
    obtain ⟨i, f, g, l, rfl, rfl, rfl, HF, HI, HZ, HR, HW⟩ := hrel
    by_cases hi : i < 2
    · have hi' : (i : Int) < 2 := by omega
      obtain ⟨s, er, hse⟩ : ∃ s er, readP D i = (s, er) := ⟨_, _, rfl⟩
      have HRD := Aside0.mk hse
      have HS64 := Aside0.mk (show s.length ≤ 1000000 from by have := H64.out i; rw [hse] at this; exact Nat.le_trans this (by omega))
      have HSB := Aside0.mk (show isBytes s from by have := HB.out i; rwa [hse] at this)
      have HNX := Aside0.mk (HS.out i hi)
      have HEi := Aside0.mk (HE.out i hi HZ.out)
      rw [hse, HF.out] at HNX
      rw [hse] at HEi
      simp only at HNX HEi
      have HDr := Aside0.mk (At.refl (HD.out.chg (.of_below HW.out)))
      obtain ⟨u, hu⟩ : ∃ u, unP s = u := ⟨_, rfl⟩
      have HOF := Aside0.mk (fun (w : World) (A : Option Addr) (c : Nat) (h : SB w A c s) => of_calls w A c s HS64.out h HSB.out)
      unfold OfQ at HOF
      rw [hu] at HNX HOF
      obtain ⟨ug, ul, ue⟩ := u
      simp only at HOF
      have HUE := Aside0.mk (show ue = 0 ∨ ue = 60 from (unP_bytes s HSB.out hu).2.2.2)
      clear hu
      by_cases hz : er = 0
      · subst hz
        have HZ1 := Aside0.mk (show ∀ j : Nat, j < i + 1 → (readP D j).2 = 0 from fun j hj => by
          by_cases hji : j = i
          · subst hji; rw [HRD.out]
          · exact HZ.out j (by omega))
        clear hse
        rcases HUE.out with rfl | rfl
        · cases f with
          | false =>
            have HN1 := Aside0.mk (show Lf (i + 1) = (true, ug, ul) from by rw [HNX.out]; rfl)
            go_wp2_with (first
              | (go_at_call 23; (with_reducible refine (at_read (i : Int) 0 s HRD.out HL.out HDr.out).mono ?_); rintro e w5 ⟨A5, c5, rfl, hr, hd, hb⟩; have HSB5 := Aside0.mk (SB.of_R hr); have HB5 := Aside0.mk (HW.out.trans (hb.mono HW.out.size)); have HR5 := Aside0.mk (Kd.R_below HR.out hb); clear hd hr hb)
              | (go_at_call 39; (with_reducible refine (HOF.out w5 A5 c5 HSB5.out).mono ?_); rintro e w6 ⟨A6, c6, rfl, hr, hb⟩; have HB6 := Aside0.mk (HB5.out.trans (hb.mono HB5.out.size)); have HR6 := Aside0.mk (Kd.R_below HR5.out hb); have HN6 := Aside0.mk (Kd.R_mono (Kd.R_lower hr HB5.out.size) (fun k hk => Nat.le_trans HB5.out.size hk)); clear hr hb))
            have hk1 := HI.out
            obtain ⟨gq, rfl⟩ : ∃ gq, gk = gq + 1 := ⟨gk - 1, by omega⟩
            go_roundg gq
            case rel => exact ⟨i + 1, _, _, _, by go_num, rfl, rfl, HN1, ⟨by omega⟩, HZ1, HN6, HB6⟩
            case measure => omega
          | true =>
            by_cases hgt : g < ug
            · have HN1 := Aside0.mk (show Lf (i + 1) = (true, ug, ul) from by rw [HNX.out]; unfold stepL; rw [if_pos ⟨rfl, .inr hgt⟩])
              go_wp2_with (first
                | (go_at_call 23; (with_reducible refine (at_read (i : Int) 0 s HRD.out HL.out HDr.out).mono ?_); rintro e w5 ⟨A5, c5, rfl, hr, hd, hb⟩; have HSB5 := Aside0.mk (SB.of_R hr); have HB5 := Aside0.mk (HW.out.trans (hb.mono HW.out.size)); have HR5 := Aside0.mk (Kd.R_below HR.out hb); clear hd hr hb)
                | (go_at_call 39; (with_reducible refine (HOF.out w5 A5 c5 HSB5.out).mono ?_); rintro e w6 ⟨A6, c6, rfl, hr, hb⟩; have HB6 := Aside0.mk (HB5.out.trans (hb.mono HB5.out.size)); have HR6 := Aside0.mk (Kd.R_below HR5.out hb); have HN6 := Aside0.mk (Kd.R_mono (Kd.R_lower hr HB5.out.size) (fun k hk => Nat.le_trans HB5.out.size hk)); clear hr hb))
              have hk1 := HI.out
              obtain ⟨gq, rfl⟩ : ∃ gq, gk = gq + 1 := ⟨gk - 1, by omega⟩
              go_roundg gq
              case rel => exact ⟨i + 1, _, _, _, by go_num, rfl, rfl, HN1, ⟨by omega⟩, HZ1, HN6, HB6⟩
              case measure => omega
            · have HN1 := Aside0.mk (show Lf (i + 1) = (true, g, l) from by rw [HNX.out]; unfold stepL; rw [if_neg (fun hh => hh.2.elim (fun h => by cases h) hgt)])
              go_wp2_with (first
                | (go_at_call 23; (with_reducible refine (at_read (i : Int) 0 s HRD.out HL.out HDr.out).mono ?_); rintro e w5 ⟨A5, c5, rfl, hr, hd, hb⟩; have HSB5 := Aside0.mk (SB.of_R hr); have HB5 := Aside0.mk (HW.out.trans (hb.mono HW.out.size)); have HR5 := Aside0.mk (Kd.R_below HR.out hb); clear hd hr hb)
                | (go_at_call 39; (with_reducible refine (HOF.out w5 A5 c5 HSB5.out).mono ?_); rintro e w6 ⟨A6, c6, rfl, hr, hb⟩; have HB6 := Aside0.mk (HB5.out.trans (hb.mono HB5.out.size)); have HR6 := Aside0.mk (Kd.R_below HR5.out hb); have HN6 := Aside0.mk (Kd.R_mono (Kd.R_lower hr HB5.out.size) (fun k hk => Nat.le_trans HB5.out.size hk)); clear hr hb))
              have hk1 := HI.out
              obtain ⟨gq, rfl⟩ : ∃ gq, gk = gq + 1 := ⟨gk - 1, by omega⟩
              go_roundg gq
              case rel => exact ⟨i + 1, _, _, _, by go_num, rfl, rfl, HN1, ⟨by omega⟩, HZ1, HR6, HB6⟩
              case measure => omega
        · have HN1 := Aside0.mk (show Lf (i + 1) = (f, g, l) from by rw [HNX.out]; rfl)
          go_wp2_with (first
            | (go_at_call 23; (with_reducible refine (at_read (i : Int) 0 s HRD.out HL.out HDr.out).mono ?_); rintro e w5 ⟨A5, c5, rfl, hr, hd, hb⟩; have HSB5 := Aside0.mk (SB.of_R hr); have HB5 := Aside0.mk (HW.out.trans (hb.mono HW.out.size)); have HR5 := Aside0.mk (Kd.R_below HR.out hb); clear hd hr hb)
            | (go_at_call 39; (with_reducible refine (HOF.out w5 A5 c5 HSB5.out).mono ?_); rintro e w6 ⟨A6, c6, rfl, hr, hb⟩; have HB6 := Aside0.mk (HB5.out.trans (hb.mono HB5.out.size)); have HR6 := Aside0.mk (Kd.R_below HR5.out hb); have HN6 := Aside0.mk (Kd.R_mono (Kd.R_lower hr HB5.out.size) (fun k hk => Nat.le_trans HB5.out.size hk)); clear hr hb))
          have hk1 := HI.out
          obtain ⟨gq, rfl⟩ : ∃ gq, gk = gq + 1 := ⟨gk - 1, by omega⟩
          go_roundg gq
          case rel => exact ⟨i + 1, _, _, _, by go_num, rfl, rfl, HN1, ⟨by omega⟩, HZ1, HR6, HB6⟩
          case measure => omega
      · have hzb : (er != 0) = true := by simpa using hz
        have HQ := Aside0.mk (HEi.out hz)
        clear hse hz
        go_wp2_with (go_at_call 23; (with_reducible refine (at_read (i : Int) er s HRD.out HL.out HDr.out).mono ?_); rintro e w5 ⟨A5, c5, rfl, hr, hd, hb⟩; have HB5 := Aside0.mk (HW.out.trans (hb.mono HW.out.size)); clear hd hr hb)
        go_ret3
        unfold LdQ
        rw [HQ.out]
        exact ⟨none, 0, rfl, Kd.R_nil _ _ _ _ _, HB5.out⟩
    · have hi0 := HI.out
      obtain rfl : gk = 0 := by omega
      obtain rfl : i = 2 := by omega
      clear hi0 hi
      have HQ := Aside0.mk (HO.out HZ.out)
      rw [HF.out] at HQ
      simp only at HQ
      obtain ⟨A3, c3, rfl⟩ := Kd.R_slice HR.out
      cases f with
      | true =>
        go_wp2
        go_ret3
        unfold LdQ
        rw [HQ.out]
        exact ⟨A3, c3, rfl, HR.out, HW.out⟩
      | false =>
        go_wp2
        go_ret3
        unfold LdQ
        rw [HQ.out]
        exact ⟨none, 0, rfl, Kd.R_nil _ _ _ _ _, HW.out⟩
theorem load_calls (hr : loadP D = r) (ho : okD D) (h64 : ∀ p ∈ D.cache, p.2.length = 64) (hl : D.cache.length ≤ 1000) (h : DK w base B M Bd vc D) :
    Calls Try.prog 44 #[.pointer (some ⟨B, 0, none⟩)] w (LdQ w r) := by
  subst hr
  have e0 : ((0 : Nat) : Int) = 0 := rfl
  have e1 : ((1 : Nat) : Int) = 1 := rfl
  refine load_walk (fun i => match i with | 0 => (false, 0, []) | 1 => stepL (false, 0, []) (unP (readP D 0).1) | _ => stepL (stepL (false, 0, []) (unP (readP D 0).1)) (unP (readP D 1).1)) rfl (fun i hi => ?_) (fun i hi hz hne => ?_) (fun hz => ?_) ho h64 hl h
  · have : i = 0 ∨ i = 1 := by omega
    rcases this with rfl | rfl <;> rfl
  · have : i = 0 ∨ i = 1 := by omega
    rcases this with rfl | rfl
    · rw [e0] at hne ⊢
      unfold loadP
      rw [if_pos hne]
    · have h0 : (readP D 0).2 = 0 := hz 0 (by omega)
      rw [e1] at hne ⊢
      unfold loadP
      rw [if_neg (fun hh => hh h0), if_pos hne]
  · have h0 : (readP D 0).2 = 0 := hz 0 (by omega)
    have h1 : (readP D 1).2 = 0 := hz 1 (by omega)
    unfold loadP
    rw [if_neg (fun hh => hh h0), if_neg (fun hh => hh h1)]
    rfl
end
def rloadX (X : RX) : Int × List Int × Int :=
  if (rreadX X 0).2 ≠ 0 then (0, [], (rreadX X 0).2) else if (rreadX X 1).2 ≠ 0 then (0, [], (rreadX X 1).2) else pickL (unP (rreadX X 0).1) (unP (rreadX X 1).1)
def OwnL (w : World) (b : Nat) (v : Value) (xs : List Int) : Prop := Kd.R (Kd.int .u64) 56 w b (fun k => b ≤ k) v xs
theorem OwnL.low {w : World} {b b' : Nat} {v : Value} {xs : List Int} (h : Kd.R (Kd.int .u64) 56 w b (fun k => b ≤ k) v xs) (hb : b' ≤ b) : Kd.R (Kd.int .u64) 56 w b' (fun k => b' ≤ k) v xs := Kd.R_mono (Kd.R_lower h hb) (fun k hk => Nat.le_trans hb hk)
section
variable {w : World} {base R : Nat} {vS vC vB : Value} {X : RX} {r : Int × List Int × Int}
theorem rload_r0 (he : (rreadX X 0).2 ≠ 0) (hl : X.cache.length ≤ 1000) (h : RK w base R vS vC vB X) : Calls Try.prog 45 #[.pointer (some ⟨R, 0, none⟩)] w (LdQ w (0, [], (rreadX X 0).2)) := by
  obtain ⟨s0, r0, e0⟩ : ∃ s0 r0, rreadX X 0 = (s0, r0) := ⟨_, _, rfl⟩
  rw [e0] at he ⊢
  simp only at he ⊢
  have E0 := Aside0.mk e0
  have HX := Aside0.mk h
  have HL := Aside0.mk hl
  have hb : (r0 != 0) = true := by simpa using he
  clear h hl e0 he
  go_enter Try.func45, Try.ntmps45
  go_wp2_with (first
    | (go_at_call 27; (with_reducible refine (rread_calls w base R vS vC vB X 0 r0 s0 E0.out HX.out HL.out).mono ?_); rintro e w1 ⟨A1, c1, rfl, hr, hb⟩; have HB1 := Aside0.mk hb; clear hr hb))
  go_ret3
  exact ⟨none, 0, rfl, Kd.R_nil _ _ _ _ _, HB1.out⟩
theorem rload_r1 (he0 : (rreadX X 0).2 = 0) (he : (rreadX X 1).2 ≠ 0) (hl : X.cache.length ≤ 1000) (h : RK w base R vS vC vB X) : Calls Try.prog 45 #[.pointer (some ⟨R, 0, none⟩)] w (LdQ w (0, [], (rreadX X 1).2)) := by
  obtain ⟨s0, r0, e0⟩ : ∃ s0 r0, rreadX X 0 = (s0, r0) := ⟨_, _, rfl⟩
  obtain ⟨s1, r1, e1⟩ : ∃ s1 r1, rreadX X 1 = (s1, r1) := ⟨_, _, rfl⟩
  rw [e1] at he ⊢
  rw [e0] at he0
  simp only at he he0 ⊢
  subst he0
  have E0 := Aside0.mk e0
  have E1 := Aside0.mk e1
  have HX := Aside0.mk h
  have HL := Aside0.mk hl
  have hb : (r1 != 0) = true := by simpa using he
  clear h hl e0 e1 he
  go_enter Try.func45, Try.ntmps45
  go_wp2_with (first
    | (go_at_call 27; (with_reducible refine (rread_calls w base R vS vC vB X 0 0 s0 E0.out HX.out HL.out).mono ?_); rintro e w1 ⟨A1, c1, rfl, hr, hb⟩; have HB1 := Aside0.mk hb; have HX1 := Aside0.mk (HX.out.fresh hb); clear hr hb)
    | (go_at_call 27; (with_reducible refine (rread_calls w1 base R vS vC vB X 1 r1 s1 E1.out HX1.out HL.out).mono ?_); rintro e w2 ⟨A2, c2, rfl, hr, hb⟩; have HB2 := Aside0.mk (HB1.out.trans (hb.mono HB1.out.size)); clear hr hb))
  go_ret3
  exact ⟨none, 0, rfl, Kd.R_nil _ _ _ _ _, HB2.out⟩
theorem rload_ok (he0 : (rreadX X 0).2 = 0) (he1 : (rreadX X 1).2 = 0) (hb0 : isBytes (rreadX X 0).1) (hb1 : isBytes (rreadX X 1).1) (h64 : (rreadX X 0).1.length ≤ 64 ∧ (rreadX X 1).1.length ≤ 64) (hl : X.cache.length ≤ 1000) (h : RK w base R vS vC vB X) :
    Calls Try.prog 45 #[.pointer (some ⟨R, 0, none⟩)] w (LdQ w (pickL (unP (rreadX X 0).1) (unP (rreadX X 1).1))) := by
  obtain ⟨s0, r0, e0⟩ : ∃ s0 r0, rreadX X 0 = (s0, r0) := ⟨_, _, rfl⟩
  obtain ⟨s1, r1, e1⟩ : ∃ s1 r1, rreadX X 1 = (s1, r1) := ⟨_, _, rfl⟩
  rw [e0] at he0 hb0 h64 ⊢
  rw [e1] at he1 hb1 h64 ⊢
  simp only at he0 he1 hb0 hb1 h64 ⊢
  subst he0 he1
  have E0 := Aside0.mk e0
  have E1 := Aside0.mk e1
  have HX := Aside0.mk h
  have HL := Aside0.mk hl
  have HU0 := Aside0.mk (fun (w : World) (A : Option Addr) (c : Nat) (h : SB w A c s0) => un_calls w A c s0 (Nat.le_trans h64.1 (by omega)) h hb0)
  have HU1 := Aside0.mk (fun (w : World) (A : Option Addr) (c : Nat) (h : SB w A c s1) => un_calls w A c s1 (Nat.le_trans h64.2 (by omega)) h hb1)
  obtain ⟨u, hu⟩ : ∃ u, unP s0 = u := ⟨_, rfl⟩
  obtain ⟨v, hv⟩ : ∃ v, unP s1 = v := ⟨_, rfl⟩
  unfold UnQ at HU0 HU1
  have hue := (unP_bytes s0 hb0 (g := u.1) (l := u.2.1) (e := u.2.2) hu).2.2.2
  have hve := (unP_bytes s1 hb1 (g := v.1) (l := v.2.1) (e := v.2.2) hv).2.2.2
  rw [hu] at HU0 ⊢
  rw [hv] at HU1 ⊢
  obtain ⟨ug, ul, ue⟩ := u
  obtain ⟨vg, vl, ve⟩ := v
  simp only at HU0 HU1 hue hve
  clear h hl e0 e1 hb0 hb1 h64 hu hv
  rcases hue with rfl | rfl <;> rcases hve with rfl | rfl
  · by_cases hgt : ug < vg
    · have HP := Aside0.mk (show pickL (ug, ul, 0) (vg, vl, 0) = (vg, vl, 0) from by simp [pickL, stepL, hgt])
      go_enter Try.func45, Try.ntmps45
      go_wp2_with (first
        | (go_at_call 27; (with_reducible refine (rread_calls w base R vS vC vB X 0 0 s0 E0.out HX.out HL.out).mono ?_); rintro e w1 ⟨A1, c1, rfl, hr, hb⟩; have HS1 := Aside0.mk (SB.of_R hr); have HB1 := Aside0.mk hb; have HX1 := Aside0.mk (HX.out.fresh hb); clear hr hb)
        | (go_at_call 27; (with_reducible refine (rread_calls w1 base R vS vC vB X 1 0 s1 E1.out HX1.out HL.out).mono ?_); rintro e w2 ⟨A2, c2, rfl, hr, hb⟩; have HS2 := Aside0.mk (SB.of_R hr); have HT2 := Aside0.mk (HS1.out.move hb); have HB2 := Aside0.mk (HB1.out.trans (hb.mono HB1.out.size)); clear hr hb)
        | (go_at_call 40; (with_reducible refine (HU0.out w2 A1 c1 HT2.out).mono ?_); rintro e w3 ⟨A3, c3, rfl, hr, hb⟩; have HR3 := Aside0.mk hr; have HS3 := Aside0.mk (HS2.out.move hb); have HB3 := Aside0.mk (HB2.out.trans (hb.mono HB2.out.size)); clear hr hb)
        | (go_at_call 40; (with_reducible refine (HU1.out w3 A2 c2 HS3.out).mono ?_); rintro e w4 ⟨A4, c4, rfl, hr, hb⟩; have HR4 := Aside0.mk (OwnL.low hr HB3.out.size); have HR3' := Aside0.mk (OwnL.low (Kd.R_below HR3.out hb) HB2.out.size); have HB4 := Aside0.mk (HB3.out.trans (hb.mono HB3.out.size)); clear hr hb))
      go_ret3
      unfold LdQ
      rw [HP.out]
      exact ⟨A4, c4, rfl, OwnL.low HR4.out (Nat.le_refl _), HB4.out⟩
    · have HP := Aside0.mk (show pickL (ug, ul, 0) (vg, vl, 0) = (ug, ul, 0) from by simp [pickL, stepL, hgt])
      go_enter Try.func45, Try.ntmps45
      go_wp2_with (first
        | (go_at_call 27; (with_reducible refine (rread_calls w base R vS vC vB X 0 0 s0 E0.out HX.out HL.out).mono ?_); rintro e w1 ⟨A1, c1, rfl, hr, hb⟩; have HS1 := Aside0.mk (SB.of_R hr); have HB1 := Aside0.mk hb; have HX1 := Aside0.mk (HX.out.fresh hb); clear hr hb)
        | (go_at_call 27; (with_reducible refine (rread_calls w1 base R vS vC vB X 1 0 s1 E1.out HX1.out HL.out).mono ?_); rintro e w2 ⟨A2, c2, rfl, hr, hb⟩; have HS2 := Aside0.mk (SB.of_R hr); have HT2 := Aside0.mk (HS1.out.move hb); have HB2 := Aside0.mk (HB1.out.trans (hb.mono HB1.out.size)); clear hr hb)
        | (go_at_call 40; (with_reducible refine (HU0.out w2 A1 c1 HT2.out).mono ?_); rintro e w3 ⟨A3, c3, rfl, hr, hb⟩; have HR3 := Aside0.mk hr; have HS3 := Aside0.mk (HS2.out.move hb); have HB3 := Aside0.mk (HB2.out.trans (hb.mono HB2.out.size)); clear hr hb)
        | (go_at_call 40; (with_reducible refine (HU1.out w3 A2 c2 HS3.out).mono ?_); rintro e w4 ⟨A4, c4, rfl, hr, hb⟩; have HR4 := Aside0.mk (OwnL.low hr HB3.out.size); have HR3' := Aside0.mk (OwnL.low (Kd.R_below HR3.out hb) HB2.out.size); have HB4 := Aside0.mk (HB3.out.trans (hb.mono HB3.out.size)); clear hr hb))
      go_ret3
      unfold LdQ
      rw [HP.out]
      exact ⟨A3, c3, rfl, HR3'.out, HB4.out⟩
  · have HP := Aside0.mk (show pickL (ug, ul, 0) (vg, vl, 60) = (ug, ul, 0) from by simp [pickL, stepL])
    go_enter Try.func45, Try.ntmps45
    go_wp2_with (first
      | (go_at_call 27; (with_reducible refine (rread_calls w base R vS vC vB X 0 0 s0 E0.out HX.out HL.out).mono ?_); rintro e w1 ⟨A1, c1, rfl, hr, hb⟩; have HS1 := Aside0.mk (SB.of_R hr); have HB1 := Aside0.mk hb; have HX1 := Aside0.mk (HX.out.fresh hb); clear hr hb)
      | (go_at_call 27; (with_reducible refine (rread_calls w1 base R vS vC vB X 1 0 s1 E1.out HX1.out HL.out).mono ?_); rintro e w2 ⟨A2, c2, rfl, hr, hb⟩; have HS2 := Aside0.mk (SB.of_R hr); have HT2 := Aside0.mk (HS1.out.move hb); have HB2 := Aside0.mk (HB1.out.trans (hb.mono HB1.out.size)); clear hr hb)
      | (go_at_call 40; (with_reducible refine (HU0.out w2 A1 c1 HT2.out).mono ?_); rintro e w3 ⟨A3, c3, rfl, hr, hb⟩; have HR3 := Aside0.mk hr; have HS3 := Aside0.mk (HS2.out.move hb); have HB3 := Aside0.mk (HB2.out.trans (hb.mono HB2.out.size)); clear hr hb)
      | (go_at_call 40; (with_reducible refine (HU1.out w3 A2 c2 HS3.out).mono ?_); rintro e w4 ⟨A4, c4, rfl, hr, hb⟩; have HR4 := Aside0.mk (OwnL.low hr HB3.out.size); have HR3' := Aside0.mk (OwnL.low (Kd.R_below HR3.out hb) HB2.out.size); have HB4 := Aside0.mk (HB3.out.trans (hb.mono HB3.out.size)); clear hr hb))
    go_ret3
    unfold LdQ
    rw [HP.out]
    exact ⟨A3, c3, rfl, HR3'.out, HB4.out⟩
  · have HP := Aside0.mk (show pickL (ug, ul, 60) (vg, vl, 0) = (vg, vl, 0) from by simp [pickL, stepL])
    go_enter Try.func45, Try.ntmps45
    go_wp2_with (first
      | (go_at_call 27; (with_reducible refine (rread_calls w base R vS vC vB X 0 0 s0 E0.out HX.out HL.out).mono ?_); rintro e w1 ⟨A1, c1, rfl, hr, hb⟩; have HS1 := Aside0.mk (SB.of_R hr); have HB1 := Aside0.mk hb; have HX1 := Aside0.mk (HX.out.fresh hb); clear hr hb)
      | (go_at_call 27; (with_reducible refine (rread_calls w1 base R vS vC vB X 1 0 s1 E1.out HX1.out HL.out).mono ?_); rintro e w2 ⟨A2, c2, rfl, hr, hb⟩; have HS2 := Aside0.mk (SB.of_R hr); have HT2 := Aside0.mk (HS1.out.move hb); have HB2 := Aside0.mk (HB1.out.trans (hb.mono HB1.out.size)); clear hr hb)
      | (go_at_call 40; (with_reducible refine (HU0.out w2 A1 c1 HT2.out).mono ?_); rintro e w3 ⟨A3, c3, rfl, hr, hb⟩; have HR3 := Aside0.mk hr; have HS3 := Aside0.mk (HS2.out.move hb); have HB3 := Aside0.mk (HB2.out.trans (hb.mono HB2.out.size)); clear hr hb)
      | (go_at_call 40; (with_reducible refine (HU1.out w3 A2 c2 HS3.out).mono ?_); rintro e w4 ⟨A4, c4, rfl, hr, hb⟩; have HR4 := Aside0.mk (OwnL.low hr HB3.out.size); have HR3' := Aside0.mk (OwnL.low (Kd.R_below HR3.out hb) HB2.out.size); have HB4 := Aside0.mk (HB3.out.trans (hb.mono HB3.out.size)); clear hr hb))
    go_ret3
    unfold LdQ
    rw [HP.out]
    exact ⟨A4, c4, rfl, HR4.out, HB4.out⟩
  · have HP := Aside0.mk (show pickL (ug, ul, 60) (vg, vl, 60) = (0, [], 60) from by simp [pickL, stepL])
    go_enter Try.func45, Try.ntmps45
    go_wp2_with (first
      | (go_at_call 27; (with_reducible refine (rread_calls w base R vS vC vB X 0 0 s0 E0.out HX.out HL.out).mono ?_); rintro e w1 ⟨A1, c1, rfl, hr, hb⟩; have HS1 := Aside0.mk (SB.of_R hr); have HB1 := Aside0.mk hb; have HX1 := Aside0.mk (HX.out.fresh hb); clear hr hb)
      | (go_at_call 27; (with_reducible refine (rread_calls w1 base R vS vC vB X 1 0 s1 E1.out HX1.out HL.out).mono ?_); rintro e w2 ⟨A2, c2, rfl, hr, hb⟩; have HS2 := Aside0.mk (SB.of_R hr); have HT2 := Aside0.mk (HS1.out.move hb); have HB2 := Aside0.mk (HB1.out.trans (hb.mono HB1.out.size)); clear hr hb)
      | (go_at_call 40; (with_reducible refine (HU0.out w2 A1 c1 HT2.out).mono ?_); rintro e w3 ⟨A3, c3, rfl, hr, hb⟩; have HR3 := Aside0.mk hr; have HS3 := Aside0.mk (HS2.out.move hb); have HB3 := Aside0.mk (HB2.out.trans (hb.mono HB2.out.size)); clear hr hb)
      | (go_at_call 40; (with_reducible refine (HU1.out w3 A2 c2 HS3.out).mono ?_); rintro e w4 ⟨A4, c4, rfl, hr, hb⟩; have HR4 := Aside0.mk (OwnL.low hr HB3.out.size); have HR3' := Aside0.mk (OwnL.low (Kd.R_below HR3.out hb) HB2.out.size); have HB4 := Aside0.mk (HB3.out.trans (hb.mono HB3.out.size)); clear hr hb))
    go_ret3
    unfold LdQ
    rw [HP.out]
    exact ⟨none, 0, rfl, Kd.R_nil _ _ _ _ _, HB4.out⟩
theorem rload_calls (hr : rloadX X = r) (hb0 : isBytes (rreadX X 0).1) (hb1 : isBytes (rreadX X 1).1) (h64 : (rreadX X 0).1.length ≤ 64 ∧ (rreadX X 1).1.length ≤ 64) (hl : X.cache.length ≤ 1000) (h : RK w base R vS vC vB X) :
    Calls Try.prog 45 #[.pointer (some ⟨R, 0, none⟩)] w (LdQ w r) := by
  subst hr
  unfold rloadX
  split
  · exact rload_r0 (by assumption) hl h
  · rename_i h0
    split
    · exact rload_r1 (by simpa using h0) (by assumption) hl h
    · rename_i h1
      exact rload_ok (by simpa using h0) (by simpa using h1) hb0 hb1 h64 hl h
end
end Go.Proofs.Ytlepcmljmibdnaa
namespace Go.Proofs.Ytlepcmljmibdnaa
open Go.RowKit Go.Proofs.YtlepcmljmibdnaaW.PrintWords Go.Proofs.YtlepcmljmibdnaaW.PrintLast Go.Proofs.YtlepcmljmibdnaaW.PrintMore PWalOpens
set_option linter.unusedVariables false
set_option linter.unusedSimpArgs false
def view (D : PD) (a : Int) : List Int := readL ((D.kept a).getD zsec) D.cache a
def updS (S : Int → List Int) (at_ : Int) (s : List Int) : Int → List Int := fun a => if a = at_ then s else S a
theorem readL_snoc (s : List Int) (l : List (Int × List Int)) (p : Int × List Int) (a : Int) : readL s (l ++ [p]) a = if p.1 = a then p.2 else readL s l a := by
  unfold readL
  rw [List.foldl_append]
  rfl
theorem keepAll_view (l : List (Int × List Int)) : ∀ (D : PD) (a : Int), ((keepAll D l).kept a).getD zsec = readL ((D.kept a).getD zsec) l a := by
  induction l with
  | nil => intro D a; rfl
  | cons p l ih =>
    intro D a
    show ((keepAll (keepP D p) l).kept a).getD zsec = readL _ (p :: l) a
    rw [ih (keepP D p) a, keepP_at]
    unfold readL
    rw [List.foldl_cons]
    by_cases h : a = p.1
    · rw [if_pos h, if_pos h.symm]
    · rw [if_neg h, if_neg (fun e => h e.symm)]
theorem keepAll_keeps (l : List (Int × List Int)) : ∀ D : PD, (keepAll D l).n = D.n ∧ (keepAll D l).bad = D.bad ∧ (keepAll D l).armed = D.armed ∧ (keepAll D l).left = D.left ∧ (keepAll D l).dead = D.dead := by
  induction l with
  | nil => intro D; exact ⟨rfl, rfl, rfl, rfl, rfl⟩
  | cons p l ih => intro D; exact ih (keepP D p)
/-- alive, not armed, no bad sector -/
structure Rdy (D : PD) (n : Int) (S : Int → List Int) : Prop where
  dead : D.dead = false
  armed : D.armed = false
  bad : ∀ a, D.bad a = false
  n : D.n = n
  view : ∀ a, view D a = S a
section
variable {D : PD} {n : Int} {S : Int → List Int}
theorem Rdy.act (h : Rdy D n S) : actP D = (D, 0) := by
  unfold actP
  rw [h.dead, h.armed]
  rfl
theorem Rdy.write (h : Rdy D n S) (at_ : Int) (b : List Int) (h0 : 0 ≤ at_) (h1 : at_ < n) (hb : b.length ≤ 64) : writeP D at_ b = ({ D with cache := D.cache ++ [(at_, pad b)] }, 0) := by
  unfold writeP
  rw [h.act, h.dead]
  simp only [Bool.false_eq_true, if_false]
  rw [if_neg (by rw [h.n]; unfold inB; simp; omega), if_neg (by omega), if_neg (by simp), ← h.dead]
theorem Rdy.wrote (h : Rdy D n S) (at_ : Int) (b : List Int) : Rdy { D with cache := D.cache ++ [(at_, pad b)] } n (updS S at_ (pad b)) := by
  refine ⟨h.dead, h.armed, h.bad, h.n, fun a => ?_⟩
  have hv := h.view a
  unfold Proofs.Ytlepcmljmibdnaa.view at hv ⊢
  show readL _ (D.cache ++ _) a = _
  rw [readL_snoc, hv]
  unfold updS
  by_cases e : a = at_
  · rw [if_pos e, if_pos e.symm]
  · rw [if_neg e, if_neg (fun h => e h.symm)]
theorem Rdy.flush (h : Rdy D n S) : (flushP D).2 = 0 ∧ Rdy (flushP D).1 n S ∧ (flushP D).1.cache = [] := by
  unfold flushP
  rw [h.act]
  rw [if_neg (by simp)]
  obtain ⟨k1, k2, k3, k4, k5⟩ := keepAll_keeps D.cache D
  refine ⟨rfl, ⟨k5.trans h.dead, k3.trans h.armed, fun a => by show (keepAll D D.cache).bad a = false; rw [k2]; exact h.bad a, k1.trans h.n, fun a => ?_⟩, rfl⟩
  have := keepAll_view D.cache D a
  have hv := h.view a
  unfold Proofs.Ytlepcmljmibdnaa.view at hv ⊢
  exact this.trans hv
theorem Rdy.read (h : Rdy D n S) (a : Int) (h0 : 0 ≤ a) (h1 : a < n) : readP D a = (S a, 0) := by
  unfold readP
  rw [h.dead, h.bad a]
  simp only [Bool.false_eq_true, if_false]
  rw [if_neg (by rw [h.n]; unfold inB; simp; omega)]
  have hv := h.view a
  unfold Proofs.Ytlepcmljmibdnaa.view at hv
  rw [hv]
theorem Rdy.save (h : Rdy D n S) (hn : 2 ≤ n) (g : Int) (l : List Int) (hg : 0 ≤ g) (hl : l.length ≤ 4) : (saveP D g l).2 = 0 ∧ Rdy (saveP D g l).1 n (updS S (g % 2) (pad (slotB g l))) ∧ (saveP D g l).1.cache = [] := by
  obtain ⟨f1, f2, f3⟩ := h.flush
  have hw := f2.write (g % 2) (slotB g l) (by omega) (by omega) (slotB_64 g l hl)
  have hw2 := f2.wrote (g % 2) (slotB g l)
  obtain ⟨q1, q2, q3⟩ := hw2.flush
  unfold saveP
  rw [if_neg (by omega), if_neg (by rw [f1]; simp), hw, if_neg (by simp)]
  exact ⟨q1, q2, q3⟩
theorem Rdy.format (h : Rdy D n S) (hn : 2 ≤ n) (l : List Int) (hl : l.length ≤ 4) : (formatP D l).2 = 0 ∧ Rdy (formatP D l).1 n (updS (updS (updS S 0 zsec) 1 zsec) 0 (pad (slotB 0 l))) ∧ (formatP D l).1.cache = [] := by
  have w1 := h.write 0 [] (by omega) (by omega) (by simp)
  have w1' := h.wrote 0 []
  have w2 := w1'.write 1 [] (by omega) (by omega) (by simp)
  have w2' := w1'.wrote 1 []
  have q := w2'.save hn 0 l (by omega) hl
  unfold formatP
  rw [w1, if_neg (by simp), w2, if_neg (by simp)]
  exact q
theorem Rdy.load (h : Rdy D n S) (hn : 2 ≤ n) : loadP D = pickL (unP (S 0)) (unP (S 1)) := by
  unfold loadP
  rw [h.read 0 (by omega) (by omega), h.read 1 (by omega) (by omega), if_neg (by simp), if_neg (by simp)]
end
theorem rdy_new (n : Int) : Rdy (newP n) (min (max n 0) 4096) (fun _ => zsec) := ⟨rfl, rfl, fun _ => rfl, rfl, fun _ => rfl⟩
theorem unP_zsec : unP zsec = (0, [], 60) := by
  unfold unP
  rw [if_neg (by decide)]
theorem unP_pad (g : Int) (l : List Int) (hg : 0 ≤ g ∧ g < 18446744073709551616) (hl : l.length ≤ 4) (hn : ∀ n ∈ l, 0 ≤ n ∧ n < 18446744073709551616) : unP (pad (slotB g l)) = (g, l, 0) := unP_slot g l _ hg hl hn
/-- what a disk holds: bytes, sectors whole -/
structure OKD (D : PD) : Prop where
  ok : okD D
  c64 : ∀ p ∈ D.cache, p.2.length = 64
theorem pad_bytes {b : List Int} (h : isBytes b) : isBytes (pad b) := by
  intro x hx
  unfold pad at hx
  rcases List.mem_append.1 hx with hx | hx
  · exact h x hx
  · have := List.eq_of_mem_replicate hx
    omega
theorem OKD.act {D : PD} (h : OKD D) : OKD (actP D).1 := by
  have hk : (actP D).1.kept = D.kept := by unfold actP; simp only; (repeat' split) <;> rfl
  have hc : (actP D).1.cache = D.cache := by unfold actP; simp only; (repeat' split) <;> rfl
  exact ⟨⟨by rw [hk]; exact h.ok.1, by rw [hc]; exact h.ok.2⟩, by rw [hc]; exact h.c64⟩
theorem OKD.write {D : PD} (h : OKD D) (at_ : Int) {b : List Int} (hb : isBytes b) : OKD (writeP D at_ b).1 := by
  unfold writeP
  split
  · exact h
  · split
    · exact h
    · split
      · exact h
      · split
        · exact h.act
        · rename_i h64 _
          have h' := h.act
          refine ⟨⟨h'.ok.1, fun p hp => ?_⟩, fun p hp => ?_⟩
          · rcases List.mem_append.1 hp with hp | hp
            · exact h'.ok.2 p hp
            · rw [List.mem_singleton] at hp; subst hp; exact pad_bytes hb
          · rcases List.mem_append.1 hp with hp | hp
            · exact h'.c64 p hp
            · rw [List.mem_singleton] at hp; subst hp; exact pad_length b (by omega)
theorem OKD.keep {D : PD} (h : OKD D) {p : Int × List Int} (hp : isBytes p.2) : OKD (keepP D p) := by
  refine ⟨⟨fun a s hs => ?_, h.ok.2⟩, h.c64⟩
  unfold keepP at hs
  simp only at hs
  split at hs
  · split at hs
    · cases hs
    · cases hs; exact hp
  · exact h.ok.1 a s hs
theorem OKD.keepAll (l : List (Int × List Int)) : ∀ {D : PD}, OKD D → (∀ p ∈ l, isBytes p.2) → OKD (keepAll D l) := by
  induction l with
  | nil => intro D h _; exact h
  | cons p l ih => intro D h hl; exact ih (h.keep (hl p (by simp))) (fun q hq => hl q (by simp [hq]))
theorem OKD.flush {D : PD} (h : OKD D) : OKD (flushP D).1 := by
  unfold flushP
  split
  · exact h.act
  · have h' := h.act
    have hk := OKD.keepAll (actP D).1.cache h' h'.ok.2
    exact ⟨⟨hk.ok.1, fun p hp => by cases hp⟩, fun p hp => by cases hp⟩
theorem OKD.save {D : PD} (h : OKD D) (g : Int) (l : List Int) (hg : 0 ≤ g ∧ g < 18446744073709551616) (hn : ∀ n ∈ l, 0 ≤ n ∧ n < 18446744073709551616) : OKD (saveP D g l).1 := by
  unfold saveP
  split
  · exact h
  · rename_i hl
    split
    · exact h.flush
    · split
      · exact h.flush.write _ (slotB_bytes g l hg hn (by omega))
      · exact (h.flush.write _ (slotB_bytes g l hg hn (by omega))).flush
theorem OKD.new (n : Int) : OKD (newP n) := ⟨⟨fun a s hs => (by cases hs), fun p hp => by cases hp⟩, fun p hp => by cases hp⟩
theorem OKD.format {D : PD} (h : OKD D) (l : List Int) (hn : ∀ n ∈ l, 0 ≤ n ∧ n < 18446744073709551616) : OKD (formatP D l).1 := by
  have nil : isBytes [] := fun x hx => by cases hx
  unfold formatP
  split
  · exact h.write 0 nil
  · split
    · exact (h.write 0 nil).write 1 nil
    · exact ((h.write 0 nil).write 1 nil).save 0 l (by omega) hn
end Go.Proofs.Ytlepcmljmibdnaa
namespace Go.Proofs.Ytlepcmljmibdnaa
open Go.RowKit Go.Proofs.YtlepcmljmibdnaaW.PrintWords Go.Proofs.YtlepcmljmibdnaaW.PrintLast Go.Proofs.YtlepcmljmibdnaaW.PrintMore PWalOpens
set_option linter.unusedVariables false
set_option linter.unusedSimpArgs false
section
variable {w0 w : World} {F : Nat → Prop} {B M Bd : Nat} {vc : Value} {D D1 : PD}
theorem at_save {g : Int} {l : List Int} {A : Option Addr} {c : Nat} {e : Int} (hsv : saveP D g l = (D1, e)) (hg : 0 ≤ g ∧ g < 18446744073709551616) (hn : ∀ n ∈ l, 0 ≤ n ∧ n < 18446744073709551616) (hC : (Kd.int .u64).C w A l.length l) (hc : D.cache.length ≤ 900) (h : At w0 F w B M Bd vc D) :
    Calls Try.prog 42 #[.pointer (some ⟨B, 0, none⟩), .int .u64 g, .slice A l.length c] w fun r w' => r = .returned (.int .i64 e) ∧ ∃ vc', At w0 F w' B M Bd vc' D1 := by
  refine (save_calls hsv hg hn hC hc h.dk).mono ?_
  rintro r w' ⟨rfl, vc', hd⟩
  exact ⟨rfl, vc', h.then_ hd⟩
theorem at_format {l : List Int} {A : Option Addr} {c : Nat} {e : Int} (hf : formatP D l = (D1, e)) (hc : D.cache.length ≤ 800) (hn : ∀ n ∈ l, 0 ≤ n ∧ n < 18446744073709551616) (hC : ∀ w', Chg w w' (FP B M Bd vc) → (Kd.int .u64).C w' A l.length l) (h : At w0 F w B M Bd vc D) :
    Calls Try.prog 46 #[.pointer (some ⟨B, 0, none⟩), .slice A l.length c] w fun r w' => r = .returned (.int .i64 e) ∧ ∃ vc', At w0 F w' B M Bd vc' D1 := by
  refine (format_calls hf hc hn hC h.dk).mono ?_
  rintro r w' ⟨rfl, vc', hd⟩
  exact ⟨rfl, vc', h.then_ hd⟩
theorem at_load {r : Int × List Int × Int} (hr : loadP D = r) (ho : OKD D) (hl : D.cache.length ≤ 1000) (h : At w0 F w B M Bd vc D) :
    Calls Try.prog 44 #[.pointer (some ⟨B, 0, none⟩)] w fun e w' => ∃ A c, e = .returned (.tuple #[.int .u64 r.1, .slice A r.2.1.length c, .int .i64 r.2.2]) ∧ Kd.R (Kd.int .u64) 56 w' w.heap.size (fun k => w.heap.size ≤ k) (.slice A r.2.1.length c) r.2.1 ∧ Below w.heap.size w w' ∧ At w0 F w' B M Bd vc D := by
  refine (load_calls hr ho.ok ho.c64 hl h.dk).mono ?_
  rintro e w' ⟨A, c, rfl, hr, hb⟩
  exact ⟨A, c, rfl, hr, hb, h.grow (.of_below hb)⟩
/-- one number as an argument -/
theorem save_lit (g x e : Int) (hsv : saveP D g [x] = (D1, e)) (hg : 0 ≤ g ∧ g < 18446744073709551616) (hx : 0 ≤ x ∧ x < 18446744073709551616) (hc : D.cache.length ≤ 900) (h : At w0 F w B M Bd vc D) :
    Calls Try.prog 42 #[.pointer (some ⟨B, 0, none⟩), .int .u64 g, .slice (some ⟨w.heap.size, 0, none⟩) 1 1] (w.alloc (.cells #[.int .u64 x] 56)) fun r w' => r = .returned (.int .i64 e) ∧ ∃ vc', At w0 F w' B M Bd vc' D1 :=
  at_save (l := [x]) (A := some ⟨w.heap.size, 0, none⟩) (c := 1) hsv hg (by simp; exact hx) (lit_Cu w [x] (fun _ => False) (by simp) (fun h => h) _ (Chg.refl _ _)) hc (h.grow (.of_below (Below.alloc (Below.refl w.heap.size w) (Nat.le_refl _) (.cells #[.int .u64 x] 56))))
theorem format_lit (x e : Int) (hf : formatP D [x] = (D1, e)) (hx : 0 ≤ x ∧ x < 18446744073709551616) (hc : D.cache.length ≤ 800) (h : At w0 F w B M Bd vc D) :
    Calls Try.prog 46 #[.pointer (some ⟨B, 0, none⟩), .slice (some ⟨w.heap.size, 0, none⟩) 1 1] (w.alloc (.cells #[.int .u64 x] 56)) fun r w' => r = .returned (.int .i64 e) ∧ ∃ vc', At w0 F w' B M Bd vc' D1 :=
  at_format (l := [x]) (A := some ⟨w.heap.size, 0, none⟩) (c := 1) hf hc (by simp; exact hx) (fun w' hc' => lit_Cu w [x] (FP B M Bd vc) (by simp) (fun hk => absurd (h.dk.fp _ hk).2 (Nat.lt_irrefl _)) w' hc') (h.grow (.of_below (Below.alloc (Below.refl w.heap.size w) (Nat.le_refl _) (.cells #[.int .u64 x] 56))))
end
set_option maxRecDepth 100000 in
theorem awake6_calls (w : World) : Calls Try.prog 36 #[] w fun e w' => e = .returned (.bool true) ∧ Below w.heap.size w w' := by
  have r0 := rdy_new 2
  have hm : min (max (2 : Int) 0) 4096 = 2 := by decide
  rw [hm] at r0
  obtain ⟨f1, f2, f3⟩ := r0.format (by omega) [7] (by simp)
  obtain ⟨D1, hD1⟩ : ∃ D1, (formatP (newP 2) [7]).1 = D1 := ⟨_, rfl⟩
  have HF := Aside0.mk (show formatP (newP 2) [7] = (D1, 0) from by rw [← hD1, ← f1])
  have HO1 := (OKD.new 2).format [7] (by simp)
  rw [hD1] at f2 f3 HO1
  obtain ⟨s1, s2, s3⟩ := f2.save (by omega) 1 [8] (by omega) (by simp)
  obtain ⟨D2, hD2⟩ : ∃ D2, (saveP D1 1 [8]).1 = D2 := ⟨_, rfl⟩
  have HS := Aside0.mk (show saveP D1 1 [8] = (D2, 0) from by rw [← hD2, ← s1])
  have HO2 := HO1.save 1 [8] (by omega) (by simp)
  rw [hD2] at s2 s3 HO2
  have HL := Aside0.mk (show loadP D2 = (1, [8], 0) from by
    rw [s2.load (by omega)]
    have e0 : unP (pad (slotB 0 [7])) = (0, [7], 0) := unP_pad 0 [7] (by omega) (by simp) (by simp)
    have e1 : unP (pad (slotB 1 [8])) = (1, [8], 0) := unP_pad 1 [8] (by omega) (by simp) (by simp)
    simp only [updS]
    rw [if_neg (by decide), if_pos (by decide), if_pos (by decide), e0, e1]
    rfl)
  have HOK := Aside0.mk HO2
  have HC1 := Aside0.mk (show D1.cache.length ≤ 900 by rw [f3]; simp)
  have HC2 := Aside0.mk (show D2.cache.length ≤ 1000 by rw [s3]; simp)
  have HC0 := Aside0.mk (show (newP 2).cache.length ≤ 800 by decide)
  have H7 := Aside0.mk (show (0 : Int) ≤ 7 ∧ (7 : Int) < 18446744073709551616 by omega)
  have H8 := Aside0.mk (show (0 : Int) ≤ 8 ∧ (8 : Int) < 18446744073709551616 by omega)
  have H1 := Aside0.mk (show (0 : Int) ≤ 1 ∧ (1 : Int) < 18446744073709551616 by omega)
  clear r0 f1 f2 f3 s1 s2 s3 hD1 hD2 HO1 HO2 hm
  go_enter Try.func36, Try.ntmps36
  go_wp2_with (first
    | (go_at_call 15; (with_reducible refine (new_at w w 2 (Below.refl _ _)).mono ?_); rintro e w1 ⟨B, M, Bd, rfl, hd⟩; have HD1 := Aside0.mk hd; clear hd)
    | (go_at_call 46; (with_reducible refine (format_lit 7 0 HF.out H7.out HC0.out HD1.out).mono ?_); rintro e w2 ⟨rfl, vc2, hd⟩; have HD2 := Aside0.mk hd; clear hd)
    | (go_at_call 42; (with_reducible refine (save_lit 1 8 0 HS.out H1.out H8.out HC1.out HD2.out).mono ?_); rintro e w3 ⟨rfl, vc3, hd⟩; have HD3 := Aside0.mk hd; clear hd)
    | (go_at_call 44; (with_reducible refine (at_load HL.out HOK.out HC2.out HD3.out).mono ?_); rintro e w4 ⟨A4, c4, rfl, hr, hb, hd⟩; obtain ⟨g4, c4', hv⟩ := R_addr hr (by simp); cases hv; obtain ⟨a4, ea, x4⟩ := Kd.at_int (Kd.R_reads' hr).2.2 (0 : Int) (by omega) (by simp); cases ea; have x5 : w4.cell? ⟨g4, 0, none⟩ = some (.int .u64 8) := x4; clear x4; have HD4 := Aside0.mk hd; clear hd hr hb))
  go_ret
  exact ⟨rfl, HD4.out.below⟩
end Go.Proofs.Ytlepcmljmibdnaa
namespace Go.Proofs.Ytlepcmljmibdnaa
open Go.RowKit Go.Proofs.YtlepcmljmibdnaaW.PrintWords Go.Proofs.YtlepcmljmibdnaaW.PrintLast Go.Proofs.YtlepcmljmibdnaaW.PrintMore PWalOpens
set_option linter.unusedVariables false
set_option linter.unusedSimpArgs false
theorem nums_step {a b : List Int} {i : Nat} {x y : Int} (he : a.length = b.length) (hx : a[i]? = some x) (hy : b[i]? = some y) (h : x ≠ y) : a ≠ b := fun e => by
  subst e
  rw [hx] at hy
  exact h (Option.some.inj hy)
theorem same_calls (w : World) (A B : Option Addr) (c d : Nat) (a b : List Int) (q : Bool) (hq : decide (a = b) = q) (hl : a.length ≤ 1000000 ∧ b.length ≤ 1000000) (ha : (Kd.int .u64).C w A a.length a) (hb : (Kd.int .u64).C w B b.length b) :
    Calls Try.prog 41 #[.slice A a.length c, .slice B b.length d] w fun e w' => e = .returned (.bool q) ∧ Drawn0 w w' := by
  have HA := Aside0.mk ha
  have HB := Aside0.mk hb
  have hl1 := hl.1
  clear ha hb
  by_cases he : a.length = b.length
  · have c0 : ((a.length : Int) == (b.length : Int)) = true := by simp; omega
    have c1 : ((a.length : Int) != (b.length : Int)) = false := by simp; omega
    have c2 : (a.length == b.length) = true := by simpa using he
    have HE := Aside0.mk he
    have HQ := Aside0.mk hq
    clear he hq hl
    go_enter Try.func41, Try.ntmps41
    go_wp2
    go_loopg [13] a.length (fun kq v13 w' => ∃ i : Nat, v13 = .int .i64 (i : Int) ∧ Aside0 (i + kq = a.length) ∧ Aside0 (∀ j x y, j < i → a[j]? = some x → b[j]? = some y → x = y) ∧ Drawn0 w w')
    case atStart => exact ⟨0, rfl, ⟨by omega⟩, ⟨fun j x y h => by omega⟩, Drawn0.refl _⟩
    case round =>
      obtain ⟨i, rfl, HI, HZ, ⟨m1, rfl⟩⟩ := hrel
      clear c0 c1 c2
      by_cases hi : i < a.length
      · have hib : i < b.length := by have := HE.out; omega
        obtain ⟨x, hx⟩ : ∃ x, a[i]? = some x := ⟨_, List.getElem?_eq_getElem hi⟩
        obtain ⟨y, hy⟩ : ∃ y, b[i]? = some y := ⟨_, List.getElem?_eq_getElem hib⟩
        obtain ⟨a2, e, x0⟩ := Kd.at_int HA.out (i : Int) (by omega) (by omega)
        subst e
        obtain ⟨b2, e, y0⟩ := Kd.at_int HB.out (i : Int) (by omega) (by omega)
        subst e
        rw [show rd a (i : Int) = x by simp [rd, List.getD, hx], Int.toNat_natCast] at x0
        rw [show rd b (i : Int) = y by simp [rd, List.getD, hy], Int.toNat_natCast] at y0
        have HX := Aside0.mk hx
        have HY := Aside0.mk hy
        have hi1 : (i : Int) < (a.length : Int) := by omega
        have hi2 : (i : Int) < (b.length : Int) := by omega
        have hi0 : (0 : Int) ≤ (i : Int) := by omega
        clear hx hy
        by_cases h : x = y
        · subst h
          go_wp2
          go_quiet (fail)
          go_wp2
          have hk1 := HI.out
          obtain ⟨gq, rfl⟩ : ∃ gq, gk = gq + 1 := ⟨gk - 1, by omega⟩
          go_roundg gq
          case rel => exact ⟨i + 1, by go_num, ⟨by omega⟩, ⟨fun j u v hj hu hv => by
            by_cases hji : j = i
            · subst hji; rw [HX.out] at hu; rw [HY.out] at hv; exact (Option.some.inj hu).symm.trans (Option.some.inj hv)
            · exact HZ.out j u v (by omega) hu hv⟩, by repeat (first | exact Drawn0.refl _ | apply Drawn0.step)⟩
          case measure => omega
        · have hb0 : (x == y) = false := by simpa using h
          have hb1 : (x != y) = true := by simpa using h
          have HR := Aside0.mk (show q = false from by rw [← HQ.out]; exact decide_eq_false (nums_step HE.out HX.out HY.out h))
          clear h
          go_wp2
          go_quiet (fail)
          go_wp2
          go_ret
          rw [HR.out]
          exact ⟨rfl, by repeat (first | exact Drawn0.refl _ | apply Drawn0.step)⟩
      · have hi0 := HI.out
        obtain rfl : gk = 0 := by omega
        obtain rfl : i = a.length := by omega
        clear hi0
        have hm : ¬ ((a.length : Int) < (a.length : Int)) := by omega
        have HR := Aside0.mk (show q = true from by
          rw [← HQ.out]
          refine decide_eq_true (List.ext_getElem? fun j => ?_)
          by_cases hj : j < a.length
          · have h1 : a[j]? = some a[j] := List.getElem?_eq_getElem hj
            have h2 : b[j]? = some (b[j]'(by have := HE.out; omega)) := List.getElem?_eq_getElem (by have := HE.out; omega)
            rw [h1, h2, HZ.out j _ _ hj h1 h2]
          · rw [List.getElem?_eq_none (by omega), List.getElem?_eq_none (by have := HE.out; omega)])
        go_wp2
        go_ret
        rw [HR.out]
        exact ⟨rfl, by repeat (first | exact Drawn0.refl _ | apply Drawn0.step)⟩
  · have c0 : ((a.length : Int) == (b.length : Int)) = false := by simp; omega
    have c1 : ((a.length : Int) != (b.length : Int)) = true := by simp; omega
    have c2 : (a.length == b.length) = false := by simpa using he
    have HR := Aside0.mk (show q = false from by rw [← hq]; exact decide_eq_false (fun e => he (congrArg List.length e)))
    clear he hq hl
    go_enter Try.func41, Try.ntmps41
    go_wp2
    go_ret
    rw [HR.out]
    exact ⟨rfl, Drawn0.refl _⟩
end Go.Proofs.Ytlepcmljmibdnaa
namespace Go.Rd
open Go.RowKit Go.Proofs.YtlepcmljmibdnaaW.PrintWords

structure Reads (P : Program) (t : TypeId) {α : Type} (d : Kd α) (ok : α → Prop) : Prop where
  cells : P.cellsOf t = d.sz
  rd : ∀ {H : Type} (enc : TypeId × Value → H) (w : World) (sp : Nat → Bool) (held : Bool) (fuel : Nat) (cs : List Value) (x : DataW H × List MemPlace),
    DataW.trod enc P w 0 sp held fuel t cs = some x → ∃ a, d.K w a cs ∧ ok a

section
variable {P : Program} {t e : TypeId}
theorem int {k : IntKind} (ht : P.underlying t = some (.int k)) (hc : P.cellsOf t = 1) : Reads P t (Kd.int k) (fun n => (Lit.int k n).wf = true) :=
  ⟨hc, fun enc w sp held fuel cs x h => by
    obtain ⟨n, rfl, _, hw⟩ := DataW.trod_int ht h
    exact ⟨n, rfl, hw⟩⟩
theorem bool (ht : P.underlying t = some .bool) (hc : P.cellsOf t = 1) : Reads P t Kd.bool (fun _ => True) :=
  ⟨hc, fun enc w sp held fuel cs x h => by
    obtain ⟨n, rfl, _⟩ := DataW.trod_bool ht h
    exact ⟨n, rfl, trivial⟩⟩
theorem string (ht : P.underlying t = some .string) (hc : P.cellsOf t = 1) : Reads P t Kd.string (fun s => s.size ≤ maxLen) :=
  ⟨hc, fun enc w sp held fuel cs x h => by
    obtain ⟨n, rfl, _, hs⟩ := DataW.trod_string ht h
    exact ⟨n, rfl, hs⟩⟩
theorem slice {α : Type} {d : Kd α} {ok : α → Prop} (hd : Reads P e d ok) (ht : P.underlying t = some (.slice e)) (hc : P.cellsOf t = 1) : Reads P t (Kd.slice e d) (fun xs => ∀ a ∈ xs, ok a) :=
  ⟨hc, fun enc w sp held fuel cs x h => by
    rcases Deep.open_slice ht h with ⟨rfl, _⟩ | ⟨a, len, cap, m, n, D, Pl, rfl, hb, hl, hm, hmm, _, hx⟩
    · exact ⟨[], ⟨none, 0, rfl, Nat.le_refl _, Kd.C_nil _ _⟩, by simp⟩
    · have hlm : len ≤ m := by rw [hmm]; split <;> omega
      have hall : ∀ i, i < len → ∃ y : α, ok y ∧ ∃ c, c.length = d.sz ∧ d.K w y c ∧ ∀ j u, c[j]? = some u → w.cell? (a.add (i * d.sz + j)) = some u := by
        intro i hi
        obtain ⟨cs', h1, h2⟩ := hx i (by omega)
        obtain ⟨y, hy, hok⟩ := hd.rd enc w sp held n cs' _ h2
        obtain ⟨_, h4, h5⟩ := World.cells?_some h1
        rw [hd.cells] at h4 h5
        refine ⟨y, hok, cs', h4, hy, fun j u hj => ?_⟩
        have hjl : j < d.sz := by rw [← h4]; exact (List.getElem?_eq_some_iff.1 hj).1
        have := h5 j hjl
        rw [Deep.add_add] at this
        rw [this, hj]
      by_cases h0 : len = 0
      · subst h0
        exact ⟨[], ⟨some a, cap, rfl, by simp, ⟨rfl, by simp, fun h => absurd h (Nat.lt_irrefl 0)⟩⟩, by simp⟩
      · obtain ⟨y0, _⟩ := hall 0 (by omega)
        haveI : Inhabited α := ⟨y0⟩
        obtain ⟨f, hf⟩ := Deep.choose_lt (p := fun i y => ok y ∧ ∃ c, c.length = d.sz ∧ d.K w y c ∧ ∀ j u, c[j]? = some u → w.cell? (a.add (i * d.sz + j)) = some u) hall
        have hlen : ((List.range len).map f).length = len := by simp
        refine ⟨(List.range len).map f, ⟨some a, cap, by rw [hlen], by rw [hlen]; exact hl, ?_⟩, fun y hy => ?_⟩
        · refine ⟨rfl, by rw [hlen]; simp only [maxLen] at hm; omega, fun _ => ⟨a, rfl, fun j p hj => ?_⟩⟩
          have hjl : j < len := by rw [← hlen]; exact (List.getElem?_eq_some_iff.1 hj).1
          rw [List.getElem?_map, List.getElem?_range hjl] at hj
          obtain rfl := Option.some.inj hj
          exact (hf j hjl).2
        · obtain ⟨i, hi, rfl⟩ := List.mem_map.1 hy
          exact (hf i (List.mem_range.1 hi)).1⟩

structure FieldsR (P : Program) (fs : List Field) (o : Nat) {α : Type} (d : Kd α) (ok : α → Prop) : Prop where
  rd : ∀ {H : Type} (enc : TypeId × Value → H) (w : World) (sp : Nat → Bool) (held : Bool) (n : Nat) (cs : List Value), o + d.sz ≤ cs.length →
    (∀ f ∈ fs, ∃ y, DataW.trod enc P w 0 sp held n f.type ((cs.drop f.offset).take (P.cellsOf f.type)) = some y) → ∃ a, d.K w a ((cs.drop o).take d.sz) ∧ ok a
theorem one {α : Type} {d : Kd α} {ok : α → Prop} {f : Field} (hd : Reads P f.type d ok) : FieldsR P [f] f.offset d ok := by
  refine ⟨fun {H} enc w sp held n cs hl h => ?_⟩
  obtain ⟨y, hy⟩ := h f (by simp)
  rw [hd.cells] at hy
  exact hd.rd enc w sp held n _ y hy
theorem cons {α β : Type} {d : Kd α} {d' : Kd β} {ok : α → Prop} {ok' : β → Prop} {f : Field} {fs : List Field} (hd : Reads P f.type d ok) (hf : FieldsR P fs (f.offset + d.sz) d' ok') :
    FieldsR P (f :: fs) f.offset (Kd.pair d d') (fun p => ok p.1 ∧ ok' p.2) := by
  refine ⟨fun {H} enc w sp held n cs hl h => ?_⟩
  have hsz : (Kd.pair d d').sz = d.sz + d'.sz := rfl
  rw [hsz] at hl ⊢
  obtain ⟨y, hy⟩ := h f (by simp)
  rw [hd.cells] at hy
  obtain ⟨a, ha, hoa⟩ := hd.rd enc w sp held n _ y hy
  obtain ⟨b, hb, hob⟩ := hf.rd enc w sp held n cs (by omega) (fun g hg => h g (by simp [hg]))
  refine ⟨(a, b), ⟨_, _, ?_, ha, hb⟩, hoa, hob⟩
  rw [← List.drop_drop, List.take_add]
theorem struct {α : Type} {d : Kd α} {ok : α → Prop} {fs : Array Field} (ht : P.underlying t = some (.struct fs)) (hf : FieldsR P fs.toList 0 d ok) (hc : P.cellsOf t = d.sz) : Reads P t d ok :=
  ⟨hc, fun enc w sp held fuel cs x h => by
    obtain ⟨xs, n, _, _, hl, hx, hall⟩ := DataW.trod_struct ht h
    obtain ⟨a, ha, hoa⟩ := hf.rd enc w sp held n cs (by rw [hl, hc]; omega) (fun f hm => by
      obtain ⟨i, hi⟩ := List.mem_iff_getElem?.1 hm
      have hil : i < fs.size := by simpa using (List.getElem?_eq_some_iff.1 hi).1
      have := hall i f (by simpa using hi)
      rw [List.getElem?_eq_getElem (by omega)] at this
      exact ⟨_, this⟩)
    refine ⟨a, ?_, hoa⟩
    rw [List.drop_zero, List.take_of_length_le (by rw [hl, hc]; exact Nat.le_refl _)] at ha
    exact ha⟩
theorem iso {α β : Type} {d : Kd α} {ok : α → Prop} (hd : Reads P t d ok) (f : β → α) (g : α → β) (h : ∀ a, f (g a) = a) : Reads P t (Kd.iso d f) (fun x => ok (f x)) :=
  ⟨hd.cells, fun enc w sp held fuel cs x hx => by
    obtain ⟨a, ha, hok⟩ := hd.rd enc w sp held fuel cs x hx
    refine ⟨g a, ?_, by rw [h]; exact hok⟩
    show d.K w (f (g a)) cs
    rw [h]
    exact ha⟩
/-- A slice that came in. -/
theorem arg {α : Type} {d : Kd α} {ok : α → Prop} (hd : Reads P e d ok) (ht : P.underlying t = some (.slice e)) (hc : P.cellsOf t = 1) {H : Type} {enc : TypeId × Value → H} {W : World} {a : Option Addr} {len cap : Nat} {D : DataW H} {ps : List MemPlace}
    (h : DataW.Trod enc P W 0 (fun _ => true) true t (.slice a len cap) D ps) : ∃ l : List α, len = l.length ∧ l.length ≤ cap ∧ d.C W a l.length l ∧ ∀ x ∈ l, ok x := by
  obtain ⟨fuel, hf⟩ := h
  obtain ⟨l, ⟨A, c, he, hl, hC⟩, hok⟩ := (slice hd ht hc).rd enc W _ _ fuel _ _ hf
  simp only [Value.cells, List.cons.injEq, and_true] at he
  injection he with h1 h2 h3
  subst h1; subst h2; subst h3
  exact ⟨l, rfl, hl, hC, hok⟩
end
end Go.Rd
namespace Go.Proofs.Ytlepcmljmibdnaa
open Go.ChangeShapes Go.WideShapes Go.ChangeAt Go.RowKit Go.Proofs.YtlepcmljmibdnaaW.PrintWords Go.Proofs.YtlepcmljmibdnaaW.PrintLast Go.Proofs.YtlepcmljmibdnaaW.PrintMore PDiskArms
theorem rInt : Rd.Reads Try.prog 3 (Kd.int .i64) (fun n => (Lit.int .i64 n).wf = true) := Rd.int Try.underlying3 (by kernel_rfl)
theorem rU8 : Rd.Reads Try.prog 5 (Kd.int .u8) (fun n => (Lit.int .u8 n).wf = true) := Rd.int Try.underlying5 (by kernel_rfl)
theorem rBool : Rd.Reads Try.prog 4 Kd.bool (fun _ => True) := Rd.bool Try.underlying4 (by kernel_rfl)
theorem rBytes : Rd.Reads Try.prog 29 (Kd.slice 5 (Kd.int .u8)) (fun xs => ∀ a ∈ xs, (Lit.int .u8 a).wf = true) := Rd.slice rU8 Try.underlying29 (by kernel_rfl)
theorem rBools : Rd.Reads Try.prog 23 (Kd.slice 4 Kd.bool) (fun xs => ∀ a ∈ xs, True) := Rd.slice rBool Try.underlying23 (by kernel_rfl)
theorem rTup : Rd.Reads Try.prog 31 (Kd.pair (Kd.int .i64) (Kd.pair (Kd.int .i64) (Kd.pair (Kd.slice 5 (Kd.int .u8)) (Kd.pair (Kd.int .i64) (Kd.slice 4 Kd.bool)))))
    (fun x => (Lit.int .i64 x.1).wf = true ∧ (Lit.int .i64 x.2.1).wf = true ∧ (∀ a ∈ x.2.2.1, (Lit.int .u8 a).wf = true) ∧ (Lit.int .i64 x.2.2.2.1).wf = true ∧ ∀ a ∈ x.2.2.2.2, True) := by
  refine Rd.struct Try.underlying31 ?_ (by kernel_rfl)
  refine Rd.cons (ok' := fun y : Int × List Int × Int × List Bool => (Lit.int .i64 y.1).wf = true ∧ (∀ a ∈ y.2.1, (Lit.int .u8 a).wf = true) ∧ (Lit.int .i64 y.2.2.1).wf = true ∧ ∀ a ∈ y.2.2.2, True) (f := { name := "Kind", type := 3, offset := 0, embedded := false, tag := "", pkgPath := "", byteOffset := 0 }) rInt ?_
  refine Rd.cons (ok' := fun y : List Int × Int × List Bool => (∀ a ∈ y.1, (Lit.int .u8 a).wf = true) ∧ (Lit.int .i64 y.2.1).wf = true ∧ ∀ a ∈ y.2.2, True) (f := { name := "At", type := 3, offset := 1, embedded := false, tag := "", pkgPath := "", byteOffset := 8 }) rInt ?_
  refine Rd.cons (ok' := fun y : Int × List Bool => (Lit.int .i64 y.1).wf = true ∧ ∀ a ∈ y.2, True) (f := { name := "B", type := 29, offset := 2, embedded := false, tag := "", pkgPath := "", byteOffset := 16 }) rBytes ?_
  refine Rd.cons (ok' := fun y : List Bool => ∀ a ∈ y, True) (f := { name := "N", type := 3, offset := 3, embedded := false, tag := "", pkgPath := "", byteOffset := 40 }) rInt ?_
  exact Rd.one (f := { name := "Keep", type := 23, offset := 4, embedded := false, tag := "", pkgPath := "", byteOffset := 48 }) rBools
theorem rDeed : Rd.Reads Try.prog 31 k31 (fun x => (Lit.int .i64 x.f0).wf = true ∧ (Lit.int .i64 x.f1).wf = true ∧ (∀ a ∈ x.f2, (Lit.int .u8 a).wf = true) ∧ (Lit.int .i64 x.f3).wf = true ∧ ∀ a ∈ x.f4, True) :=
  Rd.iso rTup (fun x : S31 => (x.f0, x.f1, x.f2, x.f3, x.f4)) (fun a => (⟨a.1, a.2.1, a.2.2.1, a.2.2.2.1, a.2.2.2.2⟩ : S31)) (fun _ => rfl)
theorem int_in {n : Int} (h : (Lit.int .i64 n).wf = true) : -9223372036854775808 ≤ n ∧ n ≤ 9223372036854775807 := by
  have := bounds_i64 h
  omega
end Go.Proofs.Ytlepcmljmibdnaa
