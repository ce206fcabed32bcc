/- Parts of one proof, joined: Fo, Ld, Vw, Ay. Conditions: those of each statement. -/
import Derived.Test.YtlepcmljmibdnaaSa12
namespace Go.Proofs.Ytlepcmljmibdnaa
open Go.RowKit Go.Proofs.YtlepcmljmibdnaaW.PrintWords Go.Proofs.YtlepcmljmibdnaaW.PrintLast Go.Proofs.YtlepcmljmibdnaaW.PrintMore PWalOpens
set_option linter.unusedVariables false
set_option linter.unusedSimpArgs false
noncomputable def formatP (D : PD) (l : List Int) : PD × Int :=
  if (writeP D 0 []).2 ≠ 0 then writeP D 0 [] else if (writeP (writeP D 0 []).1 1 []).2 ≠ 0 then writeP (writeP D 0 []).1 1 [] else saveP (writeP (writeP D 0 []).1 1 []).1 0 l
def rformatX (X : RX) (l : List Int) : RX × Int :=
  if (rwriteX X 0 []).2 ≠ 0 then rwriteX X 0 [] else if (rwriteX (rwriteX X 0 []).1 1 []).2 ≠ 0 then rwriteX (rwriteX X 0 []).1 1 [] else rsaveX (rwriteX (rwriteX X 0 []).1 1 []).1 0 l
section
variable {w : World} {base B M Bd : Nat} {vc : Value} {D D' : PD} {l : List Int} {A : Option Addr} {c : Nat} {e : Int}
theorem format_go (Df : Nat → PD) (Er : Nat → Int) (h0 : Df 0 = D) (hs : ∀ i, i < 2 → writeP (Df i) (i : Int) [] = (Df (i + 1), Er i)) (hcl : ∀ i, i ≤ 2 → (Df i).cache.length ≤ 900)
    (hE : ∀ i, i < 2 → (∀ j, j < i → Er j = 0) → Er i ≠ 0 → D' = Df (i + 1) ∧ e = Er i) (hO : (∀ j, j < 2 → Er j = 0) → saveP (Df 2) 0 l = (D', e))
    (hn : ∀ n ∈ l, 0 ≤ n ∧ n < 18446744073709551616) (hC : ∀ w', Chg w w' (FP B M Bd vc) → (Kd.int .u64).C w' A l.length l) (h : DK w base B M Bd vc D) :
    Calls Try.prog 46 #[.pointer (some ⟨B, 0, none⟩), .slice A l.length c] w (SvQ w B M Bd vc D' e) := by
  have HD := Aside0.mk (At.refl h)
  have HC := Aside0.mk hC
  have HN := Aside0.mk hn
  have HS := Aside0.mk hs
  have HL := Aside0.mk hcl
  have HE := Aside0.mk hE
  have HO := Aside0.mk hO
  have H0 := Aside0.mk h0
  clear h hn hC hs hcl hE hO h0
  go_enter Try.func46, Try.ntmps46
  go_wp2
  go_loopg [7] 2 (fun kq v7 w' => ∃ (i : Nat) (vc' : Value), v7 = .int .i64 (i : Int) ∧ Aside0 (i + kq = 2) ∧ Aside0 (∀ j, j < i → Er j = 0) ∧ Aside0 (At w (FP B M Bd vc) w' B M Bd vc' (Df i)))
  case atStart => exact ⟨0, vc, rfl, ⟨by omega⟩, ⟨fun j hj => by omega⟩, ⟨by rw [H0.out]; exact HD.out⟩⟩
  case round =>
    obtain ⟨i, vc', rfl, HI, HZ, HA⟩ := hrel
    by_cases hi : i < 2
    · have hi' : (i : Int) < 2 := by omega
      obtain ⟨er, her⟩ : ∃ er, Er i = er := ⟨_, rfl⟩
      have HW := Aside0.mk (HS.out i hi)
      have HLi := Aside0.mk (HL.out i (by omega))
      have HEi := Aside0.mk (HE.out i hi HZ.out)
      rw [her] at HW HEi
      by_cases hz : er = 0
      · subst hz
        have HER := Aside0.mk her
        clear her
        go_wp2_with (go_at_call 17; go_loud (refine (at_write (i : Int) 0 none 0 [] HW.out (Nat.le_trans HLi.out (by omega)) (fun w' hc => Kd.C_nil _ _) (At.refl HA.out.dk)).mono ?_); rintro e w5 ⟨rfl, vc5, hd⟩; have HD5 := Aside0.mk (HA.out.then_ hd); clear hd)
        have hk1 := HI.out
        obtain ⟨gq, rfl⟩ : ∃ gq, gk = gq + 1 := ⟨gk - 1, by omega⟩
        go_roundg gq
        case rel => exact ⟨i + 1, vc5, by go_num, ⟨by omega⟩, ⟨fun j hj => by
          by_cases hji : j = i
          · subst hji; exact HER.out
          · exact HZ.out j (by omega)⟩, HD5⟩
        case measure => omega
      · have hzb : (er != 0) = true := by simpa using hz
        obtain ⟨hD, he⟩ := HEi.out hz
        have HQ := Aside0.mk (And.intro hD he)
        clear her hz hD he
        go_wp2_with (go_at_call 17; go_loud (refine (at_write (i : Int) er none 0 [] HW.out (Nat.le_trans HLi.out (by omega)) (fun w' hc => Kd.C_nil _ _) (At.refl HA.out.dk)).mono ?_); rintro e w5 ⟨rfl, vc5, hd⟩; have HD5 := Aside0.mk (HA.out.then_ hd); clear hd)
        go_ret
        obtain ⟨rfl, rfl⟩ := HQ.out
        exact ⟨rfl, vc5, HD5.out⟩
    · have hi0 := HI.out
      obtain rfl : gk = 0 := by omega
      obtain rfl : i = 2 := by omega
      clear hi0 hi
      have HSV := Aside0.mk (save_calls (HO.out HZ.out) (by omega) HN.out (HC.out wr HA.out.chg) (HL.out 2 (by omega)) HA.out.dk (c := c))
      go_wp2_with (go_at_call 42; (with_reducible refine HSV.out.mono ?_); rintro e w6 ⟨rfl, vc6, hd⟩; have HD6 := Aside0.mk (HA.out.then_ hd); clear hd)
      go_ret
      exact ⟨rfl, vc6, HD6.out⟩
theorem format_calls (hf : formatP D l = (D', e)) (hc : D.cache.length ≤ 800) (hn : ∀ n ∈ l, 0 ≤ n ∧ n < 18446744073709551616) (hC : ∀ w', Chg w w' (FP B M Bd vc) → (Kd.int .u64).C w' A l.length l) (h : DK w base B M Bd vc D) :
    Calls Try.prog 46 #[.pointer (some ⟨B, 0, none⟩), .slice A l.length c] w (SvQ w B M Bd vc D' e) := by
  have q1 := writeP_cache D 0 []
  have q2 := writeP_cache (writeP D 0 []).1 1 []
  unfold formatP at hf
  refine format_go (D := D) (fun i => match i with | 0 => D | 1 => (writeP D 0 []).1 | _ => (writeP (writeP D 0 []).1 1 []).1) (fun i => match i with | 0 => (writeP D 0 []).2 | _ => (writeP (writeP D 0 []).1 1 []).2) rfl (fun i hi => ?_) (fun i hi => ?_) (fun i hi hz hne => ?_) (fun hz => ?_) hn hC h
  · have : i = 0 ∨ i = 1 := by omega
    rcases this with rfl | rfl <;> rfl
  · have : i = 0 ∨ i = 1 ∨ i = 2 := by omega
    rcases this with rfl | rfl | rfl <;> simp only <;> omega
  · have : i = 0 ∨ i = 1 := by omega
    rcases this with rfl | rfl
    · have hne' : (writeP D 0 []).2 ≠ 0 := hne
      rw [if_pos hne'] at hf
      exact ⟨(congrArg Prod.fst hf).symm, (congrArg Prod.snd hf).symm⟩
    · have h0 : (writeP D 0 []).2 = 0 := hz 0 (by omega)
      have hne' : (writeP (writeP D 0 []).1 1 []).2 ≠ 0 := hne
      rw [if_neg (fun hh => hh h0), if_pos hne'] at hf
      exact ⟨(congrArg Prod.fst hf).symm, (congrArg Prod.snd hf).symm⟩
  · have h0 : (writeP D 0 []).2 = 0 := hz 0 (by omega)
    have h1 : (writeP (writeP D 0 []).1 1 []).2 = 0 := hz 1 (by omega)
    rw [if_neg (fun hh => hh h0), if_neg (fun hh => hh h1)] at hf
    exact hf
end
section
variable {w : World} {base R : Nat} {vS vC vB : Value} {X X1 X2 X' : RX} {l : List Int} {A : Option Addr} {c : Nat} {e : Int}
theorem rwrite_nil (w : World) (base B : Nat) (vS vC vB : Value) (X X' : RX) (at_ r : Int) (hx : rwriteX X at_ [] = (X', r)) (h : RK w base B vS vC vB X) (hl : X.cache.length ≤ 1000) :
    Calls Try.prog 26 #[.pointer (some ⟨B, 0, none⟩), .int .i64 at_, .slice none 0 0] w fun e w' => e = .returned (.int .i64 r) ∧ TC base isRef w w' ∧ ∃ vC', RK w' base B vS vC' vB X' :=
  rwrite_calls w base B vS vC vB X X' at_ r none 0 [] hx h hl (fun w' hc => Kd.C_nil _ _)
theorem rformat_calls (hf : rformatX X l = (X', e)) (hc : X.cache.length ≤ 800) (hn : ∀ n ∈ l, 0 ≤ n ∧ n < 18446744073709551616) (hC : ∀ w', TC base isRef w w' → (Kd.int .u64).C w' A l.length l) (h : RK w base R vS vC vB X) :
    Calls Try.prog 86 #[.pointer (some ⟨R, 0, none⟩), .slice A l.length c] w (RvQ w base R vS vB X' e) := by
  have q1 := rwriteX_cache X 0 []
  have q2 := rwriteX_cache (rwriteX X 0 []).1 1 []
  have HD := Aside0.mk h
  have HC := Aside0.mk hC
  have HN := Aside0.mk hn
  have HL := Aside0.mk (show X.cache.length ≤ 1000 by omega)
  obtain ⟨Xa, ea, hw⟩ : ∃ Xa ea, rwriteX X 0 [] = (Xa, ea) := ⟨_, _, rfl⟩
  unfold rformatX at hf
  rw [hw] at hf q1 q2
  simp only at hf q1 q2
  have HW := Aside0.mk hw
  have HLa := Aside0.mk (show Xa.cache.length ≤ 1000 by omega)
  obtain ⟨Xb, eb, hw2⟩ : ∃ Xb eb, rwriteX Xa 1 [] = (Xb, eb) := ⟨_, _, rfl⟩
  rw [hw2] at hf q2
  simp only at hf q2
  have HW2 := Aside0.mk hw2
  have HLb := Aside0.mk (show Xb.cache.length ≤ 900 by omega)
  clear h hC hn hw hw2 q1 q2 hc
  by_cases h0 : ea = 0
  · rw [if_neg (fun hh => hh h0)] at hf
    subst h0
    by_cases h1 : eb = 0
    · rw [if_neg (fun hh => hh h1)] at hf
      subst h1
      have HF := Aside0.mk hf
      clear hf
      go_enter Try.func86, Try.ntmps86
      go_wp2_with (first
        | (go_at_call 26; (with_reducible refine (rwrite_nil w base R vS vC vB X Xa 0 0 HW.out HD.out HL.out).mono ?_); rintro e w4 ⟨rfl, ht, vc4, hd⟩; have HD4 := Aside0.mk hd; have HT4 := Aside0.mk ht; clear hd ht)
        | (go_at_call 26; (with_reducible refine (rwrite_nil w4 base R vS vc4 vB Xa Xb 1 0 HW2.out HD4.out HLa.out).mono ?_); rintro e w5 ⟨rfl, ht, vc5, hd⟩; have HD5 := Aside0.mk hd; have HT5 := Aside0.mk (HT4.out.trans ht); clear hd ht)
        | (go_at_call 43; (with_reducible refine (rsave_calls HF.out (by decide) HN.out (HC.out w5 HT5.out) HLb.out HD5.out).mono ?_); rintro e w6 ⟨rfl, ht, vc6, hd⟩; have HD6 := Aside0.mk hd; have HT6 := Aside0.mk (HT5.out.trans ht); clear hd ht))
      go_ret
      exact ⟨rfl, HT6.out, vc6, HD6.out⟩
    · rw [if_pos h1] at hf
      cases hf
      have hb : (e != 0) = true := by simpa using h1
      clear h1
      go_enter Try.func86, Try.ntmps86
      go_wp2_with (first
        | (go_at_call 26; (with_reducible refine (rwrite_nil w base R vS vC vB X Xa 0 0 HW.out HD.out HL.out).mono ?_); rintro e w4 ⟨rfl, ht, vc4, hd⟩; have HD4 := Aside0.mk hd; have HT4 := Aside0.mk ht; clear hd ht)
        | (go_at_call 26; (with_reducible refine (rwrite_nil w4 base R vS vc4 vB Xa X' 1 e HW2.out HD4.out HLa.out).mono ?_); rintro e w5 ⟨rfl, ht, vc5, hd⟩; have HD5 := Aside0.mk hd; have HT5 := Aside0.mk (HT4.out.trans ht); clear hd ht))
      go_ret
      exact ⟨rfl, HT5.out, vc5, HD5.out⟩
  · rw [if_pos h0] at hf
    cases hf
    have hb : (e != 0) = true := by simpa using h0
    clear h0
    go_enter Try.func86, Try.ntmps86
    go_wp2_with (first
      | (go_at_call 26; (with_reducible refine (rwrite_nil w base R vS vC vB X X' 0 e HW.out HD.out HL.out).mono ?_); rintro e w4 ⟨rfl, ht, vc4, hd⟩; have HD4 := Aside0.mk hd; have HT4 := Aside0.mk ht; clear hd ht))
    go_ret
    exact ⟨rfl, HT4.out, vc4, HD4.out⟩
end
end Go.Proofs.Ytlepcmljmibdnaa
namespace Go.Proofs.Ytlepcmljmibdnaa
open Go.RowKit Go.Proofs.YtlepcmljmibdnaaW.PrintWords Go.Proofs.YtlepcmljmibdnaaW.PrintLast Go.Proofs.YtlepcmljmibdnaaW.PrintMore PWalOpens
set_option linter.unusedVariables false
set_option linter.unusedSimpArgs false
/-- what a disk keeps are bytes -/
def okD (D : PD) : Prop := (∀ a s, D.kept a = some s → isBytes s) ∧ ∀ p ∈ D.cache, isBytes p.2
theorem zsec_bytes : isBytes zsec := by
  intro x hx
  have := List.eq_of_mem_replicate hx
  omega
theorem readL_bytes (l : List (Int × List Int)) (hl : ∀ p ∈ l, isBytes p.2) (at_ : Int) : ∀ s, isBytes s → isBytes (readL s l at_) := by
  induction l with
  | nil => intro s hs; exact hs
  | cons p l ih =>
    intro s hs
    unfold readL
    rw [List.foldl_cons]
    refine ih (fun q hq => hl q (by simp [hq])) _ ?_
    split
    · exact hl p (by simp)
    · exact hs
theorem readP_bytes {D : PD} (h : okD D) (at_ : Int) : isBytes (readP D at_).1 := by
  have nil : isBytes [] := fun x hx => by cases hx
  unfold readP
  repeat' split
  · exact nil
  · exact nil
  · exact nil
  · refine readL_bytes _ h.2 _ _ ?_
    cases hk : D.kept at_ with
    | none => exact zsec_bytes
    | some s => exact h.1 _ _ hk
theorem readP_len {w : World} {base B M Bd : Nat} {vc : Value} {D : PD} (h : DK w base B M Bd vc D) (hc : ∀ p ∈ D.cache, p.2.length = 64) (at_ : Int) : (readP D at_).1.length ≤ 64 := by
  unfold readP
  repeat' split
  · simp
  · simp
  · simp
  · have key : ∀ (l : List (Int × List Int)), (∀ p ∈ l, p.2.length = 64) → ∀ s : List Int, s.length = 64 → (readL s l at_).length ≤ 64 := by
      intro l
      induction l with
      | nil => intro _ s hs; exact Nat.le_of_eq hs
      | cons p l ih =>
        intro hl s hs
        unfold readL
        rw [List.foldl_cons]
        refine ih (fun q hq => hl q (by simp [hq])) _ ?_
        split
        · exact hl p (by simp)
        · exact hs
    refine key _ hc _ ?_
    cases hk : D.kept at_ with
    | none => rfl
    | some s => exact h.sec _ _ hk
theorem SB.of_R {w : World} {b c n : Nat} {A : Option Addr} {xs : List Int} {ok : Nat → Prop} (h : Kd.R (Kd.int .u8) 5 w b ok (.slice A n c) xs) : SB w A c xs := by
  obtain ⟨h1, h2, h3⟩ := Kd.R_reads' h
  obtain ⟨_, inner, ho, _⟩ := h
  refine ⟨h3, by omega, ?_, fun hA => ?_⟩
  · rcases ho.2 with ⟨e, _⟩ | ⟨g, cap, cur, e, _, _, _, hm, _⟩
    · injection e with e1 e2 e3; omega
    · injection e with e1 e2 e3; rw [e3]; exact Nat.le_trans hm (by decide)
  · have := own_none ho hA
    omega
def stepL (st : Bool × Int × List Int) (u : Int × List Int × Int) : Bool × Int × List Int := if u.2.2 = 0 ∧ (st.1 = false ∨ st.2.1 < u.1) then (true, u.1, u.2.1) else st
def pickL (u v : Int × List Int × Int) : Int × List Int × Int :=
  if (stepL (stepL (false, 0, []) u) v).1 then ((stepL (stepL (false, 0, []) u) v).2.1, (stepL (stepL (false, 0, []) u) v).2.2, 0) else (0, [], 60)
def loadP (D : PD) : Int × List Int × Int :=
  if (readP D 0).2 ≠ 0 then (0, [], (readP D 0).2) else if (readP D 1).2 ≠ 0 then (0, [], (readP D 1).2) else pickL (unP (readP D 0).1) (unP (readP D 1).1)
def LdQ (w : World) (r : Int × List Int × Int) (e : Ending) (w' : World) : Prop := ∃ A c, e = .returned (.tuple #[.int .u64 r.1, .slice A r.2.1.length c, .int .i64 r.2.2]) ∧ Kd.R (Kd.int .u64) 56 w' w.heap.size (fun k => w.heap.size ≤ k) (.slice A r.2.1.length c) r.2.1 ∧ Below w.heap.size w w'
section
variable {w : World} {base B M Bd : Nat} {vc : Value} {D : PD} {r : Int × List Int × Int}
theorem load_walk (Lf : Nat → Bool × Int × List Int) (h0 : Lf 0 = (false, 0, [])) (hs : ∀ i, i < 2 → Lf (i + 1) = stepL (Lf i) (unP (readP D i).1))
    (hE : ∀ i : Nat, i < 2 → (∀ j : Nat, j < i → (readP D j).2 = 0) → (readP D i).2 ≠ 0 → r = (0, [], (readP D i).2)) (hO : (∀ j : Nat, j < 2 → (readP D j).2 = 0) → r = if (Lf 2).1 then ((Lf 2).2.1, (Lf 2).2.2, 0) else (0, [], 60))
    (ho : okD D) (h64 : ∀ p ∈ D.cache, p.2.length = 64) (hl : D.cache.length ≤ 1000) (h : DK w base B M Bd vc D) :
    Calls Try.prog 44 #[.pointer (some ⟨B, 0, none⟩)] w (LdQ w r) := by
  have HD := Aside0.mk h
  have H64 := Aside0.mk (fun i : Int => readP_len h h64 i)
  have HB := Aside0.mk (fun i : Int => readP_bytes ho i)
  have HL := Aside0.mk hl
  have HS := Aside0.mk hs
  have HE := Aside0.mk hE
  have HO := Aside0.mk hO
  have H0 := Aside0.mk h0
  clear h ho h64 hl hs hE hO h0
  go_enter Try.func44, Try.ntmps44
  go_wp2
  go_loopg [2, 3, 5, 11] 2 (fun kq v2 v3 v5 v11 w' => ∃ (i : Nat) (f : Bool) (g : Int) (l : List Int), v11 = .int .i64 (i : Int) ∧ v5 = .bool f ∧ v2 = .int .u64 g ∧ Aside0 (Lf i = (f, g, l)) ∧ Aside0 (i + kq = 2) ∧ Aside0 (∀ j : Nat, j < i → (readP D j).2 = 0) ∧ Aside0 (Kd.R (Kd.int .u64) 56 w' w.heap.size (fun k => w.heap.size ≤ k) v3 l) ∧ Aside0 (Below w.heap.size w w'))
  case atStart => exact ⟨0, false, 0, [], rfl, rfl, rfl, H0, ⟨by omega⟩, ⟨fun j hj => by omega⟩, ⟨Kd.R_nil _ _ _ _ _⟩, ⟨Below.refl _ _⟩⟩
  case round =>
    obtain ⟨i, f, g, l, rfl, rfl, rfl, HF, HI, HZ, HR, HW⟩ := hrel
    by_cases hi : i < 2
    · have hi' : (i : Int) < 2 := by omega
      obtain ⟨s, er, hse⟩ : ∃ s er, readP D i = (s, er) := ⟨_, _, rfl⟩
      have HRD := Aside0.mk hse
      have HS64 := Aside0.mk (show s.length ≤ 1000000 from by have := H64.out i; rw [hse] at this; exact Nat.le_trans this (by omega))
      have HSB := Aside0.mk (show isBytes s from by have := HB.out i; rwa [hse] at this)
      have HNX := Aside0.mk (HS.out i hi)
      have HEi := Aside0.mk (HE.out i hi HZ.out)
      rw [hse, HF.out] at HNX
      rw [hse] at HEi
      simp only at HNX HEi
      have HDr := Aside0.mk (At.refl (HD.out.chg (.of_below HW.out)))
      obtain ⟨u, hu⟩ : ∃ u, unP s = u := ⟨_, rfl⟩
      have HOF := Aside0.mk (fun (w : World) (A : Option Addr) (c : Nat) (h : SB w A c s) => of_calls w A c s HS64.out h HSB.out)
      unfold OfQ at HOF
      rw [hu] at HNX HOF
      obtain ⟨ug, ul, ue⟩ := u
      simp only at HOF
      have HUE := Aside0.mk (show ue = 0 ∨ ue = 60 from (unP_bytes s HSB.out hu).2.2.2)
      clear hu
      by_cases hz : er = 0
      · subst hz
        have HZ1 := Aside0.mk (show ∀ j : Nat, j < i + 1 → (readP D j).2 = 0 from fun j hj => by
          by_cases hji : j = i
          · subst hji; rw [HRD.out]
          · exact HZ.out j (by omega))
        clear hse
        rcases HUE.out with rfl | rfl
        · cases f with
          | false =>
            have HN1 := Aside0.mk (show Lf (i + 1) = (true, ug, ul) from by rw [HNX.out]; rfl)
            go_wp2_with (first
              | (go_at_call 23; (with_reducible refine (at_read (i : Int) 0 s HRD.out HL.out HDr.out).mono ?_); rintro e w5 ⟨A5, c5, rfl, hr, hd, hb⟩; have HSB5 := Aside0.mk (SB.of_R hr); have HB5 := Aside0.mk (HW.out.trans (hb.mono HW.out.size)); have HR5 := Aside0.mk (Kd.R_below HR.out hb); clear hd hr hb)
              | (go_at_call 39; (with_reducible refine (HOF.out w5 A5 c5 HSB5.out).mono ?_); rintro e w6 ⟨A6, c6, rfl, hr, hb⟩; have HB6 := Aside0.mk (HB5.out.trans (hb.mono HB5.out.size)); have HR6 := Aside0.mk (Kd.R_below HR5.out hb); have HN6 := Aside0.mk (Kd.R_mono (Kd.R_lower hr HB5.out.size) (fun k hk => Nat.le_trans HB5.out.size hk)); clear hr hb))
            have hk1 := HI.out
            obtain ⟨gq, rfl⟩ : ∃ gq, gk = gq + 1 := ⟨gk - 1, by omega⟩
            go_roundg gq
            case rel => exact ⟨i + 1, _, _, _, by go_num, rfl, rfl, HN1, ⟨by omega⟩, HZ1, HN6, HB6⟩
            case measure => omega
          | true =>
            by_cases hgt : g < ug
            · have HN1 := Aside0.mk (show Lf (i + 1) = (true, ug, ul) from by rw [HNX.out]; unfold stepL; rw [if_pos ⟨rfl, .inr hgt⟩])
              go_wp2_with (first
                | (go_at_call 23; (with_reducible refine (at_read (i : Int) 0 s HRD.out HL.out HDr.out).mono ?_); rintro e w5 ⟨A5, c5, rfl, hr, hd, hb⟩; have HSB5 := Aside0.mk (SB.of_R hr); have HB5 := Aside0.mk (HW.out.trans (hb.mono HW.out.size)); have HR5 := Aside0.mk (Kd.R_below HR.out hb); clear hd hr hb)
                | (go_at_call 39; (with_reducible refine (HOF.out w5 A5 c5 HSB5.out).mono ?_); rintro e w6 ⟨A6, c6, rfl, hr, hb⟩; have HB6 := Aside0.mk (HB5.out.trans (hb.mono HB5.out.size)); have HR6 := Aside0.mk (Kd.R_below HR5.out hb); have HN6 := Aside0.mk (Kd.R_mono (Kd.R_lower hr HB5.out.size) (fun k hk => Nat.le_trans HB5.out.size hk)); clear hr hb))
              have hk1 := HI.out
              obtain ⟨gq, rfl⟩ : ∃ gq, gk = gq + 1 := ⟨gk - 1, by omega⟩
              go_roundg gq
              case rel => exact ⟨i + 1, _, _, _, by go_num, rfl, rfl, HN1, ⟨by omega⟩, HZ1, HN6, HB6⟩
              case measure => omega
            · have HN1 := Aside0.mk (show Lf (i + 1) = (true, g, l) from by rw [HNX.out]; unfold stepL; rw [if_neg (fun hh => hh.2.elim (fun h => by cases h) hgt)])
              go_wp2_with (first
                | (go_at_call 23; (with_reducible refine (at_read (i : Int) 0 s HRD.out HL.out HDr.out).mono ?_); rintro e w5 ⟨A5, c5, rfl, hr, hd, hb⟩; have HSB5 := Aside0.mk (SB.of_R hr); have HB5 := Aside0.mk (HW.out.trans (hb.mono HW.out.size)); have HR5 := Aside0.mk (Kd.R_below HR.out hb); clear hd hr hb)
                | (go_at_call 39; (with_reducible refine (HOF.out w5 A5 c5 HSB5.out).mono ?_); rintro e w6 ⟨A6, c6, rfl, hr, hb⟩; have HB6 := Aside0.mk (HB5.out.trans (hb.mono HB5.out.size)); have HR6 := Aside0.mk (Kd.R_below HR5.out hb); have HN6 := Aside0.mk (Kd.R_mono (Kd.R_lower hr HB5.out.size) (fun k hk => Nat.le_trans HB5.out.size hk)); clear hr hb))
              have hk1 := HI.out
              obtain ⟨gq, rfl⟩ : ∃ gq, gk = gq + 1 := ⟨gk - 1, by omega⟩
              go_roundg gq
              case rel => exact ⟨i + 1, _, _, _, by go_num, rfl, rfl, HN1, ⟨by omega⟩, HZ1, HR6, HB6⟩
              case measure => omega
        · have HN1 := Aside0.mk (show Lf (i + 1) = (f, g, l) from by rw [HNX.out]; rfl)
          go_wp2_with (first
            | (go_at_call 23; (with_reducible refine (at_read (i : Int) 0 s HRD.out HL.out HDr.out).mono ?_); rintro e w5 ⟨A5, c5, rfl, hr, hd, hb⟩; have HSB5 := Aside0.mk (SB.of_R hr); have HB5 := Aside0.mk (HW.out.trans (hb.mono HW.out.size)); have HR5 := Aside0.mk (Kd.R_below HR.out hb); clear hd hr hb)
            | (go_at_call 39; (with_reducible refine (HOF.out w5 A5 c5 HSB5.out).mono ?_); rintro e w6 ⟨A6, c6, rfl, hr, hb⟩; have HB6 := Aside0.mk (HB5.out.trans (hb.mono HB5.out.size)); have HR6 := Aside0.mk (Kd.R_below HR5.out hb); have HN6 := Aside0.mk (Kd.R_mono (Kd.R_lower hr HB5.out.size) (fun k hk => Nat.le_trans HB5.out.size hk)); clear hr hb))
          have hk1 := HI.out
          obtain ⟨gq, rfl⟩ : ∃ gq, gk = gq + 1 := ⟨gk - 1, by omega⟩
          go_roundg gq
          case rel => exact ⟨i + 1, _, _, _, by go_num, rfl, rfl, HN1, ⟨by omega⟩, HZ1, HR6, HB6⟩
          case measure => omega
      · have hzb : (er != 0) = true := by simpa using hz
        have HQ := Aside0.mk (HEi.out hz)
        clear hse hz
        go_wp2_with (go_at_call 23; (with_reducible refine (at_read (i : Int) er s HRD.out HL.out HDr.out).mono ?_); rintro e w5 ⟨A5, c5, rfl, hr, hd, hb⟩; have HB5 := Aside0.mk (HW.out.trans (hb.mono HW.out.size)); clear hd hr hb)
        go_ret3
        unfold LdQ
        rw [HQ.out]
        exact ⟨none, 0, rfl, Kd.R_nil _ _ _ _ _, HB5.out⟩
    · have hi0 := HI.out
      obtain rfl : gk = 0 := by omega
      obtain rfl : i = 2 := by omega
      clear hi0 hi
      have HQ := Aside0.mk (HO.out HZ.out)
      rw [HF.out] at HQ
      simp only at HQ
      obtain ⟨A3, c3, rfl⟩ := Kd.R_slice HR.out
      cases f with
      | true =>
        go_wp2
        go_ret3
        unfold LdQ
        rw [HQ.out]
        exact ⟨A3, c3, rfl, HR.out, HW.out⟩
      | false =>
        go_wp2
        go_ret3
        unfold LdQ
        rw [HQ.out]
        exact ⟨none, 0, rfl, Kd.R_nil _ _ _ _ _, HW.out⟩
theorem load_calls (hr : loadP D = r) (ho : okD D) (h64 : ∀ p ∈ D.cache, p.2.length = 64) (hl : D.cache.length ≤ 1000) (h : DK w base B M Bd vc D) :
    Calls Try.prog 44 #[.pointer (some ⟨B, 0, none⟩)] w (LdQ w r) := by
  subst hr
  have e0 : ((0 : Nat) : Int) = 0 := rfl
  have e1 : ((1 : Nat) : Int) = 1 := rfl
  refine load_walk (fun i => match i with | 0 => (false, 0, []) | 1 => stepL (false, 0, []) (unP (readP D 0).1) | _ => stepL (stepL (false, 0, []) (unP (readP D 0).1)) (unP (readP D 1).1)) rfl (fun i hi => ?_) (fun i hi hz hne => ?_) (fun hz => ?_) ho h64 hl h
  · have : i = 0 ∨ i = 1 := by omega
    rcases this with rfl | rfl <;> rfl
  · have : i = 0 ∨ i = 1 := by omega
    rcases this with rfl | rfl
    · rw [e0] at hne ⊢
      unfold loadP
      rw [if_pos hne]
    · have h0 : (readP D 0).2 = 0 := hz 0 (by omega)
      rw [e1] at hne ⊢
      unfold loadP
      rw [if_neg (fun hh => hh h0), if_pos hne]
  · have h0 : (readP D 0).2 = 0 := hz 0 (by omega)
    have h1 : (readP D 1).2 = 0 := hz 1 (by omega)
    unfold loadP
    rw [if_neg (fun hh => hh h0), if_neg (fun hh => hh h1)]
    rfl
end
def rloadX (X : RX) : Int × List Int × Int :=
  if (rreadX X 0).2 ≠ 0 then (0, [], (rreadX X 0).2) else if (rreadX X 1).2 ≠ 0 then (0, [], (rreadX X 1).2) else pickL (unP (rreadX X 0).1) (unP (rreadX X 1).1)
def OwnL (w : World) (b : Nat) (v : Value) (xs : List Int) : Prop := Kd.R (Kd.int .u64) 56 w b (fun k => b ≤ k) v xs
theorem OwnL.low {w : World} {b b' : Nat} {v : Value} {xs : List Int} (h : Kd.R (Kd.int .u64) 56 w b (fun k => b ≤ k) v xs) (hb : b' ≤ b) : Kd.R (Kd.int .u64) 56 w b' (fun k => b' ≤ k) v xs := Kd.R_mono (Kd.R_lower h hb) (fun k hk => Nat.le_trans hb hk)
section
variable {w : World} {base R : Nat} {vS vC vB : Value} {X : RX} {r : Int × List Int × Int}
theorem rload_r0 (he : (rreadX X 0).2 ≠ 0) (hl : X.cache.length ≤ 1000) (h : RK w base R vS vC vB X) : Calls Try.prog 45 #[.pointer (some ⟨R, 0, none⟩)] w (LdQ w (0, [], (rreadX X 0).2)) := by
  obtain ⟨s0, r0, e0⟩ : ∃ s0 r0, rreadX X 0 = (s0, r0) := ⟨_, _, rfl⟩
  rw [e0] at he ⊢
  simp only at he ⊢
  have E0 := Aside0.mk e0
  have HX := Aside0.mk h
  have HL := Aside0.mk hl
  have hb : (r0 != 0) = true := by simpa using he
  clear h hl e0 he
  go_enter Try.func45, Try.ntmps45
  go_wp2_with (first
    | (go_at_call 27; (with_reducible refine (rread_calls w base R vS vC vB X 0 r0 s0 E0.out HX.out HL.out).mono ?_); rintro e w1 ⟨A1, c1, rfl, hr, hb⟩; have HB1 := Aside0.mk hb; clear hr hb))
  go_ret3
  exact ⟨none, 0, rfl, Kd.R_nil _ _ _ _ _, HB1.out⟩
theorem rload_r1 (he0 : (rreadX X 0).2 = 0) (he : (rreadX X 1).2 ≠ 0) (hl : X.cache.length ≤ 1000) (h : RK w base R vS vC vB X) : Calls Try.prog 45 #[.pointer (some ⟨R, 0, none⟩)] w (LdQ w (0, [], (rreadX X 1).2)) := by
  obtain ⟨s0, r0, e0⟩ : ∃ s0 r0, rreadX X 0 = (s0, r0) := ⟨_, _, rfl⟩
  obtain ⟨s1, r1, e1⟩ : ∃ s1 r1, rreadX X 1 = (s1, r1) := ⟨_, _, rfl⟩
  rw [e1] at he ⊢
  rw [e0] at he0
  simp only at he he0 ⊢
  subst he0
  have E0 := Aside0.mk e0
  have E1 := Aside0.mk e1
  have HX := Aside0.mk h
  have HL := Aside0.mk hl
  have hb : (r1 != 0) = true := by simpa using he
  clear h hl e0 e1 he
  go_enter Try.func45, Try.ntmps45
  go_wp2_with (first
    | (go_at_call 27; (with_reducible refine (rread_calls w base R vS vC vB X 0 0 s0 E0.out HX.out HL.out).mono ?_); rintro e w1 ⟨A1, c1, rfl, hr, hb⟩; have HB1 := Aside0.mk hb; have HX1 := Aside0.mk (HX.out.fresh hb); clear hr hb)
    | (go_at_call 27; (with_reducible refine (rread_calls w1 base R vS vC vB X 1 r1 s1 E1.out HX1.out HL.out).mono ?_); rintro e w2 ⟨A2, c2, rfl, hr, hb⟩; have HB2 := Aside0.mk (HB1.out.trans (hb.mono HB1.out.size)); clear hr hb))
  go_ret3
  exact ⟨none, 0, rfl, Kd.R_nil _ _ _ _ _, HB2.out⟩
theorem rload_ok (he0 : (rreadX X 0).2 = 0) (he1 : (rreadX X 1).2 = 0) (hb0 : isBytes (rreadX X 0).1) (hb1 : isBytes (rreadX X 1).1) (h64 : (rreadX X 0).1.length ≤ 64 ∧ (rreadX X 1).1.length ≤ 64) (hl : X.cache.length ≤ 1000) (h : RK w base R vS vC vB X) :
    Calls Try.prog 45 #[.pointer (some ⟨R, 0, none⟩)] w (LdQ w (pickL (unP (rreadX X 0).1) (unP (rreadX X 1).1))) := by
  obtain ⟨s0, r0, e0⟩ : ∃ s0 r0, rreadX X 0 = (s0, r0) := ⟨_, _, rfl⟩
  obtain ⟨s1, r1, e1⟩ : ∃ s1 r1, rreadX X 1 = (s1, r1) := ⟨_, _, rfl⟩
  rw [e0] at he0 hb0 h64 ⊢
  rw [e1] at he1 hb1 h64 ⊢
  simp only at he0 he1 hb0 hb1 h64 ⊢
  subst he0 he1
  have E0 := Aside0.mk e0
  have E1 := Aside0.mk e1
  have HX := Aside0.mk h
  have HL := Aside0.mk hl
  have HU0 := Aside0.mk (fun (w : World) (A : Option Addr) (c : Nat) (h : SB w A c s0) => un_calls w A c s0 (Nat.le_trans h64.1 (by omega)) h hb0)
  have HU1 := Aside0.mk (fun (w : World) (A : Option Addr) (c : Nat) (h : SB w A c s1) => un_calls w A c s1 (Nat.le_trans h64.2 (by omega)) h hb1)
  obtain ⟨u, hu⟩ : ∃ u, unP s0 = u := ⟨_, rfl⟩
  obtain ⟨v, hv⟩ : ∃ v, unP s1 = v := ⟨_, rfl⟩
  unfold UnQ at HU0 HU1
  have hue := (unP_bytes s0 hb0 (g := u.1) (l := u.2.1) (e := u.2.2) hu).2.2.2
  have hve := (unP_bytes s1 hb1 (g := v.1) (l := v.2.1) (e := v.2.2) hv).2.2.2
  rw [hu] at HU0 ⊢
  rw [hv] at HU1 ⊢
  obtain ⟨ug, ul, ue⟩ := u
  obtain ⟨vg, vl, ve⟩ := v
  simp only at HU0 HU1 hue hve
  clear h hl e0 e1 hb0 hb1 h64 hu hv
  rcases hue with rfl | rfl <;> rcases hve with rfl | rfl
  · by_cases hgt : ug < vg
    · have HP := Aside0.mk (show pickL (ug, ul, 0) (vg, vl, 0) = (vg, vl, 0) from by simp [pickL, stepL, hgt])
      go_enter Try.func45, Try.ntmps45
      go_wp2_with (first
        | (go_at_call 27; (with_reducible refine (rread_calls w base R vS vC vB X 0 0 s0 E0.out HX.out HL.out).mono ?_); rintro e w1 ⟨A1, c1, rfl, hr, hb⟩; have HS1 := Aside0.mk (SB.of_R hr); have HB1 := Aside0.mk hb; have HX1 := Aside0.mk (HX.out.fresh hb); clear hr hb)
        | (go_at_call 27; (with_reducible refine (rread_calls w1 base R vS vC vB X 1 0 s1 E1.out HX1.out HL.out).mono ?_); rintro e w2 ⟨A2, c2, rfl, hr, hb⟩; have HS2 := Aside0.mk (SB.of_R hr); have HT2 := Aside0.mk (HS1.out.move hb); have HB2 := Aside0.mk (HB1.out.trans (hb.mono HB1.out.size)); clear hr hb)
        | (go_at_call 40; (with_reducible refine (HU0.out w2 A1 c1 HT2.out).mono ?_); rintro e w3 ⟨A3, c3, rfl, hr, hb⟩; have HR3 := Aside0.mk hr; have HS3 := Aside0.mk (HS2.out.move hb); have HB3 := Aside0.mk (HB2.out.trans (hb.mono HB2.out.size)); clear hr hb)
        | (go_at_call 40; (with_reducible refine (HU1.out w3 A2 c2 HS3.out).mono ?_); rintro e w4 ⟨A4, c4, rfl, hr, hb⟩; have HR4 := Aside0.mk (OwnL.low hr HB3.out.size); have HR3' := Aside0.mk (OwnL.low (Kd.R_below HR3.out hb) HB2.out.size); have HB4 := Aside0.mk (HB3.out.trans (hb.mono HB3.out.size)); clear hr hb))
      go_ret3
      unfold LdQ
      rw [HP.out]
      exact ⟨A4, c4, rfl, OwnL.low HR4.out (Nat.le_refl _), HB4.out⟩
    · have HP := Aside0.mk (show pickL (ug, ul, 0) (vg, vl, 0) = (ug, ul, 0) from by simp [pickL, stepL, hgt])
      go_enter Try.func45, Try.ntmps45
      go_wp2_with (first
        | (go_at_call 27; (with_reducible refine (rread_calls w base R vS vC vB X 0 0 s0 E0.out HX.out HL.out).mono ?_); rintro e w1 ⟨A1, c1, rfl, hr, hb⟩; have HS1 := Aside0.mk (SB.of_R hr); have HB1 := Aside0.mk hb; have HX1 := Aside0.mk (HX.out.fresh hb); clear hr hb)
        | (go_at_call 27; (with_reducible refine (rread_calls w1 base R vS vC vB X 1 0 s1 E1.out HX1.out HL.out).mono ?_); rintro e w2 ⟨A2, c2, rfl, hr, hb⟩; have HS2 := Aside0.mk (SB.of_R hr); have HT2 := Aside0.mk (HS1.out.move hb); have HB2 := Aside0.mk (HB1.out.trans (hb.mono HB1.out.size)); clear hr hb)
        | (go_at_call 40; (with_reducible refine (HU0.out w2 A1 c1 HT2.out).mono ?_); rintro e w3 ⟨A3, c3, rfl, hr, hb⟩; have HR3 := Aside0.mk hr; have HS3 := Aside0.mk (HS2.out.move hb); have HB3 := Aside0.mk (HB2.out.trans (hb.mono HB2.out.size)); clear hr hb)
        | (go_at_call 40; (with_reducible refine (HU1.out w3 A2 c2 HS3.out).mono ?_); rintro e w4 ⟨A4, c4, rfl, hr, hb⟩; have HR4 := Aside0.mk (OwnL.low hr HB3.out.size); have HR3' := Aside0.mk (OwnL.low (Kd.R_below HR3.out hb) HB2.out.size); have HB4 := Aside0.mk (HB3.out.trans (hb.mono HB3.out.size)); clear hr hb))
      go_ret3
      unfold LdQ
      rw [HP.out]
      exact ⟨A3, c3, rfl, HR3'.out, HB4.out⟩
  · have HP := Aside0.mk (show pickL (ug, ul, 0) (vg, vl, 60) = (ug, ul, 0) from by simp [pickL, stepL])
    go_enter Try.func45, Try.ntmps45
    go_wp2_with (first
      | (go_at_call 27; (with_reducible refine (rread_calls w base R vS vC vB X 0 0 s0 E0.out HX.out HL.out).mono ?_); rintro e w1 ⟨A1, c1, rfl, hr, hb⟩; have HS1 := Aside0.mk (SB.of_R hr); have HB1 := Aside0.mk hb; have HX1 := Aside0.mk (HX.out.fresh hb); clear hr hb)
      | (go_at_call 27; (with_reducible refine (rread_calls w1 base R vS vC vB X 1 0 s1 E1.out HX1.out HL.out).mono ?_); rintro e w2 ⟨A2, c2, rfl, hr, hb⟩; have HS2 := Aside0.mk (SB.of_R hr); have HT2 := Aside0.mk (HS1.out.move hb); have HB2 := Aside0.mk (HB1.out.trans (hb.mono HB1.out.size)); clear hr hb)
      | (go_at_call 40; (with_reducible refine (HU0.out w2 A1 c1 HT2.out).mono ?_); rintro e w3 ⟨A3, c3, rfl, hr, hb⟩; have HR3 := Aside0.mk hr; have HS3 := Aside0.mk (HS2.out.move hb); have HB3 := Aside0.mk (HB2.out.trans (hb.mono HB2.out.size)); clear hr hb)
      | (go_at_call 40; (with_reducible refine (HU1.out w3 A2 c2 HS3.out).mono ?_); rintro e w4 ⟨A4, c4, rfl, hr, hb⟩; have HR4 := Aside0.mk (OwnL.low hr HB3.out.size); have HR3' := Aside0.mk (OwnL.low (Kd.R_below HR3.out hb) HB2.out.size); have HB4 := Aside0.mk (HB3.out.trans (hb.mono HB3.out.size)); clear hr hb))
    go_ret3
    unfold LdQ
    rw [HP.out]
    exact ⟨A3, c3, rfl, HR3'.out, HB4.out⟩
  · have HP := Aside0.mk (show pickL (ug, ul, 60) (vg, vl, 0) = (vg, vl, 0) from by simp [pickL, stepL])
    go_enter Try.func45, Try.ntmps45
    go_wp2_with (first
      | (go_at_call 27; (with_reducible refine (rread_calls w base R vS vC vB X 0 0 s0 E0.out HX.out HL.out).mono ?_); rintro e w1 ⟨A1, c1, rfl, hr, hb⟩; have HS1 := Aside0.mk (SB.of_R hr); have HB1 := Aside0.mk hb; have HX1 := Aside0.mk (HX.out.fresh hb); clear hr hb)
      | (go_at_call 27; (with_reducible refine (rread_calls w1 base R vS vC vB X 1 0 s1 E1.out HX1.out HL.out).mono ?_); rintro e w2 ⟨A2, c2, rfl, hr, hb⟩; have HS2 := Aside0.mk (SB.of_R hr); have HT2 := Aside0.mk (HS1.out.move hb); have HB2 := Aside0.mk (HB1.out.trans (hb.mono HB1.out.size)); clear hr hb)
      | (go_at_call 40; (with_reducible refine (HU0.out w2 A1 c1 HT2.out).mono ?_); rintro e w3 ⟨A3, c3, rfl, hr, hb⟩; have HR3 := Aside0.mk hr; have HS3 := Aside0.mk (HS2.out.move hb); have HB3 := Aside0.mk (HB2.out.trans (hb.mono HB2.out.size)); clear hr hb)
      | (go_at_call 40; (with_reducible refine (HU1.out w3 A2 c2 HS3.out).mono ?_); rintro e w4 ⟨A4, c4, rfl, hr, hb⟩; have HR4 := Aside0.mk (OwnL.low hr HB3.out.size); have HR3' := Aside0.mk (OwnL.low (Kd.R_below HR3.out hb) HB2.out.size); have HB4 := Aside0.mk (HB3.out.trans (hb.mono HB3.out.size)); clear hr hb))
    go_ret3
    unfold LdQ
    rw [HP.out]
    exact ⟨A4, c4, rfl, HR4.out, HB4.out⟩
  · have HP := Aside0.mk (show pickL (ug, ul, 60) (vg, vl, 60) = (0, [], 60) from by simp [pickL, stepL])
    go_enter Try.func45, Try.ntmps45
    go_wp2_with (first
      | (go_at_call 27; (with_reducible refine (rread_calls w base R vS vC vB X 0 0 s0 E0.out HX.out HL.out).mono ?_); rintro e w1 ⟨A1, c1, rfl, hr, hb⟩; have HS1 := Aside0.mk (SB.of_R hr); have HB1 := Aside0.mk hb; have HX1 := Aside0.mk (HX.out.fresh hb); clear hr hb)
      | (go_at_call 27; (with_reducible refine (rread_calls w1 base R vS vC vB X 1 0 s1 E1.out HX1.out HL.out).mono ?_); rintro e w2 ⟨A2, c2, rfl, hr, hb⟩; have HS2 := Aside0.mk (SB.of_R hr); have HT2 := Aside0.mk (HS1.out.move hb); have HB2 := Aside0.mk (HB1.out.trans (hb.mono HB1.out.size)); clear hr hb)
      | (go_at_call 40; (with_reducible refine (HU0.out w2 A1 c1 HT2.out).mono ?_); rintro e w3 ⟨A3, c3, rfl, hr, hb⟩; have HR3 := Aside0.mk hr; have HS3 := Aside0.mk (HS2.out.move hb); have HB3 := Aside0.mk (HB2.out.trans (hb.mono HB2.out.size)); clear hr hb)
      | (go_at_call 40; (with_reducible refine (HU1.out w3 A2 c2 HS3.out).mono ?_); rintro e w4 ⟨A4, c4, rfl, hr, hb⟩; have HR4 := Aside0.mk (OwnL.low hr HB3.out.size); have HR3' := Aside0.mk (OwnL.low (Kd.R_below HR3.out hb) HB2.out.size); have HB4 := Aside0.mk (HB3.out.trans (hb.mono HB3.out.size)); clear hr hb))
    go_ret3
    unfold LdQ
    rw [HP.out]
    exact ⟨none, 0, rfl, Kd.R_nil _ _ _ _ _, HB4.out⟩
theorem rload_calls (hr : rloadX X = r) (hb0 : isBytes (rreadX X 0).1) (hb1 : isBytes (rreadX X 1).1) (h64 : (rreadX X 0).1.length ≤ 64 ∧ (rreadX X 1).1.length ≤ 64) (hl : X.cache.length ≤ 1000) (h : RK w base R vS vC vB X) :
    Calls Try.prog 45 #[.pointer (some ⟨R, 0, none⟩)] w (LdQ w r) := by
  subst hr
  unfold rloadX
  split
  · exact rload_r0 (by assumption) hl h
  · rename_i h0
    split
    · exact rload_r1 (by simpa using h0) (by assumption) hl h
    · rename_i h1
      exact rload_ok (by simpa using h0) (by simpa using h1) hb0 hb1 h64 hl h
end
end Go.Proofs.Ytlepcmljmibdnaa
namespace Go.Proofs.Ytlepcmljmibdnaa
open Go.RowKit Go.Proofs.YtlepcmljmibdnaaW.PrintWords Go.Proofs.YtlepcmljmibdnaaW.PrintLast Go.Proofs.YtlepcmljmibdnaaW.PrintMore PWalOpens
set_option linter.unusedVariables false
set_option linter.unusedSimpArgs false
def view (D : PD) (a : Int) : List Int := readL ((D.kept a).getD zsec) D.cache a
def updS (S : Int → List Int) (at_ : Int) (s : List Int) : Int → List Int := fun a => if a = at_ then s else S a
theorem readL_snoc (s : List Int) (l : List (Int × List Int)) (p : Int × List Int) (a : Int) : readL s (l ++ [p]) a = if p.1 = a then p.2 else readL s l a := by
  unfold readL
  rw [List.foldl_append]
  rfl
theorem keepAll_view (l : List (Int × List Int)) : ∀ (D : PD) (a : Int), ((keepAll D l).kept a).getD zsec = readL ((D.kept a).getD zsec) l a := by
  induction l with
  | nil => intro D a; rfl
  | cons p l ih =>
    intro D a
    show ((keepAll (keepP D p) l).kept a).getD zsec = readL _ (p :: l) a
    rw [ih (keepP D p) a, keepP_at]
    unfold readL
    rw [List.foldl_cons]
    by_cases h : a = p.1
    · rw [if_pos h, if_pos h.symm]
    · rw [if_neg h, if_neg (fun e => h e.symm)]
theorem keepAll_keeps (l : List (Int × List Int)) : ∀ D : PD, (keepAll D l).n = D.n ∧ (keepAll D l).bad = D.bad ∧ (keepAll D l).armed = D.armed ∧ (keepAll D l).left = D.left ∧ (keepAll D l).dead = D.dead := by
  induction l with
  | nil => intro D; exact ⟨rfl, rfl, rfl, rfl, rfl⟩
  | cons p l ih => intro D; exact ih (keepP D p)
/-- alive, not armed, no bad sector -/
structure Rdy (D : PD) (n : Int) (S : Int → List Int) : Prop where
  dead : D.dead = false
  armed : D.armed = false
  bad : ∀ a, D.bad a = false
  n : D.n = n
  view : ∀ a, view D a = S a
section
variable {D : PD} {n : Int} {S : Int → List Int}
theorem Rdy.act (h : Rdy D n S) : actP D = (D, 0) := by
  unfold actP
  rw [h.dead, h.armed]
  rfl
theorem Rdy.write (h : Rdy D n S) (at_ : Int) (b : List Int) (h0 : 0 ≤ at_) (h1 : at_ < n) (hb : b.length ≤ 64) : writeP D at_ b = ({ D with cache := D.cache ++ [(at_, pad b)] }, 0) := by
  unfold writeP
  rw [h.act, h.dead]
  simp only [Bool.false_eq_true, if_false]
  rw [if_neg (by rw [h.n]; unfold inB; simp; omega), if_neg (by omega), if_neg (by simp), ← h.dead]
theorem Rdy.wrote (h : Rdy D n S) (at_ : Int) (b : List Int) : Rdy { D with cache := D.cache ++ [(at_, pad b)] } n (updS S at_ (pad b)) := by
  refine ⟨h.dead, h.armed, h.bad, h.n, fun a => ?_⟩
  have hv := h.view a
  unfold Proofs.Ytlepcmljmibdnaa.view at hv ⊢
  show readL _ (D.cache ++ _) a = _
  rw [readL_snoc, hv]
  unfold updS
  by_cases e : a = at_
  · rw [if_pos e, if_pos e.symm]
  · rw [if_neg e, if_neg (fun h => e h.symm)]
theorem Rdy.flush (h : Rdy D n S) : (flushP D).2 = 0 ∧ Rdy (flushP D).1 n S ∧ (flushP D).1.cache = [] := by
  unfold flushP
  rw [h.act]
  rw [if_neg (by simp)]
  obtain ⟨k1, k2, k3, k4, k5⟩ := keepAll_keeps D.cache D
  refine ⟨rfl, ⟨k5.trans h.dead, k3.trans h.armed, fun a => by show (keepAll D D.cache).bad a = false; rw [k2]; exact h.bad a, k1.trans h.n, fun a => ?_⟩, rfl⟩
  have := keepAll_view D.cache D a
  have hv := h.view a
  unfold Proofs.Ytlepcmljmibdnaa.view at hv ⊢
  exact this.trans hv
theorem Rdy.read (h : Rdy D n S) (a : Int) (h0 : 0 ≤ a) (h1 : a < n) : readP D a = (S a, 0) := by
  unfold readP
  rw [h.dead, h.bad a]
  simp only [Bool.false_eq_true, if_false]
  rw [if_neg (by rw [h.n]; unfold inB; simp; omega)]
  have hv := h.view a
  unfold Proofs.Ytlepcmljmibdnaa.view at hv
  rw [hv]
theorem Rdy.save (h : Rdy D n S) (hn : 2 ≤ n) (g : Int) (l : List Int) (hg : 0 ≤ g) (hl : l.length ≤ 4) : (saveP D g l).2 = 0 ∧ Rdy (saveP D g l).1 n (updS S (g % 2) (pad (slotB g l))) ∧ (saveP D g l).1.cache = [] := by
  obtain ⟨f1, f2, f3⟩ := h.flush
  have hw := f2.write (g % 2) (slotB g l) (by omega) (by omega) (slotB_64 g l hl)
  have hw2 := f2.wrote (g % 2) (slotB g l)
  obtain ⟨q1, q2, q3⟩ := hw2.flush
  unfold saveP
  rw [if_neg (by omega), if_neg (by rw [f1]; simp), hw, if_neg (by simp)]
  exact ⟨q1, q2, q3⟩
theorem Rdy.format (h : Rdy D n S) (hn : 2 ≤ n) (l : List Int) (hl : l.length ≤ 4) : (formatP D l).2 = 0 ∧ Rdy (formatP D l).1 n (updS (updS (updS S 0 zsec) 1 zsec) 0 (pad (slotB 0 l))) ∧ (formatP D l).1.cache = [] := by
  have w1 := h.write 0 [] (by omega) (by omega) (by simp)
  have w1' := h.wrote 0 []
  have w2 := w1'.write 1 [] (by omega) (by omega) (by simp)
  have w2' := w1'.wrote 1 []
  have q := w2'.save hn 0 l (by omega) hl
  unfold formatP
  rw [w1, if_neg (by simp), w2, if_neg (by simp)]
  exact q
theorem Rdy.load (h : Rdy D n S) (hn : 2 ≤ n) : loadP D = pickL (unP (S 0)) (unP (S 1)) := by
  unfold loadP
  rw [h.read 0 (by omega) (by omega), h.read 1 (by omega) (by omega), if_neg (by simp), if_neg (by simp)]
end
theorem rdy_new (n : Int) : Rdy (newP n) (min (max n 0) 4096) (fun _ => zsec) := ⟨rfl, rfl, fun _ => rfl, rfl, fun _ => rfl⟩
theorem unP_zsec : unP zsec = (0, [], 60) := by
  unfold unP
  rw [if_neg (by decide)]
theorem unP_pad (g : Int) (l : List Int) (hg : 0 ≤ g ∧ g < 18446744073709551616) (hl : l.length ≤ 4) (hn : ∀ n ∈ l, 0 ≤ n ∧ n < 18446744073709551616) : unP (pad (slotB g l)) = (g, l, 0) := unP_slot g l _ hg hl hn
/-- what a disk holds: bytes, sectors whole -/
structure OKD (D : PD) : Prop where
  ok : okD D
  c64 : ∀ p ∈ D.cache, p.2.length = 64
theorem pad_bytes {b : List Int} (h : isBytes b) : isBytes (pad b) := by
  intro x hx
  unfold pad at hx
  rcases List.mem_append.1 hx with hx | hx
  · exact h x hx
  · have := List.eq_of_mem_replicate hx
    omega
theorem OKD.act {D : PD} (h : OKD D) : OKD (actP D).1 := by
  have hk : (actP D).1.kept = D.kept := by unfold actP; simp only; (repeat' split) <;> rfl
  have hc : (actP D).1.cache = D.cache := by unfold actP; simp only; (repeat' split) <;> rfl
  exact ⟨⟨by rw [hk]; exact h.ok.1, by rw [hc]; exact h.ok.2⟩, by rw [hc]; exact h.c64⟩
theorem OKD.write {D : PD} (h : OKD D) (at_ : Int) {b : List Int} (hb : isBytes b) : OKD (writeP D at_ b).1 := by
  unfold writeP
  split
  · exact h
  · split
    · exact h
    · split
      · exact h
      · split
        · exact h.act
        · rename_i h64 _
          have h' := h.act
          refine ⟨⟨h'.ok.1, fun p hp => ?_⟩, fun p hp => ?_⟩
          · rcases List.mem_append.1 hp with hp | hp
            · exact h'.ok.2 p hp
            · rw [List.mem_singleton] at hp; subst hp; exact pad_bytes hb
          · rcases List.mem_append.1 hp with hp | hp
            · exact h'.c64 p hp
            · rw [List.mem_singleton] at hp; subst hp; exact pad_length b (by omega)
theorem OKD.keep {D : PD} (h : OKD D) {p : Int × List Int} (hp : isBytes p.2) : OKD (keepP D p) := by
  refine ⟨⟨fun a s hs => ?_, h.ok.2⟩, h.c64⟩
  unfold keepP at hs
  simp only at hs
  split at hs
  · split at hs
    · cases hs
    · cases hs; exact hp
  · exact h.ok.1 a s hs
theorem OKD.keepAll (l : List (Int × List Int)) : ∀ {D : PD}, OKD D → (∀ p ∈ l, isBytes p.2) → OKD (keepAll D l) := by
  induction l with
  | nil => intro D h _; exact h
  | cons p l ih => intro D h hl; exact ih (h.keep (hl p (by simp))) (fun q hq => hl q (by simp [hq]))
theorem OKD.flush {D : PD} (h : OKD D) : OKD (flushP D).1 := by
  unfold flushP
  split
  · exact h.act
  · have h' := h.act
    have hk := OKD.keepAll (actP D).1.cache h' h'.ok.2
    exact ⟨⟨hk.ok.1, fun p hp => by cases hp⟩, fun p hp => by cases hp⟩
theorem OKD.save {D : PD} (h : OKD D) (g : Int) (l : List Int) (hg : 0 ≤ g ∧ g < 18446744073709551616) (hn : ∀ n ∈ l, 0 ≤ n ∧ n < 18446744073709551616) : OKD (saveP D g l).1 := by
  unfold saveP
  split
  · exact h
  · rename_i hl
    split
    · exact h.flush
    · split
      · exact h.flush.write _ (slotB_bytes g l hg hn (by omega))
      · exact (h.flush.write _ (slotB_bytes g l hg hn (by omega))).flush
theorem OKD.new (n : Int) : OKD (newP n) := ⟨⟨fun a s hs => (by cases hs), fun p hp => by cases hp⟩, fun p hp => by cases hp⟩
theorem OKD.format {D : PD} (h : OKD D) (l : List Int) (hn : ∀ n ∈ l, 0 ≤ n ∧ n < 18446744073709551616) : OKD (formatP D l).1 := by
  have nil : isBytes [] := fun x hx => by cases hx
  unfold formatP
  split
  · exact h.write 0 nil
  · split
    · exact (h.write 0 nil).write 1 nil
    · exact ((h.write 0 nil).write 1 nil).save 0 l (by omega) hn
end Go.Proofs.Ytlepcmljmibdnaa
namespace Go.Proofs.Ytlepcmljmibdnaa
open Go.RowKit Go.Proofs.YtlepcmljmibdnaaW.PrintWords Go.Proofs.YtlepcmljmibdnaaW.PrintLast Go.Proofs.YtlepcmljmibdnaaW.PrintMore PWalOpens
set_option linter.unusedVariables false
set_option linter.unusedSimpArgs false
section
variable {w0 w : World} {F : Nat → Prop} {B M Bd : Nat} {vc : Value} {D D1 : PD}
theorem at_save {g : Int} {l : List Int} {A : Option Addr} {c : Nat} {e : Int} (hsv : saveP D g l = (D1, e)) (hg : 0 ≤ g ∧ g < 18446744073709551616) (hn : ∀ n ∈ l, 0 ≤ n ∧ n < 18446744073709551616) (hC : (Kd.int .u64).C w A l.length l) (hc : D.cache.length ≤ 900) (h : At w0 F w B M Bd vc D) :
    Calls Try.prog 42 #[.pointer (some ⟨B, 0, none⟩), .int .u64 g, .slice A l.length c] w fun r w' => r = .returned (.int .i64 e) ∧ ∃ vc', At w0 F w' B M Bd vc' D1 := by
  refine (save_calls hsv hg hn hC hc h.dk).mono ?_
  rintro r w' ⟨rfl, vc', hd⟩
  exact ⟨rfl, vc', h.then_ hd⟩
theorem at_format {l : List Int} {A : Option Addr} {c : Nat} {e : Int} (hf : formatP D l = (D1, e)) (hc : D.cache.length ≤ 800) (hn : ∀ n ∈ l, 0 ≤ n ∧ n < 18446744073709551616) (hC : ∀ w', Chg w w' (FP B M Bd vc) → (Kd.int .u64).C w' A l.length l) (h : At w0 F w B M Bd vc D) :
    Calls Try.prog 46 #[.pointer (some ⟨B, 0, none⟩), .slice A l.length c] w fun r w' => r = .returned (.int .i64 e) ∧ ∃ vc', At w0 F w' B M Bd vc' D1 := by
  refine (format_calls hf hc hn hC h.dk).mono ?_
  rintro r w' ⟨rfl, vc', hd⟩
  exact ⟨rfl, vc', h.then_ hd⟩
theorem at_load {r : Int × List Int × Int} (hr : loadP D = r) (ho : OKD D) (hl : D.cache.length ≤ 1000) (h : At w0 F w B M Bd vc D) :
    Calls Try.prog 44 #[.pointer (some ⟨B, 0, none⟩)] w fun e w' => ∃ A c, e = .returned (.tuple #[.int .u64 r.1, .slice A r.2.1.length c, .int .i64 r.2.2]) ∧ Kd.R (Kd.int .u64) 56 w' w.heap.size (fun k => w.heap.size ≤ k) (.slice A r.2.1.length c) r.2.1 ∧ Below w.heap.size w w' ∧ At w0 F w' B M Bd vc D := by
  refine (load_calls hr ho.ok ho.c64 hl h.dk).mono ?_
  rintro e w' ⟨A, c, rfl, hr, hb⟩
  exact ⟨A, c, rfl, hr, hb, h.grow (.of_below hb)⟩
/-- one number as an argument -/
theorem save_lit (g x e : Int) (hsv : saveP D g [x] = (D1, e)) (hg : 0 ≤ g ∧ g < 18446744073709551616) (hx : 0 ≤ x ∧ x < 18446744073709551616) (hc : D.cache.length ≤ 900) (h : At w0 F w B M Bd vc D) :
    Calls Try.prog 42 #[.pointer (some ⟨B, 0, none⟩), .int .u64 g, .slice (some ⟨w.heap.size, 0, none⟩) 1 1] (w.alloc (.cells #[.int .u64 x] 56)) fun r w' => r = .returned (.int .i64 e) ∧ ∃ vc', At w0 F w' B M Bd vc' D1 :=
  at_save (l := [x]) (A := some ⟨w.heap.size, 0, none⟩) (c := 1) hsv hg (by simp; exact hx) (lit_Cu w [x] (fun _ => False) (by simp) (fun h => h) _ (Chg.refl _ _)) hc (h.grow (.of_below (Below.alloc (Below.refl w.heap.size w) (Nat.le_refl _) (.cells #[.int .u64 x] 56))))
theorem format_lit (x e : Int) (hf : formatP D [x] = (D1, e)) (hx : 0 ≤ x ∧ x < 18446744073709551616) (hc : D.cache.length ≤ 800) (h : At w0 F w B M Bd vc D) :
    Calls Try.prog 46 #[.pointer (some ⟨B, 0, none⟩), .slice (some ⟨w.heap.size, 0, none⟩) 1 1] (w.alloc (.cells #[.int .u64 x] 56)) fun r w' => r = .returned (.int .i64 e) ∧ ∃ vc', At w0 F w' B M Bd vc' D1 :=
  at_format (l := [x]) (A := some ⟨w.heap.size, 0, none⟩) (c := 1) hf hc (by simp; exact hx) (fun w' hc' => lit_Cu w [x] (FP B M Bd vc) (by simp) (fun hk => absurd (h.dk.fp _ hk).2 (Nat.lt_irrefl _)) w' hc') (h.grow (.of_below (Below.alloc (Below.refl w.heap.size w) (Nat.le_refl _) (.cells #[.int .u64 x] 56))))
end
set_option maxRecDepth 100000 in
theorem awake6_calls (w : World) : Calls Try.prog 36 #[] w fun e w' => e = .returned (.bool true) ∧ Below w.heap.size w w' := by
  have r0 := rdy_new 2
  have hm : min (max (2 : Int) 0) 4096 = 2 := by decide
  rw [hm] at r0
  obtain ⟨f1, f2, f3⟩ := r0.format (by omega) [7] (by simp)
  obtain ⟨D1, hD1⟩ : ∃ D1, (formatP (newP 2) [7]).1 = D1 := ⟨_, rfl⟩
  have HF := Aside0.mk (show formatP (newP 2) [7] = (D1, 0) from by rw [← hD1, ← f1])
  have HO1 := (OKD.new 2).format [7] (by simp)
  rw [hD1] at f2 f3 HO1
  obtain ⟨s1, s2, s3⟩ := f2.save (by omega) 1 [8] (by omega) (by simp)
  obtain ⟨D2, hD2⟩ : ∃ D2, (saveP D1 1 [8]).1 = D2 := ⟨_, rfl⟩
  have HS := Aside0.mk (show saveP D1 1 [8] = (D2, 0) from by rw [← hD2, ← s1])
  have HO2 := HO1.save 1 [8] (by omega) (by simp)
  rw [hD2] at s2 s3 HO2
  have HL := Aside0.mk (show loadP D2 = (1, [8], 0) from by
    rw [s2.load (by omega)]
    have e0 : unP (pad (slotB 0 [7])) = (0, [7], 0) := unP_pad 0 [7] (by omega) (by simp) (by simp)
    have e1 : unP (pad (slotB 1 [8])) = (1, [8], 0) := unP_pad 1 [8] (by omega) (by simp) (by simp)
    simp only [updS]
    rw [if_neg (by decide), if_pos (by decide), if_pos (by decide), e0, e1]
    rfl)
  have HOK := Aside0.mk HO2
  have HC1 := Aside0.mk (show D1.cache.length ≤ 900 by rw [f3]; simp)
  have HC2 := Aside0.mk (show D2.cache.length ≤ 1000 by rw [s3]; simp)
  have HC0 := Aside0.mk (show (newP 2).cache.length ≤ 800 by decide)
  have H7 := Aside0.mk (show (0 : Int) ≤ 7 ∧ (7 : Int) < 18446744073709551616 by omega)
  have H8 := Aside0.mk (show (0 : Int) ≤ 8 ∧ (8 : Int) < 18446744073709551616 by omega)
  have H1 := Aside0.mk (show (0 : Int) ≤ 1 ∧ (1 : Int) < 18446744073709551616 by omega)
  clear r0 f1 f2 f3 s1 s2 s3 hD1 hD2 HO1 HO2 hm
  go_enter Try.func36, Try.ntmps36
  go_wp2_with (first
    | (go_at_call 15; (with_reducible refine (new_at w w 2 (Below.refl _ _)).mono ?_); rintro e w1 ⟨B, M, Bd, rfl, hd⟩; have HD1 := Aside0.mk hd; clear hd)
    | (go_at_call 46; (with_reducible refine (format_lit 7 0 HF.out H7.out HC0.out HD1.out).mono ?_); rintro e w2 ⟨rfl, vc2, hd⟩; have HD2 := Aside0.mk hd; clear hd)
    | (go_at_call 42; (with_reducible refine (save_lit 1 8 0 HS.out H1.out H8.out HC1.out HD2.out).mono ?_); rintro e w3 ⟨rfl, vc3, hd⟩; have HD3 := Aside0.mk hd; clear hd)
    | (go_at_call 44; (with_reducible refine (at_load HL.out HOK.out HC2.out HD3.out).mono ?_); rintro e w4 ⟨A4, c4, rfl, hr, hb, hd⟩; obtain ⟨g4, c4', hv⟩ := R_addr hr (by simp); cases hv; obtain ⟨a4, ea, x4⟩ := Kd.at_int (Kd.R_reads' hr).2.2 (0 : Int) (by omega) (by simp); cases ea; have x5 : w4.cell? ⟨g4, 0, none⟩ = some (.int .u64 8) := x4; clear x4; have HD4 := Aside0.mk hd; clear hd hr hb))
  go_ret
  exact ⟨rfl, HD4.out.below⟩
end Go.Proofs.Ytlepcmljmibdnaa
