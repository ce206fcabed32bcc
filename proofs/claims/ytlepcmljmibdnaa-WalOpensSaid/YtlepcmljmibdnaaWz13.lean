/- Parts of one proof, joined: Wk, Xg, Xh, Xi, Xj, Xk. Conditions: those of each statement. -/
import Derived.Test.YtlepcmljmibdnaaWz12
import Derived.Test.YtlepcmljmibdnaaWz10
namespace Go.Proofs.Ytlepcmljmibdnaa
open Go.RowKit Go.Proofs.YtlepcmljmibdnaaW.PrintWords Go.Proofs.YtlepcmljmibdnaaW.PrintLast Go.Proofs.YtlepcmljmibdnaaW.PrintMore PWalOpens
set_option linter.unusedVariables false
set_option linter.unusedSimpArgs false
theorem few7_loop (l : List (List Int)) (hl : l.length ≤ 9223372036854775807) : ∀ (m i : Nat), i + m = l.length → (∀ j, j < i → (l.getD j []).length ≤ 400) →
    ∃ r, factotumlaw07_few.l0 (m + 1) l l (l.length : Int) (i : Int) = some r ∧ (r = true → l.length ≤ 6 ∧ ∀ b ∈ l, b.length ≤ 400)
  | 0, i, hi, hall => by
    refine ⟨decide ((l.length : Int) ≤ 6), ?_, fun h => ⟨by have := of_decide_eq_true h; omega, fun x hx => ?_⟩⟩
    · rw [factotumlaw07_few.l0, if_neg (by omega)]
    · obtain ⟨j, hj, rfl⟩ := List.mem_iff_getElem.1 hx
      have := hall j (by omega)
      simpa [List.getD, hj] using this
  | m + 1, i, hi, hall => by
    rw [factotumlaw07_few.l0, if_pos (by omega), if_pos (by omega), if_pos (by omega)]
    have e : rd_L1 l (i : Int) = l.getD i [] := by simp [rd_L1]
    rw [e]
    by_cases h1 : ((l.getD i []).length : Int) > 400
    · exact ⟨false, by rw [if_pos h1], fun h => by cases h⟩
    · rw [if_neg h1, show wrap64 ((i : Int) + 1) = ((i + 1 : Nat) : Int) by unfold wrap64; omega]
      exact few7_loop l hl m (i + 1) (by omega) (fun j hj => by
        by_cases hji : j < i
        · exact hall j hji
        · obtain rfl : j = i := by omega
          omega)
theorem few7_f (l : List (List Int)) (hl : l.length ≤ 9223372036854775807) : ∃ r, factotumlaw07_few.f (l.length + 1) l = some r ∧ (r = true → l.length ≤ 6 ∧ ∀ b ∈ l, b.length ≤ 400) := few7_loop l hl l.length 0 (by omega) (by omega)
/-- texts that lie in an elder world -/
def farK (w0 : World) : Kd (List Int) where
  sz := 1
  E := []
  K := fun _ xs cs => bytesK.K w0 xs cs
  M := fun _ _ _ xs cs => bytesK.K w0 xs cs
  K_len := fun h => bytesK.K_len h
  K_one := fun h => bytesK.K_one h
  K_below := fun _ h => h
  K_of_M := fun h => h
  M_mono := fun _ h => h
  M_bound := fun h => h
  M_move := fun _ h => h
  M_lower := fun _ h => h
theorem far_C {w0 w : World} {A : Option Addr} {n : Nat} {xs : List (List Int)} (h : (farK w0).C w A n xs) (hb : Below w0.heap.size w0 w) : bytesK.C w A n xs := by
  refine ⟨h.1, h.2.1, fun h0 => ?_⟩
  obtain ⟨ad, e, hc⟩ := h.2.2 h0
  refine ⟨ad, e, fun j p hj => ?_⟩
  obtain ⟨c, h1, h2, h3⟩ := hc j p hj
  exact ⟨c, h1, bytesK.K_below hb h2, h3⟩
theorem info29k : (Try.prog.info? 29).map (fun i => (i.zero, i.size, i.bytes)) = some (some (.slice none 0 0), 1, 24) := by kernel_rfl
section
variable {n0 : Nat} {w w' : World} {Wb B M Bd : Nat} {vc vs v1 : Value} {D D1 D2 : PD} {gen head tail h1 t1 : Int} {S S1 st : List Int} {over : Bool} {s e e2 : Int}
def ChgQ (n0 : Nat) (w : World) (B M Bd : Nat) (D1 : PD) (e h1 s g : Int) (r : Ending) (w' : World) : Prop :=
  r = .returned (.int .i64 (chgE D1 e h1 s g)) ∧ TC n0 isWD w w' ∧ ∃ vc', DK w' n0 B M Bd vc' (chgD D1 e h1 s g)
end
end Go.Proofs.Ytlepcmljmibdnaa
namespace Go.Proofs.Ytlepcmljmibdnaa
open Go.RowKit Go.Proofs.YtlepcmljmibdnaaW.PrintWords Go.Proofs.YtlepcmljmibdnaaW.PrintLast Go.Proofs.YtlepcmljmibdnaaW.PrintMore PWalOpens
set_option linter.unusedVariables false
set_option linter.unusedSimpArgs false
section
variable {n0 : Nat} {w w' w2 : World} {Rb R : Nat} {vS vC vB vo vo' vL v1 : Value} {X X1 X2 : RX} {gen tail : Int} {L L1 oL : List Rec} {over : Bool}
theorem radd_of {A : Option Addr} {n c : Nat} {Q : Ending → World → Prop} (h : Calls Try.prog 94 #[.pointer (some ⟨Rb, 0, none⟩), .slice A n c, .bool false] w Q) (hv : ∀ e w', Q e w' → ∃ x, e = .returned (.int .i64 x)) :
    Calls Try.prog 54 #[.pointer (some ⟨Rb, 0, none⟩), .slice A n c] w Q := by
  go_enter Try.func54, Try.ntmps54
  go_wp2_with (first
    | (go_at_call 94; go_loud ((refine h.mono ?_); rintro er w5 hq; obtain ⟨x, rfl⟩ := hv _ _ hq)))
  exact hq
theorem rrec_at {base : Nat} {ok : Nat → Prop} (h : Kd.R recK 138 w base ok vL L) (k : Nat) (p : Rec) (hk : L[k]? = some p) :
    ∃ g c A ci, vL = .slice (some ⟨g, 0, none⟩) L.length c ∧ w.cell? ⟨g, k * 3, none⟩ = some (.slice A p.1.length ci) ∧ w.cell? ⟨g, k * 3 + 1, none⟩ = some (.int .u64 p.2.1) ∧ w.cell? ⟨g, k * 3 + 2, none⟩ = some (.int .u64 p.2.2) ∧ bytesK.K w p.1 [.slice A p.1.length ci] := by
  have hl : k < L.length := (List.getElem?_eq_some_iff.1 hk).1
  obtain ⟨g, c, hv⟩ := R_addr h (by omega)
  have hC := h
  rw [hv] at hC
  obtain ⟨c', hcl, hM, hcc, hf⟩ := Kd.R_elem hC p (k : Int) (by omega) (by omega)
  have e : L.getD (k : Int).toNat p = p := by simp [List.getD, hk]
  rw [e] at hM
  obtain ⟨c0, c1, rfl, hM0, c3, c4, rfl, hM1, hM2⟩ := hM
  have hM1' : c3 = [.int .u64 p.2.1] := hM1
  have hM2' : c4 = [.int .u64 p.2.2] := hM2
  subst hM1' hM2'
  have hK := bytesK.K_of_M hM0
  obtain ⟨v, rfl, hR⟩ := hM0
  obtain ⟨A, ci, rfl⟩ := Kd.R_slice hR
  have h1 := hcc 0 _ rfl
  have h2 := hcc 1 _ rfl
  have h3 := hcc 2 _ rfl
  rw [Int.toNat_natCast, show recK.sz = 3 from rfl] at h1 h2 h3
  rw [Nat.add_zero] at h1
  exact ⟨g, c, A, ci, hv, h1, h2, h3, hK⟩
theorem write3_cells (w : World) (a0 a1 a2 : Value) (t : Nat) : (w.alloc (.cells #[a0, a1, a2] t)).cell? ⟨w.heap.size, 0, none⟩ = some a0 := by
  have h : (w.alloc (.cells #[a0, a1, a2] t)).heap[w.heap.size]? = some (.cells #[a0, a1, a2] t (0, 0)) := heap_alloc_new w _
  unfold World.cell?; rw [h]; rfl
def RcsQ (w : World) (L : List Rec) (e : Ending) (w' : World) : Prop := ∃ A c, e = .returned (.slice A L.length c) ∧ bytesK.C w' A L.length (L.map (·.1)) ∧ Below w.heap.size w w'
theorem records_calls (hLl : L.length ≤ 100000) (h : RV n0 w Rb R vS vC vB vo vL X gen tail L over) :
    Calls Try.prog 56 #[.pointer (some ⟨Rb, 0, none⟩)] w (RcsQ w L) := by
  have HV := Aside0.mk h
  have HLL := Aside0.mk hLl
  obtain ⟨AL, cL, hvL⟩ := Kd.R_slice h.L
  subst hvL
  obtain ⟨⟨q0, q1, q2, q3, q4⟩, _⟩ := cells5 h.blk
  clear h hLl q0 q1 q2 q4
  go_enter Try.func56, Try.ntmps56
  go_wp2
  go_loopg [3, 11] L.length (fun kq v3 v11 w' => ∃ i : Nat, v11 = .int .i64 (i : Int) ∧ Aside0 (i + kq = L.length) ∧ Aside0 (Below w.heap.size w w') ∧ Aside0 (Kd.R (farK w) 29 w' w.heap.size (fun _ => True) v3 ((L.take i).map (·.1))))
  case atStart => exact ⟨0, rfl, ⟨by omega⟩, ⟨Below.refl _ _⟩, ⟨Kd.R_nil _ _ _ _ _⟩⟩
  case round =>
    obtain ⟨i, rfl, HI, HB, HO⟩ := hrel
    obtain ⟨Ao, co, hvo⟩ := Kd.R_slice HO.out
    subst hvo
    by_cases hi : i < L.length
    · obtain ⟨x, hx⟩ : ∃ x, L[i]? = some x := ⟨_, List.getElem?_eq_getElem hi⟩
      obtain ⟨g, c, A, ci, hvc, x0, x1, x2, hK⟩ := rrec_at HV.out.L i x hx
      injection hvc with hv1 hv2 hv3
      subst hv1
      subst hv3
      clear hv2
      have x0 := Fork.bel_cell HB.out x0
      have x1 := Fork.bel_cell HB.out x1
      have x2 := Fork.bel_cell HB.out x2
      have hi' : (i : Int) < (L.length : Int) := by omega
      have HX := Aside0.mk hx
      have HK := Aside0.mk hK
      have z0 := write3_cells wr (.slice A x.1.length ci) (.int .u64 x.2.1) (.int .u64 x.2.2) 138
      have HTK := Aside0.mk (show (L.take (i + 1)).map (·.1) = (L.take i).map (·.1) ++ [x.1] from by rw [List.take_add_one, hx]; simp)
      have HLN := Aside0.mk (show (((L.take i).map (·.1)).length + 1) * 24 ≤ 140737488355328 from by rw [List.length_map, List.length_take]; have := HLL.out; omega)
      obtain ⟨l3, hl3⟩ : ∃ l3, (L.take i).map (·.1) = l3 := ⟨_, rfl⟩
      rw [hl3] at HO HTK HLN ⊢
      clear hx hK hl3
      go_wp2_with (first
        | ((with_reducible refine gate_builtin (b := .append) (xs := #[.tmp 15, .tmp 18]) rfl ?_); at_builtin; go_loud (refine Kd.R_append (farK w) (W := wr.alloc (.cells #[.slice A x.1.length ci, .int .u64 x.2.1, .int .u64 x.2.2] 138)) (w0 := wr.alloc (.cells #[.slice A x.1.length ci, .int .u64 x.2.1, .int .u64 x.2.2] 138)) w.heap.size rfl (.tmp 15) (.tmp 18) 50 29 (.slice none 0 0) 24 rfl Try.underlying50 info29k rfl Nat.one_pos (by decide) _ l3 x.1 [.slice A x.1.length ci] (fun _ => True) (fun _ => False) rfl (by rw [alloc_size]; rfl) HK.out (fun _ h => h.elim) (fun _ _ => trivial) (Kd.R_below HO.out ((Below.refl wr.heap.size wr).alloc (Nat.le_refl _) _)) (Below.refl _ _) (Nat.le_trans HB.out.size (by rw [alloc_size]; exact Nat.le_succ _)) HLN.out ?_); intro v6 w6 ho hb hg hat; rw [← HTK.out] at ho; have HO6 := Aside0.mk ho; have HB6 := Aside0.mk ((HB.out.alloc HB.out.size (.cells #[.slice A x.1.length ci, .int .u64 x.2.1, .int .u64 x.2.2] 138)).trans hb); clear ho hb hg hat))
      obtain ⟨gq, rfl⟩ : ∃ gq, gk = gq + 1 := ⟨gk - 1, by have := HI.out; omega⟩
      have hLL := HLL.out
      have hi4 : (i : Int) ≤ 100000 := by omega
      go_roundg gq
      case rel => exact ⟨i + 1, by first | go_num | (rw [show wrap64 ((i : Int) + 1) = ((i + 1 : Nat) : Int) by unfold wrap64; omega]), ⟨by have := HI.out; omega⟩, HB6, HO6⟩
      case measure => omega
    · have hm' : ¬ ((i : Int) < (L.length : Int)) := by omega
      obtain rfl : i = L.length := by have := HI.out; omega
      obtain ⟨_, hcap, hC⟩ := Kd.R_reads' HO.out
      have HCA := Aside0.mk hC
      have hll : ((L.take L.length).map (·.1)).length = L.length := by simp
      go_wp2
      go_ret
      refine ⟨Ao, co, rfl, ?_, HB.out⟩
      have h6 := far_C HCA.out HB.out
      rw [hll, List.take_length] at h6
      exact h6
end
end Go.Proofs.Ytlepcmljmibdnaa
namespace Go.Proofs.Ytlepcmljmibdnaa
open Go.RowKit Go.Proofs.YtlepcmljmibdnaaW.PrintWords Go.Proofs.YtlepcmljmibdnaaW.PrintLast Go.Proofs.YtlepcmljmibdnaaW.PrintMore PWalOpens
set_option linter.unusedVariables false
set_option linter.unusedSimpArgs false
theorem read_full {X : RX} (hx : XOk X) (i : Int) (h0 : (rreadX X i).2 = 0) : (rreadX X i).1.length = 64 := by
  unfold rreadX at h0 ⊢
  split at h0
  · cases h0
  · rename_i h1
    rw [if_neg h1]
    split at h0
    · cases h0
    · rename_i h2
      rw [if_neg h2]
      split at h0
      · cases h0
      · rename_i h3
        rw [if_neg h3]
        have key : ∀ (l : List (Int × List Int)), (∀ p ∈ l, p.2.length = 64) → ∀ s : List Int, s.length = 64 → (readL s l i).length = 64 := by
          intro l
          induction l with
          | nil => intro _ s hs; exact hs
          | cons p l ih =>
            intro hl s hs
            unfold readL
            rw [List.foldl_cons]
            refine ih (fun q hq => hl q (by simp [hq])) _ ?_
            split
            · exact hl p (by simp)
            · exact hs
        refine key _ (fun p hp => (hx.c64 p hp).1) _ ?_
        have hi : inB i X.S.length = true := by simpa using h2
        unfold inB at hi
        have hi2 := of_decide_eq_true hi
        have hs : X.S[i.toNat]? = some (X.S[i.toNat]'(by omega)) := List.getElem?_eq_getElem (by omega)
        simp only [List.getD, hs, Option.getD_some]
        exact hx.s64 _ (List.getElem_mem _)
/-- a disk and the reference's disk, alike -/
structure Twin (D : PD) (X : RX) : Prop where
  corr : Corr D X
  xok : XOk X
  ok : OKD D
section
variable {D : PD} {X : RX}
theorem Twin.read (h : Twin D X) (a : Int) : readP D a = rreadX X a := corr_read h.corr h.xok a
theorem Twin.rdx (h : Twin D X) (hc : D.cache.length ≤ 1000) : RdX X :=
  ⟨fun a => by rw [← h.read a]; exact readP_bytes h.ok.ok a, fun a h0 => read_full h.xok a h0, fun a => read_len h.corr h.xok a, by rw [← h.corr.cache]; exact hc⟩
theorem Twin.ring (h : Twin D X) : rringX X = ringP D := by
  unfold rringX ringP
  rw [h.corr.n]
theorem Twin.write (h : Twin D X) (a : Int) {b : List Int} (hb : isBytes b) : (writeP D a b).2 = (rwriteX X a b).2 ∧ Twin (writeP D a b).1 (rwriteX X a b).1 := by
  obtain ⟨h1, h2⟩ := corr_write h.corr a b
  exact ⟨h1, h2, xok_write h.xok a b, h.ok.write a hb⟩
theorem Twin.save (h : Twin D X) (g : Int) (l : List Int) (hg : 0 ≤ g ∧ g < 18446744073709551616) (hn : ∀ n ∈ l, 0 ≤ n ∧ n < 18446744073709551616) : (saveP D g l).2 = (rsaveX X g l).2 ∧ Twin (saveP D g l).1 (rsaveX X g l).1 := by
  obtain ⟨h1, h2⟩ := corr_save h.corr h.xok g l
  refine ⟨h1, h2, ?_, h.ok.save g l hg hn⟩
  have x1 := xok_flush h.xok
  have x2 := xok_write x1 (g % 2) (slotB g l)
  have x3 := xok_flush x2
  unfold rsaveX
  repeat' split
  · exact h.xok
  · exact x1
  · exact x2
  · exact x3
theorem xok_fault {X : RX} (h : XOk X) (a : Int) (on : Bool) : XOk (rfaultX X a on) := by
  unfold rfaultX
  split
  · exact h
  · exact ⟨h.s64, h.c64, by show (X.bad.set _ _).length = _; rw [List.length_set]; exact h.hb, h.hl, h.hn⟩
theorem OKD.fault {D : PD} (h : OKD D) (a : Int) (on : Bool) : OKD (faultP D a on) := by
  unfold faultP
  split
  · exact h
  · exact ⟨h.ok, h.c64⟩
theorem Twin.fault (h : Twin D X) (a : Int) (on : Bool) : Twin (faultP D a on) (rfaultX X a on) := ⟨corr_fault h.corr a on, xok_fault h.xok a on, h.ok.fault a on⟩
theorem fault_cache (D : PD) (a : Int) (on : Bool) : (faultP D a on).cache = D.cache := by
  unfold faultP
  split <;> rfl
end
/-- the sectors up to q don't begin with a frame, those up to q + 1 do: the frame ends in that sector -/
theorem unF_end {a b : List Int} {n : Int} (hb : isBytes (a ++ b)) (ha : a = [] ∨ (unF a).2.2 ≠ 0) (h0 : (unF (a ++ b)).2.2 = 0) (hn : (unF (a ++ b)).2.1 = n) : (a.length : Int) < n ∧ n ≤ a.length + b.length := by
  subst hn
  obtain ⟨m, hm, h7, hl⟩ := unF_size h0
  rw [hm]
  rw [List.length_append] at hl
  refine ⟨?_, by omega⟩
  rcases ha with rfl | ha
  · simp; omega
  · by_cases hc : a.length < m
    · omega
    · exfalso
      have hv : unV (a ++ b) = true := by
        unfold unF at h0
        split at h0
        · assumption
        · cases h0
      obtain ⟨x, hx, hp, hxx⟩ := (unV_iff hb).1 hv
      have hba : isBytes a := fun z hz => hb z (List.mem_append_left _ hz)
      have hxm : x.length + 7 = m := by
        have hfr : frN (a ++ b) = x.length := by
          have hle : 7 + frN (a ++ b) = m := by
            unfold unF at hm
            rw [if_pos hv] at hm
            simp only at hm
            omega
          have h1 : x.length = min (frN (a ++ b)) ((a ++ b).length - 3) := by
            have := congrArg List.length hxx
            rw [List.length_take, List.length_drop] at this
            exact this
          rw [List.length_append] at h1
          omega
        unfold unF at hm
        rw [if_pos hv, hfr] at hm
        simp only at hm
        omega
      have hpa : frameB x <+: a := by
        rw [List.prefix_iff_eq_take] at hp ⊢
        rw [hp, frameB_len, List.length_take, List.length_append, List.take_append_of_le_length (by omega)]
        congr 1
        omega
      obtain ⟨t, ht⟩ := hpa
      have hfa : frN a = x.length := by rw [← ht]; exact frN_frame hx
      have hva : unV a = true := (unV_iff hba).2 ⟨x, hx, ⟨t, ht⟩, by
        have hfab : frN (a ++ b) = frN a := by
          rw [hfa, ← ht, List.append_assoc]
          exact frN_frame hx
        refine hxx.trans ?_
        rw [hfab, hfa, List.drop_append_of_le_length (by omega), List.take_append_of_le_length (by rw [List.length_drop]; omega)]⟩
      refine ha ?_
      unfold unF
      rw [if_pos hva]
section
variable {D : PD} {X : RX} {r t : Int}
/-- one record: the wal's way beside the reference's -/
theorem rec_two (h : Twin D X) (p : Int) : ∀ (k : Nat) (all : List Int) (q : Int) (L : List Rec), q + k = t → (all.length : Int) = 64 * (q - p) → (all = [] ∨ (unF all).2.2 ≠ 0) → (k = 0 → all ≠ []) → isBytes all →
    ((recGo D r p k all q).2.2 ≠ 0 → (ropenGo X r k q p all L).2 = (recGo D r p k all q).2.2) ∧
    ((recGo D r p k all q).2.2 = 0 → q < (recGo D r p k all q).2.1 ∧ (recGo D r p k all q).2.1 ≤ t ∧ ropenGo X r k q p all L = ropenGo X r (t - (recGo D r p k all q).2.1).toNat (recGo D r p k all q).2.1 (recGo D r p k all q).2.1 [] (L ++ [((recGo D r p k all q).1, p, (recGo D r p k all q).2.1)]))
  | 0, all, q, L, hq, hl, ha, h0, hb => by
    have hne := h0 rfl
    have hlp : 0 < all.length := List.length_pos_iff.2 hne
    constructor
    · intro _
      unfold ropenGo recGo
      rw [if_pos hlp]
    · intro h
      cases h
  | k + 1, all, q, L, hq, hl, ha, h0, hb => by
    obtain ⟨s, e, hrd⟩ : ∃ s e, readP D (sectP r q) = (s, e) := ⟨_, _, rfl⟩
    have hrd2 : rreadX X (sectP r q) = (s, e) := by rw [← h.read]; exact hrd
    have hsb : isBytes s := by have := readP_bytes h.ok.ok (sectP r q); rw [hrd] at this; exact this
    have h64 : e = 0 → s.length = 64 := fun he => by have := read_full h.xok (sectP r q); rw [hrd2] at this; exact this he
    have hab : isBytes (all ++ s) := fun x hx => (List.mem_append.1 hx).elim (hb x) (hsb x)
    have u1 : recGo D r p (k + 1) all q = if (readP D (sectP r q)).2 ≠ 0 then ([], 0, (readP D (sectP r q)).2) else if (unF (all ++ (readP D (sectP r q)).1)).2.2 = 0 then ((unF (all ++ (readP D (sectP r q)).1)).1, p + ((unF (all ++ (readP D (sectP r q)).1)).2.1 + 63) / 64, 0) else recGo D r p k (all ++ (readP D (sectP r q)).1) (q + 1) := rfl
    have u2 : ropenGo X r (k + 1) q p all L = if (rreadX X (sectP r q)).2 ≠ 0 then ([], (rreadX X (sectP r q)).2) else if (unF (all ++ (rreadX X (sectP r q)).1)).2.2 = 0 then ropenGo X r k (q + 1) (q + 1) [] (L ++ [((unF (all ++ (rreadX X (sectP r q)).1)).1, p, q + 1)]) else ropenGo X r k (q + 1) p (all ++ (rreadX X (sectP r q)).1) L := rfl
    rw [u1, u2, hrd, hrd2]
    clear u1 u2
    simp only
    by_cases he : e = 0
    · subst he
      have h64' := h64 rfl
      simp only [ne_eq, not_true_eq_false, if_false]
      by_cases hu : (unF (all ++ s)).2.2 = 0
      · simp only [if_pos hu]
        obtain ⟨n, hn⟩ : ∃ n, (unF (all ++ s)).2.1 = n := ⟨_, rfl⟩
        have hend := unF_end hab ha hu hn
        rw [h64'] at hend
        have hnx : p + (n + 63) / 64 = q + 1 := by omega
        rw [hn, hnx]
        refine ⟨fun h => absurd trivial h, fun _ => ⟨by omega, by omega, ?_⟩⟩
        rw [show (t - (q + 1)).toNat = k by omega]
      · simp only [if_neg hu]
        have ih := rec_two h p k (all ++ s) (q + 1) L (by omega) (by rw [List.length_append, h64']; omega) (.inr hu) (fun _ e => by have := congrArg List.length e; rw [List.length_append, h64'] at this; simp at this) hab
        refine ⟨ih.1, fun h => ?_⟩
        have := ih.2 h
        exact ⟨by omega, this.2⟩
    · simp only [ne_eq, he, not_false_eq_true, if_true]
      exact ⟨fun _ => trivial, fun h => absurd h id⟩
/-- all of them -/
theorem open_two (h : Twin D X) : ∀ (f : Nat) (p : Int) (L : List Rec), p ≤ t → (t - p).toNat ≤ f →
    (ropenGo X r (t - p).toNat p p [] L).2 = (openGo D r t f p).2.2 ∧ ((openGo D r t f p).2.2 = 0 → ∃ L2 : List Rec, (ropenGo X r (t - p).toNat p p [] L).1 = L ++ L2 ∧ L2.map (·.1) = (openGo D r t f p).2.1 ∧ L2.map (·.2.1) = (openGo D r t f p).1)
  | 0, p, L, hp, hf => by
    have hpt : p = t := by omega
    rw [show (t - p).toNat = 0 by omega]
    unfold ropenGo openGo
    rw [if_pos hpt, if_neg (by simp)]
    exact ⟨rfl, fun _ => ⟨[], by simp, rfl, rfl⟩⟩
  | f + 1, p, L, hp, hf => by
    by_cases hpt : p = t
    · rw [show (t - p).toNat = 0 by omega]
      unfold ropenGo openGo
      rw [if_pos hpt, if_neg (by simp)]
      exact ⟨rfl, fun _ => ⟨[], by simp, rfl, rfl⟩⟩
    · obtain ⟨r1, r2⟩ := rec_two (r := r) (t := t) h p (t - p).toNat [] p L (by omega) (by simp) (.inl rfl) (fun hk => by omega) (fun x hx => by cases hx)
      unfold openGo
      rw [if_neg hpt]
      by_cases he : (recGo D r p (t - p).toNat [] p).2.2 = 0
      · obtain ⟨r3, r4, r5⟩ := r2 he
        rw [if_neg (fun hh => hh he), r5]
        obtain ⟨s1, s2⟩ := open_two h f (recGo D r p (t - p).toNat [] p).2.1 (L ++ [((recGo D r p (t - p).toNat [] p).1, p, (recGo D r p (t - p).toNat [] p).2.1)]) r4 (by omega)
        refine ⟨s1, fun h0 => ?_⟩
        obtain ⟨L2, k1, k2, k3⟩ := s2 h0
        exact ⟨((recGo D r p (t - p).toNat [] p).1, p, (recGo D r p (t - p).toNat [] p).2.1) :: L2, by rw [k1]; simp, by simp only [List.map_cons, k2], by simp only [List.map_cons, k3]⟩
      · rw [if_pos he]
        exact ⟨r1 he, fun h0 => absurd h0 he⟩
/-- what is opened, on both sides -/
theorem opens_two (h : Twin D X) : (ropenX X).2.2.2 = opErr (openP D) ∧ (opErr (openP D) = 0 → (ropenX X).1 = (openP D).1 ∧ (ropenX X).2.1 = (openP D).2.2.1 ∧ (ropenX X).2.2.1.map (·.1) = (openP D).2.2.2.2.1 ∧ (ropenX X).2.2.1.map (·.2.1) = (openP D).2.2.2.1) := by
  unfold ropenX openP opErr
  rw [← corr_load h.corr h.xok, h.ring]
  by_cases he : (loadP D).2.2 = 0
  · rw [if_neg (fun hh => hh he), if_neg (fun hh => hh he)]
    match hl : (loadP D).2.1 with
    | [] => exact ⟨rfl, fun h => by cases h⟩
    | [a] => exact ⟨rfl, fun h => by cases h⟩
    | [a, b] =>
      simp only
      by_cases hb : b < a ∨ ringP D < b - a
      · rw [if_pos hb, if_pos hb]
        exact ⟨rfl, fun h => by cases h⟩
      · rw [if_neg hb, if_neg hb]
        obtain ⟨s1, s2⟩ := open_two (r := ringP D) (t := b) h (b - a).toNat a [] (by omega) (Nat.le_refl _)
        refine ⟨s1, fun h0 => ?_⟩
        obtain ⟨L2, k1, k2, k3⟩ := s2 h0
        rw [List.nil_append] at k1
        exact ⟨rfl, rfl, by rw [k1]; exact k2, by rw [k1]; exact k3⟩
    | a :: b :: c :: d => exact ⟨rfl, fun h => by cases h⟩
  · rw [if_pos he, if_pos he]
    exact ⟨rfl, fun h => absurd h he⟩
end
end Go.Proofs.Ytlepcmljmibdnaa
namespace Go.Proofs.Ytlepcmljmibdnaa
open Go.RowKit Go.Proofs.YtlepcmljmibdnaaW.PrintWords Go.Proofs.YtlepcmljmibdnaaW.PrintLast Go.Proofs.YtlepcmljmibdnaaW.PrintMore PWalOpens
set_option linter.unusedVariables false
set_option linter.unusedSimpArgs false
theorem writeP_n (D : PD) (a : Int) (b : List Int) : (writeP D a b).1.n = D.n := by
  unfold writeP
  split
  · rfl
  · split
    · rfl
    · split
      · rfl
      · split
        · exact actP_n D
        · exact actP_n D
section
variable {r : Int}
theorem write_code {D : PD} (hn : D.n = r + 2) (hr : 1 ≤ r) (s : Int) {c : List Int} (hc : c.length ≤ 64) : (writeP D (sectP r s) c).2 = 0 ∨ (writeP D (sectP r s) c).2 = 50 := by
  have hs := sectP_in (p := s) hr
  unfold writeP
  split
  · exact .inr rfl
  · rw [if_neg (by rw [hn]; unfold inB; simp; omega), if_neg (by omega)]
    split
    · exact actP_code D
    · exact .inl rfl
theorem layC_both (hr : 1 ≤ r) : ∀ (cs : List (List Int)) (D : PD) (X : RX) (s : Int), Twin D X → D.n = r + 2 → (∀ c ∈ cs, c.length ≤ 64 ∧ isBytes c) →
    ∃ D' X' s' e, layC r cs D s = (D', s', e) ∧ rlayC r cs X s = (X', s', e) ∧ Twin D' X' ∧ D'.n = r + 2 ∧ (e = 0 ∨ e = 50) ∧ (e = 0 → s' = s + cs.length) ∧ D'.cache.length ≤ D.cache.length + cs.length
  | [], D, X, s, h, hn, _ => ⟨D, X, s, 0, rfl, rfl, h, hn, .inl rfl, fun _ => by simp, by simp⟩
  | c :: cs, D, X, s, h, hn, hc => by
    have hc0 := hc c (List.mem_cons_self ..)
    obtain ⟨w1, w2⟩ := h.write (sectP r s) hc0.2
    have hn2 := (writeP_n D (sectP r s) c).trans hn
    have hcd := write_code hn hr s hc0.1
    have hca := writeP_cache D (sectP r s) c
    have u1 : layC r (c :: cs) D s = if (writeP D (sectP r s) c).2 ≠ 0 then ((writeP D (sectP r s) c).1, s, (writeP D (sectP r s) c).2) else layC r cs (writeP D (sectP r s) c).1 (s + 1) := rfl
    have u2 : rlayC r (c :: cs) X s = if (rwriteX X (sectP r s) c).2 ≠ 0 then ((rwriteX X (sectP r s) c).1, s, 50) else rlayC r cs (rwriteX X (sectP r s) c).1 (s + 1) := rfl
    rw [u1, u2, ← w1]
    rcases hcd with h0 | h0
    · rw [if_neg (fun hh => hh h0), if_neg (fun hh => hh h0)]
      obtain ⟨D', X', s', e, k1, k2, k3, k4, k5, k6, k7⟩ := layC_both hr cs _ _ (s + 1) w2 hn2 (fun c hc' => hc c (List.mem_cons_of_mem _ hc'))
      refine ⟨D', X', s', e, k1, k2, k3, k4, k5, fun he => ?_, ?_⟩
      · rw [k6 he, List.length_cons]; omega
      · rw [List.length_cons]; omega
    · rw [if_pos (by rw [h0]; decide), if_pos (by rw [h0]; decide), h0]
      exact ⟨_, _, s, 50, rfl, rfl, w2, hn2, .inr rfl, fun h => absurd h (by decide), by rw [List.length_cons]; omega⟩
theorem layR_both (hr : 1 ≤ r) : ∀ (R : List (List Int)) (D : PD) (X : RX) (s : Int) (st : List Int) (o : List Rec), Twin D X → D.n = r + 2 → (∀ b ∈ R, isBytes b ∧ b.length ≤ 400) →
    (∃ D' X' o', layR r R D s st = (D', st ++ o'.map (·.2.1), s + needs R, 0) ∧ rlayR r R X s o = (X', o ++ o', s + needs R, 0) ∧ Twin D' X' ∧ D'.n = r + 2 ∧ o'.map (·.1) = R ∧ headX o' (s + needs R) = s ∧ D'.cache.length ≤ D.cache.length + 7 * R.length) ∨
    (∃ D' X', layR r R D s st = (D', [], 0, 50) ∧ rlayR r R X s o = (X', [], 0, 50) ∧ Twin D' X' ∧ D'.n = r + 2 ∧ D'.cache.length ≤ D.cache.length + 7 * R.length)
  | [], D, X, s, st, o, h, hn, _ => .inl ⟨D, X, [], by simp [layR, needs], by simp [rlayR, needs], h, hn, rfl, by simp [headX, needs], by simp⟩
  | b :: bs, D, X, s, st, o, h, hn, hb => by
    have hb0 := hb b (List.mem_cons_self ..)
    have hk := need_eq (b := b) (by omega)
    have hcl := chs_len hb0.2
    have hns : needs (b :: bs) = needN b + needs bs := rfl
    have u1 : layR r (b :: bs) D s st = if (layC r (chs (frameX b)) D s).2.2 ≠ 0 then ((layC r (chs (frameX b)) D s).1, [], 0, (layC r (chs (frameX b)) D s).2.2) else layR r bs (layC r (chs (frameX b)) D s).1 (layC r (chs (frameX b)) D s).2.1 (st ++ [s]) := rfl
    have u2 : rlayR r (b :: bs) X s o = if (rlayC r (chs (frameX b)) X s).2.2 ≠ 0 then ((rlayC r (chs (frameX b)) X s).1, [], 0, 50) else rlayR r bs (rlayC r (chs (frameX b)) X s).1 (rlayC r (chs (frameX b)) X s).2.1 (o ++ [(b, s, (rlayC r (chs (frameX b)) X s).2.1)]) := rfl
    obtain ⟨D1, X1, s1, e, k1, k2, k3, k4, k5, k6, k7⟩ := layC_both hr (chs (frameX b)) D X s h hn (fun c hc => chs_each hb0.1 hb0.2 c hc)
    rw [u1, u2, k1, k2]
    simp only
    rw [hcl] at k7
    rcases k5 with rfl | rfl
    · have hs1 := k6 rfl
      rw [hcl, ← hk] at hs1
      subst hs1
      rw [if_neg (by simp), if_neg (by simp)]
      rcases layR_both hr bs D1 X1 (s + needN b) (st ++ [s]) (o ++ [(b, s, s + needN b)]) k3 k4 (fun b h => hb b (List.mem_cons_of_mem _ h)) with ⟨D', X', o', j1, j2, j3, j4, j5, j6, j7⟩ | ⟨D', X', j1, j2, j3, j4, j5⟩
      · refine .inl ⟨D', X', (b, s, s + needN b) :: o', ?_, ?_, j3, j4, ?_, rfl, ?_⟩
        · rw [j1, hns, ← Int.add_assoc]; simp
        · rw [j2, hns, ← Int.add_assoc]; simp
        · simp only [List.map_cons, j5]
        · rw [List.length_cons]; omega
      · exact .inr ⟨D', X', j1, j2, j3, j4, by rw [List.length_cons]; omega⟩
    · rw [if_pos (by decide), if_pos (by decide)]
      exact .inr ⟨D1, X1, rfl, rfl, k3, k4, by rw [List.length_cons]; omega⟩
end
/-- a wal that runs, and the reference's -/
structure Same (D : PD) (X : RX) (r head tail : Int) (S : List Int) (L : List Rec) (over : Bool) : Prop where
  twin : Twin D X
  ring : D.n = r + 2
  hr : 1 ≤ r
  st : L.map (·.2.1) = S
  hd : headX L tail = head
  h0 : 0 ≤ head
  le : head ≤ tail
  fit : tail - head ≤ r
  clean : over = false → D.cache = []
  few : D.cache.length ≤ 50
theorem headX_app {L o : List Rec} {tail p head : Int} (h1 : headX L tail = head) (h2 : headX o p = tail) : headX (L ++ o) p = head := by
  cases L with
  | nil =>
    have h1' : tail = head := h1
    rw [List.nil_append, h2]
    exact h1'
  | cons x L => exact h1
theorem keepAll_n (l : List (Int × List Int)) (D : PD) : (keepAll D l).n = D.n := (keepAll_keeps l D).1
theorem flushP_n (D : PD) : (flushP D).1.n = D.n := by
  unfold flushP
  split
  · exact actP_n D
  · show (keepAll _ _).n = _
    rw [keepAll_n, actP_n]
theorem saveP_n (D : PD) (g : Int) (l : List Int) : (saveP D g l).1.n = D.n := by
  unfold saveP
  repeat' split
  · rfl
  · exact flushP_n D
  · rw [writeP_n, flushP_n]
  · rw [flushP_n, writeP_n, flushP_n]
theorem flushP_clean (D : PD) (h : (flushP D).2 = 0) : (flushP D).1.cache = [] := by
  unfold flushP at h ⊢
  split at h
  · rename_i h1
    exact absurd h h1
  · rename_i h1
    rw [if_neg h1]
theorem saveP_clean (D : PD) (g : Int) (l : List Int) (hl : l.length ≤ 4) (h : (saveP D g l).2 = 0) : (saveP D g l).1.cache = [] := by
  unfold saveP at h ⊢
  rw [if_neg (by omega)] at h ⊢
  split at h
  · rename_i h1
    exact absurd h h1
  · rename_i h1
    rw [if_neg h1]
    split at h
    · rename_i h2
      exact absurd h h2
    · rename_i h2
      rw [if_neg h2]
      exact flushP_clean _ h
section
variable {D : PD} {X : RX} {r head tail : Int} {S : List Int} {L : List Rec} {over : Bool}
theorem Same.ringP (h : Same D X r head tail S L over) : ringP D = r := by
  unfold Proofs.Ytlepcmljmibdnaa.ringP
  have := h.hr
  rw [h.ring]
  omega
theorem Same.ringX (h : Same D X r head tail S L over) : rringX X = r := h.twin.ring.trans h.ringP
theorem Same.len (h : Same D X r head tail S L over) : L.length = S.length := by rw [← h.st, List.length_map]
/-- the disks went on, the wals did not -/
theorem Same.move (h : Same D X r head tail S L over) {D' : PD} {X' : RX} (ht : Twin D' X') (hn : D'.n = D.n) (hc : D'.cache.length ≤ 50) (o : Bool) (hcl : o = false → D'.cache = []) : Same D' X' r head tail S L o :=
  ⟨ht, hn.trans h.ring, h.hr, h.st, h.hd, h.h0, h.le, h.fit, hcl, hc⟩
/-- what is put, on both sides -/
theorem Same.put (h : Same D X r head tail S L false) {R : List (List Int)} (hR : RecsOK R) {gen : Int} (hg : 0 ≤ gen ∧ gen < 18446744073709551615) (htl : tail < 18446744073709551000) (hf : needs R ≤ r - (tail - head)) (sw : Bool) :
    ∃ D1 X1 st out s e D2 X2 e2 e3, layP D r (r - (tail - head)) tail R = (D1, st, s, e) ∧ rlayR r R X tail (if sw then [] else L) = (X1, out, s, e) ∧ saveP D1 (gen + 1) [if sw then tail else head, s] = (D2, e2) ∧ rsaveX X1 (gen + 1) [headX out s, s] = (X2, e3) ∧ (e = 0 ∨ e = 50) ∧ st.length ≤ 6 ∧ (0 ≤ s ∧ s ≤ tail + 42) ∧ (0 ≤ headX out s ∧ headX out s < 18446744073709551616) ∧ D1.cache.length ≤ 42 ∧
      (e = 50 → Same D1 X1 r head tail S L true) ∧
      (e = 0 → e3 = e2 ∧ (e2 ≠ 0 → Same D2 X2 r head tail S L true) ∧ (e2 = 0 → Same D2 X2 r (if sw then tail else head) s (if sw then st else S ++ st) out false ∧ out.map (·.1) = if sw then R else L.map (·.1) ++ R)) := by
  have hlen := hR.len
  have hns := needs_le (R := R) (fun b hb => (hR.each b hb).2)
  have hc0 := h.clean rfl
  have h0 := h.h0
  have hle := h.le
  have hfit := h.fit
  have hlay : layP D r (r - (tail - head)) tail R = layR r R D tail [] := by unfold layP; rw [if_neg (by omega)]
  rw [hlay]
  rcases layR_both h.hr R D X tail [] (if sw then [] else L) h.twin h.ring hR.each with ⟨D1, X1, o', j1, j2, j3, j4, j5, j6, j7⟩ | ⟨D1, X1, j1, j2, j3, j4, j5⟩
  · rw [hc0] at j7
    simp only [List.length_nil, Nat.zero_add] at j7
    have hol : o'.length = R.length := by rw [← j5, List.length_map]
    have hh : headX ((if sw then [] else L) ++ o') (tail + needs R) = if sw then tail else head := by
      cases sw with
      | true => exact j6
      | false => exact headX_app h.hd j6
    have hk : ∀ n ∈ [if sw then tail else head, tail + needs R], 0 ≤ n ∧ n < 18446744073709551616 := by
      intro n hn
      simp only [List.mem_cons, List.not_mem_nil, or_false] at hn
      rcases hn with rfl | rfl
      · split <;> omega
      · omega
    obtain ⟨s1, s2⟩ := j3.save (gen + 1) [if sw then tail else head, tail + needs R] ⟨by omega, by omega⟩ hk
    have hsn := saveP_n D1 (gen + 1) [if sw then tail else head, tail + needs R]
    have hsc := saveP_clean D1 (gen + 1) [if sw then tail else head, tail + needs R] (by simp)
    have hsl := saveP_cache D1 (gen + 1) [if sw then tail else head, tail + needs R]
    refine ⟨D1, X1, _, _, _, 0, _, _, _, _, j1, j2, rfl, rfl, .inl rfl, ?_, by omega, ?_, by omega, fun h => absurd h (by decide), fun _ => ⟨?_, ?_, ?_⟩⟩
    · rw [List.nil_append, List.length_map, hol]; exact hlen
    · rw [hh]; split <;> omega
    · rw [hh]; exact s1.symm
    · intro _
      rw [hh]
      exact h.move s2 (hsn.trans (j4.trans h.ring.symm)) (by omega) true (fun h => by cases h)
    · intro h2
      rw [hh]
      have hcl := hsc h2
      have hcl0 : (saveP D1 (gen + 1) [if sw then tail else head, tail + needs R]).1.cache.length ≤ 50 := by rw [hcl]; simp
      refine ⟨⟨s2, hsn.trans j4, h.hr, ?_, hh, by split <;> omega, by split <;> omega, by split <;> omega, fun _ => hcl, hcl0⟩, ?_⟩
      · cases sw with
        | true => simp
        | false => simp [h.st]
      · cases sw with
        | true => simpa using j5
        | false => simp [j5]
  · rw [hc0] at j5
    simp only [List.length_nil, Nat.zero_add] at j5
    refine ⟨D1, X1, _, _, _, 50, _, _, _, _, j1, j2, rfl, rfl, .inr rfl, by simp, by omega, by simp [headX], by omega, fun _ => h.move j3 (j4.trans h.ring.symm) (by omega) true (fun h => by cases h), fun h => absurd h (by decide)⟩
end
end Go.Proofs.Ytlepcmljmibdnaa
namespace Go.Proofs.Ytlepcmljmibdnaa
open Go.RowKit Go.Proofs.YtlepcmljmibdnaaW.PrintWords Go.Proofs.YtlepcmljmibdnaaW.PrintLast Go.Proofs.YtlepcmljmibdnaaW.PrintMore PWalOpens
set_option linter.unusedVariables false
set_option linter.unusedSimpArgs false
theorem rw_disk (o : Obj) (h : isDisk o) : ¬ isRW o := by
  intro h2
  cases o with
  | cells c t f =>
    have h1 : t = 96 ∨ t = 101 := h
    have h3 : (t = 53 ∨ t = 29 ∨ t = 4) ∨ t = 134 := h2
    rcases h1 with rfl | rfl <;> rcases h3 with (h | h | h) | h <;> exact absurd h (by decide)
  | _ => first | exact h.elim | exact h2.elim (fun e => e) (fun e => e)
section
variable {n0 : Nat} {w w' : World} {Wb B M Bd Rb R : Nat} {vc vs vS vC vB vo vL : Value} {D : PD} {X : RX} {gen head tail rgen rtail : Int} {S : List Int} {L : List Rec} {over : Bool}
theorem DK.rw (h : DK w n0 B M Bd vc D) (hc : TC n0 isRW w w') : DK w' n0 B M Bd vc D := h.tkeep hc rw_disk
theorem WV.rw (h : WV n0 w Wb B M Bd vc vs D gen head tail S over) (hc : TC n0 isRW w w') : WV n0 w' Wb B M Bd vc vs D gen head tail S over :=
  ⟨hc.blk _ _ h.blk (by simp [isRW, isRef, isT]), h.hW, h.dk.rw hc, R_tc h.st hc (fun q hq cells => by
    obtain rfl := q56 q hq
    simp [isRW, isRef, isT])⟩
theorem RK.wd (h : RK w n0 R vS vC vB X) (hc : TC n0 isWD w w') : RK w' n0 R vS vC vB X :=
  ⟨h.toRM.tkeep hc (fun q hq cells => by rcases hq with h | h | h | h | h <;> simp [isWD, isDisk, isT, h]), h.ok⟩
theorem RV.wd (h : RV n0 w Rb R vS vC vB vo vL X rgen rtail L over) (hc : TC n0 isWD w w') : RV n0 w' Rb R vS vC vB vo vL X rgen rtail L over :=
  ⟨hc.blk _ _ h.blk (by simp [isWD, isDisk, isT]), h.hW, h.rk.wd hc, R_tc h.L hc (fun q hq cells => by rcases q138 q hq with rfl | rfl <;> simp [isWD, isDisk, isT])⟩
end
/-- a wal's deed: what is answered, what becomes of the wal -/
def WdQ (n0 : Nat) (w : World) (Wb B M Bd : Nat) (D' : PD) (code gen head tail : Int) (S : List Int) (over : Bool) (e : Ending) (w' : World) : Prop :=
  e = .returned (.int .i64 code) ∧ TC n0 isWD w w' ∧ ∃ vc' vs', WV n0 w' Wb B M Bd vc' vs' D' gen head tail S over
def RdQ (n0 : Nat) (w : World) (Rb R : Nat) (vS vB : Value) (X' : RX) (code gen tail : Int) (L : List Rec) (over : Bool) (e : Ending) (w' : World) : Prop :=
  e = .returned (.int .i64 code) ∧ TC n0 isRW w w' ∧ ∃ vC' vL', RV n0 w' Rb R vS vC' vB (.slice none 0 0) vL' X' gen tail L over
theorem wd_add {n0 : Nat} {w : World} {Wb B M Bd : Nat} {D1 D2 : PD} {gen head tail s e e2 : Int} {S st : List Int} {A : Option Addr} {c : Nat} {R : List (List Int)} (h : Calls Try.prog 53 #[.pointer (some ⟨Wb, 0, none⟩), .slice A R.length c] w (AddQ n0 w Wb B M Bd D1 D2 gen head tail S st s e e2)) :
    (e = 51 → Calls Try.prog 53 #[.pointer (some ⟨Wb, 0, none⟩), .slice A R.length c] w (WdQ n0 w Wb B M Bd D1 51 gen head tail S false)) ∧
    (e = 50 → Calls Try.prog 53 #[.pointer (some ⟨Wb, 0, none⟩), .slice A R.length c] w (WdQ n0 w Wb B M Bd D1 50 gen head tail S true)) ∧
    (e = 0 → e2 = 0 → Calls Try.prog 53 #[.pointer (some ⟨Wb, 0, none⟩), .slice A R.length c] w (WdQ n0 w Wb B M Bd D2 0 (gen + 1) head s (S ++ st) false)) ∧
    (e = 0 → e2 ≠ 0 → Calls Try.prog 53 #[.pointer (some ⟨Wb, 0, none⟩), .slice A R.length c] w (WdQ n0 w Wb B M Bd D2 50 gen head tail S true)) := by
  refine ⟨fun he => h.mono ?_, fun he => h.mono ?_, fun he h2 => h.mono ?_, fun he h2 => h.mono ?_⟩
  · rintro x w' ⟨ht, vc', vs', q1, q2, q3, q4⟩
    obtain ⟨rfl, hv⟩ := q1 (by omega) (.inr he)
    exact ⟨by rw [he], ht, vc', vs', hv⟩
  · rintro x w' ⟨ht, vc', vs', q1, q2, q3, q4⟩
    obtain ⟨rfl, hv⟩ := q2 (by omega) (by omega)
    exact ⟨rfl, ht, vc', vs', hv⟩
  · rintro x w' ⟨ht, vc', vs', q1, q2, q3, q4⟩
    obtain ⟨rfl, hv⟩ := q3 he h2
    exact ⟨rfl, ht, vc', vs', hv⟩
  · rintro x w' ⟨ht, vc', vs', q1, q2, q3, q4⟩
    obtain ⟨rfl, hv⟩ := q4 he h2
    exact ⟨rfl, ht, vc', vs', hv⟩
theorem rd_put {n0 : Nat} {w : World} {Rb R : Nat} {vS vB : Value} {X X1 X2 : RX} {gen tail p e e2 : Int} {L oL : List Rec} {r : Ending} {w' : World} (h : PutQ n0 w Rb R vS vB X X1 X2 gen tail p L oL e e2 r w') :
    (e = 50 → RdQ n0 w Rb R vS vB X1 50 gen tail L true r w') ∧ (e = 0 → e2 = 0 → RdQ n0 w Rb R vS vB X2 0 (gen + 1) p oL false r w') ∧ (e = 0 → e2 ≠ 0 → RdQ n0 w Rb R vS vB X2 50 gen tail L true r w') := by
  obtain ⟨ht, vC', vL', q1, q2, q3, q4⟩ := h
  refine ⟨fun he => ?_, fun he h2 => ?_, fun he h2 => ?_⟩
  · obtain ⟨rfl, hv⟩ := q2 he
    exact ⟨rfl, ht, vC', vL', hv⟩
  · obtain ⟨rfl, hv⟩ := q3 he h2
    exact ⟨rfl, ht, vC', vL', hv⟩
  · obtain ⟨rfl, hv⟩ := q4 he h2
    exact ⟨rfl, ht, vC', vL', hv⟩
theorem rd_ret {n0 : Nat} {w : World} {Rb R : Nat} {vS vB : Value} {X' : RX} {code gen tail : Int} {L : List Rec} {over : Bool} : ∀ er w', RdQ n0 w Rb R vS vB X' code gen tail L over er w' → ∃ x, er = .returned (.int .i64 x) := fun er w' h => ⟨_, h.1⟩
/-- Add, on both sides -/
theorem both_add {w0 : World} {D : PD} {X : RX} {r gen head tail : Int} {S : List Int} {L : List Rec} {over : Bool} (h : Same D X r head tail S L over) {P : List (List Int)} (hP : RecsOK P) (hg : 0 ≤ gen ∧ gen < 18446744073709551615) (htl : tail < 18446744073709551000) (hr4 : r ≤ 4094) (hS : S.length ≤ 900000) {A : Option Addr} {c : Nat} (hC : bytesK.C w0 A P.length P) :
    ∃ D' X' code gen' head' tail' S' L' over', Same D' X' r head' tail' S' L' over' ∧ (0 ≤ gen' ∧ gen' ≤ gen + 1) ∧ tail' ≤ tail + 42 ∧ S'.length ≤ S.length + 6 ∧
      (∀ (w : World) (Wb B M Bd : Nat) (vc vs : Value), Below w0.heap.size w0 w → WV w0.heap.size w Wb B M Bd vc vs D gen head tail S over → Calls Try.prog 53 #[.pointer (some ⟨Wb, 0, none⟩), .slice A P.length c] w (WdQ w0.heap.size w Wb B M Bd D' code gen' head' tail' S' over')) ∧
      (∀ (w : World) (Rb R : Nat) (vS vC vB vL : Value), Below w0.heap.size w0 w → RV w0.heap.size w Rb R vS vC vB (.slice none 0 0) vL X gen tail L over → Calls Try.prog 54 #[.pointer (some ⟨Rb, 0, none⟩), .slice A P.length c] w (RdQ w0.heap.size w Rb R vS vB X' code gen' tail' L' over')) := by
  have hlen := hP.len
  have hns := needs_le (R := P) (fun b hb => (hP.each b hb).2)
  have h0 := h.h0
  have hle := h.le
  have hfit := h.fit
  have hr1 := h.hr
  cases over with
  | true =>
    refine ⟨D, X, 50, gen, head, tail, S, L, true, h, by omega, by omega, by omega, ?_, ?_⟩
    · intro w Wb B M Bd vc vs hb hv
      refine (add_over A P.length c hv.blk).mono ?_
      rintro e w' ⟨rfl, rfl⟩
      exact ⟨rfl, TC.refl _ _ _, vc, vs, hv⟩
    · intro w Rb R vS vC vB vL hb hv
      refine radd_of ((rput_over A P.length c false hv).mono ?_) rd_ret
      rintro e w' ⟨rfl, rfl⟩
      exact ⟨rfl, TC.refl _ _ _, vC, vL, hv⟩
  | false =>
    have hc0 := h.clean rfl
    by_cases hf : r - (tail - head) < needs P
    · refine ⟨D, X, 51, gen, head, tail, S, L, false, h, by omega, by omega, by omega, ?_, ?_⟩
      · intro w Wb B M Bd vc vs hb hv
        have hlay : layP D r (r - (tail - head)) tail P = (D, [], 0, 51) := by unfold layP; rw [if_pos hf]
        exact (wd_add (add_calls (c := c) (D2 := (saveP D (gen + 1) [head, 0]).1) (e2 := (saveP D (gen + 1) [head, 0]).2) h.ringP hP rfl hlay rfl (by omega) hg (by omega) (by rw [hc0]; decide) (by rw [hc0]; decide) (by simp; omega) hv (fun W hc => Kd.C_below hC (hb.trans hc.low)))).1 rfl
      · intro w Rb R vS vC vB vL hb hv
        refine radd_of ((rput_full (c := c) false h.ringX hP h.hd hf (by omega) hv (txts_of hC (Nat.le_refl _) hb)).mono ?_) rd_ret
        rintro e w' ⟨rfl, hb2⟩
        exact ⟨rfl, TC.of_below hb2 hv.rk.base_le, vC, vL, hv.fresh hb2⟩
    · obtain ⟨D1, X1, st, out, s, e, D2, X2, e2, e3, k1, k2, k3, k4, k5, k6, k7, k8, k9, k10, k11⟩ := h.put hP hg htl (by omega) false
      simp only [Bool.false_eq_true, if_false] at k2 k3 k11
      have hLl : L.length ≤ 1000000 := by rw [h.len]; omega
      have hcX : X.cache.length ≤ 800 := by rw [← h.twin.corr.cache, hc0]; decide
      have real : ∀ (w : World) (Wb B M Bd : Nat) (vc vs : Value), Below w0.heap.size w0 w → WV w0.heap.size w Wb B M Bd vc vs D gen head tail S false → Calls Try.prog 53 #[.pointer (some ⟨Wb, 0, none⟩), .slice A P.length c] w (AddQ w0.heap.size w Wb B M Bd D1 D2 gen head tail S st s e e2) := fun w Wb B M Bd vc vs hb hv =>
        add_calls (c := c) h.ringP hP rfl k1 k3 (by omega) hg (by omega) (by rw [hc0]; decide) (by omega) (by omega) hv (fun W hc => Kd.C_below hC (hb.trans hc.low))
      have ref : ∀ (w : World) (Rb R : Nat) (vS vC vB vL : Value), Below w0.heap.size w0 w → RV w0.heap.size w Rb R vS vC vB (.slice none 0 0) vL X gen tail L false → Calls Try.prog 94 #[.pointer (some ⟨Rb, 0, none⟩), .slice A P.length c, .bool false] w (PutQ w0.heap.size w Rb R vS vB X X1 X2 gen tail s L out e e3) := fun w Rb R vS vC vB vL hb hv =>
        rput_add (c := c) h.ringX hr1 hP h.hd (by omega) (by omega) hg k2 k4 (by omega) k8 hcX hLl hv (txts_of hC (Nat.le_refl _) hb)
      rcases k5 with rfl | rfl
      · obtain ⟨m1, m2, m3⟩ := k11 rfl
        subst m1
        by_cases h2 : e3 = 0
        · obtain ⟨n1, n2⟩ := m3 h2
          refine ⟨D2, X2, 0, gen + 1, head, s, S ++ st, out, false, n1, by omega, by omega, by rw [List.length_append]; omega, ?_, ?_⟩
          · intro w Wb B M Bd vc vs hb hv
            exact (wd_add (real w Wb B M Bd vc vs hb hv)).2.2.1 rfl h2
          · intro w Rb R vS vC vB vL hb hv
            exact radd_of ((ref w Rb R vS vC vB vL hb hv).mono fun e w' hq => (rd_put hq).2.1 rfl h2) rd_ret
        · refine ⟨D2, X2, 50, gen, head, tail, S, L, true, m2 h2, by omega, by omega, by omega, ?_, ?_⟩
          · intro w Wb B M Bd vc vs hb hv
            exact (wd_add (real w Wb B M Bd vc vs hb hv)).2.2.2 rfl h2
          · intro w Rb R vS vC vB vL hb hv
            exact radd_of ((ref w Rb R vS vC vB vL hb hv).mono fun e w' hq => (rd_put hq).2.2 rfl h2) rd_ret
      · refine ⟨D1, X1, 50, gen, head, tail, S, L, true, k10 rfl, by omega, by omega, by omega, ?_, ?_⟩
        · intro w Wb B M Bd vc vs hb hv
          exact (wd_add (real w Wb B M Bd vc vs hb hv)).2.1 rfl
        · intro w Rb R vS vC vB vL hb hv
          exact radd_of ((ref w Rb R vS vC vB vL hb hv).mono fun e w' hq => (rd_put hq).1 rfl) rd_ret
end Go.Proofs.Ytlepcmljmibdnaa
namespace Go.Proofs.Ytlepcmljmibdnaa
open Go.RowKit Go.Proofs.YtlepcmljmibdnaaW.PrintWords Go.Proofs.YtlepcmljmibdnaaW.PrintLast Go.Proofs.YtlepcmljmibdnaaW.PrintMore PWalOpens
set_option linter.unusedVariables false
set_option linter.unusedSimpArgs false
theorem few_at2 {w : World} (A : Option Addr) (c : Nat) (l : List (List Int)) (r : Bool) (hc : l.length ≤ c) (hC : bytesK.C w A l.length l) (hr : factotumlaw07_few.f (l.length + 1) l = some r) (w1 : World) (hb : Below w.heap.size w w1) :
    Calls Try.prog 48 #[.slice A l.length c] w1 fun e w' => e = .returned (.bool r) ∧ Below w.heap.size w w' := by
  refine (factotumlaw07_few.calls (l.length + 1) A c l r w1 (Kd.C_below hC hb) hc hr).mono ?_
  rintro e w' ⟨rfl, hd⟩
  exact ⟨rfl, hb.trans (hd.below.mono hb.size)⟩
theorem nil_bytes : isBytes [] := fun x hx => by cases hx
theorem Twin.format {D : PD} {X : RX} (h : Twin D X) (l : List Int) (hn : ∀ n ∈ l, 0 ≤ n ∧ n < 18446744073709551616) : (formatP D l).2 = (rformatX X l).2 ∧ Twin (formatP D l).1 (rformatX X l).1 := by
  obtain ⟨a1, a2⟩ := h.write 0 nil_bytes
  obtain ⟨b1, b2⟩ := a2.write 1 nil_bytes
  obtain ⟨c1, c2⟩ := b2.save 0 l (by omega) hn
  unfold formatP rformatX
  rw [a1, b1]
  split
  · exact ⟨a1, a2⟩
  · split
    · exact ⟨b1, b2⟩
    · exact ⟨c1, c2⟩
theorem Twin.new (n : Int) : Twin (newP n) (rnewX (rnewN n)) := ⟨corr_new n, rnew_ok _ (by unfold rnewN; omega), OKD.new n⟩
theorem Twin.wformat {D : PD} {X : RX} (h : Twin D X) : (wformatP D).2 = (rwformatX X).2 ∧ Twin (wformatP D).1 (rwformatX X).1 := by
  unfold wformatP rwformatX
  rw [h.ring]
  split
  · exact ⟨rfl, h⟩
  · exact h.format [0, 0] (by intro n hn; simp at hn; omega)
theorem ropen_start {D : PD} {X : RX} {S : Int → List Int} {r : Int} (h : Twin D X) (hi : WInv D S r 0 0 0 []) : ropenX X = (0, 0, [], 0) := by
  obtain ⟨o1, o2⟩ := opens_two h
  rw [hi.open_] at o1 o2
  obtain ⟨g1, g2, g3, g4⟩ := o2 rfl
  generalize ropenX X = x at o1 g1 g2 g3 ⊢
  obtain ⟨a, b, L, e⟩ := x
  simp only at o1 g1 g2 g3
  have hL : L = [] := List.map_eq_nil_iff.1 g3
  have he : e = 0 := o1
  rw [g1, g2, hL, he]
section
variable {w0 w : World} {B M Bd R : Nat} {vc vS vC vB : Value} {D D' : PD} {X X' : RX}
theorem bo_wformat (e : Int) (hf : wformatP D = (D', e)) (hc : D.cache.length ≤ 800) (h : Both w0 w B M Bd vc D R vS vC vB X) :
    Calls Try.prog 49 #[.pointer (some ⟨B, 0, none⟩)] w fun r w' => r = .returned (.int .i64 e) ∧ ∃ vc', Both w0 w' B M Bd vc' D' R vS vC vB X := by
  refine (at_wformat e hf hc (At.refl h.dk)).mono ?_
  rintro r w' ⟨rfl, vc', ha⟩
  exact ⟨rfl, vc', (h.disk (At.based h.dk ha) ha.chg).1⟩
theorem bo_rwformat (e : Int) (hf : rwformatX X = (X', e)) (hc : X.cache.length ≤ 800) (h : Both w0 w B M Bd vc D R vS vC vB X) :
    Calls Try.prog 50 #[.pointer (some ⟨R, 0, none⟩)] w fun r w' => r = .returned (.int .i64 e) ∧ ∃ vC', Both w0 w' B M Bd vc D R vS vC' vB X' := by
  refine (rwformat_calls hf hc h.rk).mono ?_
  rintro r w' ⟨rfl, ht, vC', hr⟩
  exact ⟨rfl, vC', (h.ref hr ht).1⟩
theorem row_ok {res : Int × Int × List Rec × Int} {e : Ending} {w' : World} (h : OwQ w R res e w') (h0 : res.2.2.2 = 0) {n0 : Nat} (hn : n0 ≤ w.heap.size) (hd : RK w n0 R vS vC vB X) :
    ∃ Rb vL, e = .returned (.tuple #[.pointer (some ⟨Rb, 0, none⟩), .int .i64 0]) ∧ RV n0 w' Rb R vS vC vB (.slice none 0 0) vL X res.1 res.2.1 res.2.2.1 false ∧ Below w.heap.size w w' := by
  rcases h with ⟨h1, _⟩ | ⟨_, Rb, vL, rfl, hs⟩
  · exact absurd h0 h1
  · exact ⟨Rb, vL, rfl, ⟨hs.blk, Nat.le_trans hn hs.hW, hd.fresh hs.low, Kd.R_lower hs.L hn⟩, hs.low⟩
end
theorem opens_out (n : Int) (A1 : Option Addr) (c1 : Nat) (l : List (List Int)) (A2 : Option Addr) (n2 c2 : Nat) (at_ : Int) (fault : Bool) (w : World) (r1 : Bool) (hc1 : l.length ≤ c1) (hC1 : bytesK.C w A1 l.length l)
    (h1 : factotumlaw07_few.f (l.length + 1) l = some r1) (h : 40 < n ∨ r1 = false ∨ 64 < n2) :
    Calls Try.prog 10 #[.int .i64 n, .slice A1 l.length c1, .slice A2 n2 c2, .int .i64 at_, .bool fault] w fun e w' => e = .returned (.bool true) ∧ Below w.heap.size w w' := by
  have HF1 := Aside0.mk (few_at2 A1 c1 l r1 hc1 hC1 h1)
  clear hc1 hC1 h1
  by_cases hn : 40 < n
  · have b1 : decide (40 < n) = true := decide_eq_true hn
    clear h
    go_enter Try.func10, Try.ntmps10
    go_wp2_with (first
      | (go_at_call 47; (with_reducible refine (awake7_calls _).mono ?_); rintro e w1 ⟨rfl, hb⟩; have HB1 := Aside0.mk hb; clear hb))
    go_ret
    exact ⟨rfl, HB1.out⟩
  · have b1 : decide (40 < n) = false := decide_eq_false hn
    cases r1 with
    | false =>
      clear h
      go_enter Try.func10, Try.ntmps10
      go_wp2_with (first
        | (go_at_call 47; (with_reducible refine (awake7_calls _).mono ?_); rintro e w1 ⟨rfl, hb⟩; have HB1 := Aside0.mk hb; clear hb)
        | (go_at_call 48; (with_reducible refine (HF1.out w1 HB1.out).mono ?_); rintro e w2 ⟨rfl, hb⟩; have HB2 := Aside0.mk hb; clear hb))
      go_ret
      exact ⟨rfl, HB2.out⟩
    | true =>
      have h3 : (64 : Int) < (n2 : Int) := by
        rcases h with h | h | h
        · omega
        · cases h
        · omega
      clear h
      go_enter Try.func10, Try.ntmps10
      go_wp2_with (first
        | (go_at_call 47; (with_reducible refine (awake7_calls _).mono ?_); rintro e w1 ⟨rfl, hb⟩; have HB1 := Aside0.mk hb; clear hb)
        | (go_at_call 48; (with_reducible refine (HF1.out w1 HB1.out).mono ?_); rintro e w2 ⟨rfl, hb⟩; have HB2 := Aside0.mk hb; clear hb))
      go_ret
      exact ⟨rfl, HB2.out⟩
set_option maxRecDepth 100000 in
set_option maxHeartbeats 4000000 in
theorem opens_small (n : Int) (A1 : Option Addr) (c1 : Nat) (l : List (List Int)) (A2 : Option Addr) (n2 c2 : Nat) (at_ : Int) (fault : Bool) (w : World) (hc1 : l.length ≤ c1) (hC1 : bytesK.C w A1 l.length l)
    (h1 : factotumlaw07_few.f (l.length + 1) l = some true) (hn : n ≤ 40) (hn2 : n2 ≤ 64) (hs : n < 3) :
    Calls Try.prog 10 #[.int .i64 n, .slice A1 l.length c1, .slice A2 n2 c2, .int .i64 at_, .bool fault] w fun e w' => e = .returned (.bool true) ∧ Below w.heap.size w w' := by
  have HF1 := Aside0.mk (few_at2 A1 c1 l true hc1 hC1 h1)
  have b1 : decide (40 < n) = false := decide_eq_false (by omega)
  have h3 : ((n2 : Int)) ≤ 64 := by omega
  have HW := Aside0.mk (show wformatP (newP n) = (newP n, 51) from by
    unfold wformatP ringP
    rw [if_pos (by show max (min (max n 0) 4096 - 2) 0 < 1; omega)])
  have HX := Aside0.mk (show rwformatX (rnewX (rnewN n)) = (rnewX (rnewN n), 51) from by
    have h := (Twin.new n).ring
    unfold rwformatX
    rw [h]
    unfold ringP
    rw [if_pos (by show max (min (max n 0) 4096 - 2) 0 < 1; omega)])
  have HC0 := Aside0.mk (show (newP n).cache.length ≤ 800 by show 0 ≤ 800; decide)
  have HC1 := Aside0.mk (show (rnewX (rnewN n)).cache.length ≤ 800 by show 0 ≤ 800; decide)
  clear hc1 hC1 h1 hn hs
  go_enter Try.func10, Try.ntmps10
  go_wp2_with (first
    | (go_at_call 47; (with_reducible refine (awake7_calls _).mono ?_); rintro e w1 ⟨rfl, hb⟩; have HB1 := Aside0.mk hb; clear hb) | (go_at_call 48; (with_reducible refine (HF1.out w1 HB1.out).mono ?_); rintro e w2 ⟨rfl, hb⟩; have HB2 := Aside0.mk hb; clear hb) | (go_at_call 15; (with_reducible refine (bo_new n HB2.out).mono ?_); rintro e w3 ⟨B, M, Bd, rfl, hd, hb⟩; have HD3 := Aside0.mk hd; have HB3 := Aside0.mk hb; clear hd hb) | (go_at_call 25; (with_reducible refine (bo_rnew n HB3.out HD3.out).mono ?_); rintro e w4 ⟨R, vS, vB, rfl, hd⟩; have HB4 := Aside0.mk hd; clear hd) | (go_at_call 49; (with_reducible refine (bo_wformat _ HW.out HC0.out HB4.out).mono ?_); rintro e w5 ⟨rfl, vc5, hd⟩; have HBW5 := Aside0.mk hd; clear hd) | (go_at_call 50; (with_reducible refine (bo_rwformat _ HX.out HC1.out HBW5.out).mono ?_); rintro e w6 ⟨rfl, vC6, hd⟩; have HB5 := Aside0.mk hd; clear hd))
  go_ret
  exact ⟨rfl, HB5.out.low⟩
theorem op_bad {w w' : World} {B M Bd : Nat} {vc : Value} {D : PD} {res : Int × Int × Int × List Int × List (List Int) × Int} {e : Ending} {x : Int} (h : OpQ w B M Bd vc D res e w') (h0 : opErr res = x) (hx : x ≠ 0) : e = .returned (.tuple #[.pointer none, .slice none 0 0, .int .i64 x]) ∧ Below w.heap.size w w' := by
  subst h0
  rcases h with ⟨_, h2, h3⟩ | ⟨h1, _⟩
  · exact ⟨h2, h3⟩
  · exact absurd h1 hx
theorem ow_bad {w w' : World} {R : Nat} {res : Int × Int × List Rec × Int} {e : Ending} {x : Int} (h : OwQ w R res e w') (h0 : res.2.2.2 = x) (hx : x ≠ 0) : e = .returned (.tuple #[.pointer none, .int .i64 x]) ∧ Below w.heap.size w w' := by
  subst h0
  rcases h with ⟨_, h2, h3⟩ | ⟨h1, _⟩
  · exact ⟨h2, h3⟩
  · exact absurd h1 hx
theorem ropenGo_len (X : RX) (r : Int) : ∀ (k : Nat) (p fr : Int) (all : List Int) (L : List Rec), (ropenGo X r k p fr all L).1.length ≤ L.length + k
  | 0, p, fr, all, L => by
    unfold ropenGo
    split <;> simp
  | k + 1, p, fr, all, L => by
    unfold ropenGo
    split
    · simp
    · split
      · have := ropenGo_len X r k (p + 1) (p + 1) [] (L ++ [((unF (all ++ (rreadX X (sectP r p)).1)).1, fr, p + 1)])
        rw [List.length_append, List.length_singleton] at this
        omega
      · have := ropenGo_len X r k (p + 1) fr (all ++ (rreadX X (sectP r p)).1) L
        omega
theorem ropenX_len {X : RX} (hr : rringX X ≤ 4094) : (ropenX X).2.2.1.length ≤ 4094 := by
  unfold ropenX
  split
  · simp
  · split
    · rename_i h t _
      split
      · simp
      · have := ropenGo_len X (rringX X) (t - h).toNat h h [] []
        simp only [List.length_nil] at this
        show (ropenGo _ _ _ _ _ _ _).1.length ≤ _
        omega
    · simp
theorem sametexts2 {w : World} {A B : Option Addr} {c d n : Nat} {a b : List (List Int)} {q : Bool} (hq : sameT a b = q) (hn : b.length = n) (hl : a.length ≤ 1000000 ∧ n ≤ 1000000) (ha : bytesK.C w A a.length a) (hb : bytesK.C w B n b) :
    Calls Try.prog 55 #[.slice A a.length c, .slice B n d] w fun e w' => e = .returned (.bool q) ∧ Drawn0 w w' := by
  subst hn
  exact sametexts_calls w A B c d a b q hq hl ha hb
set_option maxRecDepth 100000 in
set_option maxHeartbeats 8000000 in
theorem opens_main (n : Int) (A1 : Option Addr) (c1 : Nat) (l : List (List Int)) (A2 : Option Addr) (c2 : Nat) (bad : List Int) (at_ : Int) (fault : Bool) (w : World) (hc1 : l.length ≤ c1) (hC1 : bytesK.C w A1 l.length l) (hC2 : (Kd.int .u8).C w A2 bad.length bad)
    (h1 : factotumlaw07_few.f (l.length + 1) l = some true) (hP : RecsOK l) (hbad : isBytes bad) (hn : n ≤ 40) (hn2 : bad.length ≤ 64) (hs : 3 ≤ n) :
    Calls Try.prog 10 #[.int .i64 n, .slice A1 l.length c1, .slice A2 bad.length c2, .int .i64 at_, .bool fault] w fun e w' => e = .returned (.bool true) ∧ Below w.heap.size w w' := by
  have HF1 := Aside0.mk (few_at2 A1 c1 l true hc1 hC1 h1)
  have b1 : decide (40 < n) = false := decide_eq_false (by omega)
  have h3 : ((bad.length : Int)) ≤ 64 := by omega
  obtain ⟨D1, S1, hf, i1⟩ := winv_start (n := n) (r := n - 2) (by omega) (by omega)
  obtain ⟨t1, t2⟩ := (Twin.new n).wformat
  obtain ⟨X1, ex, hx1⟩ : ∃ X1 ex, rwformatX (rnewX (rnewN n)) = (X1, ex) := ⟨_, _, rfl⟩
  rw [hf, hx1] at t1 t2
  simp only at t1 t2
  subst t1
  have hsm : Same D1 X1 (n - 2) 0 0 [] [] false := ⟨t2, i1.rdy.n, by omega, rfl, rfl, by omega, by omega, by omega, fun _ => i1.cache, by rw [i1.cache]; decide⟩
  obtain ⟨D2, X2, code, gen2, head2, tail2, S2, L2, over2, hs2, _, _, _, hreal, href⟩ := both_add hsm hP (gen := 0) (by omega) (by omega) (by omega) (by simp) (A := A1) (c := c1) hC1
  have HS2 := Aside0.mk hs2
  obtain ⟨D3, e3, hw3⟩ : ∃ D3 e3, writeP D2 at_ bad = (D3, e3) := ⟨_, _, rfl⟩
  obtain ⟨X3, e4, hx3⟩ : ∃ X3 e4, rwriteX X2 at_ bad = (X3, e4) := ⟨_, _, rfl⟩
  have t3 := (hs2.twin.write at_ hbad).2
  have c3 := writeP_cache D2 at_ bad
  rw [hw3, hx3] at t3
  rw [hw3] at c3
  simp only at t3 c3
  have t4 := t3.fault at_ fault
  have c4 := fault_cache D3 at_ fault
  obtain ⟨D4, hD4⟩ : ∃ D4, faultP D3 at_ fault = D4 := ⟨_, rfl⟩
  obtain ⟨X4, hX4⟩ : ∃ X4, rfaultX X3 at_ fault = X4 := ⟨_, rfl⟩
  rw [hD4, hX4] at t4
  rw [hD4] at c4
  have c2 := hs2.few
  have hcl4 : D4.cache.length ≤ 51 := by rw [c4]; omega
  obtain ⟨o1, o2⟩ := opens_two t4
  obtain ⟨res, hres⟩ : ∃ res, openP D4 = res := ⟨_, rfl⟩
  obtain ⟨rres, hrres⟩ : ∃ rres, ropenX X4 = rres := ⟨_, rfl⟩
  have hql : rres.2.2.1.length ≤ 100000 := by
    rw [← hrres]
    have := ropenX_len (X := X4) (by have := t4.xok.hn; unfold rringX; omega)
    omega
  rw [hres, hrres] at o1 o2
  obtain ⟨rg, rh, rt, rS, rX, rE⟩ := res
  obtain ⟨qg, qt, qL, qE⟩ := rres
  replace o1 : qE = rE := o1
  subst o1
  replace o2 : qE = 0 → qg = rg ∧ qt = rt ∧ qL.map (·.1) = rX ∧ qL.map (·.2.1) = rS := o2
  replace hql : qL.length ≤ 100000 := hql
  have HW := Aside0.mk hf
  have HX := Aside0.mk hx1
  have HC0 := Aside0.mk (show (newP n).cache.length ≤ 800 by show 0 ≤ 800; decide)
  have HC1 := Aside0.mk (show (rnewX (rnewN n)).cache.length ≤ 800 by show 0 ≤ 800; decide)
  have HO1 := Aside0.mk i1.open_
  have HI1 := Aside0.mk i1
  have HRO1 := Aside0.mk (ropen_start t2 i1)
  have HRX1 := Aside0.mk (t2.rdx (by rw [i1.cache]; decide))
  have HD1C := Aside0.mk (show D1.cache.length ≤ 1000 by rw [i1.cache]; decide)
  have HADD := Aside0.mk hreal
  have HRADD := Aside0.mk href
  have HW3 := Aside0.mk hw3
  have HX3 := Aside0.mk hx3
  have HD4 := Aside0.mk hD4
  have HX4 := Aside0.mk hX4
  have HCD2 := Aside0.mk (show D2.cache.length ≤ 1000 by omega)
  have HCX2 := Aside0.mk (show X2.cache.length ≤ 1000 by rw [← hs2.twin.corr.cache]; omega)
  have HCD4 := Aside0.mk (show D4.cache.length ≤ 1000 by omega)
  have HRES := Aside0.mk hres
  have HRRES := Aside0.mk hrres
  have HT4 := Aside0.mk t4
  have HRX4 := Aside0.mk (t4.rdx (by omega))
  have HB2' := Aside0.mk hC2
  clear hc1 hC1 h1 hn hs hf i1 t2 hx1 hsm hs2 hreal href hw3 hx3 t3 c3 t4 c4 hD4 hX4 c2 hcl4 hres hrres hbad hn2 hP hC2
  by_cases he : qE = 0
  · obtain ⟨_, _, o5, _⟩ := o2 he
    subst he
    have HRL := Aside0.mk (show rX.length ≤ 1000000 ∧ qL.length ≤ 1000000 from ⟨by rw [← o5, List.length_map]; omega, by omega⟩)
    have HST := Aside0.mk (show sameT rX (qL.map (·.1)) = true from by rw [o5]; exact sameT_refl rX)
    have HML := Aside0.mk (show (qL.map (·.1)).length = qL.length from List.length_map _)
    have HQL := Aside0.mk hql
    clear o2 o5 hql
    go_enter Try.func10, Try.ntmps10
    go_wp2_with (first
      | (go_at_call 47; (with_reducible refine (awake7_calls _).mono ?_); rintro e w1 ⟨rfl, hb⟩; have HB1 := Aside0.mk hb; clear hb) | (go_at_call 48; (with_reducible refine (HF1.out w1 HB1.out).mono ?_); rintro e w2 ⟨rfl, hb⟩; have HB2 := Aside0.mk hb; clear hb) | (go_at_call 15; (with_reducible refine (bo_new n HB2.out).mono ?_); rintro e w3 ⟨B, M, Bd, rfl, hd, hb⟩; have HD3 := Aside0.mk hd; have HB3 := Aside0.mk hb; clear hd hb) | (go_at_call 25; (with_reducible refine (bo_rnew n HB3.out HD3.out).mono ?_); rintro e w4 ⟨R, vS, vB, rfl, hd⟩; have HB4 := Aside0.mk hd; clear hd) | (go_at_call 49; (with_reducible refine (bo_wformat _ HW.out HC0.out HB4.out).mono ?_); rintro e w5 ⟨rfl, vc5, hd⟩; have HBW5 := Aside0.mk hd; clear hd) | (go_at_call 50; (with_reducible refine (bo_rwformat _ HX.out HC1.out HBW5.out).mono ?_); rintro e w6 ⟨rfl, vC6, hd⟩; have HB5 := Aside0.mk hd; clear hd)
      | (go_at_call 51; (with_reducible refine (open_calls HO1.out HI1.out.ok HD1C.out HB5.out.dk).mono ?_); rintro e w7 hq; obtain ⟨Wb, vs7, vo7, rfl, hv, hb, hr⟩ := op_ok (n0 := w.heap.size) hq rfl HB5.out.low.size HB5.out.dk; have HV7 := Aside0.mk (show WV w.heap.size w7 Wb B M Bd vc5 vs7 D1 0 0 0 [] false from hv); have HB7 := Aside0.mk (HB5.out.fresh hb); clear hq hv hb hr) | (go_at_call 52; (with_reducible refine (rowal_calls HRO1.out HRX1.out HB7.out.rk).mono ?_); rintro e w8 hq; obtain ⟨Rb, vL8, rfl, hv, hb⟩ := row_ok hq rfl HB7.out.low.size HB7.out.rk; have HR8 := Aside0.mk (show RV w.heap.size w8 Rb R vS vC6 vB (.slice none 0 0) vL8 X1 0 0 [] false from hv); have HB8 := Aside0.mk (HB7.out.fresh hb); have HV8 := Aside0.mk (HV7.out.fresh hb); clear hq hv hb) | (go_at_call 53; (with_reducible refine (HADD.out w8 Wb B M Bd vc5 vs7 HB8.out.low HV8.out).mono ?_); rintro er w9 ⟨rfl, ht, vc9, vs9, hv⟩; have HV9 := Aside0.mk hv; have HR9 := Aside0.mk (HR8.out.wd ht); have HB9 := Aside0.mk (HB8.out.low.trans ht.low); clear ht hv) | (go_at_call 54; (with_reducible refine (HRADD.out w9 Rb R vS vC6 vB vL8 HB9.out HR9.out).mono ?_); rintro er w10 ⟨rfl, ht, vC10, vL10, hv⟩; have HB10 := Aside0.mk (Both.mk (HV9.out.rw ht).dk hv.rk (HB9.out.trans ht.low)); clear ht hv) | (go_at_call 17; (with_reducible refine (bo_write at_ e3 A2 c2 bad HW3.out HCD2.out HB2'.out HB10.out).mono ?_); rintro er w11 ⟨rfl, ht, vc11, hd⟩; have HB11 := Aside0.mk hd; clear ht hd) | (go_at_call 26; (with_reducible refine (bo_rwrite at_ e4 A2 c2 bad HX3.out HCX2.out HB2'.out HB11.out).mono ?_); rintro er w12 ⟨rfl, ht, vC12, hd⟩; have HB12 := Aside0.mk hd; clear ht hd) | (go_at_call 31; (with_reducible refine (bo_fault at_ fault HD4.out HB12.out).mono ?_); rintro er w13 ⟨rfl, ht, hd⟩; have HB13 := Aside0.mk hd; clear ht hd) | (go_at_call 32; (with_reducible refine (bo_rfault at_ fault HX4.out HB13.out).mono ?_); rintro er w14 ⟨rfl, ht, hd⟩; have HB14 := Aside0.mk hd; clear ht hd)
      | (go_at_call 51; (with_reducible refine (open_calls HRES.out HT4.out.ok HCD4.out HB14.out.dk).mono ?_); rintro e w15 hq; obtain ⟨Wb5, vs15, vo15, rfl, hv, hb, hr⟩ := op_ok (n0 := w.heap.size) hq rfl HB14.out.low.size HB14.out.dk; have HB15 := Aside0.mk (HB14.out.fresh hb); obtain ⟨A15, c15, hvo, hcap, hC⟩ := Kd.R_reads (show Kd.R bytesK 29 w15 w14.heap.size (fun _ => True) vo15 rX from hr); subst hvo; have HC15 := Aside0.mk hC; clear hq hv hb hr hcap hC)
      | (go_at_call 52; (with_reducible refine (rowal_calls HRRES.out HRX4.out HB15.out.rk).mono ?_); rintro e w16 hq; obtain ⟨Rb6, vL16, rfl, hv, hb⟩ := row_ok hq rfl HB15.out.low.size HB15.out.rk; have HR16 := Aside0.mk (show RV w.heap.size w16 Rb6 R vS vC12 vB (.slice none 0 0) vL16 X4 qg qt qL false from hv); have HL16 := Aside0.mk (HB15.out.fresh hb).low; have HC16 := Aside0.mk (Kd.C_below HC15.out hb); clear hq hv hb)
      | (go_at_call 56; (with_reducible refine (records_calls HQL.out HR16.out).mono ?_); rintro e w17 ⟨A17, c17, rfl, hC, hb⟩; have HL17 := Aside0.mk (HL16.out.trans (hb.mono HL16.out.size)); have HC17 := Aside0.mk (Kd.C_below HC16.out hb); have HM17 := Aside0.mk hC; clear hC hb)
      | (go_at_call 55; (with_reducible refine (sametexts2 HST.out HML.out HRL.out HC17.out HM17.out).mono ?_); rintro e w18 ⟨rfl, hd⟩; have HL18 := Aside0.mk (HL17.out.trans (hd.below.mono HL17.out.size)); clear hd))
    go_ret
    exact ⟨rfl, HL18.out⟩
  · have he1 : (qE != 0) = true := by simpa using he
    have he2 : (qE == qE) = true := by simp
    have HNE := Aside0.mk he
    clear o2 hql he
    go_enter Try.func10, Try.ntmps10
    go_wp2_with (first
      | (go_at_call 47; (with_reducible refine (awake7_calls _).mono ?_); rintro e w1 ⟨rfl, hb⟩; have HB1 := Aside0.mk hb; clear hb) | (go_at_call 48; (with_reducible refine (HF1.out w1 HB1.out).mono ?_); rintro e w2 ⟨rfl, hb⟩; have HB2 := Aside0.mk hb; clear hb) | (go_at_call 15; (with_reducible refine (bo_new n HB2.out).mono ?_); rintro e w3 ⟨B, M, Bd, rfl, hd, hb⟩; have HD3 := Aside0.mk hd; have HB3 := Aside0.mk hb; clear hd hb) | (go_at_call 25; (with_reducible refine (bo_rnew n HB3.out HD3.out).mono ?_); rintro e w4 ⟨R, vS, vB, rfl, hd⟩; have HB4 := Aside0.mk hd; clear hd) | (go_at_call 49; (with_reducible refine (bo_wformat _ HW.out HC0.out HB4.out).mono ?_); rintro e w5 ⟨rfl, vc5, hd⟩; have HBW5 := Aside0.mk hd; clear hd) | (go_at_call 50; (with_reducible refine (bo_rwformat _ HX.out HC1.out HBW5.out).mono ?_); rintro e w6 ⟨rfl, vC6, hd⟩; have HB5 := Aside0.mk hd; clear hd)
      | (go_at_call 51; (with_reducible refine (open_calls HO1.out HI1.out.ok HD1C.out HB5.out.dk).mono ?_); rintro e w7 hq; obtain ⟨Wb, vs7, vo7, rfl, hv, hb, hr⟩ := op_ok (n0 := w.heap.size) hq rfl HB5.out.low.size HB5.out.dk; have HV7 := Aside0.mk (show WV w.heap.size w7 Wb B M Bd vc5 vs7 D1 0 0 0 [] false from hv); have HB7 := Aside0.mk (HB5.out.fresh hb); clear hq hv hb hr) | (go_at_call 52; (with_reducible refine (rowal_calls HRO1.out HRX1.out HB7.out.rk).mono ?_); rintro e w8 hq; obtain ⟨Rb, vL8, rfl, hv, hb⟩ := row_ok hq rfl HB7.out.low.size HB7.out.rk; have HR8 := Aside0.mk (show RV w.heap.size w8 Rb R vS vC6 vB (.slice none 0 0) vL8 X1 0 0 [] false from hv); have HB8 := Aside0.mk (HB7.out.fresh hb); have HV8 := Aside0.mk (HV7.out.fresh hb); clear hq hv hb) | (go_at_call 53; (with_reducible refine (HADD.out w8 Wb B M Bd vc5 vs7 HB8.out.low HV8.out).mono ?_); rintro er w9 ⟨rfl, ht, vc9, vs9, hv⟩; have HV9 := Aside0.mk hv; have HR9 := Aside0.mk (HR8.out.wd ht); have HB9 := Aside0.mk (HB8.out.low.trans ht.low); clear ht hv) | (go_at_call 54; (with_reducible refine (HRADD.out w9 Rb R vS vC6 vB vL8 HB9.out HR9.out).mono ?_); rintro er w10 ⟨rfl, ht, vC10, vL10, hv⟩; have HB10 := Aside0.mk (Both.mk (HV9.out.rw ht).dk hv.rk (HB9.out.trans ht.low)); clear ht hv) | (go_at_call 17; (with_reducible refine (bo_write at_ e3 A2 c2 bad HW3.out HCD2.out HB2'.out HB10.out).mono ?_); rintro er w11 ⟨rfl, ht, vc11, hd⟩; have HB11 := Aside0.mk hd; clear ht hd) | (go_at_call 26; (with_reducible refine (bo_rwrite at_ e4 A2 c2 bad HX3.out HCX2.out HB2'.out HB11.out).mono ?_); rintro er w12 ⟨rfl, ht, vC12, hd⟩; have HB12 := Aside0.mk hd; clear ht hd) | (go_at_call 31; (with_reducible refine (bo_fault at_ fault HD4.out HB12.out).mono ?_); rintro er w13 ⟨rfl, ht, hd⟩; have HB13 := Aside0.mk hd; clear ht hd) | (go_at_call 32; (with_reducible refine (bo_rfault at_ fault HX4.out HB13.out).mono ?_); rintro er w14 ⟨rfl, ht, hd⟩; have HB14 := Aside0.mk hd; clear ht hd)
      | (go_at_call 51; (with_reducible refine (open_calls HRES.out HT4.out.ok HCD4.out HB14.out.dk).mono ?_); rintro e w15 hq; obtain ⟨rfl, hb⟩ := op_bad (x := qE) hq rfl HNE.out; have HB15 := Aside0.mk (HB14.out.fresh hb); clear hq hb)
      | (go_at_call 52; (with_reducible refine (rowal_calls HRRES.out HRX4.out HB15.out.rk).mono ?_); rintro e w16 hq; obtain ⟨rfl, hb⟩ := ow_bad (x := qE) hq rfl HNE.out; have HL16 := Aside0.mk (HB15.out.fresh hb).low; clear hq hb))
    go_ret
    exact ⟨rfl, HL16.out⟩
theorem opens_walk (n : Int) (A1 : Option Addr) (c1 : Nat) (l : List (List Int)) (A2 : Option Addr) (c2 : Nat) (bad : List Int) (at_ : Int) (fault : Bool) (w : World) (hb0 : ∀ x ∈ l, isBytes x) (hbad : isBytes bad) (hc1 : l.length ≤ c1) (hC1 : bytesK.C w A1 l.length l) (hC2 : (Kd.int .u8).C w A2 bad.length bad) :
    Calls Try.prog 10 #[.int .i64 n, .slice A1 l.length c1, .slice A2 bad.length c2, .int .i64 at_, .bool fault] w fun e w' => e = .returned (.bool true) ∧ Below w.heap.size w w' := by
  obtain ⟨r1, h1, q1⟩ := few7_f l hC1.2.1
  by_cases h : 40 < n ∨ r1 = false ∨ 64 < bad.length
  · exact opens_out n A1 c1 l A2 bad.length c2 at_ fault w r1 hc1 hC1 h1 h
  · obtain rfl : r1 = true := by cases r1 with
      | false => exact absurd (.inr (.inl rfl)) h
      | true => rfl
    have k := q1 rfl
    have hl : RecsOK l := ⟨k.1, fun b hb => ⟨hb0 b hb, k.2 b hb⟩⟩
    by_cases h3 : n < 3
    · exact opens_small n A1 c1 l A2 bad.length c2 at_ fault w hc1 hC1 h1 (by omega) (by omega) h3
    · exact opens_main n A1 c1 l A2 c2 bad at_ fault w hc1 hC1 hC2 h1 hl hbad (by omega) (by omega) (by omega)
end Go.Proofs.Ytlepcmljmibdnaa
