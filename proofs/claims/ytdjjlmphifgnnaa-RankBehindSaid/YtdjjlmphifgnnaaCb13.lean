/- Parts of one proof, joined: Rkk, Rkl. Conditions: those of each statement. -/
import Derived.Test.YtdjjlmphifgnnaaCb12
namespace Go.Proofs.Ytdjjlmphifgnnaa
open Go.RowKit Go.Sort Go.Proofs.YtdjjlmphifgnnaaW.PrintWords Go.Proofs.YtdjjlmphifgnnaaW.PrintLast Go.Proofs.YtdjjlmphifgnnaaW.PrintMore
open Stb (mrg Pre Sorted stb)
open Flt (nanP canP keyP midP)
set_option linter.unusedVariables false
set_option linter.unusedSimpArgs false
attribute [local go_sem] run_store_float
/-- where a task stands in its list -/
def atLP (l : List Tsk) (id : Nat) : Int := match l.find? (fun x => x.id == id) with
  | none => -1
  | some x => idxP (fun y : Tsk => y.id == id) (ordP l x.list) 0
theorem find_no {α : Type} {o : Option α} {y : α} {b : Bool} (h : o = none) (h1 : b = true → o = some y) : b = false := by
  cases b with
  | false => rfl
  | true => rw [h] at h1; cases h1 rfl
theorem find_yes {o : Option Tsk} {x : Tsk} {xi li : Nat} {ti : ByteArray} {dn : Bool} {rk es : W64} {tg : List ByteArray} {b : Bool} (h : o = some x) (h1 : b = true → o = some ⟨xi, li, ti, dn, rk, es, tg⟩) (h2 : b = false → o = none) : b = true ∧ x.list = li := by
  cases b with
  | false => rw [h] at h2; cases h2 rfl
  | true =>
    have := h1 rfl
    rw [h] at this
    injection this with this
    exact ⟨rfl, by rw [this]⟩
set_option maxRecDepth 100000 in
set_option maxHeartbeats 4000000 in
theorem at_calls2 (w : World) (LA TA : Option Addr) (ln lc tc : Nat) (l : List Tsk) (id : Nat) (hT : kT.C w TA l.length l) (hlen : l.length ≤ 1000) (htag : ∀ x ∈ l, x.tags.length ≤ 1000) :
    Calls Try.prog 11 #[.agg #[.slice LA ln lc, .slice TA l.length tc], .int .u64 (id : Int)] w fun e w' => e = .returned (.int .i64 (atLP l id)) ∧ Below w.heap.size w w' := by
  have hb := (Below.refl w.heap.size w).alloc (Nat.le_refl _) (.cells #[.slice LA ln lc, .slice TA l.length tc] 25)
  have hbx := box2_at (w := w) (a := .slice LA ln lc) (b := .slice TA l.length tc) (t := 25)
  have HFI := Aside0.mk (find_calls (w.alloc (.cells #[.slice LA ln lc, .slice TA l.length tc] 25)) LA TA ln lc tc l id (Kd.C_below hT hb) htag)
  have HB0 := Aside0.mk hb
  have HBX := Aside0.mk hbx
  have HOR := Aside0.mk (fun (W : World) (hb : Below w.heap.size w W) (li : Nat) => order_calls W LA TA ln lc tc l li (Kd.C_below hT hb) hlen htag)
  have HPL := Aside0.mk (fun (W : World) (A : Option Addr) (c li : Nat) (hC : kT.C W A (ordP l li).length (ordP l li)) => place_calls2 W A c (ordP l li) id hC (by have := ordP_len l li; omega))
  obtain ⟨g0, g1⟩ := two_cells hbx
  clear hb hbx hT hlen htag
  cases hfd : l.find? (fun x => x.id == id) with
  | none =>
    have HN := Aside0.mk hfd
    have HE := Aside0.mk (show atLP l id = -1 from by unfold atLP; rw [hfd])
    clear hfd
    go_enter Try.func11, Try.ntmps11
    go_wp2_with (first
      | (go_at_call 25; refine HFI.out.mono ?_; rintro e w2 ⟨xi, li, ti, dn, rk, es, At, ct, tg, b, rfl, hb, h1, h2⟩; obtain rfl : b = false := (find_no HN.out (fun h => (h1 h).1)); have HB2 := Aside0.mk (HB0.out.trans (hb.mono HB0.out.size)); clear hb h1 h2))
    go_ret
    exact ⟨by rw [HE.out]; rfl, HB2.out.alloc HB2.out.size _⟩
  | some x =>
    have HN := Aside0.mk hfd
    have HE := Aside0.mk (show atLP l id = idxP (fun y : Tsk => y.id == id) (ordP l x.list) 0 from by unfold atLP; rw [hfd])
    clear hfd
    go_enter Try.func11, Try.ntmps11
    go_wp2_with (first
      | (go_at_call 25; refine HFI.out.mono ?_; rintro e w2 ⟨xi, li, ti, dn, rk, es, At, ct, tg, b, rfl, hb, h1, h2⟩; obtain ⟨rfl, hli⟩ := (find_yes HN.out (fun h => (h1 h).1) h2); have HLI := Aside0.mk hli; have HB2 := Aside0.mk (HB0.out.trans ((hb.alloc hb.size (.cells #[.int .u64 (xi : Int), .int .u64 (li : Int), .string ti, .bool dn, .float .f64 rk.b, .float .f64 es.b, .slice At tg.length ct] 34)).mono HB0.out.size)); obtain ⟨p0, p1⟩ := two_cells (up2 HBX.out (hb.alloc hb.size (.cells #[.int .u64 (xi : Int), .int .u64 (li : Int), .string ti, .bool dn, .float .f64 rk.b, .float .f64 es.b, .slice At tg.length ct] 34))); clear hb h1 h2 hli)
      | (go_at_call 9; refine (HOR.out _ HB2.out li).mono ?_; intro e w3 hq; obtain ⟨A3, c3, rfl, hC, hb⟩ := ord_reads hq; have HB3 := Aside0.mk (HB2.out.trans (hb.mono HB2.out.size)); have HC3 := Aside0.mk hC; clear hq hC hb)
      | (go_at_call 16; refine (HPL.out w3 A3 c3 li HC3.out).mono ?_; rintro e w4 ⟨rfl, hb⟩; have HB4 := Aside0.mk (HB3.out.trans (hb.mono HB3.out.size)); clear hb))
    go_ret
    exact ⟨by rw [HE.out, HLI.out]; rfl, HB4.out⟩
def ls0 : List Lst := [⟨1, ⟨#[108]⟩⟩]
def l0 : List Tsk := [⟨1, 1, ⟨#[97]⟩, false, ⟨4607182418800017408, by decide⟩, ⟨0, by decide⟩, []⟩, ⟨2, 1, ⟨#[98]⟩, false, ⟨4611686018427387904, by decide⟩, ⟨0, by decide⟩, []⟩]
theorem ordP_l0 : ordP l0 1 = l0 := by
  have h : l0.filter (fun x => x.list == 1) = l0 := rfl
  unfold ordP
  rw [h]
  unfold l0 stb
  simp only [List.foldl_cons, List.foldl_nil, Stb.mrg_nil]
  rw [Stb.mrg_cons, if_pos (by rw [tle_iff]; decide), Stb.mrg_nil]
theorem betP_l0 : betP ls0 l0 1 1 = (4609434218613702656, 0) := by
  have hf : findL ls0 1 = (⟨1, ⟨#[108]⟩⟩, true) := rfl
  unfold betP
  rw [hf, ordP_l0]
  decide
theorem atLP_l0 : atLP l0 2 = 1 := by
  have hf : l0.find? (fun x => x.id == 2) = some ⟨2, 1, ⟨#[98]⟩, false, ⟨4611686018427387904, by decide⟩, ⟨0, by decide⟩, []⟩ := rfl
  unfold atLP
  rw [hf]
  simp only []
  rw [ordP_l0]
  rfl
/-! ### rows that are written out -/
theorem kL_M {w : World} {base : Nat} {ok : Nat → Prop} (x : Lst) : kL.M w base ok x (lsC x) := ⟨[.int .u64 (x.id : Int)], [.string x.name], rfl, rfl, rfl⟩
theorem ls0_C (w : World) (B : Nat) (h : w.heap[B]? = some (.cells #[.int .u64 1, .string ⟨#[108]⟩] 43 (0, 0))) : kL.C w (some ⟨B, 0, none⟩) ls0.length ls0 := by
  have hR : Kd.R kL 43 w 0 (fun _ => True) (.slice (some ⟨B, 0, none⟩) 1 1) ls0 :=
    ⟨fun _ _ => trivial, lsC ⟨1, ⟨#[108]⟩⟩, ⟨rfl, .inr ⟨B, 1, _, rfl, Nat.zero_le _, h, Nat.le_refl _, by decide, rfl, rfl⟩⟩, (Reps.none _ _).snoc (kL_M ⟨1, ⟨#[108]⟩⟩) rfl⟩
  exact (Kd.R_reads' hR).2.2
theorem l0_C (w : World) (B : Nat) (h : w.heap[B]? = some (.cells #[.int .u64 1, .int .u64 1, .string ⟨#[97]⟩, .bool false, .float .f64 4607182418800017408, .float .f64 0, .slice none 0 0, .int .u64 2, .int .u64 1, .string ⟨#[98]⟩, .bool false, .float .f64 4611686018427387904, .float .f64 0, .slice none 0 0] 34 (0, 0))) : kT.C w (some ⟨B, 0, none⟩) l0.length l0 := by
  have hR : Kd.R kT 34 w 0 (fun _ => True) (.slice (some ⟨B, 0, none⟩) 2 2) l0 :=
    ⟨fun _ _ => trivial, tkX ⟨1, 1, ⟨#[97]⟩, false, ⟨4607182418800017408, by decide⟩, ⟨0, by decide⟩, (⟨none, 0, 0⟩, [])⟩ ++ tkX ⟨2, 1, ⟨#[98]⟩, false, ⟨4611686018427387904, by decide⟩, ⟨0, by decide⟩, (⟨none, 0, 0⟩, [])⟩, ⟨rfl, .inr ⟨B, 2, _, rfl, Nat.zero_le _, h, Nat.le_refl _, by decide, rfl, rfl⟩⟩,
      ((Reps.none _ _).snoc (kT_M_mk (x := ⟨1, 1, ⟨#[97]⟩, false, ⟨4607182418800017408, by decide⟩, ⟨0, by decide⟩, (⟨none, 0, 0⟩, [])⟩) (Kd.R_nil _ _ _ _ _)) rfl).snoc (kT_M_mk (x := ⟨2, 1, ⟨#[98]⟩, false, ⟨4611686018427387904, by decide⟩, ⟨0, by decide⟩, (⟨none, 0, 0⟩, [])⟩) (Kd.R_nil _ _ _ _ _)) rfl⟩
  exact (Kd.R_reads' hR).2.2
set_option maxRecDepth 100000 in
set_option maxHeartbeats 4000000 in
theorem awake_calls (w : World) : Calls Try.prog 4 #[] w fun e w' => e = .returned (.bool true) ∧ Below w.heap.size w w' := by
  have s1 : (w.alloc (.cells #[.int .u64 1, .string ⟨#[108]⟩] 43)).heap.size = w.heap.size + 1 := Array.size_push _
  have s2 : ((w.alloc (.cells #[.int .u64 1, .string ⟨#[108]⟩] 43)).alloc (.cells #[.int .u64 1, .int .u64 1, .string ⟨#[97]⟩, .bool false, .float .f64 4607182418800017408, .float .f64 0, .slice none 0 0, .int .u64 2, .int .u64 1, .string ⟨#[98]⟩, .bool false, .float .f64 4611686018427387904, .float .f64 0, .slice none 0 0] 34)).heap.size = w.heap.size + 1 + 1 := (Array.size_push _).trans (congrArg (· + 1) s1)
  have b1 := (Below.refl w.heap.size w).alloc (Nat.le_refl _) (.cells #[.int .u64 1, .string ⟨#[108]⟩] 43)
  have b2 := (Below.refl (w.alloc (.cells #[.int .u64 1, .string ⟨#[108]⟩] 43)).heap.size (w.alloc (.cells #[.int .u64 1, .string ⟨#[108]⟩] 43))).alloc (Nat.le_refl _) (.cells #[.int .u64 1, .int .u64 1, .string ⟨#[97]⟩, .bool false, .float .f64 4607182418800017408, .float .f64 0, .slice none 0 0, .int .u64 2, .int .u64 1, .string ⟨#[98]⟩, .bool false, .float .f64 4611686018427387904, .float .f64 0, .slice none 0 0] 34)
  have b3 := (Below.refl ((w.alloc (.cells #[.int .u64 1, .string ⟨#[108]⟩] 43)).alloc (.cells #[.int .u64 1, .int .u64 1, .string ⟨#[97]⟩, .bool false, .float .f64 4607182418800017408, .float .f64 0, .slice none 0 0, .int .u64 2, .int .u64 1, .string ⟨#[98]⟩, .bool false, .float .f64 4611686018427387904, .float .f64 0, .slice none 0 0] 34)).heap.size ((w.alloc (.cells #[.int .u64 1, .string ⟨#[108]⟩] 43)).alloc (.cells #[.int .u64 1, .int .u64 1, .string ⟨#[97]⟩, .bool false, .float .f64 4607182418800017408, .float .f64 0, .slice none 0 0, .int .u64 2, .int .u64 1, .string ⟨#[98]⟩, .bool false, .float .f64 4611686018427387904, .float .f64 0, .slice none 0 0] 34))).alloc (Nat.le_refl _) (.cells #[.slice (some ⟨w.heap.size, 0, none⟩) 1 1, .slice (some ⟨w.heap.size + 1, 0, none⟩) 2 2] 25)
  have k1 : (w.alloc (.cells #[.int .u64 1, .string ⟨#[108]⟩] 43)).heap[w.heap.size]? = some (.cells #[.int .u64 1, .string ⟨#[108]⟩] 43 (0, 0)) := heap_alloc_new w _
  have k2 : ((w.alloc (.cells #[.int .u64 1, .string ⟨#[108]⟩] 43)).alloc (.cells #[.int .u64 1, .int .u64 1, .string ⟨#[97]⟩, .bool false, .float .f64 4607182418800017408, .float .f64 0, .slice none 0 0, .int .u64 2, .int .u64 1, .string ⟨#[98]⟩, .bool false, .float .f64 4611686018427387904, .float .f64 0, .slice none 0 0] 34)).heap[w.heap.size + 1]? = some (.cells #[.int .u64 1, .int .u64 1, .string ⟨#[97]⟩, .bool false, .float .f64 4607182418800017408, .float .f64 0, .slice none 0 0, .int .u64 2, .int .u64 1, .string ⟨#[98]⟩, .bool false, .float .f64 4611686018427387904, .float .f64 0, .slice none 0 0] 34 (0, 0)) := by have h := heap_alloc_new (w.alloc (.cells #[.int .u64 1, .string ⟨#[108]⟩] 43)) (.cells #[.int .u64 1, .int .u64 1, .string ⟨#[97]⟩, .bool false, .float .f64 4607182418800017408, .float .f64 0, .slice none 0 0, .int .u64 2, .int .u64 1, .string ⟨#[98]⟩, .bool false, .float .f64 4611686018427387904, .float .f64 0, .slice none 0 0] 34); rwa [s1] at h
  have k3 : (((w.alloc (.cells #[.int .u64 1, .string ⟨#[108]⟩] 43)).alloc (.cells #[.int .u64 1, .int .u64 1, .string ⟨#[97]⟩, .bool false, .float .f64 4607182418800017408, .float .f64 0, .slice none 0 0, .int .u64 2, .int .u64 1, .string ⟨#[98]⟩, .bool false, .float .f64 4611686018427387904, .float .f64 0, .slice none 0 0] 34)).alloc (.cells #[.slice (some ⟨w.heap.size, 0, none⟩) 1 1, .slice (some ⟨w.heap.size + 1, 0, none⟩) 2 2] 25)).heap[w.heap.size + 1 + 1]? = some (.cells #[.slice (some ⟨w.heap.size, 0, none⟩) 1 1, .slice (some ⟨w.heap.size + 1, 0, none⟩) 2 2] 25 (0, 0)) := by have h := heap_alloc_new ((w.alloc (.cells #[.int .u64 1, .string ⟨#[108]⟩] 43)).alloc (.cells #[.int .u64 1, .int .u64 1, .string ⟨#[97]⟩, .bool false, .float .f64 4607182418800017408, .float .f64 0, .slice none 0 0, .int .u64 2, .int .u64 1, .string ⟨#[98]⟩, .bool false, .float .f64 4611686018427387904, .float .f64 0, .slice none 0 0] 34)) (.cells #[.slice (some ⟨w.heap.size, 0, none⟩) 1 1, .slice (some ⟨w.heap.size + 1, 0, none⟩) 2 2] 25); rwa [s2] at h
  have c1 := Kd.C_below (Kd.C_below (ls0_C _ _ k1) b2) b3
  have c2 := Kd.C_below (l0_C _ _ k2) b3
  have hbb : Below w.heap.size w (((w.alloc (.cells #[.int .u64 1, .string ⟨#[108]⟩] 43)).alloc (.cells #[.int .u64 1, .int .u64 1, .string ⟨#[97]⟩, .bool false, .float .f64 4607182418800017408, .float .f64 0, .slice none 0 0, .int .u64 2, .int .u64 1, .string ⟨#[98]⟩, .bool false, .float .f64 4611686018427387904, .float .f64 0, .slice none 0 0] 34)).alloc (.cells #[.slice (some ⟨w.heap.size, 0, none⟩) 1 1, .slice (some ⟨w.heap.size + 1, 0, none⟩) 2 2] 25)) := (b1.trans (b2.mono b1.size)).trans (b3.mono (Nat.le_trans b1.size b2.size))
  obtain ⟨W0, hW0⟩ : ∃ W0, (((w.alloc (.cells #[.int .u64 1, .string ⟨#[108]⟩] 43)).alloc (.cells #[.int .u64 1, .int .u64 1, .string ⟨#[97]⟩, .bool false, .float .f64 4607182418800017408, .float .f64 0, .slice none 0 0, .int .u64 2, .int .u64 1, .string ⟨#[98]⟩, .bool false, .float .f64 4611686018427387904, .float .f64 0, .slice none 0 0] 34)).alloc (.cells #[.slice (some ⟨w.heap.size, 0, none⟩) 1 1, .slice (some ⟨w.heap.size + 1, 0, none⟩) 2 2] 25)) = W0 := ⟨_, rfl⟩
  rw [hW0] at k3 c1 c2 hbb
  have hbt := between_calls W0 (some ⟨w.heap.size, 0, none⟩) (some ⟨w.heap.size + 1, 0, none⟩) 1 2 ls0 l0 1 1 c1 c2 (by decide) (by decide) (by decide) (by decide)
  rw [betP_l0] at hbt
  have HBT : Aside0 (Calls Try.prog 8 #[.agg #[.slice (some ⟨w.heap.size, 0, none⟩) 1 1, .slice (some ⟨w.heap.size + 1, 0, none⟩) 2 2], .int .u64 1, .int .u64 1] W0 fun e w' => e = .returned (.tuple #[.float .f64 4609434218613702656, .int .i64 0]) ∧ Below W0.heap.size W0 w') := ⟨hbt⟩
  have HAT := Aside0.mk (fun (W : World) (hb : Below W0.heap.size W0 W) => at_calls2 W (some ⟨w.heap.size, 0, none⟩) (some ⟨w.heap.size + 1, 0, none⟩) 1 1 2 l0 2 (Kd.C_below c2 hb) (by decide) (by decide))
  rw [atLP_l0] at HAT
  have HW0 := Aside0.mk hW0
  have HK3 := Aside0.mk k3
  have HBB := Aside0.mk hbb
  have o1 : (FloatKind.f64.format.order 4609434218613702656 4607182418800017408 == some .gt) = true := by decide
  have o2 : (FloatKind.f64.format.order 4609434218613702656 4611686018427387904 == some .lt) = true := by decide
  clear s1 s2 b1 b2 b3 k1 k2 k3 c1 c2 hbb hW0 hbt
  go_enter Try.func4, Try.ntmps4
  go_wp2_with (first
    | (go_at_call 8; rw [HW0.out]; refine HBT.out.mono ?_; rintro e w2 ⟨rfl, hb⟩; have HB2 := Aside0.mk hb; obtain ⟨q0, q1⟩ := two_cells (up2 HK3.out hb); clear hb)
    | (go_at_call 11; refine (HAT.out _ HB2.out).mono ?_; rintro e w3 ⟨rfl, hb⟩; have HB3 := Aside0.mk (HBB.out.trans ((HB2.out.trans (hb.mono HB2.out.size)).mono HBB.out.size)); clear hb))
  go_ret
  exact ⟨rfl, HB3.out⟩
end Go.Proofs.Ytdjjlmphifgnnaa
namespace Go.Proofs.Ytdjjlmphifgnnaa
open Stb (mrg Pre Sorted stb)
open Flt (nanP canP keyP midP)
set_option linter.unusedVariables false
set_option linter.unusedSimpArgs false
theorem idxP_skip {α : Type} (q : α → Bool) : ∀ (a b : List α) (i : Nat), (∀ x ∈ a, q x = false) → idxP q (a ++ b) i = idxP q b (i + a.length)
  | [], b, i, _ => rfl
  | x :: a, b, i, h => by
    show (if q x then (i : Int) else idxP q (a ++ b) (i + 1)) = _
    rw [h x (List.mem_cons_self ..), idxP_skip q a b (i + 1) (fun y hy => h y (List.mem_cons_of_mem _ hy))]
    simp only [Bool.false_eq_true, if_false, List.length_cons]
    congr 1
    omega
/-- the task that comes in behind place j (0: ahead of all) -/
theorem ord_put {l : List Tsk} {list : Nat} {t : Tsk} (ht : t.list = list) (k : Nat) (hk : k ≤ (ordP l list).length) (c1 : ∀ a, 0 < k → (ordP l list)[k - 1]? = some a → keyP a.rank.b < keyP t.rank.b) (c2 : ∀ a, (ordP l list)[k]? = some a → keyP t.rank.b < keyP a.rank.b) :
    ordP (l ++ [t]) list = (ordP l list).take k ++ t :: (ordP l list).drop k := by
  have e : ordP (l ++ [t]) list = mrg tle (ordP l list) [t] := by
    unfold ordP
    have hf : ([t] : List Tsk).filter (fun x => x.list == list) = [t] := by simp [ht]
    rw [List.filter_append, hf, Stb.stb_snoc]
  rw [e]
  refine Stb.mrg_last tle_pre (Stb.stb_sorted tle_pre _) k hk (fun a h0 ha => ?_) (fun a ha => ?_)
  · exact (tle_iff a t).2 (.inl (c1 a h0 ha))
  · have := c2 a ha
    cases h : tle a t with
    | false => exact h
    | true => have := (tle_iff a t).1 h; omega
def newT (id list : Nat) (f : W64) : Tsk := ⟨id, list, ⟨#[116]⟩, false, f, ⟨0, by decide⟩, []⟩
theorem inf_key : keyP 18442240474082181120 = 4503599627370495 ∧ keyP 9218868437227405312 = 18442240474082181120 := by decide
theorem end_spec {o : List Tsk} {at_ : Int} {f : Nat} (hn : ∀ x ∈ o, nanP x.rank.b = false) (ha : -1 ≤ at_ ∧ at_ < o.length) (h : endP o at_ = (f, 0)) : f < 18446744073709551616 ∧ nanP f = false ∧ keyP (endsP o at_).1 < keyP f ∧ keyP f < keyP (endsP o at_).2 := by
  obtain ⟨q1, q2, q3, q4⟩ := ends_ok hn ha
  unfold endP at h
  cases hm : midP (endsP o at_).1 (endsP o at_).2 with
  | mk g b =>
    rw [hm] at h
    cases b with
    | false => simp at h
    | true =>
      simp at h
      subst h
      obtain ⟨a1, a2, a3, a4⟩ := Flt.mid_between q1 q2 hm
      exact ⟨a4, a3, a1, a2⟩
def behOk (o' : List Tsk) (id after : Nat) : Prop := if after = 0 then idxP (fun x : Tsk => x.id == id) o' 0 = 0 else ∃ j y, idxP (fun x : Tsk => x.id == id) o' 0 = ((j + 1 : Nat) : Int) ∧ o'[j]? = some y ∧ y.id = after
theorem beh_law {ls : List Lst} {l : List Tsk} {list after id f : Nat} (hn : ∀ x ∈ l, nanP x.rank.b = false) (hid : l.find? (fun x => x.id == id) = none) (h : betP ls l list after = (f, 0)) : ∃ hf : f < 18446744073709551616, behOk (ordP (l ++ [newT id list ⟨f, hf⟩]) list) id after := by
  have hni : ∀ x ∈ l, (x.id == id) = false := fun x hx => by
    have := List.find?_eq_none.1 hid x hx
    simpa using this
  have hno : ∀ x ∈ ordP l list, (x.id == id) = false := fun x hx => hni x (ordP_mem.1 hx).1
  have hnn : ∀ x ∈ ordP l list, nanP x.rank.b = false := fun x hx => hn x (ordP_mem.1 hx).1
  unfold betP at h
  split at h
  · cases h
  · unfold behP at h
    by_cases ha : after = 0
    · rw [if_pos ha] at h
      by_cases h0 : (ordP l list).length = 0
      · rw [if_pos h0] at h
        injection h with h
        subst h
        refine ⟨by decide, ?_⟩
        have e := ord_put (l := l) (list := list) (t := newT id list ⟨0, by decide⟩) rfl 0 (Nat.zero_le _) (fun a h => by omega) (fun a h => by have := (List.getElem?_eq_some_iff.1 h).1; omega)
        rw [e]
        unfold behOk
        rw [if_pos ha, List.take_zero, List.nil_append, idxP]
        simp [newT]
      · rw [if_neg h0] at h
        obtain ⟨hf, hnf, h1, h2⟩ := end_spec hnn ⟨by omega, by omega⟩ h
        refine ⟨hf, ?_⟩
        have e := ord_put (l := l) (list := list) (t := newT id list ⟨f, hf⟩) rfl 0 (Nat.zero_le _) (fun a h => by omega) (fun a h => by
          have e2 : (endsP (ordP l list) (-1)).2 = a.rank.b := by
            unfold endsP
            simp only []
            rw [if_pos (by omega)]
            show ((ordP l list).getD 0 zT).rank.b = _
            rw [List.getD_eq_getElem?_getD, h]
            rfl
          rw [e2] at h2
          exact h2)
        rw [e]
        unfold behOk
        rw [if_pos ha, List.take_zero, List.nil_append, idxP]
        simp [newT]
    · rw [if_neg ha] at h
      split at h
      · cases h
      · next hneg =>
        rcases idxP_spec (fun x : Tsk => x.id == after) (ordP l list) 0 with ⟨h1, _, _⟩ | ⟨j, y, h1, h2, h3, _⟩
        · rw [h1] at hneg; exact absurd (by decide) hneg
        · rw [h1, Nat.zero_add] at h
          have hj := (List.getElem?_eq_some_iff.1 h2).1
          obtain ⟨hf, hnf, k1, k2⟩ := end_spec hnn ⟨by omega, by omega⟩ h
          refine ⟨hf, ?_⟩
          have e := ord_put (l := l) (list := list) (t := newT id list ⟨f, hf⟩) rfl (j + 1) (by omega) (fun a _ h => by
            have e2 : (endsP (ordP l list) (j : Int)).1 = a.rank.b := by
              unfold endsP
              simp only []
              rw [if_pos (by omega), Int.toNat_natCast, List.getD_eq_getElem?_getD]
              rw [Nat.add_sub_cancel] at h
              rw [h]
              rfl
            rw [e2] at k1
            exact k1) (fun a h => by
            have hj2 := (List.getElem?_eq_some_iff.1 h).1
            have e2 : (endsP (ordP l list) (j : Int)).2 = a.rank.b := by
              unfold endsP
              simp only []
              rw [if_pos (by omega), show ((j : Int) + 1).toNat = j + 1 by omega, List.getD_eq_getElem?_getD, h]
              rfl
            rw [e2] at k2
            exact k2)
          rw [e]
          unfold behOk
          rw [if_neg ha]
          have hl : ((ordP l list).take (j + 1)).length = j + 1 := by rw [List.length_take]; omega
          refine ⟨j, y, ?_, ?_, by simpa using h3⟩
          · rw [idxP_skip _ _ _ _ (fun x hx => hno x (List.mem_of_mem_take hx)), hl, idxP, Nat.zero_add]
            simp [newT]
          · rw [List.getElem?_append_left (by rw [hl]; omega), List.getElem?_take_of_lt (by omega)]
            exact h2
end Go.Proofs.Ytdjjlmphifgnnaa
