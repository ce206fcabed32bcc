/- Parts of one proof, joined: Pcn, Shs, Tkh. Conditions: those of each statement. -/
import Derived.Test.YtdjjlmphifgnnaaGreatCc10
import Derived.Laws.Cover2
import Derived.Shelf.SlSortCmp.WholeK
import Derived.Shelf.SlGeneric
import Derived.Ground.SlsfProg
import Derived.Test.YtdjjlmphifgnnaaGreatChecked
import Derived.Shelf.SlSortCmp.NoneTotal
namespace Go.Proofs.YtdjjlmphifgnnaaGreat
open Stb (mrg Pre Sorted stb)
open Flt (nanP canP keyP midP)
set_option linter.unusedVariables false
set_option linter.unusedSimpArgs false
def ddp {α : Type} (key : α → Nat) (l : List α) : List α := l.foldl (fun acc x => if acc.any (fun y => key y == key x) then acc else acc ++ [x]) []
def kle {α : Type} (key : α → Nat) (a b : α) : Bool := decide (key a ≤ key b)
def canK {α : Type} (key : α → Nat) (l : List α) : List α := stb (kle key) (ddp key l)
theorem kle_iff {α : Type} (key : α → Nat) (a b : α) : kle key a b = true ↔ key a ≤ key b := by unfold kle; simp
theorem kle_pre {α : Type} (key : α → Nat) : Pre (kle key) where
  tot := fun a b => by rw [kle_iff, kle_iff]; omega
  tr := fun a b c h1 h2 => by
    rw [kle_iff] at *
    omega
theorem stb_id {α : Type} {le : α → α → Bool} (hp : Pre le) (l : List α) : Sorted le l → stb le l = l := by
  refine Stb.snoc_ind (motive := fun l => Sorted le l → stb le l = l) l (fun _ => rfl) ?_
  intro l x ih h
  have h1 := List.pairwise_append.1 h
  rw [Stb.stb_snoc, ih h1.1]
  rw [Stb.mrg_last hp h1.1 l.length (Nat.le_refl _) (fun a h0 ha => h1.2.2 a (List.mem_of_getElem? ha) x (by simp)) (fun a ha => by simp at ha)]
  simp
theorem ddp_snoc {α : Type} (key : α → Nat) (l : List α) (x : α) : ddp key (l ++ [x]) = if (ddp key l).any (fun y => key y == key x) then ddp key l else ddp key l ++ [x] := by
  unfold ddp
  rw [List.foldl_append]
  rfl
theorem ddp_len {α : Type} (key : α → Nat) (l : List α) : (ddp key l).length ≤ l.length := by
  refine Stb.snoc_ind (motive := fun l => (ddp key l).length ≤ l.length) l (Nat.le_refl _) ?_
  intro l x ih
  rw [ddp_snoc]
  split <;> simp <;> omega
theorem ddp_keys {α : Type} (key : α → Nat) (l : List α) : (ddp key l).Pairwise (fun a b => key a ≠ key b) := by
  refine Stb.snoc_ind (motive := fun l => (ddp key l).Pairwise (fun a b => key a ≠ key b)) l .nil ?_
  intro l x ih
  rw [ddp_snoc]
  split
  · exact ih
  · next h =>
    refine List.pairwise_append.2 ⟨ih, List.pairwise_singleton _ _, fun a ha b hb => ?_⟩
    rw [List.mem_singleton] at hb
    subst hb
    intro e
    exact h (List.any_eq_true.2 ⟨a, ha, by simp [e]⟩)
theorem ddp_id {α : Type} (key : α → Nat) (l : List α) : l.Pairwise (fun a b => key a ≠ key b) → ddp key l = l := by
  refine Stb.snoc_ind (motive := fun l => l.Pairwise (fun a b => key a ≠ key b) → ddp key l = l) l (fun _ => rfl) ?_
  intro l x ih h
  have h1 := List.pairwise_append.1 h
  rw [ddp_snoc, ih h1.1, if_neg]
  intro e
  obtain ⟨a, ha, hq⟩ := List.any_eq_true.1 e
  exact h1.2.2 a ha x (by simp) (by simpa using hq)
theorem canK_id {α : Type} (key : α → Nat) (l : List α) (h : l.Pairwise (fun a b => key a < key b)) : canK key l = l := by
  unfold canK
  rw [ddp_id key l (h.imp fun h => by omega)]
  exact stb_id (kle_pre key) l (h.imp fun h => (kle_iff _ _ _).2 (by omega))
theorem pw_perm {α : Type} {key : α → Nat} {xs : List α} (h : xs.Pairwise (fun a b => key a ≠ key b)) : ∀ a ∈ xs, ∀ b ∈ xs, key a = key b → a = b := by
  induction xs with
  | nil => intro a ha; cases ha
  | cons x xs ih =>
    have h1 := List.pairwise_cons.1 h
    intro a ha b hb e
    rcases List.mem_cons.1 ha with ea | ha2 <;> rcases List.mem_cons.1 hb with eb | hb2
    · rw [ea, eb]
    · rw [ea] at e; exact absurd e (h1.1 b hb2)
    · rw [eb] at e; exact absurd e.symm (h1.1 a ha2)
    · exact ih h1.2 a ha2 b hb2 e
/-- what is sorted by Ids that are told once is one -/
theorem sort_unique {α : Type} {key : α → Nat} {xs ys : List α} (hk : xs.Pairwise (fun a b => key a ≠ key b)) (hs : Sorted (kle key) ys) (hp : ys.Perm xs) : ys = stb (kle key) xs := by
  refine Stb.sorted_perm (kle_pre key) ys (stb (kle key) xs) hs (Stb.stb_sorted (kle_pre key) _) (hp.trans (Stb.stb_perm _).symm) fun a ha b hb h1 h2 => ?_
  rw [kle_iff] at h1 h2
  exact pw_perm hk a (hp.mem_iff.1 ha) b (hp.mem_iff.1 hb) (by omega)
/-! ### ranks that are spread -/
def rkF (i : Nat) : Nat := floatOfInt .f64 (i : Int)
def rkOk (i : Nat) : Bool := decide (rkF i < 18446744073709551616) && !nanP (rkF i) && cnP (rkF i) && decide (keyP (rkF i) < keyP (rkF (i + 1))) && (midP (rkF i) (rkF (i + 1))).2 && (midP (rkF i) 9218868437227405312).2
theorem rk_all : (List.range 80).all (fun i => rkOk (i + 1)) = true := by decide
theorem rk_first : (midP 18442240474082181120 (rkF 1)).2 = true := by decide
end Go.Proofs.YtdjjlmphifgnnaaGreat
namespace Go.Proofs
open Go.Shelf
def Tryz.shSfL_ren : Go.Shelf.Ren := ⟨fun | 6 => 32 | 15 => 54 | 14 => 53 | 28 => 71 | 29 => 72 | 20 => 63 | 21 => 64 | 22 => 65 | 23 => 66 | 24 => 67 | 25 => 68 | 26 => 69 | 27 => 70 | 46 => 92 | 47 => 93 | 48 => 94 | 49 => 95 | 50 => 96 | 57 => 106 | n => n, fun | 22 => 22 | 24 => 41 | 25 => 70 | 3 => 3 | 39 => 86 | 0 => 0 | 53 => 102 | 55 => 26 | 4 => 4 | 46 => 95 | 45 => 94 | 50 => 99 | 5 => 5 | 9 => 9 | 66 => 116 | 70 => 120 | 76 => 126 | 77 => 127 | n => n, fun | n => n⟩
theorem Tryz.shSfL : Go.Proofs.SlLaysF0.n6 Tryz.prog Tryz.shSfL_ren := {
  mixed := by kernel_rfl
  f6 := ⟨Tryz.f32.name, by decide, Tryz.func32.trans (congrArg some (by kernel_rfl))⟩
  f14 := ⟨Tryz.f53.name, by decide, Tryz.func53.trans (congrArg some (by kernel_rfl))⟩
  f15 := Tryz.func54.trans (congrArg some (by kernel_rfl))
  f20 := ⟨Tryz.f63.name, by decide, Tryz.func63.trans (congrArg some (by kernel_rfl))⟩
  f21 := ⟨Tryz.f64.name, by decide, Tryz.func64.trans (congrArg some (by kernel_rfl))⟩
  f22 := ⟨Tryz.f65.name, by decide, Tryz.func65.trans (congrArg some (by kernel_rfl))⟩
  f23 := ⟨Tryz.f66.name, by decide, Tryz.func66.trans (congrArg some (by kernel_rfl))⟩
  f24 := ⟨Tryz.f67.name, by decide, Tryz.func67.trans (congrArg some (by kernel_rfl))⟩
  f25 := ⟨Tryz.f68.name, by decide, Tryz.func68.trans (congrArg some (by kernel_rfl))⟩
  f26 := ⟨Tryz.f69.name, by decide, Tryz.func69.trans (congrArg some (by kernel_rfl))⟩
  f27 := ⟨Tryz.f70.name, by decide, Tryz.func70.trans (congrArg some (by kernel_rfl))⟩
  f28 := Tryz.func71.trans (congrArg some (by kernel_rfl))
  f29 := Tryz.func72.trans (congrArg some (by kernel_rfl))
  f46 := ⟨Tryz.f92.name, by decide, Tryz.func92.trans (congrArg some (by kernel_rfl))⟩
  f47 := Tryz.func93.trans (congrArg some (by kernel_rfl))
  f48 := Tryz.func94.trans (congrArg some (by kernel_rfl))
  f49 := ⟨Tryz.f95.name, by decide, Tryz.func95.trans (congrArg some (by kernel_rfl))⟩
  f50 := ⟨Tryz.f96.name, by decide, Tryz.func96.trans (congrArg some (by kernel_rfl))⟩
  f57 := ⟨Tryz.f106.name, by decide, Tryz.func106.trans (congrArg some (by kernel_rfl))⟩
  t0 := Tryz.underlying0
  a0 := Tryz.isAgg0
  z0 := Tryz.sizeOf0
  v0 := Tryz.zeroValue0
  t3 := Tryz.underlying3
  a3 := Tryz.isAgg3
  z3 := Tryz.sizeOf3
  v3 := Tryz.zeroValue3
  t4 := Tryz.underlying4
  a4 := Tryz.isAgg4
  z4 := Tryz.sizeOf4
  v4 := Tryz.zeroValue4
  t5 := Tryz.underlying5
  a5 := Tryz.isAgg5
  z5 := Tryz.sizeOf5
  v5 := Tryz.zeroValue5
  t9 := Tryz.underlying9
  a9 := Tryz.isAgg9
  z9 := Tryz.sizeOf9
  v9 := Tryz.zeroValue9
  t22 := Tryz.underlying22
  a22 := Tryz.isAgg22
  z22 := Tryz.sizeOf22
  v22 := Tryz.zeroValue22
  t25 := Tryz.underlying70
  a25 := Tryz.isAgg70
  z25 := Tryz.sizeOf70
  v25 := Tryz.zeroValue70
  t39 := Tryz.underlying86
  a39 := Tryz.isAgg86
  z39 := Tryz.sizeOf86
  v39 := Tryz.zeroValue86
  t45 := Tryz.underlying94
  a45 := Tryz.isAgg94
  z45 := Tryz.sizeOf94
  v45 := Tryz.zeroValue94
  t46 := Tryz.underlying95
  a46 := Tryz.isAgg95
  z46 := Tryz.sizeOf95
  v46 := Tryz.zeroValue95
  t50 := Tryz.underlying99
  a50 := Tryz.isAgg99
  z50 := Tryz.sizeOf99
  v50 := Tryz.zeroValue99
  t53 := Tryz.underlying102
  a53 := Tryz.isAgg102
  z53 := Tryz.sizeOf102
  v53 := Tryz.zeroValue102
  t55 := Tryz.underlying26
  a55 := Tryz.isAgg26
  z55 := Tryz.sizeOf26
  v55 := Tryz.zeroValue26
  t66 := Tryz.underlying116
  a66 := Tryz.isAgg116
  z66 := Tryz.sizeOf116
  v66 := Tryz.zeroValue116
  t70 := Tryz.underlying120
  a70 := Tryz.isAgg120
  z70 := Tryz.sizeOf120
  v70 := Tryz.zeroValue120
  t76 := Tryz.underlying126
  a76 := Tryz.isAgg126
  z76 := Tryz.sizeOf126
  v76 := Tryz.zeroValue126
  t77 := Tryz.underlying127
  a77 := Tryz.isAgg127
  z77 := Tryz.sizeOf127
  v77 := Tryz.zeroValue127 }
def Tryz.shSfT_ren : Go.Shelf.Ren := ⟨fun | 6 => 34 | 15 => 54 | 14 => 55 | 28 => 71 | 29 => 72 | 20 => 56 | 21 => 73 | 22 => 74 | 23 => 75 | 24 => 76 | 25 => 77 | 26 => 78 | 27 => 79 | 46 => 97 | 47 => 93 | 48 => 94 | 49 => 98 | 50 => 99 | 57 => 107 | n => n, fun | 22 => 23 | 24 => 36 | 25 => 53 | 3 => 3 | 39 => 86 | 0 => 0 | 53 => 102 | 55 => 26 | 4 => 4 | 46 => 95 | 45 => 94 | 50 => 99 | 5 => 5 | 9 => 9 | 66 => 116 | 70 => 120 | 76 => 126 | 77 => 127 | n => n, fun | n => n⟩
theorem Tryz.shSfT : Go.Proofs.SlLaysF0.n6 Tryz.prog Tryz.shSfT_ren := {
  mixed := by kernel_rfl
  f6 := ⟨Tryz.f34.name, by decide, Tryz.func34.trans (congrArg some (by kernel_rfl))⟩
  f14 := ⟨Tryz.f55.name, by decide, Tryz.func55.trans (congrArg some (by kernel_rfl))⟩
  f15 := Tryz.func54.trans (congrArg some (by kernel_rfl))
  f20 := ⟨Tryz.f56.name, by decide, Tryz.func56.trans (congrArg some (by kernel_rfl))⟩
  f21 := ⟨Tryz.f73.name, by decide, Tryz.func73.trans (congrArg some (by kernel_rfl))⟩
  f22 := ⟨Tryz.f74.name, by decide, Tryz.func74.trans (congrArg some (by kernel_rfl))⟩
  f23 := ⟨Tryz.f75.name, by decide, Tryz.func75.trans (congrArg some (by kernel_rfl))⟩
  f24 := ⟨Tryz.f76.name, by decide, Tryz.func76.trans (congrArg some (by kernel_rfl))⟩
  f25 := ⟨Tryz.f77.name, by decide, Tryz.func77.trans (congrArg some (by kernel_rfl))⟩
  f26 := ⟨Tryz.f78.name, by decide, Tryz.func78.trans (congrArg some (by kernel_rfl))⟩
  f27 := ⟨Tryz.f79.name, by decide, Tryz.func79.trans (congrArg some (by kernel_rfl))⟩
  f28 := Tryz.func71.trans (congrArg some (by kernel_rfl))
  f29 := Tryz.func72.trans (congrArg some (by kernel_rfl))
  f46 := ⟨Tryz.f97.name, by decide, Tryz.func97.trans (congrArg some (by kernel_rfl))⟩
  f47 := Tryz.func93.trans (congrArg some (by kernel_rfl))
  f48 := Tryz.func94.trans (congrArg some (by kernel_rfl))
  f49 := ⟨Tryz.f98.name, by decide, Tryz.func98.trans (congrArg some (by kernel_rfl))⟩
  f50 := ⟨Tryz.f99.name, by decide, Tryz.func99.trans (congrArg some (by kernel_rfl))⟩
  f57 := ⟨Tryz.f107.name, by decide, Tryz.func107.trans (congrArg some (by kernel_rfl))⟩
  t0 := Tryz.underlying0
  a0 := Tryz.isAgg0
  z0 := Tryz.sizeOf0
  v0 := Tryz.zeroValue0
  t3 := Tryz.underlying3
  a3 := Tryz.isAgg3
  z3 := Tryz.sizeOf3
  v3 := Tryz.zeroValue3
  t4 := Tryz.underlying4
  a4 := Tryz.isAgg4
  z4 := Tryz.sizeOf4
  v4 := Tryz.zeroValue4
  t5 := Tryz.underlying5
  a5 := Tryz.isAgg5
  z5 := Tryz.sizeOf5
  v5 := Tryz.zeroValue5
  t9 := Tryz.underlying9
  a9 := Tryz.isAgg9
  z9 := Tryz.sizeOf9
  v9 := Tryz.zeroValue9
  t22 := Tryz.underlying23
  a22 := Tryz.isAgg23
  z22 := Tryz.sizeOf23
  v22 := Tryz.zeroValue23
  t25 := Tryz.underlying53
  a25 := Tryz.isAgg53
  z25 := Tryz.sizeOf53
  v25 := Tryz.zeroValue53
  t39 := Tryz.underlying86
  a39 := Tryz.isAgg86
  z39 := Tryz.sizeOf86
  v39 := Tryz.zeroValue86
  t45 := Tryz.underlying94
  a45 := Tryz.isAgg94
  z45 := Tryz.sizeOf94
  v45 := Tryz.zeroValue94
  t46 := Tryz.underlying95
  a46 := Tryz.isAgg95
  z46 := Tryz.sizeOf95
  v46 := Tryz.zeroValue95
  t50 := Tryz.underlying99
  a50 := Tryz.isAgg99
  z50 := Tryz.sizeOf99
  v50 := Tryz.zeroValue99
  t53 := Tryz.underlying102
  a53 := Tryz.isAgg102
  z53 := Tryz.sizeOf102
  v53 := Tryz.zeroValue102
  t55 := Tryz.underlying26
  a55 := Tryz.isAgg26
  z55 := Tryz.sizeOf26
  v55 := Tryz.zeroValue26
  t66 := Tryz.underlying116
  a66 := Tryz.isAgg116
  z66 := Tryz.sizeOf116
  v66 := Tryz.zeroValue116
  t70 := Tryz.underlying120
  a70 := Tryz.isAgg120
  z70 := Tryz.sizeOf120
  v70 := Tryz.zeroValue120
  t76 := Tryz.underlying126
  a76 := Tryz.isAgg126
  z76 := Tryz.sizeOf126
  v76 := Tryz.zeroValue126
  t77 := Tryz.underlying127
  a77 := Tryz.isAgg127
  z77 := Tryz.sizeOf127
  v77 := Tryz.zeroValue127 }
end Go.Proofs
namespace Go.Proofs.YtdjjlmphifgnnaaGreat
open Go.Shelf Go.RowKit Go.Sort Go.Proofs.YtdjjlmphifgnnaaGreatW.PrintWords Go.Proofs.YtdjjlmphifgnnaaGreatW.PrintLast Go.Proofs.YtdjjlmphifgnnaaGreatW.PrintMore
open Stb (mrg Pre Sorted stb)
set_option linter.unusedVariables false
set_option linter.unusedSimpArgs false
/-- how Ids stand to each other -/
def idI {α : Type} (key : α → Nat) (x y : α) : Int := cmpI (key x) (key y)
theorem idI_lt {α : Type} (key : α → Nat) (x y : α) : ltOf (idI key) x y = decide (key x < key y) := by
  unfold ltOf idI
  rw [decide_eq_decide]
  exact cmpI_neg _ _
theorem idI_swo {α : Type} (key : α → Nat) : SWO (ltOf (idI key)) where
  irrefl := fun x => by rw [idI_lt]; simp
  trans := fun x y z h1 h2 => by
    rw [idI_lt, decide_eq_true_eq] at *
    omega
  ntrans := fun x y z h1 h2 => by
    rw [idI_lt, decide_eq_false_iff_not] at *
    omega
theorem perm_list {α : Type} [Inhabited α] {d d' : Array α} (h : PermIn 0 d.size d d') : d'.size = d.size ∧ d'.toList.Perm d.toList := by
  obtain ⟨h1, _, h3⟩ := h
  refine ⟨h1, ?_⟩
  rw [← h1, Array.extract_size] at h3
  rw [h1, Array.extract_size] at h3
  exact h3
theorem sorted_list {α : Type} [Inhabited α] {key : α → Nat} {d' : Array α} {n : Nat} (hn : d'.size = n) (h : SortedIn (ltOf (idI key)) 0 n d') : Sorted (kle key) d'.toList := by
  refine List.pairwise_iff_getElem.2 fun i j hi hj hij => ?_
  rw [Array.length_toList] at hi hj
  have := h i j (Nat.zero_le _) hij (by omega)
  rw [idI_lt, decide_eq_false_iff_not, getElem!_pos d' i hi, getElem!_pos d' j hj] at this
  rw [kle_iff, Array.getElem_toList, Array.getElem_toList]
  omega
theorem can1_calls (x y : Lst) (w : World) : Calls Tryz.prog 33 #[.agg (lsC x).toArray, .agg (lsC y).toArray] w fun e w' => e = .returned (.int .i64 (idI Lst.id x y)) ∧ Gr w w' := by
  have HC := Aside0.mk (fun w => compare_calls x.id y.id w)
  have f3 : ((w.alloc (.cells (lsC x).toArray 41)).alloc (.cells (lsC y).toArray 41)).cell? ⟨w.heap.size, 0, none⟩ = some (.int .u64 (x.id : Int)) := by simp [go_sem, lsC]
  have f4 : ((w.alloc (.cells (lsC x).toArray 41)).alloc (.cells (lsC y).toArray 41)).cell? ⟨w.heap.size + 1, 0, none⟩ = some (.int .u64 (y.id : Int)) := by simp [go_sem, lsC]
  have HG := Aside0.mk (((Gr.refl w).alloc (.cells (lsC x).toArray 41)).alloc (.cells (lsC y).toArray 41))
  go_enter Tryz.func33, Tryz.ntmps33
  go_wp2_with (first
    | (go_at_call 20; refine (HC.out _).mono ?_; rintro e w2 ⟨rfl, hd⟩; have HG2 := Aside0.mk (HG.out.trans (Gr.of_drawn hd)); clear hd))
  go_ret
  exact ⟨rfl, HG2.out⟩
theorem can2_calls (x y : Tk Value) (w : World) : Calls Tryz.prog 35 #[.agg (tkC x).toArray, .agg (tkC y).toArray] w fun e w' => e = .returned (.int .i64 (idI Tk.id x y)) ∧ Gr w w' := by
  have HC := Aside0.mk (fun w => compare_calls x.id y.id w)
  have f3 : ((w.alloc (.cells (tkC x).toArray 36)).alloc (.cells (tkC y).toArray 36)).cell? ⟨w.heap.size, 0, none⟩ = some (.int .u64 (x.id : Int)) := by simp [go_sem, tkC]
  have f4 : ((w.alloc (.cells (tkC x).toArray 36)).alloc (.cells (tkC y).toArray 36)).cell? ⟨w.heap.size + 1, 0, none⟩ = some (.int .u64 (y.id : Int)) := by simp [go_sem, tkC]
  have HG := Aside0.mk (((Gr.refl w).alloc (.cells (tkC x).toArray 36)).alloc (.cells (tkC y).toArray 36))
  go_enter Tryz.func35, Tryz.ntmps35
  go_wp2_with (first
    | (go_at_call 20; refine (HC.out _).mono ?_; rintro e w2 ⟨rfl, hd⟩; have HG2 := Aside0.mk (HG.out.trans (Gr.of_drawn hd)); clear hd))
  go_ret
  exact ⟨rfl, HG2.out⟩
theorem can1_lays (blk off size : Nat) (w0 : World) : CmpLays Tryz.prog 33 #[] lsC 2 (idI Lst.id) blk off size w0 := by
  intro m os dk hdk x y
  exact (can1_calls x y (sortWorldK lsC 2 w0 blk off m dk os)).mono fun e w' ⟨he, q, os', hw⟩ => ⟨he, q, os', hw⟩
theorem can2_lays (blk off size : Nat) (w0 : World) : CmpLays Tryz.prog 35 #[] tkX 7 (idI (Tk.id (τ := Sl × List ByteArray))) blk off size w0 := by
  intro m os dk hdk x y
  have h := can2_calls (x.map fun t => t.1.v) (y.map fun t => t.1.v) (sortWorldK tkX 7 w0 blk off m dk os)
  exact h.mono fun e w' ⟨he, q, os', hw⟩ => ⟨he, q, os', hw⟩
theorem lsC_one (x : Lst) (u : Value) (hu : u ∈ lsC x) : u.oneCell' = true := by
  simp [lsC] at hu
  rcases hu with rfl | rfl <;> rfl
theorem kL_Mx {w : World} {base : Nat} {ok : Nat → Prop} {x : Lst} {cs : List Value} : kL.M w base ok x cs ↔ cs = lsC x := by
  constructor
  · rintro ⟨_, _, rfl, rfl, rfl⟩; rfl
  · rintro rfl; exact ⟨[.int .u64 (x.id : Int)], [.string x.name], rfl, rfl, rfl⟩
set_option maxHeartbeats 1000000 in
theorem sortL (w : World) (base : Nat) (ok : Nat → Prop) (v : Value) (l : List Lst) (h : Kd.R kL 41 w base ok v l) (hl : l.length ≤ 100000) (hd : l.Pairwise fun a b => a.id ≠ b.id) : Calls Tryz.prog 32 #[v, .func (.func 33) #[] #[]] w fun e w' =>
    e = .returned (.tuple #[]) ∧ Kd.R kL 41 w' base ok v (stb (kle Lst.id) l) ∧ w.grownBy w' v.ownBlock := by
  obtain ⟨h0, inner, ho, hr⟩ := h
  rcases ho.2 with ⟨rfl, hn⟩ | ⟨g, cap, cur, rfl, hbg, hg, hcap, hmax, hcs, htk⟩
  · obtain rfl : l = [] := List.eq_nil_of_length_eq_zero hn
    refine (AnyF.slices_SortFunc_none Tryz.shSfL none 0 _ w).mono ?_
    rintro e w' ⟨rfl, rfl⟩
    exact ⟨rfl, Kd.R_nil _ _ _ _ _, grown_of_below (Below.refl _ _) _⟩
  · have hlen : ∀ x, (lsC x).length = 2 := fun _ => rfl
    have hx : Reps (fun x c => c = lsC x) 2 l (cur.toList.take (l.length * 2)) := by
      rw [show cur.toList.take (l.length * 2) = inner from htk]
      exact ⟨hr.1, fun j p hp => kL_Mx.1 (hr.2 j p hp)⟩
    have hH := holdsK_of_cells hlen (by decide) hg hx
    have hglt : g < w.heap.size := (Array.getElem?_eq_some_iff.1 hg).1
    have hsz : l.toArray.size = l.length := by simp
    have hc := AnyQ.slices_SortFunc Tryz.shSfL 2 Tryz.isAgg41 Tryz.sizeOf41 lsC hlen lsC_one (idI Lst.id) (idI_swo Lst.id) 33 #[] g 0 cap l.toArray w (enters_of Tryz.func33 (by kernel_rfl) rfl) (can1_lays g 0 _ w) hH hglt (by omega)
    rw [hsz] at hc
    refine hc.mono ?_
    rintro e w' ⟨rfl, d', n, os, hp, hs, hw'⟩
    rw [← hsz] at hp
    obtain ⟨p1, p2⟩ := perm_list hp
    rw [hsz] at p1
    have hu := sort_unique hd (sorted_list p1 hs) p2
    have S : SWK lsC 2 w g 0 (stb (kle Lst.id) l).toArray w' := ⟨n, os, by rw [hw', ← hu]⟩
    have hyl : (stb (kle Lst.id) l).length = l.length := Stb.stb_length l
    obtain ⟨cur', c1, c2, c3, c4, c5, c6, c7, c8⟩ := cells_of_sorted hlen (by decide) hg (by rw [hyl, hcs]; exact Nat.mul_le_mul_right _ hcap) S
    have hg2 : w.grownBy w' (some g) := ⟨c4, c5, c6, c7, fun i hi hne => c8 i hi (fun e => hne (by rw [e]))⟩
    rw [hyl] at c3
    refine ⟨rfl, ⟨h0, cur'.toList.take (l.length * 2), ⟨?_, .inr ⟨g, cap, cur', ?_, hbg, c1, ?_, hmax, by rw [c2, hcs], ?_⟩⟩, ⟨c3.1, fun j p hp => kL_Mx.2 (c3.2 j p hp)⟩⟩, hg2⟩
    · rw [hyl, c3.1, hyl]
      rfl
    · rw [hyl]
    · rw [hyl]; exact hcap
    · rw [hyl]
      rfl
set_option maxHeartbeats 1000000 in
theorem sortT (w : World) (base : Nat) (ok : Nat → Prop) (v : Value) (l : List Tsk) (h : Kd.R kT 36 w base ok v l) (hl : l.length ≤ 100000) (hd : l.Pairwise fun a b => a.id ≠ b.id) : Calls Tryz.prog 34 #[v, .func (.func 35) #[] #[]] w fun e w' =>
    e = .returned (.tuple #[]) ∧ Kd.R kT 36 w' base ok v (stb (kle Tk.id) l) ∧ w.grownBy w' v.ownBlock := by
  obtain ⟨h0, inner, ho, hr⟩ := h
  rcases ho.2 with ⟨rfl, hn⟩ | ⟨g, cap, cur, rfl, hbg, hg, hcap, hmax, hcs, htk⟩
  · obtain rfl : l = [] := List.eq_nil_of_length_eq_zero hn
    refine (AnyF.slices_SortFunc_none Tryz.shSfT none 0 _ w).mono ?_
    rintro e w' ⟨rfl, rfl⟩
    exact ⟨rfl, Kd.R_nil _ _ _ _ _, grown_of_below (Below.refl _ _) _⟩
  · obtain ⟨xs, rfl, hx, hown⟩ := rows_open hr
    rw [List.length_map] at *
    have hlen : ∀ x, (tkX x).length = 7 := fun _ => rfl
    rw [← htk] at hx
    have hH := holdsK_of_cells hlen (by decide) hg hx
    have hglt : g < w.heap.size := (Array.getElem?_eq_some_iff.1 hg).1
    have hsz : xs.toArray.size = xs.length := by simp
    have hc := AnyQ.slices_SortFunc Tryz.shSfT 7 Tryz.isAgg36 Tryz.sizeOf36 tkX hlen tkX_one (idI Tk.id) (idI_swo Tk.id) 35 #[] g 0 cap xs.toArray w (enters_of Tryz.func35 (by kernel_rfl) rfl) (can2_lays g 0 _ w) hH hglt (by omega)
    rw [hsz] at hc
    refine hc.mono ?_
    rintro e w' ⟨rfl, d', n, os, hp, hs, hw'⟩
    rw [← hsz] at hp
    obtain ⟨p1, p2⟩ := perm_list hp
    rw [hsz] at p1
    have hdx : xs.Pairwise fun a b => a.id ≠ b.id := by rw [List.pairwise_map] at hd; exact hd
    have hu := sort_unique hdx (sorted_list p1 hs) p2
    have S : SWK tkX 7 w g 0 (stb (kle Tk.id) xs).toArray w' := ⟨n, os, by rw [hw', ← hu]⟩
    have hyl : (stb (kle Tk.id) xs).length = xs.length := Stb.stb_length xs
    obtain ⟨cur', c1, c2, c3, c4, c5, c6, c7, c8⟩ := cells_of_sorted hlen (by decide) hg (by rw [hyl, hcs]; exact Nat.mul_le_mul_right _ hcap) S
    have hg2 : w.grownBy w' (some g) := ⟨c4, c5, c6, c7, fun i hi hne => c8 i hi (fun e => hne (by rw [e]))⟩
    have hst : stb (kle Tk.id) (xs.map deep) = (stb (kle Tk.id) xs).map deep := stb_map deep (fun _ _ => rfl) xs
    have hmem : ∀ y ∈ stb (kle Tk.id) xs, y ∈ xs := fun y hy => (Stb.stb_perm xs).mem_iff.1 hy
    rw [hst]
    rw [hyl] at c3
    refine ⟨rfl, ⟨h0, cur'.toList.take (xs.length * 7), ⟨?_, .inr ⟨g, cap, cur', ?_, hbg, c1, ?_, hmax, by rw [c2, hcs], ?_⟩⟩, rows_shut c3 fun y hy => ?_⟩, hg2⟩
    · rw [List.length_map, hyl, c3.1, hyl]
      rfl
    · rw [List.length_map, hyl]
    · rw [List.length_map, hyl]; exact hcap
    · rw [List.length_map, hyl]
      rfl
    · have hR := Kd.R_bound (hown y (hmem y hy))
      exact Kd.R_mono (Kd.R_move hR fun k hk => c8 k hk.2.2.1 (fun e => hk.1.2 (by rw [e]; rfl))) (fun k hk => hk.1)
end Go.Proofs.YtdjjlmphifgnnaaGreat
