/- Parts of one proof, joined: Sht, Tki, Rke, Rkf. Conditions: those of each statement. -/
import Derived.Shelf.SortM.Plain
import Derived.Shelf.SortM.SortNone
import Derived.Shelf.SlicesG.CompactS
import Derived.Shelf.SlGeneric
import Derived.Ground.SlgmProg
import Derived.Ground.SlgnProg
import Derived.Test.YtdjjlmphifgnnaaGreatChecked
import Derived.Test.YtdjjlmphifgnnaaGreatCc6
import Derived.Test.YtdjjlmphifgnnaaGreatWArr
import Derived.Laws.ResultCell
namespace Go.Proofs
open Go.Shelf
def Tryz.shSort_ren : Go.Shelf.Ren := ⟨fun | 6 => 51 | 8 => 54 | 9 => 62 | 19 => 71 | 20 => 72 | 21 => 83 | 22 => 84 | 23 => 85 | 24 => 86 | 25 => 87 | 26 => 88 | 27 => 89 | 28 => 90 | 29 => 91 | 36 => 102 | 31 => 93 | 32 => 94 | 37 => 103 | 38 => 104 | 39 => 105 | 41 => 108 | n => n, fun | 27 => 34 | 29 => 9 | 3 => 3 | 32 => 86 | 26 => 34 | 0 => 0 | 44 => 102 | 46 => 26 | 4 => 4 | 36 => 95 | 35 => 94 | 41 => 99 | 5 => 5 | 9 => 9 | 53 => 116 | 57 => 120 | 63 => 126 | 64 => 127 | n => n, fun | n => n⟩
theorem Tryz.shSort : Go.Proofs.SlLaysM.n6 Tryz.prog Tryz.shSort_ren := {
  mixed := by kernel_rfl
  f6 := ⟨Tryz.f51.name, by decide, Tryz.func51.trans (congrArg some (by kernel_rfl))⟩
  f8 := Tryz.func54.trans (congrArg some (by kernel_rfl))
  f9 := ⟨Tryz.f62.name, by decide, Tryz.func62.trans (congrArg some (by kernel_rfl))⟩
  f19 := Tryz.func71.trans (congrArg some (by kernel_rfl))
  f20 := Tryz.func72.trans (congrArg some (by kernel_rfl))
  f21 := ⟨Tryz.f83.name, by decide, Tryz.func83.trans (congrArg some (by kernel_rfl))⟩
  f22 := ⟨Tryz.f84.name, by decide, Tryz.func84.trans (congrArg some (by kernel_rfl))⟩
  f23 := ⟨Tryz.f85.name, by decide, Tryz.func85.trans (congrArg some (by kernel_rfl))⟩
  f24 := ⟨Tryz.f86.name, by decide, Tryz.func86.trans (congrArg some (by kernel_rfl))⟩
  f25 := ⟨Tryz.f87.name, by decide, Tryz.func87.trans (congrArg some (by kernel_rfl))⟩
  f26 := ⟨Tryz.f88.name, by decide, Tryz.func88.trans (congrArg some (by kernel_rfl))⟩
  f27 := ⟨Tryz.f89.name, by decide, Tryz.func89.trans (congrArg some (by kernel_rfl))⟩
  f28 := ⟨Tryz.f90.name, by decide, Tryz.func90.trans (congrArg some (by kernel_rfl))⟩
  f29 := ⟨Tryz.f91.name, by decide, Tryz.func91.trans (congrArg some (by kernel_rfl))⟩
  f31 := Tryz.func93.trans (congrArg some (by kernel_rfl))
  f32 := Tryz.func94.trans (congrArg some (by kernel_rfl))
  f36 := ⟨Tryz.f102.name, by decide, Tryz.func102.trans (congrArg some (by kernel_rfl))⟩
  f37 := ⟨Tryz.f103.name, by decide, Tryz.func103.trans (congrArg some (by kernel_rfl))⟩
  f38 := ⟨Tryz.f104.name, by decide, Tryz.func104.trans (congrArg some (by kernel_rfl))⟩
  f39 := ⟨Tryz.f105.name, by decide, Tryz.func105.trans (congrArg some (by kernel_rfl))⟩
  f41 := ⟨Tryz.f108.name, by decide, Tryz.func108.trans (congrArg some (by kernel_rfl))⟩
  t0 := Tryz.underlying0
  a0 := Tryz.isAgg0
  z0 := Tryz.sizeOf0
  v0 := Tryz.zeroValue0
  t3 := Tryz.underlying3
  a3 := Tryz.isAgg3
  z3 := Tryz.sizeOf3
  v3 := Tryz.zeroValue3
  t4 := Tryz.underlying4
  a4 := Tryz.isAgg4
  z4 := Tryz.sizeOf4
  v4 := Tryz.zeroValue4
  t5 := Tryz.underlying5
  a5 := Tryz.isAgg5
  z5 := Tryz.sizeOf5
  v5 := Tryz.zeroValue5
  t9 := Tryz.underlying9
  a9 := Tryz.isAgg9
  z9 := Tryz.sizeOf9
  v9 := Tryz.zeroValue9
  t26 := Tryz.underlying34
  a26 := Tryz.isAgg34
  z26 := Tryz.sizeOf34
  v26 := Tryz.zeroValue34
  t27 := Tryz.underlying34
  a27 := Tryz.isAgg34
  z27 := Tryz.sizeOf34
  v27 := Tryz.zeroValue34
  t29 := Tryz.underlying9
  a29 := Tryz.isAgg9
  z29 := Tryz.sizeOf9
  v29 := Tryz.zeroValue9
  t32 := Tryz.underlying86
  a32 := Tryz.isAgg86
  z32 := Tryz.sizeOf86
  v32 := Tryz.zeroValue86
  t35 := Tryz.underlying94
  a35 := Tryz.isAgg94
  z35 := Tryz.sizeOf94
  v35 := Tryz.zeroValue94
  t36 := Tryz.underlying95
  a36 := Tryz.isAgg95
  z36 := Tryz.sizeOf95
  v36 := Tryz.zeroValue95
  t41 := Tryz.underlying99
  a41 := Tryz.isAgg99
  z41 := Tryz.sizeOf99
  v41 := Tryz.zeroValue99
  t44 := Tryz.underlying102
  a44 := Tryz.isAgg102
  z44 := Tryz.sizeOf102
  v44 := Tryz.zeroValue102
  t46 := Tryz.underlying26
  a46 := Tryz.isAgg26
  z46 := Tryz.sizeOf26
  v46 := Tryz.zeroValue26
  t53 := Tryz.underlying116
  a53 := Tryz.isAgg116
  z53 := Tryz.sizeOf116
  v53 := Tryz.zeroValue116
  t57 := Tryz.underlying120
  a57 := Tryz.isAgg120
  z57 := Tryz.sizeOf120
  v57 := Tryz.zeroValue120
  t63 := Tryz.underlying126
  a63 := Tryz.isAgg126
  z63 := Tryz.sizeOf126
  v63 := Tryz.zeroValue126
  t64 := Tryz.underlying127
  a64 := Tryz.isAgg127
  z64 := Tryz.sizeOf127
  v64 := Tryz.zeroValue127 }
def Tryz.shCompact_ren : Go.Shelf.Ren := ⟨fun | 44 => 52 | n => n, fun | 25 => 34 | 26 => 9 | 3 => 3 | 4 => 4 | 0 => 0 | n => n, fun | n => n⟩
theorem Tryz.shCompact : Go.Proofs.SlLaysN.n44 Tryz.prog Tryz.shCompact_ren := {
  mixed := by kernel_rfl
  f44 := ⟨Tryz.f52.name, by decide, Tryz.func52.trans (congrArg some (by kernel_rfl))⟩
  t0 := Tryz.underlying0
  a0 := Tryz.isAgg0
  z0 := Tryz.sizeOf0
  v0 := Tryz.zeroValue0
  t3 := Tryz.underlying3
  a3 := Tryz.isAgg3
  z3 := Tryz.sizeOf3
  v3 := Tryz.zeroValue3
  t4 := Tryz.underlying4
  a4 := Tryz.isAgg4
  z4 := Tryz.sizeOf4
  v4 := Tryz.zeroValue4
  t25 := Tryz.underlying34
  a25 := Tryz.isAgg34
  z25 := Tryz.sizeOf34
  v25 := Tryz.zeroValue34
  t26 := Tryz.underlying9
  a26 := Tryz.isAgg9
  z26 := Tryz.sizeOf9
  v26 := Tryz.zeroValue9
  i26 := by kernel_rfl }
end Go.Proofs
namespace Go.Proofs.YtdjjlmphifgnnaaGreat
open Go.Shelf Go.RowKit Go.Sort Go.Proofs.YtdjjlmphifgnnaaGreatW.PrintWords Go.Proofs.YtdjjlmphifgnnaaGreatW.PrintLast Go.Proofs.YtdjjlmphifgnnaaGreatW.PrintMore
set_option linter.unusedVariables false
set_option linter.unusedSimpArgs false
def toL (s : ByteArray) : List UInt8 := s.data.toList
def ofL (x : List UInt8) : ByteArray := ⟨x.toArray⟩
theorem ofL_toL (s : ByteArray) : ofL (toL s) = s := by cases s; simp [ofL, toL]
theorem toL_ofL (x : List UInt8) : toL (ofL x) = x := by simp [ofL, toL]
theorem encStr_toL (s : ByteArray) : encStr (toL s) = .string s := by cases s; simp [encStr, toL]
theorem encStr_eq (x : List UInt8) : encStr x = .string (ofL x) := rfl
/-- texts in order -/
def sortS (l : List ByteArray) : List ByteArray := ((l.map toL).mergeSort fun x y => decide (x ≤ y)).map ofL
/-- .. each told once -/
def compS (l : List ByteArray) : List ByteArray := (Lib.compact (l.map toL)).map ofL
theorem R_str {w : World} {base : Nat} {ok : Nat → Prop} {v : Value} {l : List ByteArray} : Kd.R Kd.string 9 w base ok v l ↔ (∀ k, v.ownBlock = some k → ok k) ∧ w.ownsRow base 9 1 v l.length (l.map .string) := by
  constructor
  · rintro ⟨h0, inner, ho, hr⟩
    have e : inner = l.map .string := Kd.reps_encs (enc := Value.string) hr
    rw [e] at ho
    exact ⟨h0, ho⟩
  · rintro ⟨h0, ho⟩
    exact ⟨h0, _, ho, Kd.reps_scalar (enc := Value.string) l⟩
theorem holds_str {w : World} {g e cap : Nat} {cur : Array Value} {l : List ByteArray} (hg : w.heap[g]? = some (.cells cur e (0, 0))) (htk : cur.toList.take (l.length * 1) = l.map .string) : Holds encStr w g 0 (l.map toL).toArray := by
  intro j hj
  have hjl : j < l.length := by simpa using hj
  refine ⟨?_, by simp [World.frozen?, hg]⟩
  have e1 : (l.map toL).toArray[j]! = toL l[j] := by simp [hjl]
  rw [e1, encStr_toL, Nat.zero_add]
  have e2 : cur.toList[j]? = some (.string l[j]) := by
    rw [← List.getElem?_take_of_lt (show j < l.length * 1 by omega), htk, List.getElem?_map, List.getElem?_eq_getElem hjl]
    rfl
  unfold World.cell?
  rw [hg]
  show cur[j]? = _
  rw [← Array.getElem?_toList, e2]
theorem put_str {w : World} {g e n : Nat} {cur : Array Value} {ys : List (List UInt8)} {os : Array Obj} (hg : w.heap[g]? = some (.cells cur e (0, 0))) (hl : ys.length ≤ cur.size) :
    ∃ cur', (grow (putRow encStr (Sort.ahead w n) g 0 ys.toArray) os).heap[g]? = some (.cells cur' e (0, 0)) ∧ cur'.size = cur.size ∧ cur'.toList.take ys.length = (ys.map ofL).map .string ∧ w.grownBy (grow (putRow encStr (Sort.ahead w n) g 0 ys.toArray) os) (some g) := by
  have hlt : g < w.heap.size := (Array.getElem?_eq_some_iff.1 hg).1
  have hm : (putRow encStr (Sort.ahead w n) g 0 ys.toArray).heap[g]? = some (.cells (putCells encStr 0 ys.toArray cur) e (0, 0)) := by
    show (w.heap.modify g (onCells (putCells encStr 0 ys.toArray)))[g]? = _
    rw [Array.getElem?_modify, if_pos rfl, hg]
    rfl
  refine ⟨putCells encStr 0 ys.toArray cur, by rw [heap_grow_old _ _ (by rw [size_putRow]; exact hlt)]; exact hm, by simp [putCells], ?_, ⟨rfl, rfl, rfl, ?_, fun i hi hne => ?_⟩⟩
  · refine List.ext_getElem? fun t => ?_
    by_cases ht : t < ys.length
    · rw [List.getElem?_take_of_lt ht, Array.getElem?_toList]
      unfold putCells
      rw [Array.getElem?_mapIdx, Array.getElem?_eq_getElem (show t < cur.size by omega)]
      simp [ht, encStr_eq]
    · rw [List.getElem?_eq_none (by rw [List.length_take]; omega), List.getElem?_eq_none (by simp; omega)]
  · rw [size_grow, size_putRow]
    exact Nat.le_add_right _ _
  · rw [heap_grow_old _ _ (by rw [size_putRow]; exact hi)]
    show (w.heap.modify g _)[i]? = _
    rw [Array.getElem?_modify, if_neg (fun e => hne (by rw [e]))]
theorem sortS_len (l : List ByteArray) : (sortS l).length = l.length := by simp [sortS]
set_option maxHeartbeats 1000000 in
theorem sortS_calls (w : World) (base : Nat) (ok : Nat → Prop) (v : Value) (l : List ByteArray) (h : Kd.R Kd.string 9 w base ok v l) (hl : l.length ≤ 100000) : Calls Tryz.prog 51 #[v] w fun e w' =>
    e = .returned (.tuple #[]) ∧ Kd.R Kd.string 9 w' base ok v (sortS l) ∧ w.grownBy w' v.ownBlock := by
  obtain ⟨h0, ho⟩ := R_str.1 h
  rcases ho.2 with ⟨rfl, hn⟩ | ⟨g, cap, cur, rfl, hbg, hg, hcap, hmax, hcs, htk⟩
  · obtain rfl : l = [] := List.eq_nil_of_length_eq_zero hn
    refine (AnyM.slices_Sort_string_none Tryz.shSort none 0 w).mono ?_
    rintro e w' ⟨rfl, rfl⟩
    exact ⟨rfl, by rw [show sortS [] = [] from by simp [sortS]]; exact Kd.R_nil _ _ _ _ _, grown_of_below (Below.refl _ _) _⟩
  · have hH := holds_str (cap := cap) hg htk
    have hglt : g < w.heap.size := (Array.getElem?_eq_some_iff.1 hg).1
    have hc := AnyM.slices_Sort_string Tryz.shSort g 0 cap (l.map toL) w hH hglt (by rw [List.length_map]; omega)
    rw [List.length_map] at hc
    refine hc.mono ?_
    rintro e w' ⟨rfl, n, os, rfl⟩
    have hyl : ((l.map toL).mergeSort fun x y => decide (x ≤ y)).length = l.length := by simp
    obtain ⟨cur', c1, c2, c3, c4⟩ := put_str (n := n) (os := os) hg (ys := (l.map toL).mergeSort fun x y => decide (x ≤ y)) (by rw [hyl, hcs]; omega)
    rw [hyl] at c3
    refine ⟨rfl, R_str.2 ⟨h0, ⟨?_, .inr ⟨g, cap, cur', ?_, hbg, c1, ?_, hmax, by rw [c2, hcs], ?_⟩⟩⟩, c4⟩
    · rw [List.length_map]; omega
    · rw [sortS_len]
    · rw [sortS_len]; exact hcap
    · rw [sortS_len, Nat.mul_one]; exact c3
theorem comp_le (l : List ByteArray) : (compS l).length ≤ l.length := by
  unfold compS
  rw [List.length_map]
  unfold Lib.compact Lib.compactUpTo
  rw [List.length_map]
  refine Nat.le_trans (List.length_filter_le _ _) ?_
  rw [List.length_range, List.length_map]
  exact Nat.le_refl _
set_option maxHeartbeats 1000000 in
theorem compS_calls (w : World) (base : Nat) (ok : Nat → Prop) (A : Option Addr) (n c : Nat) (l : List ByteArray) (h : Kd.R Kd.string 9 w base ok (.slice A n c) l) (hl : l.length ≤ 100000) : Calls Tryz.prog 52 #[.slice A n c] w fun e w' =>
    ∃ A' c', e = .returned (.slice A' (compS l).length c') ∧ Kd.R Kd.string 9 w' base ok (.slice A' (compS l).length c') (compS l) ∧ w.grownBy w' (Value.slice A n c).ownBlock := by
  obtain ⟨h0, ho⟩ := R_str.1 h
  rcases ho.2 with ⟨he, hn⟩ | ⟨g, cap, cur, he, hbg, hg, hcap, hmax, hcs, htk⟩
  · obtain rfl : l = [] := List.eq_nil_of_length_eq_zero hn
    injection he with e1 e2 e3
    subst e1 e2 e3
    refine (AnyG.slices_Compact_string_empty Tryz.shCompact none 0 w).mono ?_
    rintro e w' ⟨rfl, rfl⟩
    exact ⟨none, 0, rfl, Kd.R_nil _ _ _ _ _, grown_of_below (Below.refl _ _) _⟩
  · injection he with e1 e2 e3
    subst e1 e2 e3
    have hH := holds_str (cap := c) hg htk
    have hglt : g < w.heap.size := (Array.getElem?_eq_some_iff.1 hg).1
    have hc := AnyG.slices_Compact_string Tryz.shCompact g 0 c (l.map toL) w hH (by rw [List.length_map]; omega) (by rw [List.length_map]; exact hcap)
    rw [List.length_map] at hc
    refine hc.mono ?_
    rintro e w' ⟨rfl, q, rfl⟩
    have hcl : (Lib.compact (l.map toL)).length = (compS l).length := by unfold compS; rw [List.length_map]
    have hle := comp_le l
    have hyl : (Lib.compact (l.map toL) ++ List.replicate (l.length - (Lib.compact (l.map toL)).length) ([] : List UInt8)).length = l.length := by
      rw [List.length_append, List.length_replicate, hcl]
      omega
    obtain ⟨cur', c1, c2, c3, c4⟩ := put_str (n := q) (os := #[]) hg (ys := Lib.compact (l.map toL) ++ List.replicate (l.length - (Lib.compact (l.map toL)).length) ([] : List UInt8)) (by rw [hyl, hcs]; omega)
    rw [grow_empty] at c1 c4
    rw [hyl] at c3
    refine ⟨some ⟨g, 0, none⟩, c, by rw [hcl], R_str.2 ⟨h0, ⟨by rw [List.length_map]; omega, .inr ⟨g, c, cur', rfl, hbg, c1, by omega, hmax, by rw [c2, hcs], ?_⟩⟩⟩, c4⟩
    have c5 := congrArg (List.take (compS l).length) c3
    rw [List.take_take, Nat.min_eq_left hle, List.map_append, List.map_append] at c5
    rw [Nat.mul_one, c5, List.take_append_of_le_length (by simp [compS])]
    rw [List.take_of_length_le (by simp [compS])]
    rfl
end Go.Proofs.YtdjjlmphifgnnaaGreat
namespace Go.Proofs.YtdjjlmphifgnnaaGreat
open Go.RowKit Go.Sort Go.Proofs.YtdjjlmphifgnnaaGreatW.PrintWords Go.Proofs.YtdjjlmphifgnnaaGreatW.PrintLast Go.Proofs.YtdjjlmphifgnnaaGreatW.PrintMore
open Stb (mrg Pre Sorted stb)
set_option linter.unusedVariables false
set_option linter.unusedSimpArgs false
/-- where the first one stands of which q holds -/
def idxP {α : Type} (q : α → Bool) : List α → Nat → Int
  | [], _ => -1
  | x :: r, i => if q x then (i : Int) else idxP q r (i + 1)
theorem idxP_step {α : Type} (q : α → Bool) {l : List α} {i : Nat} {x : α} (hx : l[i]? = some x) (hq : q x = false) : idxP q (l.drop i) i = idxP q (l.drop (i + 1)) (i + 1) := by
  rw [List.drop_eq_getElem_cons (List.getElem?_eq_some_iff.1 hx).1, (List.getElem?_eq_some_iff.1 hx).2]
  rw [idxP, hq]
  rfl
theorem idxP_found {α : Type} (q : α → Bool) {l : List α} {i : Nat} {x : α} (hx : l[i]? = some x) (hq : q x = true) : idxP q (l.drop i) i = (i : Int) := by
  rw [List.drop_eq_getElem_cons (List.getElem?_eq_some_iff.1 hx).1, (List.getElem?_eq_some_iff.1 hx).2]
  rw [idxP, hq]
  rfl
theorem idxP_end {α : Type} (q : α → Bool) (l : List α) : idxP q (l.drop l.length) l.length = -1 := by
  rw [List.drop_length]
  rfl
theorem idxP_map {α β : Type} (q : β → Bool) (f : α → β) : ∀ (l : List α) (i : Nat), idxP q (l.map f) i = idxP (fun x => q (f x)) l i
  | [], _ => rfl
  | x :: l, i => by
    rw [List.map_cons, idxP, idxP, idxP_map q f l (i + 1)]
set_option maxRecDepth 100000 in
set_option maxHeartbeats 2000000 in
theorem idxT_calls (w : World) (A : Option Addr) (c : Nat) (xs : List TX) (hX : rawT.C w A xs.length xs) (hlen : xs.length ≤ 100000) (g : Nat) (cb : Array Value) (q : TX → Bool) (eg : ∀ args w, (callFunc g args).run Tryz.prog w = .ok (.enter g args) w)
    (HQ : ∀ x W, Below w.heap.size w W → Calls Tryz.prog g (#[.agg (tkX x).toArray] ++ cb) W fun e W' => e = .returned (.bool (q x)) ∧ Below W.heap.size W W') :
    Calls Tryz.prog 36 #[.slice A xs.length c, .func (.func g) #[] cb] w fun e w' => e = .returned (.int .i64 (idxP q xs 0)) ∧ Below w.heap.size w w' := by
  have HX := Aside0.mk hX
  have HQQ := Aside0.mk HQ
  have hxn : (xs.length : Int) ≤ 9223372036854775807 := by omega
  clear hX hlen HQ
  go_enter Tryz.func36, Tryz.ntmps36
  go_wp2
  go_loopg [5, 8] xs.length (fun kq v5 v8 w' => ∃ (i : Nat), v8 = .int .i64 (i : Int) ∧ Aside0 (i + kq = xs.length) ∧ Aside0 (idxP q (xs.drop i) i = idxP q xs 0) ∧ Aside0 (Below w.heap.size w w'))
  case atStart => exact ⟨0, rfl, ⟨by omega⟩, ⟨rfl⟩, ⟨Below.refl _ _⟩⟩
  case round =>
    obtain ⟨i, rfl, HI, HP, HB⟩ := hrel
    by_cases hi : i < xs.length
    · have hi0 := HI.out
      obtain ⟨x, hx⟩ : ∃ x, xs[i]? = some x := ⟨xs[i]'hi, List.getElem?_eq_getElem _⟩
      obtain ⟨ad, e, y0, y1, y2, y3, y4, y5, y6⟩ := rawT_get HX.out hx
      subst e
      have HC := Aside0.mk (HQQ.out x wr HB.out)
      obtain ⟨id, li, ti, dn, rk, es, ⟨⟨At, nt, ct⟩, tg⟩⟩ := x
      simp only [Sl.v] at y0 y1 y2 y3 y4 y5 y6
      replace y0 := (HB.out.cell (World.block_lt_of_cell? w _ y0)).trans y0
      replace y1 := (HB.out.cell (World.block_lt_of_cell? w _ y1)).trans y1
      replace y2 := (HB.out.cell (World.block_lt_of_cell? w _ y2)).trans y2
      replace y3 := (HB.out.cell (World.block_lt_of_cell? w _ y3)).trans y3
      replace y4 := (HB.out.cell (World.block_lt_of_cell? w _ y4)).trans y4
      replace y5 := (HB.out.cell (World.block_lt_of_cell? w _ y5)).trans y5
      replace y6 := (HB.out.cell (World.block_lt_of_cell? w _ y6)).trans y6
      have hiz : (i : Int) < (xs.length : Int) := by omega
      obtain ⟨gq, rfl⟩ : ∃ gq, gk = gq + 1 := ⟨gk - 1, by omega⟩
      cases hq : q ⟨id, li, ti, dn, rk, es, (⟨At, nt, ct⟩, tg)⟩ with
      | true =>
        have HE := Aside0.mk ((idxP_found q hx hq).symm.trans HP.out)
        rw [hq] at HC
        clear hq hx
        go_wp2_with (first
          | (go_at_fn g; refine HC.out.mono ?_; rintro e w2 ⟨rfl, hb⟩; have HB2 := Aside0.mk (HB.out.trans (hb.mono HB.out.size)); clear hb))
        go_ret
        exact ⟨by rw [← HE.out]; rfl, HB2.out⟩
      | false =>
        have HE := Aside0.mk ((idxP_step q hx hq).symm.trans HP.out)
        rw [hq] at HC
        clear hq hx
        go_wp2_with (first
          | (go_at_fn g; refine HC.out.mono ?_; rintro e w2 ⟨rfl, hb⟩; have HB2 := Aside0.mk (HB.out.trans (hb.mono HB.out.size)); clear hb))
        go_roundg gq
        case rel => exact ⟨i + 1, by go_num, ⟨by omega⟩, HE, HB2⟩
        case measure => omega
    · have hi0 := HI.out
      obtain rfl : gk = 0 := by omega
      obtain rfl : i = xs.length := by omega
      clear hi0
      have hm : ¬ ((xs.length : Int) < (xs.length : Int)) := by omega
      go_wp2
      go_ret
      exact ⟨by rw [← HP.out, idxP_end]; rfl, HB.out⟩
/-! ### lists -/
structure Lst where
  id : Nat
  name : ByteArray
instance : Inhabited Lst := ⟨⟨0, .empty⟩⟩
def lsC (x : Lst) : List Value := [.int .u64 (x.id : Int), .string x.name]
def kL : Kd Lst := Kd.iso (Kd.pair (Kd.int .u64) Kd.string) (fun x : Lst => ((x.id : Int), x.name))
theorem kL_open {w : World} {x : Lst} {cs : List Value} (h : kL.K w x cs) : cs = lsC x := by
  obtain ⟨_, _, rfl, rfl, rfl⟩ := h
  rfl
theorem kL_get {w : World} {A : Option Addr} {xs : List Lst} (h : kL.C w A xs.length xs) {i : Nat} {x : Lst} (hx : xs[i]? = some x) : ∃ ad, A = some ad ∧ w.cell? (ad.add (i * 2)) = some (.int .u64 (x.id : Int)) ∧ w.cell? ⟨(ad.add (i * 2)).block, (ad.add (i * 2)).off + 1, none⟩ = some (.string x.name) := by
  have hlt := (List.getElem?_eq_some_iff.1 hx).1
  obtain ⟨ad, c, e, _, hK, hc0⟩ := Kd.C_get h x (i : Int) (by omega) (by omega)
  rw [Int.toNat_natCast, List.getD_eq_getElem?_getD, hx] at hK
  have hK := kL_open hK
  subst hK
  have hc : ∀ j u, (lsC x)[j]? = some u → w.cell? (ad.add (i * 2 + j)) = some u := by
    intro j u hj
    have := hc0 j u hj
    rwa [Int.toNat_natCast] at this
  exact ⟨ad, e, hc 0 _ rfl, by rw [← add_field _ _ 1 (by omega)]; exact hc 1 _ rfl⟩
set_option maxRecDepth 100000 in
set_option maxHeartbeats 2000000 in
theorem idxL_calls (w : World) (A : Option Addr) (c : Nat) (xs : List Lst) (hX : kL.C w A xs.length xs) (hlen : xs.length ≤ 100000) (g : Nat) (cb : Array Value) (q : Lst → Bool) (eg : ∀ args w, (callFunc g args).run Tryz.prog w = .ok (.enter g args) w)
    (HQ : ∀ x W, Below w.heap.size w W → Calls Tryz.prog g (#[.agg (lsC x).toArray] ++ cb) W fun e W' => e = .returned (.bool (q x)) ∧ Below W.heap.size W W') :
    Calls Tryz.prog 42 #[.slice A xs.length c, .func (.func g) #[] cb] w fun e w' => e = .returned (.int .i64 (idxP q xs 0)) ∧ Below w.heap.size w w' := by
  have HX := Aside0.mk hX
  have HQQ := Aside0.mk HQ
  have hxn : (xs.length : Int) ≤ 9223372036854775807 := by omega
  clear hX hlen HQ
  go_enter Tryz.func42, Tryz.ntmps42
  go_wp2
  go_loopg [5, 8] xs.length (fun kq v5 v8 w' => ∃ (i : Nat), v8 = .int .i64 (i : Int) ∧ Aside0 (i + kq = xs.length) ∧ Aside0 (idxP q (xs.drop i) i = idxP q xs 0) ∧ Aside0 (Below w.heap.size w w'))
  case atStart => exact ⟨0, rfl, ⟨by omega⟩, ⟨rfl⟩, ⟨Below.refl _ _⟩⟩
  case round =>
    obtain ⟨i, rfl, HI, HP, HB⟩ := hrel
    by_cases hi : i < xs.length
    · have hi0 := HI.out
      obtain ⟨x, hx⟩ : ∃ x, xs[i]? = some x := ⟨xs[i]'hi, List.getElem?_eq_getElem _⟩
      obtain ⟨ad, e, y0, y1⟩ := kL_get HX.out hx
      subst e
      have HC := Aside0.mk (HQQ.out x wr HB.out)
      obtain ⟨id, nm⟩ := x
      simp only at y0 y1
      replace y0 := (HB.out.cell (World.block_lt_of_cell? w _ y0)).trans y0
      replace y1 := (HB.out.cell (World.block_lt_of_cell? w _ y1)).trans y1
      have hiz : (i : Int) < (xs.length : Int) := by omega
      obtain ⟨gq, rfl⟩ : ∃ gq, gk = gq + 1 := ⟨gk - 1, by omega⟩
      cases hq : q ⟨id, nm⟩ with
      | true =>
        have HE := Aside0.mk ((idxP_found q hx hq).symm.trans HP.out)
        rw [hq] at HC
        clear hq hx
        go_wp2_with (first
          | (go_at_fn g; refine HC.out.mono ?_; rintro e w2 ⟨rfl, hb⟩; have HB2 := Aside0.mk (HB.out.trans (hb.mono HB.out.size)); clear hb))
        go_ret
        exact ⟨by rw [← HE.out]; rfl, HB2.out⟩
      | false =>
        have HE := Aside0.mk ((idxP_step q hx hq).symm.trans HP.out)
        rw [hq] at HC
        clear hq hx
        go_wp2_with (first
          | (go_at_fn g; refine HC.out.mono ?_; rintro e w2 ⟨rfl, hb⟩; have HB2 := Aside0.mk (HB.out.trans (hb.mono HB.out.size)); clear hb))
        go_roundg gq
        case rel => exact ⟨i + 1, by go_num, ⟨by omega⟩, HE, HB2⟩
        case measure => omega
    · have hi0 := HI.out
      obtain rfl : gk = 0 := by omega
      obtain rfl : i = xs.length := by omega
      clear hi0
      have hm : ¬ ((xs.length : Int) < (xs.length : Int)) := by omega
      go_wp2
      go_ret
      exact ⟨by rw [← HP.out, idxP_end]; rfl, HB.out⟩
/-! ### where a task stands -/
theorem box_cell0 (w : World) (v : Value) (t : Nat) {W : World} (hb : Below (w.alloc (.cells #[v] t)).heap.size (w.alloc (.cells #[v] t)) W) : W.cell? ⟨w.heap.size, 0, none⟩ = some v := by
  have h : (w.alloc (.cells #[v] t)).cell? ⟨w.heap.size, 0, none⟩ = some v := by simp [go_sem]
  exact (hb.cell (World.block_lt_of_cell? _ _ h)).trans h
theorem arr_app (a b : Value) : #[a] ++ #[b] = #[a, b] := rfl
set_option maxHeartbeats 1000000 in
theorem place1_calls (x : Tk Value) (id B : Nat) (w : World) (hc : w.cell? ⟨B, 0, none⟩ = some (.int .u64 (id : Int))) :
    Calls Tryz.prog 37 #[.agg (tkC x).toArray, .pointer (some ⟨B, 0, none⟩)] w fun e w' => e = .returned (.bool (x.id == id)) ∧ Below w.heap.size w w' := by
  have hlt := World.block_lt_of_cell? _ _ hc
  have hc2 : (w.alloc (.cells (tkC x).toArray 36)).cell? ⟨B, 0, none⟩ = some (.int .u64 (id : Int)) := by
    rw [((Below.refl w.heap.size w).alloc (Nat.le_refl _) _).cell hlt]
    exact hc
  have hc3 : (w.alloc (.cells (tkC x).toArray 36)).cell? ⟨w.heap.size, 0, none⟩ = some (.int .u64 (x.id : Int)) := by simp [go_sem, tkC]
  have HB := Aside0.mk ((Below.refl w.heap.size w).alloc (Nat.le_refl _) (.cells (tkC x).toArray 36))
  have HE : ((x.id : Int) == (id : Int)) = (x.id == id) := by
    rw [Bool.eq_iff_iff]
    simp
    omega
  clear hlt hc
  go_enter Tryz.func37, Tryz.ntmps37
  go_wp2
  go_ret
  exact ⟨rfl, HB.out⟩
theorem place1_tx (x : TX) (id B : Nat) (w : World) (hc : w.cell? ⟨B, 0, none⟩ = some (.int .u64 (id : Int))) :
    Calls Tryz.prog 37 (#[.agg (tkX x).toArray] ++ #[.pointer (some ⟨B, 0, none⟩)]) w fun e w' => e = .returned (.bool (x.id == id)) ∧ Below w.heap.size w w' := by
  have h := place1_calls (x.map fun t => t.1.v) id B w hc
  rw [arr_app]
  unfold tkX
  exact h
theorem place1_all (w : World) (id : Nat) : ∀ (x : TX) (W : World), Below (w.alloc (.cells #[.int .u64 (id : Int)] 26)).heap.size (w.alloc (.cells #[.int .u64 (id : Int)] 26)) W → Calls Tryz.prog 37 (#[.agg (tkX x).toArray] ++ #[.pointer (some ⟨w.heap.size, 0, none⟩)]) W fun e W' => e = .returned (.bool (x.id == id)) ∧ Below W.heap.size W W' :=
  fun x W hW => place1_tx x id w.heap.size W (box_cell0 w _ _ hW)
set_option maxHeartbeats 1000000 in
theorem place_calls2 (w : World) (A : Option Addr) (c : Nat) (l : List Tsk) (id : Nat) (hC : kT.C w A l.length l) (hlen : l.length ≤ 100000) :
    Calls Tryz.prog 15 #[.slice A l.length c, .int .u64 (id : Int)] w fun e w' => e = .returned (.int .i64 (idxP (fun x : Tsk => x.id == id) l 0)) ∧ Below w.heap.size w w' := by
  obtain ⟨xs, rfl, hX, hF⟩ := rawT_of hC
  rw [List.length_map] at *
  rw [idxP_map]
  have HQE : Aside0 (idxP (fun x : TX => (deep x).id == id) xs 0 = idxP (fun x : TX => x.id == id) xs 0) := ⟨rfl⟩
  rw [HQE.out]
  have hb := (Below.refl w.heap.size w).alloc (Nat.le_refl _) (.cells #[.int .u64 (id : Int)] 26)
  have HI := Aside0.mk (idxT_calls (w.alloc (.cells #[.int .u64 (id : Int)] 26)) A c xs (Kd.C_below hX hb) hlen 37 #[.pointer (some ⟨w.heap.size, 0, none⟩)] (fun x => x.id == id) (enters_of Tryz.func37 (by kernel_rfl) rfl) (place1_all w id))
  have HB := Aside0.mk hb
  clear hC hlen hX hF hb
  go_enter Tryz.func15, Tryz.ntmps15
  go_wp2_with (first
    | (go_at_call 36; refine HI.out.mono ?_; rintro e w2 ⟨rfl, hb⟩; have HB2 := Aside0.mk (HB.out.trans (hb.mono HB.out.size)); clear hb))
  go_ret
  exact ⟨rfl, HB2.out⟩
end Go.Proofs.YtdjjlmphifgnnaaGreat
namespace Go.Proofs.YtdjjlmphifgnnaaGreat
open Go.RowKit Go.Sort Go.Proofs.YtdjjlmphifgnnaaGreatW.PrintWords Go.Proofs.YtdjjlmphifgnnaaGreatW.PrintLast Go.Proofs.YtdjjlmphifgnnaaGreatW.PrintMore
open Stb (mrg Pre Sorted stb)
set_option linter.unusedVariables false
set_option linter.unusedSimpArgs false
theorem idxP_spec {α : Type} (q : α → Bool) : ∀ (l : List α) (i : Nat), (idxP q l i = -1 ∧ l.find? q = none ∧ ∀ x ∈ l, q x = false) ∨ ∃ j x, idxP q l i = ((i + j : Nat) : Int) ∧ l[j]? = some x ∧ q x = true ∧ l.find? q = some x ∧ ∀ k y, k < j → l[k]? = some y → q y = false
  | [], i => .inl ⟨rfl, rfl, fun x hx => by cases hx⟩
  | x :: l, i => by
    cases hq : q x with
    | true => exact .inr ⟨0, x, by rw [idxP, hq]; rfl, rfl, hq, by rw [List.find?_cons_of_pos hq], fun k y hk => by omega⟩
    | false =>
      have e : idxP q (x :: l) i = idxP q l (i + 1) := by rw [idxP, hq]; rfl
      have ef : (x :: l).find? q = l.find? q := List.find?_cons_of_neg (by rw [hq]; decide)
      rcases idxP_spec q l (i + 1) with ⟨h1, h2, h3⟩ | ⟨j, y, h1, h2, h3, h4, h5⟩
      · exact .inl ⟨e.trans h1, ef.trans h2, fun z hz => by
          rcases List.mem_cons.1 hz with rfl | hz
          · exact hq
          · exact h3 z hz⟩
      · refine .inr ⟨j + 1, y, by rw [e, h1]; congr 1; omega, h2, h3, ef.trans h4, fun k z hk hz => ?_⟩
        cases k with
        | zero =>
          injection hz with hz
          rw [← hz]
          exact hq
        | succ k => exact h5 k z (by omega) hz
/-! ### task.Lists -/
def findL (ls : List Lst) (id : Nat) : Lst × Bool := match ls.find? (fun x => x.id == id) with
  | some x => (x, true)
  | none => (⟨0, ⟨#[]⟩⟩, false)
set_option maxHeartbeats 1000000 in
theorem lists1_calls (x : Lst) (id B : Nat) (w : World) (hc : w.cell? ⟨B, 0, none⟩ = some (.int .u64 (id : Int))) :
    Calls Tryz.prog 43 #[.agg (lsC x).toArray, .pointer (some ⟨B, 0, none⟩)] w fun e w' => e = .returned (.bool (x.id == id)) ∧ Below w.heap.size w w' := by
  have hlt := World.block_lt_of_cell? _ _ hc
  have hc2 : (w.alloc (.cells (lsC x).toArray 41)).cell? ⟨B, 0, none⟩ = some (.int .u64 (id : Int)) := by
    rw [((Below.refl w.heap.size w).alloc (Nat.le_refl _) _).cell hlt]
    exact hc
  have hc3 : (w.alloc (.cells (lsC x).toArray 41)).cell? ⟨w.heap.size, 0, none⟩ = some (.int .u64 (x.id : Int)) := by simp [go_sem, lsC]
  have HB := Aside0.mk ((Below.refl w.heap.size w).alloc (Nat.le_refl _) (.cells (lsC x).toArray 41))
  have HE : ((x.id : Int) == (id : Int)) = (x.id == id) := by
    rw [Bool.eq_iff_iff]
    simp
    omega
  clear hlt hc
  go_enter Tryz.func43, Tryz.ntmps43
  go_wp2
  go_ret
  exact ⟨rfl, HB.out⟩
theorem lists1_all (w : World) (B : Nat) (id : Nat) (hc : w.cell? ⟨B, 0, none⟩ = some (.int .u64 (id : Int))) : ∀ (x : Lst) (W : World), Below w.heap.size w W → Calls Tryz.prog 43 (#[.agg (lsC x).toArray] ++ #[.pointer (some ⟨B, 0, none⟩)]) W fun e W' => e = .returned (.bool (x.id == id)) ∧ Below W.heap.size W W' :=
  fun x W hW => by
    rw [arr_app]
    exact lists1_calls x id B W ((hW.cell (World.block_lt_of_cell? _ _ hc)).trans hc)
theorem kept5 {w w' : World} {a : Addr} {B : Nat} {u v t : Value} (hb : Below w.heap.size w w') (h : w.cell? ⟨B, 0, none⟩ = some u ∧ w.cell? ⟨B, 1, none⟩ = some v ∧ w.frozen? ⟨B, 0, none⟩ = false ∧ w.frozen? ⟨B, 1, none⟩ = false ∧ w.cell? a = some t) : w'.cell? ⟨B, 0, none⟩ = some u ∧ w'.cell? ⟨B, 1, none⟩ = some v ∧ w'.frozen? ⟨B, 0, none⟩ = false ∧ w'.frozen? ⟨B, 1, none⟩ = false ∧ w'.cell? a = some t := by
  obtain ⟨h0, h1, h2, h3, h4⟩ := h
  have hB := World.block_lt_of_cell? _ _ h0
  have e := hb.block B hB
  refine ⟨(hb.cell hB).trans h0, (hb.cell (World.block_lt_of_cell? _ _ h1)).trans h1, ?_, ?_, (hb.cell (World.block_lt_of_cell? _ _ h4)).trans h4⟩
  · rw [← h2]; unfold World.frozen?; rw [e]
  · rw [← h3]; unfold World.frozen?; rw [e]
def ListsQ (w : World) (r : Lst × Bool) (e : Ending) (w' : World) : Prop := e = .returned (.tuple #[.agg (lsC r.1).toArray, .bool r.2]) ∧ Below w.heap.size w w'
set_option maxRecDepth 100000 in
set_option maxHeartbeats 1000000 in
theorem lists_calls (w : World) (LA TA : Option Addr) (lc tn tc : Nat) (ls : List Lst) (id : Nat) (hC : kL.C w LA ls.length ls) (hlen : ls.length ≤ 100000) :
    Calls Tryz.prog 22 #[.agg #[.slice LA ls.length lc, .slice TA tn tc], .int .u64 (id : Int)] w (ListsQ w (findL ls id)) := by
  have hb : Below w.heap.size w (((w.alloc (.cells #[.slice LA ls.length lc, .slice TA tn tc] 25)).alloc (.cells #[.int .u64 (id : Int)] 26)).alloc (.cells #[.int .u64 0, .string ⟨#[]⟩] 41)) := (((Below.refl w.heap.size w).alloc (Nat.le_refl _) _).alloc (by rw [World.alloc]; simp) _).alloc (by rw [World.alloc, World.alloc]; simp; omega) _
  obtain ⟨W1, hW1⟩ : ∃ W1, ((w.alloc (.cells #[.slice LA ls.length lc, .slice TA tn tc] 25)).alloc (.cells #[.int .u64 (id : Int)] 26)).alloc (.cells #[.int .u64 0, .string ⟨#[]⟩] 41) = W1 := ⟨_, rfl⟩
  have HI := Aside0.mk (idxL_calls W1 LA lc ls (by rw [← hW1]; exact Kd.C_below hC hb) hlen 43 #[.pointer (some ⟨w.heap.size + 1, 0, none⟩)] (fun x => x.id == id) (enters_of Tryz.func43 (by kernel_rfl) rfl) (lists1_all W1 (w.heap.size + 1) id (by rw [← hW1]; simp [go_sem])))
  have HB := Aside0.mk (show Below w.heap.size w W1 from by rw [← hW1]; exact hb)
  have s1 : W1.cell? ⟨w.heap.size, 0, none⟩ = some (.slice LA ls.length lc) := by rw [← hW1]; simp [go_sem]
  have r0 : W1.cell? ⟨w.heap.size + 1 + 1, 0, none⟩ = some (.int .u64 0) := by rw [← hW1]; simp [go_sem]
  have r1 : W1.cell? ⟨w.heap.size + 1 + 1, 1, none⟩ = some (.string ⟨#[]⟩) := by rw [← hW1]; simp [go_sem]
  have f0 : W1.frozen? ⟨w.heap.size + 1 + 1, 0, none⟩ = false := by rw [← hW1]; simp [go_sem]
  have f1 : W1.frozen? ⟨w.heap.size + 1 + 1, 1, none⟩ = false := by rw [← hW1]; simp [go_sem]
  have HW1 := Aside0.mk hW1
  have HC := Aside0.mk hC
  have RC := Aside0.mk (And.intro r0 (And.intro r1 (And.intro f0 (And.intro f1 s1))))
  clear hb hW1 hC r0 r1 f0 f1 s1
  rcases idxP_spec (fun x : Lst => x.id == id) ls 0 with ⟨h1, h2, h3⟩ | ⟨j, x, h1, h2, h3, h4, h5⟩
  · rw [h1] at HI
    have HFL := Aside0.mk (show findL ls id = (⟨0, ⟨#[]⟩⟩, false) from by unfold findL; rw [h2])
    clear h1 h2 h3
    go_enter Tryz.func22, Tryz.ntmps22
    go_wp2_with (first
      | (go_at_call 42; rw [HW1.out]; refine HI.out.mono ?_; rintro e w2 ⟨rfl, hb⟩; have HB2 := Aside0.mk (HB.out.trans (hb.mono HB.out.size)); obtain ⟨g0, g1, g2, g3, g4⟩ := kept5 hb RC.out; clear hb))
    (try simp only [Exit.inBlock, Exit.then])
    refine bodyPost_ret (v := .tuple #[.agg (lsC (findL ls id).1).toArray, .bool (findL ls id).2]) ?_ rfl ?_
    · rw [results_cell_tmp rfl]
      go_simp
      rw [HFL.out]
      exact ⟨rfl, rfl⟩
    · exact ⟨rfl, (HB2.out.trans (below_setCell _ _ _ (by omega))).trans (below_setCell _ _ _ (by omega))⟩
  · rw [h1] at HI
    have HFL := Aside0.mk (show findL ls id = (x, true) from by unfold findL; rw [h4])
    obtain ⟨ad, e, y0, y1⟩ := kL_get HC.out h2
    subst e
    have hj := (List.getElem?_eq_some_iff.1 h2).1
    rw [Nat.zero_add] at HI
    have YC := Aside0.mk (And.intro y0 y1)
    have hjz : (j : Int) < (ls.length : Int) := by omega
    have hjn : ¬ ((j : Int) < 0) := by omega
    obtain ⟨xi, xn⟩ := x
    clear h1 h2 h3 h4 h5 y0 y1
    go_enter Tryz.func22, Tryz.ntmps22
    go_wp2_with (first
      | (go_at_call 42; rw [HW1.out]; refine HI.out.mono ?_; rintro e w2 ⟨rfl, hb⟩; have HB2 := Aside0.mk (HB.out.trans (hb.mono HB.out.size)); obtain ⟨g0, g1, g2, g3, g4⟩ := kept5 hb RC.out; have z0 := (HB2.out.cell (World.block_lt_of_cell? _ _ YC.out.1)).trans YC.out.1; have z1 := (HB2.out.cell (World.block_lt_of_cell? _ _ YC.out.2)).trans YC.out.2; clear hb))
    (try simp only [Exit.inBlock, Exit.then])
    refine bodyPost_ret (v := .tuple #[.agg (lsC (findL ls id).1).toArray, .bool (findL ls id).2]) ?_ rfl ?_
    · rw [results_cell_tmp rfl]
      go_simp
      rw [HFL.out]
      exact ⟨rfl, rfl⟩
    · exact ⟨rfl, (HB2.out.trans (below_setCell _ _ _ (by omega))).trans (below_setCell _ _ _ (by omega))⟩
/-! ### rank.ends -/
theorem cell_drawn {w w' : World} (h : Drawn0 w w') {a : Addr} {v : Value} (hc : w.cell? a = some v) : w'.cell? a = some v := pw_cell_below h.below hc
theorem add_zero_addr (ad : Addr) : ad.add 0 = ad := by
  unfold Addr.add
  simp
def endsP (l : List Tsk) (at_ : Int) : Nat × Nat := (if 0 ≤ at_ then (l.getD at_.toNat zT).rank.b else 18442240474082181120, if at_ + 1 < l.length then (l.getD (at_ + 1).toNat zT).rank.b else 9218868437227405312)
theorem rank_at {w : World} {A : Option Addr} {l : List Tsk} {n : Nat} (hn : l.length = n) (h : kT.C w A n l) {i : Nat} (hi : i < n) : ∃ ad, A = some ad ∧ w.cell? ⟨(ad.add (i * 7)).block, (ad.add (i * 7)).off + 4, none⟩ = some (.float .f64 (l.getD i zT).rank.b) := by
  subst hn
  obtain ⟨xs, hxs, hX, hF⟩ := rawT_of h
  have hl : xs.length = l.length := by rw [← hxs, List.length_map]
  obtain ⟨x, hx⟩ : ∃ x, xs[i]? = some x := ⟨xs[i]'(by omega), List.getElem?_eq_getElem _⟩
  obtain ⟨ad, e, _, _, _, _, y4, _⟩ := rawT_get hX hx
  refine ⟨ad, e, ?_⟩
  have e2 : l.getD i zT = deep x := by
    rw [List.getD_eq_getElem?_getD, ← hxs, List.getElem?_map, hx]
    rfl
  rw [e2]
  exact y4
set_option maxRecDepth 100000 in
set_option maxHeartbeats 1000000 in
theorem ends_calls (w : World) (A : Option Addr) (c : Nat) (l : List Tsk) (at_ : Int) (n : Nat) (hn : l.length = n) (hC : kT.C w A n l) (hlen : n ≤ 100000) (ha : -1 ≤ at_ ∧ at_ < n) :
    Calls Tryz.prog 23 #[.slice A n c, .int .i64 at_] w fun e w' => e = .returned (.tuple #[.float .f64 (endsP l at_).1, .float .f64 (endsP l at_).2]) ∧ Drawn0 w w' := by
  have HI1 := Aside0.mk (fun w => inf_calls (-1) (.inr rfl) w)
  have HI2 := Aside0.mk (fun w => inf_calls 1 (.inl rfl) w)
  have hw : IntKind.i64.wrap (at_ + 1) = at_ + 1 := by rw [IntKind.wrap_i64]; omega
  have HN := Aside0.mk hn
  have hnl : (n : Int) ≤ 100000 := by omega
  by_cases h0 : 0 ≤ at_
  · obtain ⟨i, rfl⟩ : ∃ i : Nat, at_ = (i : Int) := ⟨at_.toNat, by omega⟩
    obtain ⟨ad, e, y0⟩ := rank_at hn hC (i := i) (by omega)
    subst e
    have i0 : (i : Int) < (n : Int) := by omega
    by_cases h1 : i + 1 < n
    · obtain ⟨ad', e, y1⟩ := rank_at hn hC (i := i + 1) h1
      injection e with e
      subst e
      have i1 : (i : Int) + 1 < (n : Int) := by omega
      have i2 : (0 : Int) ≤ (i : Int) + 1 := by omega
      have i3 : ((i : Int) + 1).toNat = i + 1 := by omega
      have HE := Aside0.mk (show endsP l (i : Int) = ((l.getD i zT).rank.b, (l.getD (i + 1) zT).rank.b) from by
        unfold endsP
        rw [if_pos (by omega), if_pos (by omega), i3]
        rfl)
      generalize (l.getD i zT).rank.b = r0 at *
      generalize (l.getD (i + 1) zT).rank.b = r1 at *
      clear hn hC hlen ha h0 h1
      go_enter Tryz.func23, Tryz.ntmps23
      go_wp2_with (first
        | (go_at_call 44; refine Calls.mono (HI1.out _) ?_; rintro e w1 ⟨rfl, hd⟩; have D1 := Aside0.mk hd; have z0 := cell_drawn hd y0; have z1 := cell_drawn hd y1; clear hd HI1)
        | (go_at_call 44; refine Calls.mono (HI2.out _) ?_; rintro e w2 ⟨rfl, hd⟩; have D2 := Aside0.mk hd; have t0 := cell_drawn hd z0; have t1 := cell_drawn hd z1; clear hd HI2))
      go_ret2
      exact ⟨by rw [HE.out]; rfl, drawn_trans D1.out D2.out⟩
    · obtain rfl : n = i + 1 := by omega
      have HE := Aside0.mk (show endsP l (i : Int) = ((l.getD i zT).rank.b, 9218868437227405312) from by
        unfold endsP
        rw [if_pos (by omega), if_neg (by omega)]
        rfl)
      generalize (l.getD i zT).rank.b = r0 at *
      clear hn hC hlen ha h0 h1
      have i1 : ¬ ((i : Int) + 1 < ((i + 1 : Nat) : Int)) := by omega
      have i2 : ¬ ((i : Int) + 1 < (i : Int) + 1) := by omega
      go_enter Tryz.func23, Tryz.ntmps23
      go_wp2_with (first
        | (go_at_call 44; refine Calls.mono (HI1.out _) ?_; rintro e w1 ⟨rfl, hd⟩; have D1 := Aside0.mk hd; have z0 := cell_drawn hd y0; clear hd HI1)
        | (go_at_call 44; refine Calls.mono (HI2.out _) ?_; rintro e w2 ⟨rfl, hd⟩; have D2 := Aside0.mk hd; have t0 := cell_drawn hd z0; clear hd HI2))
      go_ret2
      exact ⟨by rw [HE.out]; rfl, drawn_trans D1.out D2.out⟩
  · obtain rfl : at_ = -1 := by omega
    by_cases h1 : 0 < n
    · obtain ⟨ad, e, y0⟩ := rank_at hn hC (i := 0) h1
      subst e
      rw [Nat.zero_mul, add_zero_addr] at y0
      have HE := Aside0.mk (show endsP l (-1) = (18442240474082181120, (l.getD 0 zT).rank.b) from by
        unfold endsP
        rw [if_neg (by omega), if_pos (by omega)]
        rfl)
      generalize (l.getD 0 zT).rank.b = r0 at *
      have i1 : (0 : Int) < (n : Int) := by omega
      clear hn hC hlen ha h0 h1 hw
      go_enter Tryz.func23, Tryz.ntmps23
      go_wp2_with (first
        | (go_at_call 44; refine Calls.mono (HI1.out _) ?_; rintro e w1 ⟨rfl, hd⟩; have D1 := Aside0.mk hd; have z0 := cell_drawn hd y0; clear hd HI1)
        | (go_at_call 44; refine Calls.mono (HI2.out _) ?_; rintro e w2 ⟨rfl, hd⟩; have D2 := Aside0.mk hd; have t0 := cell_drawn hd z0; clear hd HI2))
      go_ret2
      exact ⟨by rw [HE.out]; rfl, drawn_trans D1.out D2.out⟩
    · obtain rfl : n = 0 := by omega
      have HE := Aside0.mk (show endsP l (-1) = (18442240474082181120, 9218868437227405312) from by
        unfold endsP
        rw [if_neg (by omega), if_neg (by omega)])
      clear hn hC hlen ha h0 h1 hw
      go_enter Tryz.func23, Tryz.ntmps23
      go_wp2_with (first
        | (go_at_call 44; refine Calls.mono (HI1.out _) ?_; rintro e w1 ⟨rfl, hd⟩; have D1 := Aside0.mk hd; clear hd HI1)
        | (go_at_call 44; refine Calls.mono (HI2.out _) ?_; rintro e w2 ⟨rfl, hd⟩; have D2 := Aside0.mk hd; clear hd HI2))
      go_ret2
      exact ⟨by rw [HE.out]; rfl, drawn_trans D1.out D2.out⟩
end Go.Proofs.YtdjjlmphifgnnaaGreat
