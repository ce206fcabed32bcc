/- Parts of one proof, joined: Psp, Tkl, Tkm, Psq. Conditions: those of each statement. -/
import Derived.Test.YtdjjlmphifgnnaaGreatCc11
import Derived.Test.YtdjjlmphifgnnaaGreatCc9
import Derived.Test.YtdjjlmphifgnnaaGreatCc12
import Derived.Test.YtdjjlmphifgnnaaGreatCc8
import Derived.Sort.Walk0
namespace Go.Proofs.YtdjjlmphifgnnaaGreat
open Stb (mrg Pre Sorted stb)
open Flt (nanP canP keyP midP)
set_option linter.unusedVariables false
set_option linter.unusedSimpArgs false
def rkW (i : Nat) : W64 := if h : rkF i < 18446744073709551616 then ⟨rkF i, h⟩ else default
theorem rk_ok {i : Nat} (h : i < 80) : rkOk (i + 1) = true := List.all_eq_true.1 rk_all i (List.mem_range.2 h)
theorem rk_facts {i : Nat} (h : i < 80) : (rkW (i + 1)).b = rkF (i + 1) ∧ nanP (rkF (i + 1)) = false ∧ cnP (rkF (i + 1)) = true ∧ keyP (rkF (i + 1)) < keyP (rkF (i + 2)) ∧ (midP (rkF (i + 1)) (rkF (i + 2))).2 = true ∧ (midP (rkF (i + 1)) 9218868437227405312).2 = true := by
  have h := rk_ok h
  unfold rkOk at h
  simp only [Bool.and_eq_true, decide_eq_true_eq, Bool.not_eq_true'] at h
  obtain ⟨⟨⟨⟨⟨h1, h2⟩, h3⟩, h4⟩, h5⟩, h6⟩ := h
  exact ⟨by unfold rkW; rw [dif_pos h1], h2, h3, h4, h5, h6⟩
theorem rk_lt {i j : Nat} (h : i < j) (hj : j < 80) : keyP (rkF (i + 1)) < keyP (rkF (j + 1)) := by
  induction j with
  | zero => omega
  | succ j ih =>
    have h1 := (rk_facts (i := j) (by omega)).2.2.2.1
    by_cases e : i = j
    · rw [e]; exact h1
    · exact Nat.lt_trans (ih (by omega) (by omega)) h1
def setR (l : List Tsk) (id : Nat) (r : W64) : List Tsk := l.map fun x => if x.id = id then ⟨x.id, x.list, x.title, x.done, r, x.est, x.tags⟩ else x
def sprFrom : List Tsk → Nat → List Tsk → List Tsk
  | [], _, l => l
  | t :: o, k, l => sprFrom o (k + 1) (setR l t.id (rkW (k + 1)))
def sprP (l : List Tsk) (list : Nat) : List Tsk := sprFrom (ordP l list) 0 l
/-- a task with the rank of its place among others -/
def phi (o : List Tsk) (x : Tsk) : Tsk := if idxP (fun y : Tsk => y.id == x.id) o 0 < 0 then x else ⟨x.id, x.list, x.title, x.done, rkW ((idxP (fun y : Tsk => y.id == x.id) o 0).toNat + 1), x.est, x.tags⟩
theorem phi_same (o : List Tsk) (x : Tsk) : (phi o x).id = x.id ∧ (phi o x).list = x.list ∧ (phi o x).title = x.title ∧ (phi o x).done = x.done ∧ (phi o x).est = x.est ∧ (phi o x).tags = x.tags := by
  unfold phi
  split <;> exact ⟨rfl, rfl, rfl, rfl, rfl, rfl⟩
theorem idxP_no {α : Type} (q : α → Bool) : ∀ (a : List α) (i : Nat), (∀ x ∈ a, q x = false) → idxP q a i = -1
  | [], _, _ => rfl
  | x :: a, i, h => by
    show (if q x then (i : Int) else idxP q a (i + 1)) = -1
    rw [h x (List.mem_cons_self ..)]
    exact idxP_no q a (i + 1) (fun y hy => h y (List.mem_cons_of_mem _ hy))
theorem idxP_snoc_no {α : Type} (q : α → Bool) (y : α) (hy : q y = false) : ∀ (a : List α) (i : Nat), idxP q (a ++ [y]) i = idxP q a i
  | [], i => by
    show (if q y then (i : Int) else -1) = -1
    rw [hy]
    rfl
  | x :: a, i => by
    show (if q x then (i : Int) else idxP q (a ++ [y]) (i + 1)) = if q x then (i : Int) else idxP q a (i + 1)
    rw [idxP_snoc_no q y hy a (i + 1)]
theorem idxP_at {o : List Tsk} (hd : o.Pairwise fun a b => a.id ≠ b.id) {i : Nat} {x : Tsk} (hx : o[i]? = some x) : idxP (fun y : Tsk => y.id == x.id) o 0 = (i : Int) := by
  have hi := (List.getElem?_eq_some_iff.1 hx).1
  have e : o = o.take i ++ x :: o.drop (i + 1) := by
    have h1 : o.drop i = x :: o.drop (i + 1) := by rw [List.drop_eq_getElem_cons hi, (List.getElem?_eq_some_iff.1 hx).2]
    rw [← h1, List.take_append_drop]
  have hl : (o.take i).length = i := by rw [List.length_take]; omega
  have h2 : ∀ y ∈ o.take i, (y.id == x.id) = false := fun y hy => by
    have hp := hd
    rw [e] at hp
    have := (List.pairwise_append.1 hp).2.2 y hy x (List.mem_cons_self ..)
    simpa using this
  rw [e, idxP_skip _ _ _ _ h2, hl, idxP]
  simp
theorem spr_step {o : List Tsk} (hd : o.Pairwise fun a b => a.id ≠ b.id) (l : List Tsk) {k : Nat} {t : Tsk} (ht : o[k]? = some t) : setR (l.map (phi (o.take k))) t.id (rkW (k + 1)) = l.map (phi (o.take (k + 1))) := by
  unfold setR
  rw [List.map_map]
  refine List.map_congr_left fun x _ => ?_
  have hk := (List.getElem?_eq_some_iff.1 ht).1
  have htk : o.take (k + 1) = o.take k ++ [t] := by rw [List.take_add_one, ht]; rfl
  have hl : (o.take k).length = k := by rw [List.length_take]; omega
  show (if (phi (o.take k) x).id = t.id then _ else phi (o.take k) x) = _
  obtain ⟨s1, s2, s3, s4, s5, s6⟩ := phi_same (o.take k) x
  rw [s1, s2, s3, s4, s5, s6]
  by_cases he : x.id = t.id
  · rw [if_pos he]
    have hno : ∀ y ∈ o.take k, (y.id == x.id) = false := fun y hy => by
      have hp : (o.take (k + 1)).Pairwise fun a b => a.id ≠ b.id := hd.sublist (List.take_sublist _ _)
      rw [htk] at hp
      have := (List.pairwise_append.1 hp).2.2 y hy t (by simp)
      rw [he]
      simpa using this
    have h1 : idxP (fun y : Tsk => y.id == x.id) (o.take (k + 1)) 0 = (k : Int) := by
      rw [htk, idxP_skip _ _ _ _ hno, hl, idxP, he]
      simp
    unfold phi
    rw [h1, if_neg (by omega), Int.toNat_natCast]
  · rw [if_neg he]
    have h1 : idxP (fun y : Tsk => y.id == x.id) (o.take (k + 1)) 0 = idxP (fun y : Tsk => y.id == x.id) (o.take k) 0 := by
      rw [htk, idxP_snoc_no _ t (by simpa using fun e => he e.symm)]
    unfold phi
    rw [h1]
theorem phi_nil (l : List Tsk) : l.map (phi []) = l := by
  have : ∀ x : Tsk, phi [] x = x := fun x => by unfold phi; rw [if_pos (by show (-1 : Int) < 0; decide)]
  rw [show (phi []) = id from funext this, List.map_id]
theorem spr_all {o : List Tsk} (hd : o.Pairwise fun a b => a.id ≠ b.id) (l : List Tsk) : ∀ (n k : Nat), k + n = o.length → sprFrom (o.drop k) k (l.map (phi (o.take k))) = l.map (phi o) := by
  intro n
  induction n with
  | zero =>
    intro k hk
    obtain rfl : k = o.length := by omega
    rw [List.drop_length, List.take_length]
    rfl
  | succ n ih =>
    intro k hk
    obtain ⟨t, ht⟩ : ∃ t, o[k]? = some t := ⟨o[k]'(by omega), List.getElem?_eq_getElem _⟩
    rw [List.drop_eq_getElem_cons (List.getElem?_eq_some_iff.1 ht).1, (List.getElem?_eq_some_iff.1 ht).2]
    have := ih (k + 1) (by omega)
    rw [← spr_step hd l ht] at this
    rw [sprFrom]
    exact this
theorem ordP_ids {l : List Tsk} (hd : l.Pairwise fun a b => a.id ≠ b.id) (list : Nat) : (ordP l list).Pairwise fun a b => a.id ≠ b.id := by
  unfold ordP
  have h1 : (l.filter fun x => x.list == list).Pairwise fun a b => a.id ≠ b.id := hd.sublist List.filter_sublist
  exact (Stb.stb_perm _).symm.pairwise h1 fun h => Ne.symm h
theorem sprP_eq {l : List Tsk} (hd : l.Pairwise fun a b => a.id ≠ b.id) (list : Nat) : sprP l list = l.map (phi (ordP l list)) := by
  have h := spr_all (ordP_ids hd list) l (ordP l list).length 0 (Nat.zero_add _)
  rw [List.take_zero, phi_nil, List.drop_zero] at h
  exact h
theorem phi_rank {o : List Tsk} (hd : o.Pairwise fun a b => a.id ≠ b.id) (hl : o.length ≤ 80) {i : Nat} {x : Tsk} (hx : o[i]? = some x) : (phi o x).rank.b = rkF (i + 1) := by
  have hi := (List.getElem?_eq_some_iff.1 hx).1
  have h1 := idxP_at hd hx
  unfold phi
  rw [h1, if_neg (by omega), Int.toNat_natCast]
  exact (rk_facts (i := i) (by omega)).1
theorem ordP_spr {l : List Tsk} (hd : l.Pairwise fun a b => a.id ≠ b.id) (list : Nat) (hl : l.length ≤ 80) : ordP (sprP l list) list = (ordP l list).map (phi (ordP l list)) := by
  obtain ⟨o, ho⟩ : ∃ o, ordP l list = o := ⟨_, rfl⟩
  have hdo := ordP_ids hd list
  have hol := ordP_len l list
  rw [sprP_eq hd, ho]
  rw [ho] at hdo hol
  have hf : (l.map (phi o)).filter (fun x => x.list == list) = (l.filter fun x => x.list == list).map (phi o) := by
    rw [List.filter_map]
    congr 1
    refine List.filter_congr fun x _ => ?_
    show ((phi o x).list == list) = _
    rw [(phi_same o x).2.1]
  have hp : o.Perm (l.filter fun x => x.list == list) := by rw [← ho]; exact Stb.stb_perm _
  unfold ordP
  rw [hf]
  symm
  have hda : ((l.filter fun x => x.list == list).map (phi o)).Pairwise fun a b => a.id ≠ b.id := by
    rw [List.pairwise_map]
    exact (hd.sublist List.filter_sublist).imp fun {a b} h => by rw [(phi_same o a).1, (phi_same o b).1]; exact h
  refine Stb.sorted_perm tle_pre _ _ ?_ (Stb.stb_sorted tle_pre _) ((hp.map _).trans (Stb.stb_perm _).symm) fun a ha b hb h1 h2 => ?_
  · show ((o.map (phi o)).Pairwise fun a b => tle a b = true)
    rw [List.pairwise_map, List.pairwise_iff_getElem]
    intro i j hi hj hij
    rw [tle_iff]
    left
    rw [phi_rank hdo (by omega) (List.getElem?_eq_getElem hi), phi_rank hdo (by omega) (List.getElem?_eq_getElem hj)]
    exact rk_lt hij (by omega)
  · have h1 := (tle_iff a b).1 h1
    have h2 := (tle_iff b a).1 h2
    have hm := (hp.map (phi o)).mem_iff (a := a)
    have hm2 := (hp.map (phi o)).mem_iff (a := b)
    exact pw_perm (key := Tk.id) hda a (hm.1 ha) b (hm2.1 hb) (by omega)
theorem end_gap {o : List Tsk} (hr : ∀ i x, o[i]? = some x → x.rank.b = rkF (i + 1)) (hl : o.length ≤ 79) (h0 : 0 < o.length) {at_ : Int} (ha : -1 ≤ at_ ∧ at_ < o.length) : (endP o at_).2 = 0 := by
  have hm : (midP (endsP o at_).1 (endsP o at_).2).2 = true := by
    have hg : ∀ i, i < o.length → (o.getD i zT).rank.b = rkF (i + 1) := fun i hi => by
      rw [List.getD_eq_getElem?_getD, List.getElem?_eq_getElem hi]
      exact hr i _ (List.getElem?_eq_getElem hi)
    unfold endsP
    by_cases h : 0 ≤ at_
    · obtain ⟨i, rfl⟩ : ∃ i : Nat, at_ = (i : Int) := ⟨at_.toNat, by omega⟩
      rw [if_pos h, Int.toNat_natCast, hg i (by omega)]
      by_cases h2 : (i : Int) + 1 < o.length
      · rw [if_pos h2, show ((i : Int) + 1).toNat = i + 1 by omega, hg (i + 1) (by omega)]
        exact (rk_facts (i := i) (by omega)).2.2.2.2.1
      · rw [if_neg h2]
        exact (rk_facts (i := i) (by omega)).2.2.2.2.2
    · obtain rfl : at_ = -1 := by omega
      rw [if_neg h, if_pos (by omega)]
      show (midP _ (o.getD 0 zT).rank.b).2 = true
      rw [hg 0 h0]
      exact rk_first
  unfold endP
  rw [hm]
  rfl
theorem bet_gap {ls : List Lst} {l : List Tsk} {list after : Nat} (hr : ∀ i x, (ordP l list)[i]? = some x → x.rank.b = rkF (i + 1)) (hl : (ordP l list).length ≤ 79) : (betP ls l list after).2 ≠ 100 := by
  unfold betP
  split
  · decide
  · unfold behP
    split
    · split
      · decide
      · next h0 => rw [end_gap hr hl (by omega) ⟨by omega, by omega⟩]; decide
    · split
      · decide
      · next h1 =>
        rcases idxP_spec (fun x : Tsk => x.id == after) (ordP l list) 0 with ⟨h2, _⟩ | ⟨j, y, h2, h3, _⟩
        · rw [h2] at h1; exact absurd (by decide) h1
        · have hj := (List.getElem?_eq_some_iff.1 h3).1
          rw [h2, end_gap hr hl (by omega) ⟨by omega, by omega⟩]; decide
theorem tasks_ids {ls : List Lst} : ∀ (l : List Tsk) (a : Nat), tasksP ls a l = 0 → l.Pairwise (fun x y => x.id < y.id) ∧ ∀ x ∈ l, a < x.id ∧ oneP ls x = 0
  | [], _, _ => ⟨.nil, fun x hx => by cases hx⟩
  | y :: l, a, h => by
    have e : tasksP ls a (y :: l) = if y.id ≤ a then 93 else if oneP ls y = 0 then tasksP ls y.id l else oneP ls y := rfl
    rw [e] at h
    split at h
    · cases h
    · next h1 =>
      split at h
      · next h2 =>
        obtain ⟨h3, h4⟩ := tasks_ids l _ h
        refine ⟨List.pairwise_cons.2 ⟨fun z hz => (h4 z hz).1, h3⟩, fun z hz => ?_⟩
        rcases List.mem_cons.1 hz with rfl | hz
        · exact ⟨by omega, h2⟩
        · exact ⟨by have := (h4 z hz).1; omega, (h4 z hz).2⟩
      · next h2 => exact absurd h h2
theorem tasks_of {ls : List Lst} : ∀ (l : List Tsk) (a : Nat), l.Pairwise (fun x y => x.id < y.id) → (∀ x ∈ l, a < x.id ∧ oneP ls x = 0) → tasksP ls a l = 0
  | [], _, _, _ => rfl
  | y :: l, a, h, h2 => by
    have e : tasksP ls a (y :: l) = if y.id ≤ a then 93 else if oneP ls y = 0 then tasksP ls y.id l else oneP ls y := rfl
    have h3 := h2 y (List.mem_cons_self ..)
    have h4 := List.pairwise_cons.1 h
    rw [e, if_neg (by omega), if_pos h3.2]
    exact tasks_of l _ h4.2 fun x hx => ⟨h4.1 x hx, (h2 x (List.mem_cons_of_mem _ hx)).2⟩
theorem right_parts {ls : List Lst} {l : List Tsk} (h : rightP ls l = 0) : ls.length ≤ 20 ∧ l.length ≤ 60 ∧ listsP 0 ls = 0 ∧ tasksP ls 0 l = 0 := by
  unfold rightP at h
  split at h
  · cases h
  · split at h
    · cases h
    · split at h
      · next h1 => exact ⟨by omega, by omega, h1, h⟩
      · next h1 => exact absurd h h1
theorem right_spr {ls : List Lst} {l : List Tsk} (h : rightP ls l = 0) (list : Nat) : rightP ls (sprP l list) = 0 := by
  obtain ⟨h1, h2, h3, h4⟩ := right_parts h
  obtain ⟨h5, h6⟩ := tasks_ids l 0 h4
  have hd : l.Pairwise fun a b => a.id ≠ b.id := h5.imp fun h => by omega
  have hol := ordP_len l list
  have hdo := ordP_ids hd list
  rw [sprP_eq hd]
  unfold rightP
  rw [if_neg (by omega), List.length_map, if_neg (by omega), if_pos h3]
  refine tasks_of _ 0 ?_ fun x hx => ?_
  · rw [List.pairwise_map]
    exact h5.imp fun {a b} h => by rw [(phi_same _ a).1, (phi_same _ b).1]; exact h
  · obtain ⟨y, hy, rfl⟩ := List.mem_map.1 hx
    obtain ⟨k1, k2⟩ := h6 y hy
    obtain ⟨s1, s2, s3, s4, s5, s6⟩ := phi_same (ordP l list) y
    refine ⟨by rw [s1]; exact k1, ?_⟩
    rcases idxP_spec (fun z : Tsk => z.id == y.id) (ordP l list) 0 with ⟨h7, _⟩ | ⟨j, z, h7, h8, h9, _⟩
    · have e : phi (ordP l list) y = y := by unfold phi; rw [if_pos (by rw [h7]; decide)]
      rw [e]
      exact k2
    · have hj := (List.getElem?_eq_some_iff.1 h8).1
      have hr : (phi (ordP l list) y).rank.b = rkF (j + 1) := by
        unfold phi
        rw [h7, if_neg (by omega), Nat.zero_add, Int.toNat_natCast]
        exact (rk_facts (i := j) (by omega)).1
      have hf := rk_facts (i := j) (by omega)
      unfold oneP at k2 ⊢
      rw [s2, s3, s5, s6, hr, hf.2.1, hf.2.2.1]
      split at k2
      · cases k2
      · next q1 =>
        rw [if_neg q1]
        split at k2
        · cases k2
        · next q2 =>
          rw [if_neg q2, if_neg (by decide), if_neg (by decide)]
          split at k2
          · cases k2
          · split at k2
            · cases k2
            · exact k2
end Go.Proofs.YtdjjlmphifgnnaaGreat
namespace Go.Proofs.YtdjjlmphifgnnaaGreat
open Go.Shelf Go.RowKit Go.Sort Go.Proofs.YtdjjlmphifgnnaaGreatW.PrintWords Go.Proofs.YtdjjlmphifgnnaaGreatW.PrintLast Go.Proofs.YtdjjlmphifgnnaaGreatW.PrintMore
open Stb (mrg Pre Sorted stb)
set_option linter.unusedVariables false
set_option linter.unusedSimpArgs false
def rkT {τ : Type} (x : Tk τ) (r : W64) : Tk τ := ⟨x.id, x.list, x.title, x.done, r, x.est, x.tags⟩
theorem reps_rank {xs : List TX} {cs : List Value} (h : Reps (fun x c => c = tkX x) 7 xs cs) {i : Nat} {x : TX} (hx : xs[i]? = some x) (r : W64) : Reps (fun x c => c = tkX x) 7 (xs.set i (rkT x r)) (cs.set (i * 7 + 4) (.float .f64 r.b)) := by
  refine ⟨by rw [List.length_set, List.length_set]; exact h.1, fun j p hp => ?_⟩
  by_cases e : j = i
  · subst e
    have hj := (List.getElem?_eq_some_iff.1 hx).1
    rw [List.getElem?_set_self hj] at hp
    injection hp with hp
    subst hp
    rw [List.drop_set, if_neg (by omega), List.take_set, show (cs.drop (j * 7)).take 7 = tkX x from h.2 j x hx, show j * 7 + 4 - j * 7 = 4 from by omega]
    rfl
  · rw [List.getElem?_set_ne (Ne.symm e)] at hp
    have h1 := h.2 j p hp
    have h2 : ((cs.set (i * 7 + 4) (.float .f64 r.b)).drop (j * 7)).take 7 = (cs.drop (j * 7)).take 7 := by
      rw [List.drop_set]
      split
      · rfl
      · rw [List.take_set, List.set_eq_of_length_le]
        rw [List.length_take]
        omega
    rw [h2]
    exact h1
theorem row_rank {w : World} {base : Nat} {ok : Nat → Prop} {A : Option Addr} {n c : Nat} {l : List Tsk} (h : Kd.R kT 36 w base ok (.slice A n c) l) {i : Nat} {x : Tsk} (hx : l[i]? = some x) (r : W64) :
    ∃ g, A = some ⟨g, 0, none⟩ ∧ ok g ∧ g < w.heap.size ∧ w.frozen? ⟨g, i * 7 + 4, none⟩ = false ∧ (∃ u, w.cell? ⟨g, i * 7 + 4, none⟩ = some u) ∧ Kd.R kT 36 (w.setCell ⟨g, i * 7 + 4, none⟩ (.float .f64 r.b)) base ok (.slice A n c) (l.set i (rkT x r)) := by
  have hi := (List.getElem?_eq_some_iff.1 hx).1
  obtain ⟨h0, inner, ho, hr⟩ := h
  rcases ho.2 with ⟨_, hn⟩ | ⟨g, cap, cur, he, hbg, hg, hcap, hmax, hcs, htk⟩
  · omega
  · injection he with e1 e2 e3
    subst e1 e2 e3
    have hsz : i * 7 + 4 < cur.size := by
      rw [hcs]
      have h7 : kT.sz = 7 := rfl
      rw [h7]
      omega
    have hcl : w.cell? ⟨g, i * 7 + 4, none⟩ = some cur[i * 7 + 4] := by simp [World.cell?, hg, hsz]
    have hne : ∀ k, k ≠ g → (w.setCell ⟨g, i * 7 + 4, none⟩ (.float .f64 r.b)).heap[k]? = w.heap[k]? := fun k hk => heap_setCell_ne _ _ _ _ hk
    have hr2 := hr.imp_ (fun _ _ hp => kT.M_move (w1 := w.setCell ⟨g, i * 7 + 4, none⟩ (.float .f64 r.b)) (fun k hk => hne k (fun e => hk.2 (by rw [e]; rfl))) hp)
    obtain ⟨xs, hxs, hX, hT⟩ := rows_open hr2
    have hxi : i < xs.length := by rw [← hxs, List.length_map] at hi; exact hi
    obtain ⟨X, hXi⟩ : ∃ X, xs[i]? = some X := ⟨xs[i]'hxi, List.getElem?_eq_getElem _⟩
    have hdX : deep X = x := by
      rw [← hxs, List.getElem?_map, hXi] at hx
      injection hx
    refine ⟨g, rfl, h0 g rfl, (Array.getElem?_eq_some_iff.1 hg).1, by simp [World.frozen?, hg], ⟨_, hcl⟩, h0, inner.set (i * 7 + 4) (.float .f64 r.b), ?_, ?_⟩
    · refine ⟨?_, .inr ⟨g, c, cur.setIfInBounds (i * 7 + 4) (.float .f64 r.b), ?_, hbg, heap_setCell_at w g _ _ hg, ?_, hmax, ?_, ?_⟩⟩
      · rw [List.length_set, List.length_set]; exact ho.1
      · rw [List.length_set]
      · rw [List.length_set]; exact hcap
      · rw [Array.size_setIfInBounds]; exact hcs
      · rw [List.length_set, Array.toList_setIfInBounds, List.take_set, htk]
    · have h3 := rows_shut (reps_rank hX hXi r) (fun y hy => by
        rcases List.mem_or_eq_of_mem_set hy with hy | rfl
        · exact hT y hy
        · exact hT X (List.mem_of_getElem? hXi))
      rw [List.map_set, hxs, show deep (rkT X r) = rkT (deep X) r from rfl, hdX] at h3
      exact h3
theorem setR_set {l : List Tsk} (hd : l.Pairwise fun a b => a.id ≠ b.id) {i : Nat} {x : Tsk} (hx : l[i]? = some x) (r : W64) : setR l x.id r = l.set i (rkT x r) := by
  refine List.ext_getElem? fun j => ?_
  unfold setR
  rw [List.getElem?_map]
  have hi := (List.getElem?_eq_some_iff.1 hx).1
  by_cases e : j = i
  · subst e
    rw [List.getElem?_set_self hi, hx]
    simp [rkT]
  · rw [List.getElem?_set_ne (Ne.symm e)]
    cases hj : l[j]? with
    | none => rfl
    | some y =>
      have hy : y.id ≠ x.id := by
        have h1 := (List.getElem?_eq_some_iff.1 hj)
        have h2 := (List.getElem?_eq_some_iff.1 hx)
        obtain ⟨a1, a2⟩ := h1
        obtain ⟨b1, b2⟩ := h2
        rw [← a2, ← b2]
        rcases Nat.lt_or_gt_of_ne e with h | h
        · exact List.pairwise_iff_getElem.1 hd j i a1 b1 h
        · exact (List.pairwise_iff_getElem.1 hd i j b1 a1 h).symm
      simp [hy]
/-- what Spread holds: its boxes, lists, tasks so far, the order -/
structure SprI (w : World) (ls : List Lst) (T O : List Tsk) (B M : Nat) (vL : Value) (A : Option Addr) (n c : Nat) (vO : Value) (W : World) : Prop where
  low : Below w.heap.size w W
  res : Box2 W (w.heap.size + 1) 25 (.slice none 0 0) (.slice none 0 0)
  out : Box2 W B 25 vL (.slice A n c)
  hM : w.heap.size + 1 + 1 ≤ M
  rL : Kd.R kL 41 W (w.heap.size + 1 + 1) (fun k => w.heap.size + 1 + 1 ≤ k ∧ k < M) vL ls
  rT : Kd.R kT 36 W (w.heap.size + 1 + 1) (fun k => M ≤ k ∧ k < B) (.slice A n c) T
  rO : Kd.R kT 36 W (B + 1) (fun k => B + 1 ≤ k) vO O
theorem SprI.up {w : World} {ls : List Lst} {T O : List Tsk} {B M : Nat} {vL : Value} {A : Option Addr} {n c : Nat} {vO : Value} {W W' : World} (h : SprI w ls T O B M vL A n c vO W) (hb : Below W.heap.size W W') : SprI w ls T O B M vL A n c vO W' :=
  ⟨h.low.trans (hb.mono h.low.size), h.res.up hb, h.out.up hb, h.hM, Kd.R_below h.rL hb, Kd.R_below h.rT hb, Kd.R_below h.rO hb⟩
theorem SprI.put {w : World} {ls : List Lst} {T O : List Tsk} {B M : Nat} {vL : Value} {A : Option Addr} {n c : Nat} {vO : Value} {W : World} (h : SprI w ls T O B M vL A n c vO W) {i : Nat} {x : Tsk} (hx : T[i]? = some x) (r : W64) :
    ∃ g, A = some ⟨g, 0, none⟩ ∧ g < B ∧ W.frozen? ⟨g, i * 7 + 4, none⟩ = false ∧ (∃ u, W.cell? ⟨g, i * 7 + 4, none⟩ = some u) ∧ SprI w ls (T.set i (rkT x r)) O B M vL A n c vO (W.setCell ⟨g, i * 7 + 4, none⟩ (.float .f64 r.b)) := by
  obtain ⟨g, hA, hok, hlt, hf, hc, hr⟩ := row_rank h.rT hx r
  have hM := h.hM
  refine ⟨g, hA, hok.2, hf, hc, h.low.trans (below_setCell _ _ _ (by omega)), h.res.ne (by omega) _ _, h.out.ne (by omega) _ _, hM, ?_, hr, ?_⟩
  · exact Kd.R_move h.rL (fun k hk => heap_setCell_ne _ _ _ _ (by omega))
  · exact Kd.R_move h.rO (fun k hk => heap_setCell_ne _ _ _ _ (by omega))
theorem spr_start {w W2 w3 w5 : World} {ls : List Lst} {l O : List Tsk} {M : Nat} {vL vO : Value} {A : Option Addr} {n c : Nat} (h2 : Below w.heap.size w W2) (k2 : Box2 W2 (w.heap.size + 1) 25 (.slice none 0 0) (.slice none 0 0)) (s2 : W2.heap.size = w.heap.size + 1 + 1) (hm : w.heap.size + 1 + 1 ≤ M)
    (hrL : Kd.R kL 41 w3 (w.heap.size + 1 + 1) (fun k => w.heap.size + 1 + 1 ≤ k ∧ k < M) vL ls) (hrT : Kd.R kT 36 w3 (w.heap.size + 1 + 1) (fun k => M ≤ k) (.slice A n c) l) (hb : Below (w.heap.size + 1 + 1) W2 w3)
    (hO : Kd.R kT 36 w5 (w3.alloc (.cells #[vL, .slice A n c] 25)).heap.size (fun k => (w3.alloc (.cells #[vL, .slice A n c] 25)).heap.size ≤ k) vO O) (hb5 : Below (w3.alloc (.cells #[vL, .slice A n c] 25)).heap.size (w3.alloc (.cells #[vL, .slice A n c] 25)) w5) : SprI w ls l O w3.heap.size M vL A n c vO w5 := by
  have s4 : (w3.alloc (.cells #[vL, .slice A n c] 25)).heap.size = w3.heap.size + 1 := Array.size_push _
  have b4 := (Below.refl w3.heap.size w3).alloc (Nat.le_refl _) (.cells #[vL, .slice A n c] 25)
  have b35 : Below w3.heap.size w3 w5 := b4.trans (hb5.mono (by omega))
  have k4 : Box2 (w3.alloc (.cells #[vL, .slice A n c] 25)) w3.heap.size 25 vL (.slice A n c) := ⟨heap_alloc_new w3 _⟩
  have h3 := hb.size
  have h4 := h2.size
  rw [s4] at hO
  refine ⟨h2.trans ((hb.mono (by omega)).trans (b35.mono (by omega))), ⟨((b35.block _ (by omega)).trans (hb.block _ (by omega))).trans k2.at_⟩, k4.up hb5, hm, Kd.R_below hrL b35, ?_, hO⟩
  exact Kd.R_mono (Kd.R_below (Kd.R_bound hrT) b35) (fun k hk => ⟨hk.1, hk.2.2.1⟩)
end Go.Proofs.YtdjjlmphifgnnaaGreat
namespace Go.Proofs.YtdjjlmphifgnnaaGreat
open Go.Shelf Go.RowKit Go.Sort Go.Proofs.YtdjjlmphifgnnaaGreatW.PrintWords Go.Proofs.YtdjjlmphifgnnaaGreatW.PrintLast Go.Proofs.YtdjjlmphifgnnaaGreatW.PrintMore
open Stb (mrg Pre Sorted stb)
set_option linter.unusedVariables false
set_option linter.unusedSimpArgs false
attribute [local go_sem] run_store_float
theorem phi_ids {l : List Tsk} (hd : l.Pairwise fun a b => a.id ≠ b.id) (o : List Tsk) : (l.map (phi o)).Pairwise fun a b => a.id ≠ b.id := by
  rw [List.pairwise_map]
  exact hd.imp fun h => by rw [(phi_same o _).1, (phi_same o _).1]; exact h
set_option maxRecDepth 100000 in
set_option maxHeartbeats 8000000 in
theorem spread_calls (w : World) (LA TA : Option Addr) (lc tc : Nat) (ls : List Lst) (l : List Tsk) (list : Nat) (hL : kL.C w LA ls.length ls) (hT : kT.C w TA l.length l) (hM : Mild ls l) (hcl : canL ls = ls) (hct : canT l = l) (hd : l.Pairwise fun a b => a.id ≠ b.id) (h80 : l.length ≤ 80) :
    Calls Tryz.prog 7 #[.agg #[.slice LA ls.length lc, .slice TA l.length tc], .int .u64 (list : Int)] w fun e w' => ∃ A n c A' n' c', e = .returned (.agg #[.slice A n c, .slice A' n' c']) ∧ Kd.R kL 41 w' w.heap.size (fun k => w.heap.size ≤ k) (.slice A n c) ls ∧ Kd.R kT 36 w' w.heap.size (fun k => w.heap.size ≤ k) (.slice A' n' c') (sprP l list) ∧ Below w.heap.size w w' := by
  have HL := Aside0.mk hL
  have HT := Aside0.mk hT
  have HM := Aside0.mk hM
  have HCL := Aside0.mk hcl
  have HCT := Aside0.mk hct
  have HD := Aside0.mk hd
  have H80 := Aside0.mk h80
  have s1 : (w.alloc (.cells #[.slice LA ls.length lc, .slice TA l.length tc] 25)).heap.size = w.heap.size + 1 := Array.size_push _
  have s2 : ((w.alloc (.cells #[.slice LA ls.length lc, .slice TA l.length tc] 25)).alloc (.cells #[.slice none 0 0, .slice none 0 0] 25)).heap.size = w.heap.size + 1 + 1 := (Array.size_push _).trans (congrArg (· + 1) s1)
  have b1 := (Below.refl w.heap.size w).alloc (Nat.le_refl _) (.cells #[.slice LA ls.length lc, .slice TA l.length tc] 25)
  have b2 := (Below.refl (w.alloc (.cells #[.slice LA ls.length lc, .slice TA l.length tc] 25)).heap.size (w.alloc (.cells #[.slice LA ls.length lc, .slice TA l.length tc] 25))).alloc (Nat.le_refl _) (.cells #[.slice none 0 0, .slice none 0 0] 25)
  have k1 : Box2 (w.alloc (.cells #[.slice LA ls.length lc, .slice TA l.length tc] 25)) w.heap.size 25 (.slice LA ls.length lc) (.slice TA l.length tc) := ⟨heap_alloc_new w _⟩
  have k2 : Box2 ((w.alloc (.cells #[.slice LA ls.length lc, .slice TA l.length tc] 25)).alloc (.cells #[.slice none 0 0, .slice none 0 0] 25)) (w.heap.size + 1) 25 (.slice none 0 0) (.slice none 0 0) := ⟨by have h := heap_alloc_new (w.alloc (.cells #[.slice LA ls.length lc, .slice TA l.length tc] 25)) (.cells #[.slice none 0 0, .slice none 0 0] 25); rwa [s1] at h⟩
  obtain ⟨W2, hW2⟩ : ∃ W2, ((w.alloc (.cells #[.slice LA ls.length lc, .slice TA l.length tc] 25)).alloc (.cells #[.slice none 0 0, .slice none 0 0] 25)) = W2 := ⟨_, rfl⟩
  have HB2 := Aside0.mk (b1.trans (b2.mono b1.size))
  obtain ⟨⟨g0, g1⟩, gf⟩ := (k1.up b2).cells
  rw [hW2] at HB2 s2 k2
  have HCN := Aside0.mk (canon2_calls W2 LA TA lc tc ls l (Kd.C_below hL HB2.out) (Kd.C_below hT HB2.out) hM)
  rw [hcl, hct, s2] at HCN
  have HS2 := Aside0.mk s2
  have HK2 := Aside0.mk k2
  have HW2 := Aside0.mk hW2
  clear hL hT hM hcl hct hd h80 s1 s2 b1 b2 k1 k2 hW2
  go_enter Tryz.func7, Tryz.ntmps7
  go_wp2_with (first
    | (go_at_call 14; rw [HW2.out]; refine HCN.out.mono ?_; rintro e w3 ⟨A, n, c, A', n', c', M, rfl, hm, hrL, hrT, hb⟩; obtain ⟨hn, hcap, hCT⟩ := Kd.R_reads' hrT; subst hn; have HRL := Aside0.mk hrL; have HRT := Aside0.mk hrT; have HB3 := Aside0.mk hb; have HM3 := Aside0.mk hm; have HCT3 := Aside0.mk (Kd.C_below hCT ((Below.refl w3.heap.size w3).alloc (Nat.le_refl _) (.cells #[.slice A n c, .slice A' l.length c'] 25))); clear hrL hrT hb hm hcap hCT g0 g1 gf)
    | (go_at_call 8; have HOC := order_calls (w3.alloc (.cells #[.slice A n c, .slice A' l.length c'] 25)) A A' n c c' l list HCT3.out (by have := H80.out; omega) HM.out.ntags; refine Calls.mono HOC ?_; rintro e w5 ⟨Ao, no, co, rfl, hr, hb⟩; have HS := Aside0.mk (spr_start HB2.out HK2.out HS2.out HM3.out HRL.out HRT.out HB3.out hr hb); clear hr hb HOC))
  obtain ⟨O, hO⟩ : ∃ O, ordP l list = O := ⟨_, rfl⟩
  replace HS : Aside0 (SprI w ls l O w3.heap.size M (.slice A n c) A' l.length c' (.slice Ao no co) w5) := ⟨hO ▸ HS.out⟩
  have HO := Aside0.mk hO
  have hno := (Kd.R_reads' HS.out.rO).1
  subst hno
  have HOL := Aside0.mk (show O.length ≤ 80 from by rw [← hO]; exact Nat.le_trans (ordP_len l list) H80.out)
  have hol : (O.length : Int) ≤ 80 := by have := HOL.out; omega
  have hll : (l.length : Int) ≤ 80 := by have := H80.out; omega
  clear hO
  obtain ⟨B, hB⟩ : ∃ B, w3.heap.size = B := ⟨_, rfl⟩
  rw [hB] at HS ⊢
  clear hB
  go_loopg [6, 7, 8, 15] O.length (fun kq v6 v7 v8 v15 w' => ∃ i : Nat, v15 = .int .i64 (i : Int) ∧ Aside0 (i + kq = O.length) ∧ Aside0 (SprI w ls (l.map (phi (O.take i))) O B M (.slice A n c) A' l.length c' (.slice Ao O.length co) w'))
  case atStart => exact ⟨0, rfl, ⟨by omega⟩, by rw [List.take_zero, phi_nil]; exact HS⟩
  case round =>
    obtain ⟨i, rfl, HI, HC⟩ := hrel
    by_cases hi : i < O.length
    · have hi0 := HI.out
      have hOC := (Kd.R_reads' HC.out.rO).2.2
      obtain ⟨xs, hxs, hX, hF⟩ := rawT_of hOC
      have hxl : xs.length = O.length := by rw [← hxs, List.length_map]
      have hix : i < xs.length := by rw [hxl]; exact hi
      obtain ⟨x, hx⟩ : ∃ x, xs[i]? = some x := ⟨xs[i]'hix, List.getElem?_eq_getElem _⟩
      have hlx : O[i]? = some (deep x) := by rw [← hxs, List.getElem?_map, hx]; rfl
      obtain ⟨ad, e, y0, y1, y2, y3, y4, y5, y6⟩ := rawT_get hX hx
      subst e
      have hmem : deep x ∈ l := (ordP_mem.1 (show deep x ∈ ordP l list from by rw [HO.out]; exact List.mem_of_getElem? hlx)).1
      obtain ⟨j, hj, hjl⟩ := List.getElem_of_mem hmem
      have hlj : l[j]? = some (deep x) := by rw [List.getElem?_eq_getElem hj, hjl]
      have hTj : (l.map (phi (O.take i)))[j]? = some (phi (O.take i) (deep x)) := by rw [List.getElem?_map, hlj]; rfl
      have hidx := idxP_at (phi_ids HD.out (O.take i)) hTj
      rw [(phi_same (O.take i) (deep x)).1] at hidx
      have hnew : (l.map (phi (O.take i))).set j (rkT (phi (O.take i) (deep x)) (rkW (i + 1))) = l.map (phi (O.take (i + 1))) := by
        rw [← setR_set (phi_ids HD.out (O.take i)) hTj, (phi_same (O.take i) (deep x)).1]
        exact spr_step (by rw [← HO.out]; exact ordP_ids HD.out list) l hlx
      have hrk : (rkW (i + 1)).b = floatOfInt .f64 ((i : Int) + 1) := (rk_facts (i := i) (by have := HOL.out; omega)).1
      have HNEW := Aside0.mk hnew
      have HTJ := Aside0.mk hTj
      have HIDX := Aside0.mk hidx
      have HRK := Aside0.mk hrk
      obtain ⟨id, li, ti, dn, rk, es, ⟨⟨At, nt, ct⟩, tg⟩⟩ := x
      simp only [Sl.v] at y0 y1 y2 y3 y4 y5 y6
      have hiz : (i : Int) < (O.length : Int) := by omega
      have hjz : (j : Int) < (l.length : Int) := by omega
      have hb1 := (Below.refl wr.heap.size wr).alloc (Nat.le_refl _) (.cells #[.int .u64 (id : Int), .int .u64 (li : Int), .string ti, .bool dn, .float .f64 rk.b, .float .f64 es.b, .slice At nt ct] 36)
      have HC1 := Aside0.mk (HC.out.up hb1)
      obtain ⟨⟨q0, q1⟩, qf⟩ := HC1.out.out.cells
      have hTC := (Kd.R_reads' HC1.out.rT).2.2
      have hTl : (l.map (phi (O.take i))).length = l.length := List.length_map ..
      have HTC := Aside0.mk (show kT.C (wr.alloc (.cells #[.int .u64 (id : Int), .int .u64 (li : Int), .string ti, .bool dn, .float .f64 rk.b, .float .f64 es.b, .slice At nt ct] 36)) A' (l.map (phi (O.take i))).length (l.map (phi (O.take i))) from hTC)
      have HTL := Aside0.mk hTl
      obtain ⟨gq, rfl⟩ : ∃ gq, gk = gq + 1 := ⟨gk - 1, by omega⟩
      clear hOC hxs hX hF hxl hix hx hlx hmem hjl hlj hTj hidx hnew hrk hb1 hTC hTl
      go_wp2_with (first
        | (go_at_call 15; have HPL := place_calls2 (wr.alloc (.cells #[.int .u64 (id : Int), .int .u64 (li : Int), .string ti, .bool dn, .float .f64 rk.b, .float .f64 es.b, .slice At nt ct] 36)) A' c' (l.map (phi (O.take i))) id HTC.out (by rw [HTL.out]; have := H80.out; omega); rw [HTL.out, show idxP (fun x : Tsk => x.id == id) (l.map (phi (O.take i))) 0 = (j : Int) from HIDX.out] at HPL; refine Calls.mono HPL ?_; rintro e w6 ⟨rfl, hb⟩; have HC2 := Aside0.mk (HC1.out.up hb); obtain ⟨g, hA, hgB, hf, ⟨u, hc⟩, h3⟩ := HC2.out.put HTJ.out (rkW (i + 1)); rw [HNEW.out] at h3; subst hA; have HC3 := Aside0.mk h3; clear h3 hb q0 q1 qf HPL; obtain ⟨⟨q0, q1⟩, qf⟩ := HC2.out.out.cells))
      go_roundg gq
      case rel => exact ⟨i + 1, by go_num, ⟨by omega⟩, by rw [← HRK.out]; exact HC3⟩
      case measure => omega
    · obtain rfl : i = O.length := by have := HI.out; omega
      have hz : ¬ (((O.length : Nat) : Int) < (O.length : Int)) := by omega
      rw [List.take_length, ← HO.out, ← sprP_eq HD.out list, HO.out] at HC
      obtain ⟨⟨q0, q1⟩, qf⟩ := HC.out.out.cells
      obtain ⟨⟨r0, r1⟩, rf⟩ := HC.out.res.cells
      go_wp2
      (try simp only [Exit.inBlock, Exit.then])
      have hM := HC.out.hM
      have hres : Box2 ((wr.setCell ⟨w.heap.size + 1, 0, none⟩ (.slice A n c)).setCell ⟨w.heap.size + 1, 1, none⟩ (.slice A' l.length c')) (w.heap.size + 1) 25 (.slice A n c) (.slice A' l.length c') := (HC.out.res.set0 _).set1 _
      obtain ⟨⟨s0, s1⟩, sf⟩ := hres.cells
      refine bodyPost_ret (v := .agg #[.slice A n c, .slice A' l.length c']) ?_ rfl ?_
      · rw [results_one rfl]
        go_simp
      · have hmv : ∀ k, w.heap.size + 1 + 1 ≤ k → ((wr.setCell ⟨w.heap.size + 1, 0, none⟩ (.slice A n c)).setCell ⟨w.heap.size + 1, 1, none⟩ (.slice A' l.length c')).heap[k]? = wr.heap[k]? := fun k hk => by rw [heap_setCell_ne _ _ _ _ (by omega), heap_setCell_ne _ _ _ _ (by omega)]
        refine ⟨A, n, c, A', l.length, c', rfl, ?_, ?_, (HC.out.low.trans (below_setCell _ _ _ (by omega))).trans (below_setCell _ _ _ (by omega))⟩
        · exact Kd.R_mono (Kd.R_move (Kd.R_lower HC.out.rL (by omega)) fun k hk => hmv k (by omega)) (fun k hk => by omega)
        · exact Kd.R_mono (Kd.R_move (Kd.R_lower HC.out.rT (by omega)) fun k hk => hmv k (by omega)) (fun k hk => by omega)
end Go.Proofs.YtdjjlmphifgnnaaGreat
namespace Go.Proofs.YtdjjlmphifgnnaaGreat
open Go.Shelf Go.RowKit Go.Sort
open Stb (mrg Pre Sorted stb)
open Flt (nanP canP keyP midP)
set_option linter.unusedVariables false
set_option linter.unusedSimpArgs false
theorem lists_ids : ∀ (l : List Lst) (a : Nat), listsP a l = 0 → l.Pairwise (fun x y => x.id < y.id) ∧ ∀ x ∈ l, a < x.id
  | [], _, _ => ⟨.nil, fun x hx => by cases hx⟩
  | y :: l, a, h => by
    have e : listsP a (y :: l) = if y.id ≤ a then 91 else if titleP y.name = false then 94 else listsP y.id l := rfl
    rw [e] at h
    split at h
    · cases h
    · split at h
      · cases h
      · obtain ⟨h3, h4⟩ := lists_ids l _ h
        refine ⟨List.pairwise_cons.2 ⟨fun z hz => h4 z hz, h3⟩, fun z hz => ?_⟩
        rcases List.mem_cons.1 hz with rfl | hz
        · omega
        · have := h4 z hz; omega
theorem canL_right {ls : List Lst} (h : listsP 0 ls = 0) : canL ls = ls := canK_id Lst.id ls (lists_ids ls 0 h).1
theorem lt_of_ltS {a b : ByteArray} (h : ltS a b = true) : toL a < toL b := by
  unfold ltS at h
  rw [bytesLess_eq] at h
  have h2 := of_decide_eq_true h
  rwa [ByteArray.toList_eq, ByteArray.toList_eq] at h2
theorem tgGo_pw : ∀ (l : List ByteArray) (p : Option ByteArray), tgGo p l = true → (l.map toL).Pairwise (fun x y => x < y) ∧ ∀ q, p = some q → ∀ x ∈ l, toL q < toL x
  | [], _, _ => ⟨.nil, fun q _ x hx => by cases hx⟩
  | t :: r, p, h => by
    have e : ∀ p', tgGo p' (t :: r) = (tagP t && (match p' with | none => true | some q => ltS q t) && tgGo (some t) r) := fun _ => rfl
    rw [e] at h
    simp only [Bool.and_eq_true] at h
    obtain ⟨⟨_, h1⟩, h2⟩ := h
    obtain ⟨h3, h4⟩ := tgGo_pw r (some t) h2
    have h5 := h4 t rfl
    refine ⟨?_, fun q hq x hx => ?_⟩
    · rw [List.map_cons]
      refine List.pairwise_cons.2 ⟨fun z hz => ?_, h3⟩
      obtain ⟨x, hx, rfl⟩ := List.mem_map.1 hz
      exact h5 x hx
    · subst hq
      have h6 := lt_of_ltS h1
      rcases List.mem_cons.1 hx with rfl | hx
      · exact h6
      · exact List.lt_trans h6 (h5 x hx)
theorem map_ofL (l : List ByteArray) : (l.map toL).map ofL = l := by
  rw [List.map_map]
  conv => rhs; rw [← List.map_id l]
  exact List.map_congr_left fun x _ => ofL_toL x
theorem sortS_id {l : List ByteArray} (h : (l.map toL).Pairwise (fun x y => x < y)) : sortS l = l := by
  unfold sortS
  rw [List.mergeSort_of_pairwise (h.imp fun h => decide_eq_true (List.le_of_lt h)), map_ofL]
theorem compS_id {l : List ByteArray} (h : (l.map toL).Pairwise (fun x y => x < y)) : compS l = l := by
  unfold compS
  have e : Lib.compact (l.map toL) = l.map toL := by
    unfold Lib.compact Lib.compactUpTo
    rw [List.filter_eq_self.2 ?_]
    · refine List.ext_getElem? fun i => ?_
      rw [List.getElem?_map]
      by_cases hi : i < (l.map toL).length
      · rw [List.getElem?_range hi]
        simp [getElem!_pos, hi, List.getElem?_eq_getElem hi]
        simp at hi
        simp [hi]
      · rw [List.getElem?_eq_none (by simp at hi ⊢; omega), List.getElem?_eq_none (by omega)]
        rfl
    · intro i hi
      have hi := List.mem_range.1 hi
      unfold Lib.keeps
      refine decide_eq_true ?_
      by_cases h0 : i = 0
      · exact .inl h0
      · refine .inr fun he => ?_
        have h1 := List.pairwise_iff_getElem.1 h (i - 1) i (by omega) hi (by omega)
        rw [getElem!_pos (l.map toL).toArray i (by simpa using hi), getElem!_pos (l.map toL).toArray (i - 1) (by simp at hi ⊢; omega)] at he
        simp only [List.getElem_toArray] at he
        rw [he] at h1
        exact List.lt_irrefl _ h1
  rw [e, map_ofL]
theorem canW_id {r : W64} (h : cnP r.b = true) : canW r = r := by
  cases r
  unfold canW
  unfold cnP at h
  simp only [beq_iff_eq] at h
  simp only [h]
theorem ownT_id {ls : List Lst} {x : Tsk} (h : oneP ls x = 0) : ownT x = x := by
  unfold oneP at h
  split at h
  · cases h
  · split at h
    · cases h
    · split at h
      · cases h
      · split at h
        · cases h
        · next h1 =>
          split at h
          · cases h
          · next h2 =>
            unfold tagsP at h
            split at h
            · cases h
            · split at h
              · next h3 =>
                have hp := (tgGo_pw x.tags none h3).1
                unfold ownT canS
                rw [sortS_id hp, compS_id hp, canW_id (by simpa using h1), canW_id (by simpa using h2)]
              · cases h
theorem canT_right {ls : List Lst} {l : List Tsk} (h : tasksP ls 0 l = 0) : canT l = l := by
  obtain ⟨h1, h2⟩ := tasks_ids l 0 h
  unfold canT
  have e := canK_id Tk.id l h1
  rw [ddp_id Tk.id l (h1.imp fun h => by omega)]
  rw [show l.map ownT = l from by
    conv => rhs; rw [← List.map_id l]
    exact List.map_congr_left fun x hx => ownT_id (h2 x hx).2]
  unfold canK at e
  rwa [ddp_id Tk.id l (h1.imp fun h => by omega)] at e
end Go.Proofs.YtdjjlmphifgnnaaGreat
