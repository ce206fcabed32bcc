/- Parts of one proof, joined: Zq, Zr, Zs, Ro, Shk, Zt, Zu, Zv, Zw, Zx, Zy. Conditions: those of each statement. -/
import Derived.Test.YtlepcmljmibdnaaGreatZh10
import Derived.Shelf.SlMaps.Clone
import Derived.RangeFuncNested
import Derived.RangeFuncLeaves
import Derived.WalkKit
import Derived.Shelf.SlIter.Nil
import Derived.Shelf.SortM.Plain
import Derived.Shelf.SortM.SortNone
import Derived.Shelf.SlGeneric
import Derived.Ground.GgzProg
import Derived.Ground.SlgmProg
import Derived.Test.YtlepcmljmibdnaaGreatChecked
import Derived.Test.YtlepcmljmibdnaaGreatZh6
import Derived.Sort.KeysCollected
import Derived.RangeFuncBox
namespace Go.Proofs.YtlepcmljmibdnaaGreat
open Go.RowKit Go.Proofs.YtlepcmljmibdnaaGreatW.PrintWords Go.Proofs.YtlepcmljmibdnaaGreatW.PrintLast Go.Proofs.YtlepcmljmibdnaaGreatW.PrintMore PWalOpens
open PStoreRecords (S66 k66)
set_option linter.unusedVariables false
set_option linter.unusedSimpArgs false
/-! ### plain -/
abbrev KLt (a b : ByteArray) : Prop := a.data.toList < b.data.toList
theorem klt_tri (a b : ByteArray) : KLt a b ∨ a = b ∨ KLt b a := by
  by_cases h : a.data.toList < b.data.toList
  · exact .inl h
  · by_cases k : b.data.toList < a.data.toList
    · exact .inr (.inr k)
    · refine .inr (.inl ?_)
      have e := List.le_antisymm (List.not_lt.1 k) (List.not_lt.1 h)
      cases a; cases b
      simp only at e
      have := Array.toList_inj.1 e
      rw [this]
theorem klt_irrefl (a : ByteArray) : ¬ KLt a a := List.lt_irrefl _
theorem klt_trans {a b c : ByteArray} (h : KLt a b) (k : KLt b c) : KLt a c := List.lt_trans h k
theorem klt_asymm {a b : ByteArray} (h : KLt a b) : ¬ KLt b a := fun k => klt_irrefl _ (klt_trans h k)
theorem klt_ne {a b : ByteArray} (h : KLt a b) : a ≠ b := fun e => klt_irrefl b (e ▸ h)
def kvP (k : ByteArray) (b : List Int) : S66 := ⟨k, b, false⟩
structure SL (L : List S66) : Prop where
  pw : L.Pairwise fun a b => KLt a.f0 b.f0
  here : ∀ p ∈ L, p.f2 = false
instance (a b : ByteArray) : Decidable (KLt a b) := inferInstanceAs (Decidable (a.data.toList < b.data.toList))
def insK (q : S66) : List S66 → List S66
  | [] => [kvP q.f0 q.f1]
  | x :: l => if KLt q.f0 x.f0 then kvP q.f0 q.f1 :: x :: l else if x.f0 = q.f0 then kvP q.f0 q.f1 :: l else x :: insK q l
def delK (k : ByteArray) (L : List S66) : List S66 := L.filter fun p => decide (p.f0 ≠ k)
def hap1 (L : List S66) (p : S66) : List S66 := if p.f2 then delK p.f0 L else insK p L
def hapL (L : List S66) (ps : List S66) : List S66 := ps.foldl hap1 L
def lkL (L : List S66) (k : ByteArray) : Option S66 := L.find? fun p => decide (p.f0 = k)
theorem SL.nil : SL [] := ⟨.nil, fun _ h => by cases h⟩
theorem SL.uniq {L : List S66} (h : SL L) {p q : S66} (hp : p ∈ L) (hq : q ∈ L) (e : p.f0 = q.f0) : p = q := by
  have hw := h.pw
  clear h
  induction L with
  | nil => cases hp
  | cons x l ih =>
    rw [List.pairwise_cons] at hw
    rcases List.mem_cons.1 hp with hp | hp <;> rcases List.mem_cons.1 hq with hq | hq
    · rw [hp, hq]
    · rw [hp] at e; exact absurd e (klt_ne (hw.1 _ hq))
    · rw [hq] at e; exact absurd e.symm (klt_ne (hw.1 _ hp))
    · exact ih hp hq hw.2
theorem mem_insK_ {L : List S66} (hw : L.Pairwise fun a b => KLt a.f0 b.f0) (q p : S66) : p ∈ insK q L ↔ p = kvP q.f0 q.f1 ∨ (p ∈ L ∧ p.f0 ≠ q.f0) := by
  induction L with
  | nil => simp [insK]
  | cons x l ih =>
    rw [List.pairwise_cons] at hw
    unfold insK
    split
    · rename_i hlt
      constructor
      · intro hp
        rcases List.mem_cons.1 hp with rfl | hp
        · exact .inl rfl
        · refine .inr ⟨hp, ?_⟩
          rcases List.mem_cons.1 hp with rfl | hp
          · exact (klt_ne hlt).symm
          · exact (klt_ne (klt_trans hlt (hw.1 p hp))).symm
      · rintro (rfl | ⟨hp, _⟩)
        · exact List.mem_cons_self ..
        · exact List.mem_cons_of_mem _ hp
    · rename_i hlt
      split
      · rename_i he
        constructor
        · intro hp
          rcases List.mem_cons.1 hp with rfl | hp
          · exact .inl rfl
          · exact .inr ⟨List.mem_cons_of_mem _ hp, fun e => klt_irrefl x.f0 (by have := hw.1 p hp; rwa [e, ← he] at this)⟩
        · rintro (rfl | ⟨hp, hne⟩)
          · exact List.mem_cons_self ..
          · rcases List.mem_cons.1 hp with rfl | hp
            · exact absurd he hne
            · exact List.mem_cons_of_mem _ hp
      · rename_i he
        rw [List.mem_cons, ih hw.2]
        constructor
        · rintro (rfl | h | ⟨h, hne⟩)
          · exact .inr ⟨List.mem_cons_self .., he⟩
          · exact .inl h
          · exact .inr ⟨List.mem_cons_of_mem _ h, hne⟩
        · rintro (h | ⟨h, hne⟩)
          · exact .inr (.inl h)
          · rcases List.mem_cons.1 h with rfl | h
            · exact .inl rfl
            · exact .inr (.inr ⟨h, hne⟩)
theorem mem_insK {L : List S66} (h : SL L) (q p : S66) : p ∈ insK q L ↔ p = kvP q.f0 q.f1 ∨ (p ∈ L ∧ p.f0 ≠ q.f0) := mem_insK_ h.pw q p
theorem SL.ins {L : List S66} (h : SL L) (q : S66) : SL (insK q L) := by
  refine ⟨?_, fun p hp => ?_⟩
  · have hh := h
    obtain ⟨hw, hf⟩ := h
    clear hf
    induction L with
    | nil => simp [insK]
    | cons x l ih =>
      have hl : SL l := ⟨(List.pairwise_cons.1 hw).2, fun p hp => hh.here p (List.mem_cons_of_mem _ hp)⟩
      rw [List.pairwise_cons] at hw
      unfold insK
      split
      · rename_i hlt
        refine List.pairwise_cons.2 ⟨fun p hp => ?_, List.pairwise_cons.2 hw⟩
        rcases List.mem_cons.1 hp with rfl | hp
        · exact hlt
        · exact klt_trans hlt (hw.1 p hp)
      · split
        · rename_i he
          refine List.pairwise_cons.2 ⟨fun p hp => ?_, hw.2⟩
          show KLt q.f0 p.f0
          rw [← he]; exact hw.1 p hp
        · rename_i hlt he
          refine List.pairwise_cons.2 ⟨fun p hp => ?_, ih hl hw.2⟩
          rcases (mem_insK hl q p).1 hp with rfl | ⟨hp, _⟩
          · rcases klt_tri q.f0 x.f0 with h | h | h
            · exact absurd h hlt
            · exact absurd h.symm he
            · exact h
          · exact hw.1 p hp
  · rcases (mem_insK h q p).1 hp with rfl | ⟨hp, _⟩
    · rfl
    · exact h.here p hp
theorem SL.del {L : List S66} (h : SL L) (k : ByteArray) : SL (delK k L) :=
  ⟨h.pw.filter _, fun p hp => h.here p ((List.mem_filter.1 hp).1)⟩
theorem mem_delK {L : List S66} {k : ByteArray} {p : S66} : p ∈ delK k L ↔ p ∈ L ∧ p.f0 ≠ k := by
  unfold delK
  rw [List.mem_filter, decide_eq_true_eq]
theorem SL.hap1 {L : List S66} (h : SL L) (p : S66) : SL (hap1 L p) := by
  unfold Proofs.YtlepcmljmibdnaaGreat.hap1
  split
  · exact h.del _
  · exact h.ins _
theorem SL.hapL {L : List S66} (h : SL L) (ps : List S66) : SL (hapL L ps) := by
  induction ps generalizing L with
  | nil => exact h
  | cons p ps ih => exact ih (h.hap1 p)
theorem insK_length (q : S66) (L : List S66) : (insK q L).length ≤ L.length + 1 := by
  induction L with
  | nil => simp [insK]
  | cons x l ih =>
    unfold insK
    by_cases h1 : KLt q.f0 x.f0
    · simp [h1]
    · by_cases h2 : x.f0 = q.f0
      · rw [if_neg h1, if_pos h2]
        simp
      · rw [if_neg h1, if_neg h2]
        simp
        omega
theorem hap1_length (L : List S66) (p : S66) : (hap1 L p).length ≤ L.length + 1 := by
  unfold hap1
  split
  · unfold delK; have := List.length_filter_le (fun q : S66 => decide (q.f0 ≠ p.f0)) L; omega
  · exact insK_length _ _
theorem hapL_length (L ps : List S66) : (hapL L ps).length ≤ L.length + ps.length := by
  induction ps generalizing L with
  | nil => exact Nat.le_refl _
  | cons p ps ih => have h1 := ih (hap1 L p); have h2 := hap1_length L p; show (hapL (hap1 L p) ps).length ≤ _; simp; omega
/-! ### in memory -/
/-- bytes in memory of one's own -/
def BV (w : World) (base : Nat) (u : Value) (b : List Int) : Prop := ∃ A c, u = .slice A b.length c ∧ b.length ≤ c ∧ Kd.R (Kd.int .u8) 5 w base (fun _ => True) (.slice A b.length c) b
theorem BV.below {w w' : World} {base : Nat} {u : Value} {b : List Int} (h : BV w base u b) (hb : Below w.heap.size w w') : BV w' base u b := by
  obtain ⟨A, c, e, hc, h⟩ := h
  exact ⟨A, c, e, hc, Kd.R_below h hb⟩
theorem q5s : ∀ q, q ∈ 5 :: (Kd.int .u8).E → q = 5 := by
  intro q hq
  rw [show 5 :: (Kd.int .u8).E = [5] from rfl] at hq
  simpa using hq
theorem BV.chg {w w' : World} {base : Nat} {u : Value} {b : List Int} {S : Nat → Prop} (h : BV w base u b) (hc : Chg w w' S) (hs : ∀ k, S k → k < w.heap.size → ∀ cells, w.heap[k]? ≠ some (.cells cells 5 (0, 0))) : BV w' base u b := by
  obtain ⟨A, c, e, hcap, h⟩ := h
  refine ⟨A, c, e, hcap, Kd.R_mono (Kd.R_move (Kd.R_bound h) fun k hk => ?_) (fun _ hk => hk.1)⟩
  obtain ⟨_, _, hlt, q, hq, cells, hce⟩ := hk
  obtain rfl := q5s q hq
  exact hc.block k hlt fun hS => hs k hS hlt cells hce
theorem BV.tc {w w' : World} {base base' : Nat} {u : Value} {b : List Int} {T : Nat → Obj → Prop} (h : BV w base u b) (hc : TC base' T w w') (ht : ∀ k cells, ¬ T k (.cells cells 5 (0, 0))) : BV w' base u b := by
  obtain ⟨A, c, e, hcap, h⟩ := h
  exact ⟨A, c, e, hcap, R_tc h hc (fun q hq k cells => by obtain rfl := q5s q hq; exact ht k cells)⟩
/-- block M of w is a map with the puts L -/
def MapV (w : World) (base M : Nat) (L : List S66) : Prop :=
  base ≤ M ∧ SL L ∧ ∃ es cl, w.heap[M]? = some (.map es cl) ∧ MapKept.Stamped es cl ∧ (es.toList.map (·.key)).Perm (L.map fun p => Value.string p.f0) ∧ ∀ x ∈ es.toList, ∀ p ∈ L, x.key = .string p.f0 → BV w base x.val p.f1
theorem MapV.lt {w : World} {base M : Nat} {L : List S66} (h : MapV w base M L) : M < w.heap.size := by
  obtain ⟨_, _, es, cl, hb, _⟩ := h
  exact (Array.getElem?_eq_some_iff.1 hb).1
theorem MapV.below {w w' : World} {base M : Nat} {L : List S66} (h : MapV w base M L) (hb : Below w.heap.size w w') : MapV w' base M L := by
  have hlt := h.lt
  obtain ⟨h0, hL, es, cl, hbk, hst, hp, hv⟩ := h
  exact ⟨h0, hL, es, cl, (hb.block M hlt).trans hbk, hst, hp, fun x hx p hp e => (hv x hx p hp e).below hb⟩
theorem MapV.tc {w w' : World} {base base' M : Nat} {L : List S66} {T : Nat → Obj → Prop} (h : MapV w base M L) (hc : TC base' T w w') (hM : ∀ es cl, ¬ T M (.map es cl)) (ht : ∀ k cells, ¬ T k (.cells cells 5 (0, 0))) : MapV w' base M L := by
  obtain ⟨h0, hL, es, cl, hbk, hst, hp, hv⟩ := h
  exact ⟨h0, hL, es, cl, hc.blk M _ hbk (hM _ _), hst, hp, fun x hx p hp e => (hv x hx p hp e).tc hc ht⟩
section
variable {w w' : World} {base M : Nat} {L : List S66}
theorem mapV_keys {es : Array MapEntry} (hp : (es.toList.map (·.key)).Perm (L.map fun p => Value.string p.f0)) {x : MapEntry} (hx : x ∈ es.toList) : ∃ p ∈ L, x.key = .string p.f0 := by
  have h : x.key ∈ L.map fun p => Value.string p.f0 := hp.mem_iff.1 (List.mem_map.2 ⟨x, hx, rfl⟩)
  obtain ⟨p, hp, e⟩ := List.mem_map.1 h
  exact ⟨p, hp, e.symm⟩
theorem mapV_at {es : Array MapEntry} (hp : (es.toList.map (·.key)).Perm (L.map fun p => Value.string p.f0)) {p : S66} (h : p ∈ L) : ∃ x ∈ es.toList, x.key = .string p.f0 := by
  have h : Value.string p.f0 ∈ es.toList.map (·.key) := hp.mem_iff.2 (List.mem_map.2 ⟨p, h, rfl⟩)
  obtain ⟨x, hx, e⟩ := List.mem_map.1 h
  exact ⟨x, hx, e⟩
theorem SL.knodup (h : SL L) : (L.map fun p => Value.string p.f0).Nodup := by
  rw [List.nodup_iff_pairwise_ne, List.pairwise_map]
  exact h.pw.imp fun hlt e => klt_ne hlt (Value.string.inj e)
open Classical in
/-- what the entries say -/
noncomputable def entF (es : Array MapEntry) (v : Value) : Option Value := (es.toList.find? fun x => decide (x.key = v)).map (·.val)
theorem rep_of {es : Array MapEntry} (hL : SL L) (hp : (es.toList.map (·.key)).Perm (L.map fun p => Value.string p.f0)) : Mp.Rep .string es (entF es) := by
  classical
  have hn : (es.toList.map (·.key)).Nodup := hp.nodup_iff.2 hL.knodup
  refine ⟨fun x hx => ?_, hn, fun x hx => ?_, fun k v hv => ?_⟩
  · obtain ⟨p, _, e⟩ := mapV_keys hp hx
    rw [e]; trivial
  · unfold entF
    cases hf : es.toList.find? fun y => decide (y.key = x.key) with
    | none =>
      have := List.find?_eq_none.1 hf x hx
      simp at this
    | some y =>
      have h1 := List.find?_some hf
      have h2 := List.mem_of_find?_eq_some hf
      simp only [decide_eq_true_eq] at h1
      obtain ⟨i, hi⟩ := List.mem_iff_getElem?.1 hx
      obtain ⟨j, hj⟩ := List.mem_iff_getElem?.1 h2
      have e1 : (es.toList.map (·.key))[i]? = some x.key := by rw [List.getElem?_map, hi]; rfl
      have e2 : (es.toList.map (·.key))[j]? = some x.key := by rw [List.getElem?_map, hj]; simp [h1]
      have := Mp.nodup_at hn e1 e2
      subst this
      rw [hi] at hj
      cases hj
      rfl
  · unfold entF at hv
    cases hf : es.toList.find? fun y => decide (y.key = k) with
    | none => rw [hf] at hv; cases hv
    | some y =>
      have h1 := List.find?_some hf
      simp only [decide_eq_true_eq] at h1
      exact ⟨y, List.mem_of_find?_eq_some hf, h1⟩
/-- from what the entries say to the list -/
theorem mapV_mk (h0 : base ≤ M) (hL : SL L) {es : Array MapEntry} {cl : Nat} {f : Value → Option Value} (hb : w.heap[M]? = some (.map es cl)) (hst : MapKept.Stamped es cl) (hr : Mp.Rep .string es f) (h1 : ∀ p ∈ L, ∃ u, f (.string p.f0) = some u ∧ BV w base u p.f1) (h2 : ∀ v u, f v = some u → ∃ p ∈ L, v = .string p.f0) : MapV w base M L := by
  refine ⟨h0, hL, es, cl, hb, hst, (List.perm_ext_iff_of_nodup hr.nodup hL.knodup).2 fun v => ?_, fun x hx p hp e => ?_⟩
  · constructor
    · intro hv
      obtain ⟨x, hx, rfl⟩ := List.mem_map.1 hv
      obtain ⟨p, hp, e⟩ := h2 _ _ (hr.to_ x hx)
      exact List.mem_map.2 ⟨p, hp, e.symm⟩
    · intro hv
      obtain ⟨p, hp, rfl⟩ := List.mem_map.1 hv
      obtain ⟨u, hu, _⟩ := h1 p hp
      obtain ⟨x, hx, e⟩ := hr.of_ _ _ hu
      exact List.mem_map.2 ⟨x, hx, e⟩
  · obtain ⟨u, hu, hB⟩ := h1 p hp
    have := hr.to_ x hx
    rw [e, hu] at this
    cases this
    exact hB
theorem MapV.parts (h : MapV w base M L) : base ≤ M ∧ SL L ∧ ∃ es cl f, w.heap[M]? = some (.map es cl) ∧ MapKept.Stamped es cl ∧ Mp.Rep .string es f ∧ (∀ p ∈ L, ∃ u, f (.string p.f0) = some u ∧ BV w base u p.f1) ∧ (∀ v u, f v = some u → ∃ p ∈ L, v = .string p.f0) := by
  obtain ⟨h0, hL, es, cl, hb, hst, hp, hv⟩ := h
  have hr := rep_of hL hp
  refine ⟨h0, hL, es, cl, entF es, hb, hst, hr, fun p hpL => ?_, fun v u hu => ?_⟩
  · obtain ⟨x, hx, e⟩ := mapV_at hp hpL
    exact ⟨x.val, by rw [← e]; exact hr.to_ x hx, hv x hx p hpL e⟩
  · obtain ⟨x, hx, rfl⟩ := hr.of_ v u hu
    exact mapV_keys hp hx
theorem turned_chg {w w' : World} {r : Nat} (h : Mp.Turned w w' r) : Chg w w' (fun k => k = r) := .turned h rfl
theorem mapV_map {w : World} {es : Array MapEntry} {cl : Nat} (hb : w.heap[M]? = some (.map es cl)) : ∀ k, k = M → k < w.heap.size → ∀ cells, w.heap[k]? ≠ some (.cells cells 5 (0, 0)) := by
  intro k hk _ cells h
  subst hk
  rw [hb] at h
  cases h
/-- s.vals[k] = v -/
theorem MapV.upd {p : S66} {u : Value} (h : MapV w base M L) (hu : BV w base u p.f1) :
    ∃ w', (Instr.mapUpdate 146 (.map (some M)) (.string p.f0) u).run Tryz.prog w = .ok () w' ∧ Chg w w' (fun k => k = M) ∧ MapV w' base M (insK p L) := by
  obtain ⟨h0, hL, es, cl, f, hb, hst, hr, h1, h2⟩ := h.parts
  have hkey : MapKept.IsKey .string (.string p.f0) := trivial
  obtain ⟨w', hrun, htu, es', cl', hb', hr'⟩ := Mp.run_update (P := Tryz.prog) (t := 146) (kt := 9) (et := 58) (d := .string) ⟨es, cl, hb, hr⟩ Tryz.underlying146 Tryz.underlying9 hkey u
  obtain ⟨es2, cl2, hb2, hst2, _⟩ := MapKept.mapUpdate_keeps Tryz.underlying146 Tryz.underlying9 hb hst hr.isK hkey hrun
  rw [hb'] at hb2
  cases hb2
  have hc := turned_chg htu
  have hmv := mapV_map hb
  refine ⟨w', hrun, hc, mapV_mk h0 (hL.ins p) hb' hst2 hr' (fun q hq => ?_) (fun v x hx => ?_)⟩
  · rcases (mem_insK hL p q).1 hq with rfl | ⟨hq, hne⟩
    · exact ⟨u, Mp.upd_at _ _ _, hu.chg hc hmv⟩
    · obtain ⟨x, hx, hB⟩ := h1 q hq
      exact ⟨x, by rw [Mp.upd_ne _ _ (fun e => hne (Value.string.inj e))]; exact hx, hB.chg hc hmv⟩
  · by_cases e : v = .string p.f0
    · exact ⟨kvP p.f0 p.f1, (mem_insK hL p _).2 (.inl rfl), e⟩
    · rw [Mp.upd_ne _ _ e] at hx
      obtain ⟨q, hq, rfl⟩ := h2 v x hx
      exact ⟨q, (mem_insK hL p q).2 (.inr ⟨hq, fun e2 => e (by rw [e2])⟩), rfl⟩
/-- delete(s.vals, k) -/
theorem MapV.del {k : ByteArray} {ty : TypeId} (h : MapV w base M L) :
    ∃ w', (Builtin.delete_ #[146, 9] ty #[.map (some M), .string k]).run Tryz.prog w = .ok (.tuple #[]) w' ∧ Chg w w' (fun k => k = M) ∧ MapV w' base M (delK k L) := by
  obtain ⟨h0, hL, es, cl, f, hb, hst, hr, h1, h2⟩ := h.parts
  have hkey : MapKept.IsKey .string (.string k) := trivial
  obtain ⟨w', hrun, htu, es', cl', hb', hr'⟩ := Mp.run_delete (P := Tryz.prog) (t := 146) (kt := 9) (et := 58) (d := .string) (ty := ty) ⟨es, cl, hb, hr⟩ Tryz.underlying146 Tryz.underlying9 hkey
  obtain ⟨es2, cl2, hb2, hst2, _⟩ := MapKept.delete_keeps Tryz.underlying146 Tryz.underlying9 hb hst hr.isK hkey hrun
  rw [hb'] at hb2
  cases hb2
  have hc := turned_chg htu
  have hmv := mapV_map hb
  refine ⟨w', hrun, hc, mapV_mk h0 (hL.del k) hb' hst2 hr' (fun q hq => ?_) (fun v x hx => ?_)⟩
  · obtain ⟨hq, hne⟩ := mem_delK.1 hq
    obtain ⟨x, hx, hB⟩ := h1 q hq
    exact ⟨x, by rw [Mp.del_ne _ (fun e => hne (Value.string.inj e))]; exact hx, hB.chg hc hmv⟩
  · by_cases e : v = .string k
    · subst e; rw [Mp.del_at] at hx; cases hx
    · rw [Mp.del_ne _ e] at hx
      obtain ⟨q, hq, rfl⟩ := h2 v x hx
      exact ⟨q, mem_delK.2 ⟨hq, fun e2 => e (by rw [e2])⟩, rfl⟩
/-- clear(s.vals) -/
theorem MapV.clear {ty : TypeId} (h : MapV w base M L) :
    ∃ w', (Builtin.clear_ #[146] ty #[.map (some M)]).run Tryz.prog w = .ok (.tuple #[]) w' ∧ Chg w w' (fun k => k = M) ∧ MapV w' base M [] := by
  obtain ⟨h0, hL, es, cl, f, hb, hst, hr, h1, h2⟩ := h.parts
  obtain ⟨w', hrun, htu, c2, hb'⟩ : ∃ w', (Builtin.clear_ #[146] ty #[.map (some M)]).run Tryz.prog w = .ok (.tuple #[]) w' ∧ Mp.Turned w w' M ∧ ∃ c2, w'.heap[M]? = some (.map #[] c2) :=
    ⟨_, by simp [Builtin.clear_, run_underlying Tryz.underlying146, MapKept.run_getObj_map hb, MapKept.run_setObj_map _ hb, Result.andThen]; try rfl, Mp.turned_set _, _, (MapKept.heap_set hb).1⟩
  exact ⟨w', hrun, turned_chg htu, h0, .nil, #[], c2, hb', MapKept.stamped_empty _, .nil, fun x hx => by cases hx⟩
/-- s.vals[k] -/
theorem MapV.look (h : MapV w base M L) (k : ByteArray) :
    (∃ p u, p ∈ L ∧ p.f0 = k ∧ BV w base u p.f1 ∧ (Instr.lookup 146 (.map (some M)) (.string k) false).run Tryz.prog w = .ok u w ∧ (Instr.lookup 146 (.map (some M)) (.string k) true).run Tryz.prog w = .ok (.tuple #[u, .bool true]) w) ∨
    ((∀ p ∈ L, p.f0 ≠ k) ∧ (Instr.lookup 146 (.map (some M)) (.string k) false).run Tryz.prog w = .ok (.slice none 0 0) w ∧ (Instr.lookup 146 (.map (some M)) (.string k) true).run Tryz.prog w = .ok (.tuple #[.slice none 0 0, .bool false]) w) := by
  obtain ⟨h0, hL, es, cl, f, hb, hst, hr, h1, h2⟩ := h.parts
  have hkey : MapKept.IsKey .string (.string k) := trivial
  have hz : (zeroValue 58).run Tryz.prog w = .ok (.slice none 0 0) w := Tryz.zeroValue58 w
  rcases Mp.find hr hkey with ⟨e1, e2⟩ | ⟨j, e, e1, e2, e3, e4⟩
  · refine .inr ⟨fun p hp e => ?_, ?_, ?_⟩
    · obtain ⟨u, hu, _⟩ := h1 p hp
      rw [e, e2] at hu
      cases hu
    · simp [Instr.lookup, run_underlying Tryz.underlying146, MapKept.run_getObj_map hb, MapKept.run_checkKey Tryz.underlying9 hkey, MapKept.run_findKey Tryz.underlying9 e1, hz, Result.andThen]
    · simp [Instr.lookup, run_underlying Tryz.underlying146, MapKept.run_getObj_map hb, MapKept.run_checkKey Tryz.underlying9 hkey, MapKept.run_findKey Tryz.underlying9 e1, hz, Result.andThen]
  · obtain ⟨p, hp, ep⟩ := h2 _ _ e4
    obtain rfl := Value.string.inj ep
    obtain ⟨u, hu, hB⟩ := h1 p hp
    rw [e4] at hu
    cases hu
    refine .inl ⟨p, e.val, hp, rfl, hB, ?_, ?_⟩
    · simp [Instr.lookup, run_underlying Tryz.underlying146, MapKept.run_getObj_map hb, MapKept.run_checkKey Tryz.underlying9 hkey, MapKept.run_findKey Tryz.underlying9 e1, Result.andThen]
    · simp [Instr.lookup, run_underlying Tryz.underlying146, MapKept.run_getObj_map hb, MapKept.run_checkKey Tryz.underlying9 hkey, MapKept.run_findKey Tryz.underlying9 e1, Result.andThen]
theorem MapV.empty (hb : base ≤ w.heap.size) : MapV (w.alloc (.map #[] 0)) base w.heap.size [] :=
  ⟨hb, .nil, #[], 0, (MapKept.heap_alloc w _).1, MapKept.stamped_empty _, .nil, fun x hx => by cases hx⟩
end
end Go.Proofs.YtlepcmljmibdnaaGreat
namespace Go.Proofs.YtlepcmljmibdnaaGreat
open Go.RowKit Go.Proofs.YtlepcmljmibdnaaGreatW.PrintWords Go.Proofs.YtlepcmljmibdnaaGreatW.PrintLast Go.Proofs.YtlepcmljmibdnaaGreatW.PrintMore PWalOpens
open PStoreRecords (S66 k66 rd_T66 at_T66 z66)
set_option linter.unusedVariables false
set_option linter.unusedSimpArgs false
theorem clone_none' (w : World) (c : Nat) : Calls Tryz.prog 86 #[.slice none 0 c] w fun e w' => ∃ A' c', e = .returned (.slice A' 0 c') ∧ Kd.R (Kd.int .u8) 5 w' w.heap.size (fun k => w.heap.size ≤ k) (.slice A' 0 c') [] ∧ Below w.heap.size w w' := by
  have hq := run_eql_slice_nil29 w none 0 c
  simp only [Option.isNone_none] at hq
  go_enter Tryz.func86, Tryz.ntmps86
  go_wp2
  go_ret
  exact ⟨none, 0, rfl, Kd.R_nil _ _ _ _ _, Below.refl _ _⟩
theorem clone_all (w : World) (A : Option Addr) (c : Nat) (b : List Int) (hl : b.length ≤ 1000000) (hC : (Kd.int .u8).C w A b.length b) :
    Calls Tryz.prog 86 #[.slice A b.length c] w fun e w' => ∃ A' c', e = .returned (.slice A' b.length c') ∧ Kd.R (Kd.int .u8) 5 w' w.heap.size (fun k => w.heap.size ≤ k) (.slice A' b.length c') b ∧ Below w.heap.size w w' := by
  cases A with
  | none =>
    obtain rfl : b = [] := by
      cases b with
      | nil => rfl
      | cons x l =>
        obtain ⟨ad, e, _⟩ := hC.2.2 (by simp)
        cases e
    exact clone_none' w c
  | some ad => exact clone_any w (some ad) c b hl (fun h => by cases h) hC
/-- every cell that was there is as it was -/
def Cst (w w' : World) : Prop := ∀ p v, w.cell? p = some v → w'.cell? p = some v
theorem C_cells {α : Type} {d : Kd α} {w w' : World} {A : Option Addr} {n : Nat} {xs : List α} (hc : Cst w w') (hK : ∀ x cs, d.K w x cs → d.K w' x cs) (h : d.C w A n xs) : d.C w' A n xs :=
  ⟨h.1, h.2.1, fun hp => by
    obtain ⟨ad, e, f⟩ := h.2.2 hp
    exact ⟨ad, e, fun j p hj => by
      obtain ⟨cs, h1, h2, h3⟩ := f j p hj
      exact ⟨cs, h1, hK _ _ h2, fun i u hu => hc _ _ (h3 i u hu)⟩⟩⟩
theorem C8_cells {w w' : World} {A : Option Addr} {n : Nat} {xs : List Int} (hc : Cst w w') (h : (Kd.int .u8).C w A n xs) : (Kd.int .u8).C w' A n xs := C_cells hc (fun _ _ h => h) h
theorem Cst.of_map {w w' : World} {M : Nat} {es : Array MapEntry} {cl : Nat} (hM : w.heap[M]? = some (.map es cl)) (hc : Chg w w' (fun k => k = M)) : Cst w w' := fun p v h => by
  have hlt := World.block_lt_of_cell? w _ h
  have hb := hc.block p.block hlt (fun e => by
    unfold World.cell? at h
    rw [e, hM] at h
    cases h)
  unfold World.cell? at h ⊢
  rw [hb]
  exact h
theorem BV.of_clone {w w' : World} {base : Nat} {A : Option Addr} {c : Nat} {b : List Int} (h : Kd.R (Kd.int .u8) 5 w' w.heap.size (fun k => w.heap.size ≤ k) (.slice A b.length c) b) (hb : base ≤ w.heap.size) : BV w' base (.slice A b.length c) b :=
  ⟨A, c, rfl, (Kd.R_reads' h).2.1, Kd.R_mono (Kd.R_lower h hb) (fun _ _ => trivial)⟩
theorem hapL_take {L l : List S66} {i : Nat} {x : S66} (hx : l[i]? = some x) : hapL L (l.take (i + 1)) = hap1 (hapL L (l.take i)) x := by
  unfold hapL
  rw [List.take_add_one, hx, List.foldl_append]
  rfl
set_option maxRecDepth 100000 in
set_option maxHeartbeats 4000000 in
theorem happen_calls (w : World) {base M Sb : Nat} {L l : List S66} {v0 : Value} {A : Option Addr} {c : Nat} (hs : w.heap[Sb]? = some (.cells #[v0, .map (some M)] 148 (0, 0))) (hC : k66.C w A l.length l) (hz : ∀ p ∈ l, p.f1.length ≤ 1000000) (hM : MapV w base M L) :
    Calls Tryz.prog 82 #[.pointer (some ⟨Sb, 0, none⟩), .slice A l.length c] w fun e w' => e = .returned (.tuple #[]) ∧ MapV w' base M (hapL L l) ∧ Chg w w' (fun k => k = M) := by
  have hm := hC.2.1
  have hm2 : (l.length : Int) ≤ 9223372036854775807 := by omega
  have HC := Aside0.mk hC
  have HZ := Aside0.mk hz
  have HS := Aside0.mk hs
  obtain ⟨es0, cl0, hb0⟩ : ∃ es cl, w.heap[M]? = some (.map es cl) := by obtain ⟨_, _, es, cl, h, _⟩ := hM; exact ⟨es, cl, h⟩
  have HB0 := Aside0.mk hb0
  have hne : Sb ≠ M := fun e => by rw [e, hb0] at hs; cases hs
  have HNE := Aside0.mk hne
  have HM := Aside0.mk hM
  have hbm := hM.1
  have hlt := hM.lt
  have HBS := Aside0.mk (show base ≤ w.heap.size by omega)
  clear hC hz hs hb0 hne hM hbm hlt hm
  go_enter Tryz.func82, Tryz.ntmps82
  go_wp2
  go_loopg [8] l.length (fun kq v8 w' => ∃ (i : Nat), v8 = .int .i64 (i : Int) ∧ Aside0 (i + kq = l.length) ∧ Aside0 (MapV w' base M (hapL L (l.take i))) ∧ Aside0 (Chg w w' (fun k => k = M)))
  case atStart => exact ⟨0, rfl, ⟨by omega⟩, HM, ⟨Chg.refl _ _⟩⟩
  case round =>
    obtain ⟨i, rfl, HI, HMV, HCH⟩ := hrel
    by_cases hi : i < l.length
    · obtain ⟨ad, A1, c1, e, x0, x1, x2, hl1, hc1⟩ := at_T66 HC.out (i : Int) (by omega) (by omega)
      subst e
      have hx := rd_getT l i hi
      generalize rd_T66 l (i : Int) = x at x0 x1 x2 hl1 hc1 hx
      rw [Int.toNat_natCast] at x0 x1 x2
      have HCS := Aside0.mk (Cst.of_map HB0.out HCH.out)
      replace x0 := HCS.out _ _ x0
      replace x1 := HCS.out _ _ x1
      replace x2 := HCS.out _ _ x2
      have HSUC := Aside0.mk (hapL_take (L := L) hx)
      have HXL := Aside0.mk (HZ.out x (List.mem_of_getElem? hx))
      obtain ⟨s, b, gone⟩ := x
      simp only at x0 x1 x2 hl1 hc1
      have hbel := (Below.alloc (Below.refl wr.heap.size wr) (Nat.le_refl _) (.cells #[.string s, .slice A1 b.length c1, .bool gone] 66)).drew
      have HBEL := Aside0.mk hbel
      have HMD := Aside0.mk (HMV.out.below hbel)
      have HCB := Aside0.mk (Kd.C_below (C8_cells HCS.out hc1) hbel)
      have hsb : (wr.alloc (.cells #[.string s, .slice A1 b.length c1, .bool gone] 66)).drew.heap[Sb]? = some (.cells #[v0, .map (some M)] 148 (0, 0)) := by
        have h1 := (HCH.out.block Sb (Array.getElem?_eq_some_iff.1 HS.out).1 HNE.out).trans HS.out
        exact (hbel.block Sb (Array.getElem?_eq_some_iff.1 h1).1).trans h1
      have hbox : (wr.alloc (.cells #[.string s, .slice A1 b.length c1, .bool gone] 66)).drew.heap[wr.heap.size]? = some (.cells #[.string s, .slice A1 b.length c1, .bool gone] 66 (0, 0)) := heap_alloc_new wr _
      obtain ⟨y0, y1, y2, _⟩ := box_c hbox
      obtain ⟨q0, q1, _⟩ := cells2 hsb
      have hk1 := HI.out
      clear hx hc1 hbel hl1 hsb hbox
      cases gone with
      | true =>
        obtain ⟨w2, hrun, hch, hmv⟩ := HMD.out.del (k := s) (ty := 0)
        have HR := Aside0.mk hrun
        have HCH2 := Aside0.mk hch
        have HMV2 := Aside0.mk hmv
        clear hrun hch hmv
        go_wp2
        refine Fork.wp_fork (Fork.Lo.rel 0) [6] [6] (.one 0 0 (.one 1 0 (.one 2 0 (.one 4 0 (.one 3 1 (.one 5 1 (.one 6 2 .nil))))))) (by kernel_rfl) (by kernel_rfl) ?_
        generalize hops : List.toArray (_ : List Oper) = ops
        have HO := Aside0.mk hops
        clear hops
        iterate 4 ((refine Fork.plain (Fork.at_ HO.out rfl) _ rfl (fun W => by go_simp; exact rfl) ?_); simp only [Act.put, List.setIfInBounds_toArray, List.set_cons_succ, List.set_cons_zero])
        refine Fork.reads (Fork.at_ HO.out rfl) _ rfl (fun W hW => Arr.ex_load1 rfl rfl (by kernel_rfl) (Fork.bel_cell hW (by assumption))) ?_
        simp only [Act.put, List.setIfInBounds_toArray, List.set_cons_succ, List.set_cons_zero]
        refine Fork.reads (Fork.at_ HO.out rfl) _ rfl (fun W hW => Arr.ex_load1 rfl rfl (by kernel_rfl) (Fork.bel_cell hW (by assumption))) ?_
        simp only [Act.put, List.setIfInBounds_toArray, List.set_cons_succ, List.set_cons_zero]
        refine Fork.step (Fork.at_ HO.out rfl) (fun K hK => ?_)
        go_simp
        rw [HR.out]
        refine hK _ _ (.of_any rfl rfl) ?_
        clear hK K
        try simp only [Act.put, List.setIfInBounds_toArray, List.set_cons_succ, List.set_cons_zero]
        refine Fork.done ?_
        go_wp2
        obtain ⟨gq, rfl⟩ : ∃ gq, gk = gq + 1 := ⟨gk - 1, by omega⟩
        go_roundg gq
        case rel => exact ⟨i + 1, by go_num, ⟨by omega⟩, ⟨by rw [HSUC.out]; exact HMV2.out⟩, ⟨(HCH.out.trans (.of_below HBEL.out)).trans HCH2.out⟩⟩
        case measure => omega
      | false =>
        go_wp2
        refine Fork.wp_fork (Fork.Lo.rel 0) [9] [9] (.one 0 0 (.one 1 0 (.one 2 0 (.one 4 0 (.one 6 0 (.one 3 1 (.one 5 1 (.one 7 1 (.one 8 2 (.one 9 2 .nil)))))))))) (by kernel_rfl) (by kernel_rfl) ?_
        generalize hops : List.toArray (_ : List Oper) = ops
        have HO := Aside0.mk hops
        clear hops
        iterate 5 ((refine Fork.plain (Fork.at_ HO.out rfl) _ rfl (fun W => by go_simp; exact rfl) ?_); simp only [Act.put, List.setIfInBounds_toArray, List.set_cons_succ, List.set_cons_zero])
        refine Fork.reads (Fork.at_ HO.out rfl) _ rfl (fun W hW => Arr.ex_load1 rfl rfl (by kernel_rfl) (Fork.bel_cell hW (by assumption))) ?_
        simp only [Act.put, List.setIfInBounds_toArray, List.set_cons_succ, List.set_cons_zero]
        refine Fork.reads (Fork.at_ HO.out rfl) _ rfl (fun W hW => Arr.ex_load1 rfl rfl (by kernel_rfl) (Fork.bel_cell hW (by assumption))) ?_
        simp only [Act.put, List.setIfInBounds_toArray, List.set_cons_succ, List.set_cons_zero]
        refine Fork.reads (Fork.at_ HO.out rfl) _ rfl (fun W hW => Arr.ex_load1 rfl rfl (by kernel_rfl) (Fork.bel_cell hW (by assumption))) ?_
        simp only [Act.put, List.setIfInBounds_toArray, List.set_cons_succ, List.set_cons_zero]
        refine Fork.step (Fork.at_ HO.out rfl) (fun K hK => ?_)
        go_simp
        refine (clone_all _ A1 c1 b HXL.out HCB.out).mono ?_
        rintro r w5 ⟨A5, c5, rfl, hr, hb⟩
        refine hK _ _ (.of_new hb (Nat.zero_le _)) ?_
        clear hK K
        have HB5 := Aside0.mk hb
        obtain ⟨w6, hrun, hch, hmv⟩ := (HMD.out.below hb).upd (p := ⟨s, b, false⟩) (BV.of_clone hr (Nat.le_trans HBS.out (Nat.le_trans HCH.out.size HBEL.out.size)))
        have HR := Aside0.mk hrun
        have HCH2 := Aside0.mk hch
        have HMV2 := Aside0.mk hmv
        clear hr hb hrun hch hmv
        try simp only [Act.put, List.setIfInBounds_toArray, List.set_cons_succ, List.set_cons_zero]
        refine Fork.step (Fork.at_ HO.out rfl) (fun K hK => ?_)
        go_simp
        rw [HR.out]
        refine hK _ _ (.of_any rfl rfl) ?_
        clear hK K
        try simp only [Act.put, List.setIfInBounds_toArray, List.set_cons_succ, List.set_cons_zero]
        refine Fork.done ?_
        go_wp2
        obtain ⟨gq, rfl⟩ : ∃ gq, gk = gq + 1 := ⟨gk - 1, by omega⟩
        go_roundg gq
        case rel => exact ⟨i + 1, by go_num, ⟨by omega⟩, ⟨by rw [HSUC.out]; exact HMV2.out⟩, ⟨((HCH.out.trans (.of_below HBEL.out)).trans (.of_below HB5.out)).trans HCH2.out⟩⟩
        case measure => omega
    · have hi0 := HI.out
      obtain rfl : gk = 0 := by omega
      obtain rfl : i = l.length := by omega
      clear hi0
      have hm3 : ¬ ((l.length : Int) < (l.length : Int)) := by omega
      go_wp2
      go_end0
      exact ⟨rfl, by have := HMV.out; rwa [List.take_length] at this, HCH.out⟩
end Go.Proofs.YtlepcmljmibdnaaGreat
namespace Go.Proofs.YtlepcmljmibdnaaGreat
open Go.RowKit Go.Proofs.YtlepcmljmibdnaaGreatW.PrintWords Go.Proofs.YtlepcmljmibdnaaGreatW.PrintLast Go.Proofs.YtlepcmljmibdnaaGreatW.PrintMore PWalOpens
open PStoreRecords (S66 k66 rd_T66 at_T66 z66)
set_option linter.unusedVariables false
set_option linter.unusedSimpArgs false
theorem ex_smclone {o : Oper} {a : Act} (W : World) {x : Operand} {M : Nat} {es : Array MapEntry} {clock : Nat} (ho : o.op = .call { callee := .value (.func 138), args := #[x], argTypes := #[20] }) (hx : a.eval x = .iface 146 (.map (some M))) (hb : W.heap[M]? = some (.map es clock)) :
    (execOp a.eval o).run Tryz.prog W = .ok (.value (.iface 146 (.map (some W.heap.size)))) (W.alloc (.map es clock)) := by
  have h1 := run_maps_clone_sl (P := Tryz.prog) W 146 hb
  have h2 := run_callFunc_extern Tryz.func138 (by kernel_rfl) (by kernel_rfl) (by kernel_rfl) (e := Extern.MapsClone.clone) (by kernel_rfl) #[.iface 146 (.map (some M))] W
  rw [h1] at h2
  simp only [Result.andThen_ok] at h2
  have hf : a.eval (.func 138) = .func (.func 138) #[] #[] := rfl
  simp only [execOp, ho]
  simp [resolve, invoke, Deferred.ofValue, hx, hf, h2]
theorem ex_smassert {o : Oper} {ρ : Operand → Value} (W : World) {x : Operand} {v : Value} (ho : o.op = .typeAssert x 20 146 false) (hx : ρ x = .iface 146 v) : (execOp ρ o).run Tryz.prog W = .ok (.value v) W := by
  simp only [execOp, ho, hx, Sem.run_bind, run_typeAssert_map_sl W 146 20 _ _ v Tryz.underlying146, Result.andThen_ok, Sem.run_pure]
theorem smclone_calls (w : World) (M : Nat) (es : Array MapEntry) (clock : Nat) (hb : w.heap[M]? = some (.map es clock)) :
    Calls Tryz.prog 120 #[.map (some M)] w fun e w' => e = .returned (.map (some w.heap.size)) ∧ w' = w.alloc (.map es clock) := by
  have hq := run_eql_map_nil_sl (P := Tryz.prog) w 146 _ _ (some M) Tryz.underlying146
  simp only [Option.isNone_some] at hq
  have HB := Aside0.mk hb
  clear hb
  go_enter Tryz.func120, Tryz.ntmps120
  go_wp2_with (first | ((with_reducible refine gate_callee (f := 138) rfl ?_); go_loud (refine Kd.event_run rfl (ex_smclone w rfl rfl HB.out) ?_); simp only [Act.put, List.setIfInBounds_toArray, List.set_cons_succ, List.set_cons_zero]) | ((with_reducible refine gate_ (.typeAssert (.tmp 7) 20 146 false) rfl ?_); refine Kd.event_run rfl (ex_smassert _ rfl rfl) ?_; simp only [Act.put, List.setIfInBounds_toArray, List.set_cons_succ, List.set_cons_zero]))
  go_ret
  exact ⟨rfl, rfl⟩
theorem mclone_map {w : World} {base M : Nat} {L : List S66} (h : MapV w base M L) :
    Calls Tryz.prog 120 #[.map (some M)] w fun e w' => e = .returned (.map (some w.heap.size)) ∧ MapV w' base w.heap.size L ∧ Below w.heap.size w w' := by
  have hlt := h.lt
  obtain ⟨h0, hL, es, cl, hb, hst, hp, hv⟩ := h
  refine (smclone_calls w M es cl hb).mono ?_
  rintro e w' ⟨rfl, rfl⟩
  have hbl := Below.alloc (Below.refl w.heap.size w) (Nat.le_refl _) (.map es cl)
  exact ⟨rfl, ⟨by omega, hL, es, cl, (MapKept.heap_alloc w _).1, hst, hp, fun x hx p hp e => (hv x hx p hp e).below hbl⟩, hbl⟩
/-- what a key has, and whether it has something -/
def getP (L : List S66) (k : ByteArray) : List Int × Bool := match lkL L k with
  | some p => (p.f1, true)
  | none => ([], false)
theorem getP_in {L : List S66} (h : SL L) {p : S66} (hp : p ∈ L) : getP L p.f0 = (p.f1, true) := by
  unfold getP lkL
  cases hf : L.find? fun q => decide (q.f0 = p.f0) with
  | none => have := List.find?_eq_none.1 hf p hp; simp at this
  | some q =>
    have h1 := List.find?_some hf
    simp only [decide_eq_true_eq] at h1
    rw [h.uniq (List.mem_of_find?_eq_some hf) hp h1]
theorem getP_out {L : List S66} {k : ByteArray} (h : ∀ p ∈ L, p.f0 ≠ k) : getP L k = ([], false) := by
  unfold getP lkL
  cases hf : L.find? fun q => decide (q.f0 = k) with
  | none => rfl
  | some q =>
    have h1 := List.find?_some hf
    simp only [decide_eq_true_eq] at h1
    exact absurd h1 (h q (List.mem_of_find?_eq_some hf))
def GetQ (w : World) (r : List Int × Bool) (e : Ending) (w' : World) : Prop := ∃ A c, e = .returned (.tuple #[.slice A r.1.length c, .bool r.2]) ∧ Kd.R (Kd.int .u8) 5 w' w.heap.size (fun k => w.heap.size ≤ k) (.slice A r.1.length c) r.1 ∧ Below w.heap.size w w'
set_option maxRecDepth 100000 in
theorem get_calls {w : World} {Sb base M : Nat} {v0 : Option Addr} {L : List S66} (k : ByteArray) (hs : w.heap[Sb]? = some (.cells #[.pointer v0, .map (some M)] 148 (0, 0))) (hz : ∀ p ∈ L, p.f1.length ≤ 1000000) (hM : MapV w base M L) :
    Calls Tryz.prog 40 #[.pointer (some ⟨Sb, 0, none⟩), .string k] w (GetQ w (getP L k)) := by
  have HOK : Aside0 (Calls Tryz.prog 83 #[.pointer (some ⟨Sb, 0, none⟩)] w fun e w' => e = .returned (.bool true) ∧ w = w') := ⟨by
    obtain ⟨q0, q1, f0, f1⟩ := cells2 hs
    have hq := run_neq_map_nil (P := Tryz.prog) w 146 9 58 (some M) Tryz.underlying146
    simp only [Option.isNone_some, Bool.not_false] at hq
    clear hs
    go_enter Tryz.func83, Tryz.ntmps83
    go_wp2
    go_ret
    exact ⟨rfl, rfl⟩⟩
  obtain ⟨q0, q1, _⟩ := cells2 hs
  rcases hM.look k with ⟨p, u, hp, rfl, ⟨A, c, rfl, hc, hr⟩, h1, h2⟩ | ⟨hn, h1, h2⟩
  · rw [getP_in hM.2.1 hp]
    have HCL := Aside0.mk (clone_all w A c p.f1 (hz p hp) (Kd.R_reads' hr).2.2)
    generalize p.f1 = b at *
    clear hz hM h1 hs hc hr hp
    go_enter Tryz.func40, Tryz.ntmps40
    go_wp2_with (first
      | (go_at_call 83; (with_reducible refine HOK.out.mono ?_); rintro e w' ⟨rfl, rfl⟩)
      | (go_at_call 86; (with_reducible refine HCL.out.mono ?_); rintro e w' ⟨A', c', rfl, hr, hb⟩; have HR := Aside0.mk hr; have HB := Aside0.mk hb; clear hr hb))
    go_ret2
    exact ⟨A', c', rfl, HR.out, HB.out⟩
  · rw [getP_out hn]
    have HCL := Aside0.mk (clone_none' w 0)
    clear hz hM h1 hs hn
    go_enter Tryz.func40, Tryz.ntmps40
    go_wp2_with (first
      | (go_at_call 83; (with_reducible refine HOK.out.mono ?_); rintro e w' ⟨rfl, rfl⟩)
      | (go_at_call 86; (with_reducible refine HCL.out.mono ?_); rintro e w' ⟨A', c', rfl, hr, hb⟩; have HR := Aside0.mk hr; have HB := Aside0.mk hb; clear hr hb))
    go_ret2
    exact ⟨A', c', rfl, HR.out, HB.out⟩
theorem sok_any {w : World} {Sb M : Nat} {v0 : Option Addr} (hs : w.heap[Sb]? = some (.cells #[.pointer v0, .map (some M)] 148 (0, 0))) :
    Calls Tryz.prog 83 #[.pointer (some ⟨Sb, 0, none⟩)] w fun e w' => e = .returned (.bool true) ∧ w = w' := by
  obtain ⟨q0, q1, f0, f1⟩ := cells2 hs
  have hq := run_neq_map_nil (P := Tryz.prog) w 146 9 58 (some M) Tryz.underlying146
  simp only [Option.isNone_some, Bool.not_false] at hq
  clear hs
  go_enter Tryz.func83, Tryz.ntmps83
  go_wp2
  go_ret
  exact ⟨rfl, rfl⟩
end Go.Proofs.YtlepcmljmibdnaaGreat
namespace Go.Proofs.YtlepcmljmibdnaaGreat
open Go.RowKit
set_option linter.unusedVariables false
/-- an iterator: Ok is known of what comes, in the world in which it comes; S of all that came, Sp of what came till a stop, in the world behind -/
def SeqOk {α : Type} (n : Nat) (P : Program) (g : Nat) (lb : Array Value) (encs : α → Array Value) (Ok : List α → α → World → Prop) (Kp : World → World → Prop) (S Sp : List α → World → Prop) (w : World) : Prop :=
  ∀ (l : Nat) (J Jx : List α → World → Prop) (W : World), Below w.heap.size w W → AbidesFrom W.heap.size J → AbidesFrom W.heap.size Jx →
    (∀ pre x W1, J pre W1 → Ok pre x W1 → YieldAt Fence.wide (n - 1) P l (encs x) W1 fun e W' =>
      (e = .returned (.bool true) ∧ J (pre ++ [x]) W' ∧ Kp W1 W') ∨ (e = .returned (.bool false) ∧ Jx (pre ++ [x]) W' ∧ Kp W1 W')) →
    J [] W →
    CallsIn Fence.wide n P g (#[.func (.yield l) #[] #[]] ++ lb) W fun e W' => (∃ v, e = .returned v) ∧ ((∃ xs, S xs W' ∧ J xs W') ∨ (∃ pre, Sp pre W' ∧ Jx pre W'))
/-- how a round may be left -/
def okPost {α : Type} (B : Nat) (Kp : World → World → Prop) (I : List α → World → Prop) (Ix : Code → List α → World → Prop) (xs : List α) (W : World) : Exit → Act → World → Prop
  | .normal, _, W' => KeepsFrom B W W' ∧ Kp W W' ∧ I xs W'
  | .ret, _, W' => KeepsFrom B W W' ∧ Kp W W' ∧ Ix .ret xs W'
  | .exit id, _, W' => KeepsFrom B W W' ∧ Kp W W' ∧ Ix (.exit id) xs W'
  | .goto t, _, W' => KeepsFrom B W W' ∧ Kp W W' ∧ Ix (.goto t) xs W'
  | .panic _, _, _ => False
  | .outgrown, _, _ => False
def cmark (D : Nat) : Deferred := { target := .collected D, args := #[] }
/-- the record of a loop, the block of its mark -/
structure Books (D : Nat) (r : Loop) (W : World) : Prop where
  rec_ : W.heap[D + 1]? = some (.loop r)
  mark : W.heap[D]? = some (.deferred (some []))
theorem Books.abide {D B : Nat} {r : Loop} {A C : World} {row : Option Nat} (h : Books D r A) (hg : A.grownBy C row) (hr : ∀ k, row = some k → B ≤ k ∧ ∃ o : Obj, A.heap[k]? = some o ∧ o.isWalk = true) : Books D r C :=
  ⟨(grownBy_keeps hg (fun k e => (hr k e).2) h.rec_ rfl).trans h.rec_, (grownBy_keeps hg (fun k e => (hr k e).2) h.mark rfl).trans h.mark⟩
theorem Books.keep {D : Nat} {r : Loop} {A C : World} (h : Books D r A) (hk : KeepsFrom D A C) : Books D r C := ⟨hk.same _ _ (Nat.le_succ D) h.rec_ rfl, hk.same _ _ (Nat.le_refl D) h.mark rfl⟩
theorem Books.put {D : Nat} {r : Loop} {A : World} (h : Books D r A) (r' : Loop) : Books D r' (A.putObj (D + 1) (.loop r')) :=
  ⟨World.putObj_heap_same (Array.getElem?_eq_some_iff.1 h.rec_).1, (World.putObj_heap_other (by omega)).trans h.mark⟩
theorem range_ok {α : Type} {P : Program} {n : Nat} {g : Operand} {ps : Array Tmp} {assign body : Code} {Q : Exit → Act → World → Prop} {a : Act} {w : World} (h1 : 1 ≤ n) {gf : Nat} {lb : Array Value} (hg : a.eval g = .func (.func gf) #[] lb)
    (eg : ∀ args w, (callFunc gf args).run P w = .ok (.enter gf args) w) {encs : α → Array Value} {Ok : List α → α → World → Prop} {Kp : World → World → Prop} {S Sp : List α → World → Prop} (hseq : SeqOk (n - 1) P gf lb encs Ok Kp S Sp w)
    (hKt : ∀ {A B C : World}, Kp A B → Kp B C → Kp A C) (hKb : ∀ (W : World) (l : Nat) (r : Loop) (o' : Obj), w.heap.size ≤ l → W.heap[l]? = some (.loop r) → Kp W (W.putObj l o'))
    (hps : ∀ x, (encs x).size = ps.size) (hOk : ∀ pre, OwnFrom w.heap.size (Ok pre)) (hS : OwnFrom w.heap.size S) (hSp : OwnFrom w.heap.size Sp) (I : List α → World → Prop) (Ix : Code → List α → World → Prop) (hI : OwnFrom w.heap.size I) (hIx : ∀ c, OwnFrom w.heap.size (Ix c)) (h0 : I [] w) (a₁ : α → Act)
    (hassign : ∀ (l : Nat) (x : α) (W : World) (K : Act → World → Prop), K (a₁ x) W → assign.wpIn (Fence.wide.inRound l) (n - 1 - 1) P (Exit.then K (fun _ _ _ => False)) { tmps := (ps.zip (encs x)).foldl (fun t (p, v) => t.setIfInBounds p v) a.tmps, defers := [] } W)
    (hbody : ∀ (l : Nat) (pre : List α) (x : α) (W : World), w.heap.size ≤ l → (∃ r, W.heap[l]? = some (.loop r)) → I pre W → Ok pre x W → body.wpIn (Fence.wide.inRound l) (n - 1 - 1) P (okPost w.heap.size Kp I Ix (pre ++ [x]) W) (a₁ x) W)
    (hdone : ∀ (D : Nat) (xs : List α) (W : World), w.heap.size ≤ D → S xs W → I xs W → W.heap[D]? = some (.deferred (some [])) → Q .normal { a with defers := cmark D :: a.defers } W)
    (hstop : ∀ (D : Nat) (c : Code) (pre : List α) (W : World), w.heap.size ≤ D → Sp pre W → Ix c pre W → W.heap[D]? = some (.deferred (some [])) → c.wp P Q { a with defers := cmark D :: a.defers } W) :
    (Code.rangeFunc g ps assign body).wp P Q a w := by
  refine (wpIn_wide (n := n)).1 (wpIn_rangeFunc fun fn hfn => ?_)
  obtain ⟨rc, hrc⟩ : ∃ rc : LoopState → Option Code → Loop, rc = fun st pe => { state := st, pending := pe, fn, tmps := a.tmps, params := ps, assign, body, defers := w.heap.size } := ⟨_, rfl⟩
  obtain ⟨W1, hW1⟩ : ∃ W1, (w.alloc (.deferred (some []))).alloc (.loop (rc .ready none)) = W1 := ⟨_, rfl⟩
  have hbk1 : Books w.heap.size (rc .ready none) W1 := by
    rw [← hW1]
    refine ⟨?_, (Below.heap_alloc _ _ _ (by simp)).trans (World.alloc_heap_new w _)⟩
    have h := World.alloc_heap_new (w.alloc (.deferred (some []))) (.loop (rc .ready none))
    rwa [World.size_alloc] at h
  have hsz1 : w.heap.size + 2 = W1.heap.size := by rw [← hW1]; simp
  have hI1 : I [] W1 := by rw [← hW1]; exact hI.alloc _ (hI.alloc _ h0)
  have hb1 : Below w.heap.size w W1 := by rw [← hW1]; exact ((Below.refl _ w).alloc (Nat.le_refl _) _).alloc (by simp) _
  have hrow : ∀ {A : World} {row : Option Nat}, (∀ r, row = some r → W1.heap.size ≤ r ∧ ∃ o : Obj, A.heap[r]? = some o ∧ o.isWalk = true) → ∀ r, row = some r → w.heap.size ≤ r ∧ ∃ o : Obj, A.heap[r]? = some o ∧ o.isCells = false := fun h r e => by
    obtain ⟨h1, o, h2, h3⟩ := h r e
    exact ⟨by omega, o, h2, Obj.not_cells_of_walk h3⟩
  refine ⟨w.heap.size + 1, [cmark w.heap.size], W1, { target := .fn (.func gf) lb, args := #[.func (.yield (w.heap.size + 1)) #[] #[]] }, W1, gf, #[.func (.yield (w.heap.size + 1)) #[] #[]] ++ lb, W1, ?_, ?_, fun _ _ => trivial, ?_, fun _ => h1, ?_⟩
  · rw [← hW1, hrc]; exact run_enterLoop_outer _ _ _ _ _
  · simp only [resolve, hg]
    simp [go_sem]
  · simp [invoke, go_sem, eg]
  refine (hseq (w.heap.size + 1) (fun pre W => I pre W ∧ Books w.heap.size (rc .ready none) W) (fun pre W => ∃ c, Ix c pre W ∧ Books w.heap.size (rc .done (some c)) W) W1 hb1
    (fun s A C row h hg hr => ⟨hI s A C row h.1 hg (hrow hr), h.2.abide hg hr⟩) (fun s A C row ⟨c, h, hb⟩ hg hr => ⟨c, hIx c s A C row h hg (hrow hr), hb.abide hg hr⟩) ?_ ⟨hI1, hbk1⟩).mono ?_
  · rintro pre x W ⟨hi, hb⟩ hok
    have hy := run_yield (P := P) (args := encs x) hb.rec_ (by rw [hrc]; exact hps x)
    rw [hrc] at hy
    refine ⟨fn, _, assign, body, hy, roundIn_of_wpIn hfn (hassign _ x W _ ⟨_, run_beginRound hb.rec_ (by rw [hrc]), ?_⟩)⟩
    clear hy
    have hb2 := hb.put { rc .ready none with state := .busy }
    have hw2 : Kp W (W.putObj (w.heap.size + 1) (.loop { rc .ready none with state := .busy })) := hKb _ _ _ _ (Nat.le_succ _) hb.rec_
    have hend : ∀ (jump : Option Code) (W3 : World), KeepsFrom w.heap.size (W.putObj (w.heap.size + 1) (.loop { rc .ready none with state := .busy })) W3 →
        ∃ r3, W3.heap[w.heap.size + 1]? = some (.loop r3) ∧ (Instr.endRound (w.heap.size + 1) jump).run P W3 = .ok (.bool jump.isNone) (W3.putObj (w.heap.size + 1) (.loop (rc (if jump.isNone then .ready else .done) jump))) ∧ Books w.heap.size (rc (if jump.isNone then .ready else .done) jump) (W3.putObj (w.heap.size + 1) (.loop (rc (if jump.isNone then .ready else .done) jump))) := fun jump W3 hk => by
      have hb3 := hb2.keep hk
      have h := run_endRound (P := P) jump hb3.rec_
      refine ⟨_, hb3.rec_, ?_, hb3.put _⟩
      rw [h, hrc]
    refine wpIn_mono (hbody _ pre x _ (Nat.le_succ _) ⟨_, hb2.rec_⟩ (hI.putObj _ hi (Nat.le_succ _) hb.rec_ rfl) ((hOk pre).putObj _ hok (Nat.le_succ _) hb.rec_ rfl)) ?_
    rintro e a3 W3 hp
    cases e with
    | normal =>
      obtain ⟨hk, hkp, hi3⟩ := hp
      obtain ⟨r3, h3, hr, hbe⟩ := hend none W3 hk
      exact ⟨_, _, hr, .inl ⟨rfl, ⟨hI.putObj _ hi3 (Nat.le_succ _) h3 rfl, hbe⟩, hKt (hKt hw2 hkp) (hKb _ _ _ _ (Nat.le_succ _) h3)⟩⟩
    | ret =>
      obtain ⟨hk, hkp, hi3⟩ := hp
      obtain ⟨r3, h3, hr, hbe⟩ := hend (some .ret) W3 hk
      exact ⟨_, _, hr, .inr ⟨rfl, ⟨.ret, (hIx _).putObj _ hi3 (Nat.le_succ _) h3 rfl, hbe⟩, hKt (hKt hw2 hkp) (hKb _ _ _ _ (Nat.le_succ _) h3)⟩⟩
    | exit id =>
      obtain ⟨hk, hkp, hi3⟩ := hp
      obtain ⟨r3, h3, hr, hbe⟩ := hend (some (.exit id)) W3 hk
      exact ⟨_, _, hr, .inr ⟨rfl, ⟨.exit id, (hIx _).putObj _ hi3 (Nat.le_succ _) h3 rfl, hbe⟩, hKt (hKt hw2 hkp) (hKb _ _ _ _ (Nat.le_succ _) h3)⟩⟩
    | goto t =>
      obtain ⟨hk, hkp, hi3⟩ := hp
      obtain ⟨r3, h3, hr, hbe⟩ := hend (some (.goto t)) W3 hk
      exact ⟨_, _, hr, .inr ⟨rfl, ⟨.goto t, (hIx _).putObj _ hi3 (Nat.le_succ _) h3 rfl, hbe⟩, hKt (hKt hw2 hkp) (hKb _ _ _ _ (Nat.le_succ _) h3)⟩⟩
    | panic ch => exact hp.elim
    | outgrown => exact hp.elim
  · rintro e W2 ⟨⟨v, rfl⟩, ⟨xs, hs, hi, hb⟩ | ⟨pre, hs, c, hi, hb⟩⟩
    · have h := run_endLoop (P := P) hb.rec_ (by rw [hrc]; simp)
      rw [hrc] at h
      exact ⟨none, _, h, hdone _ xs _ (Nat.le_refl _) (hS.putObj _ hs (Nat.le_succ _) hb.rec_ rfl) (hI.putObj _ hi (Nat.le_succ _) hb.rec_ rfl) ((World.putObj_heap_other (by omega)).trans hb.mark)⟩
    · have h := run_endLoop (P := P) hb.rec_ (by rw [hrc]; simp)
      rw [hrc] at h
      exact ⟨some c, _, h, wpIn_wide.2 (hstop _ c pre _ (Nat.le_refl _) (hSp.putObj _ hs (Nat.le_succ _) hb.rec_ rfl) ((hIx c).putObj _ hi (Nat.le_succ _) hb.rec_ rfl) ((World.putObj_heap_other (by omega)).trans hb.mark))⟩
end Go.Proofs.YtlepcmljmibdnaaGreat
namespace Go.Proofs
open Go.Shelf
def Tryz.shKeys_ren : Go.Shelf.Ren := ⟨fun | 7 => 89 | 10 => 123 | n => n, fun | 23 => 146 | 26 => 9 | 3 => 58 | 28 => 157 | 0 => 0 | 27 => 156 | 33 => 186 | 4 => 4 | n => n, fun | n => n⟩
theorem Tryz.shKeys : Go.Proofs.SlLaysZ.n7 Tryz.prog Tryz.shKeys_ren := {
  mixed := by kernel_rfl
  f7 := ⟨Tryz.f89.name, by decide, Tryz.func89.trans (congrArg some (by kernel_rfl))⟩
  f10 := ⟨Tryz.f123.name, by decide, Tryz.func123.trans (congrArg some (by kernel_rfl))⟩
  t0 := Tryz.underlying0
  a0 := Tryz.isAgg0
  z0 := Tryz.sizeOf0
  v0 := Tryz.zeroValue0
  t4 := Tryz.underlying4
  a4 := Tryz.isAgg4
  z4 := Tryz.sizeOf4
  v4 := Tryz.zeroValue4
  t23 := Tryz.underlying146
  a23 := Tryz.isAgg146
  z23 := Tryz.sizeOf146
  v23 := Tryz.zeroValue146
  t26 := Tryz.underlying9
  a26 := Tryz.isAgg9
  z26 := Tryz.sizeOf9
  v26 := Tryz.zeroValue9
  t27 := Tryz.underlying156
  a27 := Tryz.isAgg156
  z27 := Tryz.sizeOf156
  v27 := Tryz.zeroValue156
  t28 := Tryz.underlying157
  a28 := Tryz.isAgg157
  z28 := Tryz.sizeOf157
  v28 := Tryz.zeroValue157
  t33 := Tryz.underlying186
  a33 := Tryz.isAgg186
  z33 := Tryz.sizeOf186
  v33 := Tryz.zeroValue186 }
def Tryz.shSorted_ren : Go.Shelf.Ren := ⟨fun | 6 => 88 | 8 => 121 | 9 => 122 | 11 => 139 | 13 => 141 | 12 => 140 | 23 => 155 | 24 => 156 | 14 => 146 | 15 => 147 | 16 => 148 | 17 => 149 | 18 => 150 | 19 => 151 | 20 => 152 | 21 => 153 | 22 => 154 | 25 => 159 | 26 => 160 | 27 => 161 | 28 => 162 | 29 => 163 | 30 => 164 | 31 => 165 | n => n, fun | 26 => 9 | 28 => 157 | 24 => 154 | 0 => 0 | 3 => 3 | 37 => 191 | 48 => 192 | 50 => 52 | 4 => 4 | 40 => 204 | 39 => 203 | 45 => 208 | 5 => 5 | 9 => 9 | 51 => 212 | 55 => 215 | 57 => 217 | 58 => 218 | 33 => 186 | n => n, fun | n => n⟩
theorem Tryz.shSorted : Go.Proofs.SlLaysZ.n6 Tryz.prog Tryz.shSorted_ren := {
  mixed := by kernel_rfl
  f6 := ⟨Tryz.f88.name, by decide, Tryz.func88.trans (congrArg some (by kernel_rfl))⟩
  f8 := ⟨Tryz.f121.name, by decide, Tryz.func121.trans (congrArg some (by kernel_rfl))⟩
  f11 := ⟨Tryz.f139.name, by decide, Tryz.func139.trans (congrArg some (by kernel_rfl))⟩
  t0 := Tryz.underlying0
  a0 := Tryz.isAgg0
  z0 := Tryz.sizeOf0
  v0 := Tryz.zeroValue0
  t24 := Tryz.underlying154
  a24 := Tryz.isAgg154
  z24 := Tryz.sizeOf154
  v24 := Tryz.zeroValue154
  t26 := Tryz.underlying9
  a26 := Tryz.isAgg9
  z26 := Tryz.sizeOf9
  v26 := Tryz.zeroValue9
  t28 := Tryz.underlying157
  a28 := Tryz.isAgg157
  z28 := Tryz.sizeOf157
  v28 := Tryz.zeroValue157
  i26 := by kernel_rfl }
def Tryz.shSort_ren : Go.Shelf.Ren := ⟨fun | 6 => 122 | 8 => 141 | 9 => 140 | 19 => 155 | 20 => 156 | 21 => 146 | 22 => 147 | 23 => 148 | 24 => 149 | 25 => 150 | 26 => 151 | 27 => 152 | 28 => 153 | 29 => 154 | 36 => 159 | 31 => 160 | 32 => 161 | 37 => 162 | 38 => 163 | 39 => 164 | 41 => 165 | n => n, fun | 27 => 154 | 29 => 9 | 3 => 3 | 32 => 191 | 26 => 154 | 0 => 0 | 44 => 192 | 46 => 52 | 4 => 4 | 36 => 204 | 35 => 203 | 41 => 208 | 5 => 5 | 9 => 9 | 53 => 212 | 57 => 215 | 63 => 217 | 64 => 218 | n => n, fun | n => n⟩
theorem Tryz.shSort : Go.Proofs.SlLaysM.n6 Tryz.prog Tryz.shSort_ren := {
  mixed := by kernel_rfl
  f6 := ⟨Tryz.f122.name, by decide, Tryz.func122.trans (congrArg some (by kernel_rfl))⟩
  f8 := Tryz.func141.trans (congrArg some (by kernel_rfl))
  f9 := ⟨Tryz.f140.name, by decide, Tryz.func140.trans (congrArg some (by kernel_rfl))⟩
  f19 := Tryz.func155.trans (congrArg some (by kernel_rfl))
  f20 := Tryz.func156.trans (congrArg some (by kernel_rfl))
  f21 := ⟨Tryz.f146.name, by decide, Tryz.func146.trans (congrArg some (by kernel_rfl))⟩
  f22 := ⟨Tryz.f147.name, by decide, Tryz.func147.trans (congrArg some (by kernel_rfl))⟩
  f23 := ⟨Tryz.f148.name, by decide, Tryz.func148.trans (congrArg some (by kernel_rfl))⟩
  f24 := ⟨Tryz.f149.name, by decide, Tryz.func149.trans (congrArg some (by kernel_rfl))⟩
  f25 := ⟨Tryz.f150.name, by decide, Tryz.func150.trans (congrArg some (by kernel_rfl))⟩
  f26 := ⟨Tryz.f151.name, by decide, Tryz.func151.trans (congrArg some (by kernel_rfl))⟩
  f27 := ⟨Tryz.f152.name, by decide, Tryz.func152.trans (congrArg some (by kernel_rfl))⟩
  f28 := ⟨Tryz.f153.name, by decide, Tryz.func153.trans (congrArg some (by kernel_rfl))⟩
  f29 := ⟨Tryz.f154.name, by decide, Tryz.func154.trans (congrArg some (by kernel_rfl))⟩
  f31 := Tryz.func160.trans (congrArg some (by kernel_rfl))
  f32 := Tryz.func161.trans (congrArg some (by kernel_rfl))
  f36 := ⟨Tryz.f159.name, by decide, Tryz.func159.trans (congrArg some (by kernel_rfl))⟩
  f37 := ⟨Tryz.f162.name, by decide, Tryz.func162.trans (congrArg some (by kernel_rfl))⟩
  f38 := ⟨Tryz.f163.name, by decide, Tryz.func163.trans (congrArg some (by kernel_rfl))⟩
  f39 := ⟨Tryz.f164.name, by decide, Tryz.func164.trans (congrArg some (by kernel_rfl))⟩
  f41 := ⟨Tryz.f165.name, by decide, Tryz.func165.trans (congrArg some (by kernel_rfl))⟩
  t0 := Tryz.underlying0
  a0 := Tryz.isAgg0
  z0 := Tryz.sizeOf0
  v0 := Tryz.zeroValue0
  t3 := Tryz.underlying3
  a3 := Tryz.isAgg3
  z3 := Tryz.sizeOf3
  v3 := Tryz.zeroValue3
  t4 := Tryz.underlying4
  a4 := Tryz.isAgg4
  z4 := Tryz.sizeOf4
  v4 := Tryz.zeroValue4
  t5 := Tryz.underlying5
  a5 := Tryz.isAgg5
  z5 := Tryz.sizeOf5
  v5 := Tryz.zeroValue5
  t9 := Tryz.underlying9
  a9 := Tryz.isAgg9
  z9 := Tryz.sizeOf9
  v9 := Tryz.zeroValue9
  t26 := Tryz.underlying154
  a26 := Tryz.isAgg154
  z26 := Tryz.sizeOf154
  v26 := Tryz.zeroValue154
  t27 := Tryz.underlying154
  a27 := Tryz.isAgg154
  z27 := Tryz.sizeOf154
  v27 := Tryz.zeroValue154
  t29 := Tryz.underlying9
  a29 := Tryz.isAgg9
  z29 := Tryz.sizeOf9
  v29 := Tryz.zeroValue9
  t32 := Tryz.underlying191
  a32 := Tryz.isAgg191
  z32 := Tryz.sizeOf191
  v32 := Tryz.zeroValue191
  t35 := Tryz.underlying203
  a35 := Tryz.isAgg203
  z35 := Tryz.sizeOf203
  v35 := Tryz.zeroValue203
  t36 := Tryz.underlying204
  a36 := Tryz.isAgg204
  z36 := Tryz.sizeOf204
  v36 := Tryz.zeroValue204
  t41 := Tryz.underlying208
  a41 := Tryz.isAgg208
  z41 := Tryz.sizeOf208
  v41 := Tryz.zeroValue208
  t44 := Tryz.underlying192
  a44 := Tryz.isAgg192
  z44 := Tryz.sizeOf192
  v44 := Tryz.zeroValue192
  t46 := Tryz.underlying52
  a46 := Tryz.isAgg52
  z46 := Tryz.sizeOf52
  v46 := Tryz.zeroValue52
  t53 := Tryz.underlying212
  a53 := Tryz.isAgg212
  z53 := Tryz.sizeOf212
  v53 := Tryz.zeroValue212
  t57 := Tryz.underlying215
  a57 := Tryz.isAgg215
  z57 := Tryz.sizeOf215
  v57 := Tryz.zeroValue215
  t63 := Tryz.underlying217
  a63 := Tryz.isAgg217
  z63 := Tryz.sizeOf217
  v63 := Tryz.zeroValue217
  t64 := Tryz.underlying218
  a64 := Tryz.isAgg218
  z64 := Tryz.sizeOf218
  v64 := Tryz.zeroValue218 }
end Go.Proofs
namespace Go.Proofs.YtlepcmljmibdnaaGreat
open Go.RowKit Go.Proofs.YtlepcmljmibdnaaGreatW.PrintWords Go.Proofs.YtlepcmljmibdnaaGreatW.PrintLast Go.Proofs.YtlepcmljmibdnaaGreatW.PrintMore PWalOpens
open PStoreRecords (S66 k66 rd_T66 at_T66 z66)
open Go.Maps Go.Sort
set_option linter.unusedVariables false
set_option linter.unusedSimpArgs false
/-! ### the keys, sorted -/
def rAny : Value → Option (DataW Unit × List MemPlace) := fun _ => some (.nil, [])
theorem rd_str {x : MapEntry} {s : ByteArray} (hk : x.key = .string s) (hs : s.size ≤ maxLen) : WideElems.rd Tryz.prog 9 rAny x = some (.string s.data.toList, .nil) := by
  have h : keyOf Tryz.prog 9 x.key = some (.string s.data.toList) := by
    rw [hk]
    simp [keyOf, Tryz.underlying9, mapKey, hs]
  simp [WideElems.rd, h, rAny]
theorem own_of_mapV {w : World} {base M : Nat} {L : List S66} (h : MapV w base M L) (hk : ∀ p ∈ L, p.f0.size ≤ 1000000) (hl : L.length ≤ 1000000) :
    ∃ D0 : DataW Unit, w.ownsMap Tryz.prog 9 rAny M L.length D0 ∧ (strKeys D0).Perm (L.map fun p => p.f0.data.toList) ∧ Maps.size D0 = L.length := by
  obtain ⟨h0, hL, es, cl, hb, hst, hp, hv⟩ := h
  have hsz : es.size = L.length := by
    have := hp.length_eq
    simpa using this
  have hM : (1000000 : Nat) ≤ maxLen := by decide
  have hrd : ∀ x ∈ es.toList, ∃ s, x.key = .string s ∧ WideElems.rd Tryz.prog 9 rAny x = some (.string s.data.toList, .nil) := fun x hx => by
    obtain ⟨p, hp, e⟩ := mapV_keys hp hx
    exact ⟨p.f0, e, rd_str e (Nat.le_trans (hk p hp) hM)⟩
  refine ⟨_, ⟨es, cl, hb, ⟨by omega, hst, fun x hx => ?_⟩, by omega, rfl⟩, ?_, ?_⟩
  · obtain ⟨s, _, e⟩ := hrd x hx
    exact ⟨_, e⟩
  · show ((List.foldr DataW.insert [] (es.toList.map (WideElems.rg Tryz.prog 9 rAny))).map fun p => strOf p.1).Perm _
    refine ((WideShapes.sorted_perm _).map _).trans ?_
    rw [List.map_map]
    have e : es.toList.map ((fun p : Lit × DataW Unit => strOf p.1) ∘ WideElems.rg Tryz.prog 9 rAny) = (es.toList.map (·.key)).map (fun v => match v with | .string s => s.data.toList | _ => []) := by
      rw [List.map_map]
      refine List.map_congr_left fun x hx => ?_
      obtain ⟨s, hs, e⟩ := hrd x hx
      simp only [Function.comp, WideElems.rg_of e, hs, strOf]
    rw [e]
    refine (hp.map _).trans ?_
    rw [List.map_map]
    exact List.Perm.refl _
  · show (List.foldr DataW.insert [] (es.toList.map (WideElems.rg Tryz.prog 9 rAny))).length = _
    rw [(WideShapes.sorted_perm _).length_eq, List.length_map, Array.length_toList, hsz]
theorem sorted_of {L : List S66} (hL : SL L) {ss : List (List UInt8)} (h : ss.Perm (L.map fun p => p.f0.data.toList)) : ss.mergeSort leB = L.map fun p => p.f0.data.toList := by
  have tr : ∀ a b c : List UInt8, leB a b = true → leB b c = true → leB a c = true := fun a b c h1 h2 => by simp only [leB, decide_eq_true_eq] at *; exact List.le_trans h1 h2
  have tot : ∀ a b : List UInt8, (leB a b || leB b a) = true := fun a b => by simp only [leB, Bool.or_eq_true, decide_eq_true_eq]; exact List.le_total a b
  refine List.Perm.eq_of_pairwise (le := fun a b => leB a b = true) (fun a b _ _ h1 h2 => ?_) (List.pairwise_mergeSort tr tot ss) ?_ ((List.mergeSort_perm ss leB).trans h)
  · simp only [leB, decide_eq_true_eq] at h1 h2
    exact List.le_antisymm h1 h2
  · rw [List.pairwise_map]
    refine hL.pw.imp fun hlt => ?_
    simp only [leB, decide_eq_true_eq]
    exact List.not_lt.1 (fun h => klt_asymm hlt h)
theorem sorts_ (m : Nat) : AnyZ.SortsIn Tryz.prog Tryz.shSorted_ren Fence.wide m :=
  ⟨fun blk off cap ss W hH hblk hsz => callsIn_wide.2 (AnyM.slices_Sort_string Tryz.shSort blk off cap ss W hH hblk hsz),
   fun p cap W => callsIn_wide.2 (AnyM.slices_Sort_string_none Tryz.shSort p cap W)⟩
theorem mkeys_calls (M : Nat) (w : World) : Calls Tryz.prog 89 #[.map (some M)] w fun e w' => e = .returned (.func (.func 123) #[] #[.pointer (some ⟨w.heap.size, 0, none⟩)]) ∧ w' = w.alloc (.cells #[.map (some M)] 146) :=
  callsIn_wide.1 (AnyZ.keys_in Tryz.shKeys Fence.wide 5 trivial rfl (some M) w)
theorem encs_strs (L : List S66) : (L.map fun p => p.f0.data.toList).map encStr = L.map fun p => Value.string p.f0 := by
  rw [List.map_map]
  refine List.map_congr_left fun p _ => ?_
  simp [Function.comp, encStr]
set_option maxHeartbeats 1000000 in
theorem skeys_calls {w : World} {base M : Nat} {L : List S66} (h : MapV w base M L) (hk : ∀ p ∈ L, p.f0.size ≤ 1000000) (hl : L.length ≤ 1000000) :
    Calls Tryz.prog 88 #[.func (.func 123) #[] #[.pointer (some ⟨w.heap.size, 0, none⟩)]] (w.alloc (.cells #[.map (some M)] 146)) fun e w' =>
      ∃ v, e = .returned v ∧ w'.ownsRow (w.heap.size + 1) 9 1 v L.length (L.map fun p => Value.string p.f0) ∧ Below w.heap.size w w' := by
  obtain ⟨D0, hown, hks, hsz⟩ := own_of_mapV h hk hl
  have hL := h.2.1
  have hbl := hown.lt
  have hsz1 : (w.alloc (.cells #[.map (some M)] 146)).heap.size = w.heap.size + 1 := alloc_size _ _
  have hseq : SeqGives Fence.wide 2 Tryz.prog 123 #[.pointer (some ⟨w.heap.size, 0, none⟩)] encStr (fun ss => ss.Perm (strKeys D0)) (Maps.size D0) (w.alloc (.cells #[.map (some M)] 146)) :=
    AnyZ.keys_gives (ρ := Tryz.shKeys_ren) { Tryz.shKeys with } Fence.wide _ trivial rfl (by omega) w.heap.size M L.length D0 _ (by simp) (by simp) (by
      obtain ⟨es, clock, hb, Ft, hs, hD⟩ := hown
      exact ⟨es, clock, (Below.heap_alloc _ _ M hbl).trans hb, Ft, hs, hD⟩)
  refine (callsIn_wide.1 (AnyZ.sorted_in Tryz.shSorted Fence.wide 5 trivial trivial trivial trivial rfl (by omega) (sorts_ _) (enters_of Tryz.func122 (by kernel_rfl) rfl) 123 #[.pointer (some ⟨w.heap.size, 0, none⟩)] trivial (enters_of Tryz.func123 (by kernel_rfl) rfl) _ _ (by rw [hsz]; exact Nat.le_trans hl (by decide)) (by rw [hsz]; omega) _ hseq)).mono ?_
  rintro e w' ⟨v, ss, rfl, hp, hrow, _, hb⟩
  have hp2 := hp.trans hks
  have hlen : ss.length = L.length := by have := hp2.length_eq; simpa using this
  rw [sorted_of hL hp2, encs_strs, hlen, hsz1] at hrow
  rw [hsz1] at hb
  exact ⟨v, rfl, hrow, (Below.alloc (Below.refl w.heap.size w) (Nat.le_refl _) _).trans (hb.mono (by omega))⟩
/-! ### prefixes -/
def hasP (s p : ByteArray) : Bool := decide (p.size ≤ s.size) && ((s.extract 0 p.size).toList == p.toList)
theorem hasP_nil (s : ByteArray) : hasP s ⟨#[]⟩ = true := by
  unfold hasP
  have e : s.extract 0 (ByteArray.mk #[]).size = ⟨#[]⟩ := by
    cases s
    simp [ByteArray.extract, ByteArray.copySlice, ByteArray.size]
  rw [e]
  rw [show (ByteArray.mk #[]).size = 0 from rfl, beq_self_eq_true, Bool.and_true, decide_eq_true_eq]
  exact Nat.zero_le _
set_option maxRecDepth 100000 in
theorem shasp_calls (w : World) (s p : ByteArray) (hs : s.size ≤ 1000000) (hp : p.size ≤ 1000000) : Calls Tryz.prog 124 #[.string s, .string p] w fun e w' => e = .returned (.bool (hasP s p)) ∧ w = w' := by
  by_cases h : p.size ≤ s.size
  · have hr : hasP s p = ((s.extract 0 p.size).toList == p.toList) := by simp [hasP, h]
    rw [hr]
    clear hr
    go_enter Tryz.func124, Tryz.ntmps124
    go_wp2
    go_ret
    exact ⟨rfl, rfl⟩
  · have hr : hasP s p = false := by simp [hasP, h]
    rw [hr]
    clear hr
    go_enter Tryz.func124, Tryz.ntmps124
    go_wp2
    go_ret
    exact ⟨rfl, rfl⟩
theorem hasp_calls (w : World) (s p : ByteArray) (hs : s.size ≤ 1000000) (hp : p.size ≤ 1000000) : Calls Tryz.prog 90 #[.string s, .string p] w fun e w' => e = .returned (.bool (hasP s p)) ∧ w = w' := by
  have H := Aside0.mk (shasp_calls w s p hs hp)
  clear hs hp
  go_enter Tryz.func90, Tryz.ntmps90
  go_wp2_with (go_at_call 124; (with_reducible refine H.out.mono ?_); rintro e w' ⟨rfl, rfl⟩)
  go_ret
  exact ⟨rfl, rfl⟩
end Go.Proofs.YtlepcmljmibdnaaGreat
namespace Go.Proofs.YtlepcmljmibdnaaGreat
open Go.RowKit Go.Proofs.YtlepcmljmibdnaaGreatW.PrintWords Go.Proofs.YtlepcmljmibdnaaGreatW.PrintLast Go.Proofs.YtlepcmljmibdnaaGreatW.PrintMore PWalOpens
open PStoreRecords (S66 k66 rd_T66 at_T66 z66)
set_option linter.unusedVariables false
set_option linter.unusedSimpArgs false
/-- a kind of blocks that a round over a store's keys may change -/
def ItT (T : Nat → Obj → Prop) : Prop := (∀ k es cl, ¬ T k (.map es cl)) ∧ ∀ q, q = 5 ∨ q = 9 ∨ q = 148 ∨ q = 71 → ∀ k cells, ¬ T k (.cells cells q (0, 0))
/-- what the iterator leans on -/
structure KB (X Sb M base : Nat) (v0 : Option Addr) (pf : ByteArray) (L : List S66) (v : Value) (W : World) : Prop where
  hx : W.heap[X]? = some (.cells #[.pointer (some ⟨Sb, 0, none⟩)] 71 (0, 0))
  hp : W.heap[X + 1]? = some (.cells #[.string pf] 9 (0, 0))
  hs : W.heap[Sb]? = some (.cells #[.pointer v0, .map (some M)] 148 (0, 0))
  mv : MapV W base M L
  row : 0 < L.length → ∃ g c cur, v = .slice (some ⟨g, 0, none⟩) L.length c ∧ W.heap[g]? = some (.cells cur 9 (0, 0)) ∧ cur.toList.take L.length = L.map fun p => Value.string p.f0
  len : ∃ A c, v = .slice A L.length c
section
variable {X Sb M base b0 : Nat} {v0 : Option Addr} {pf : ByteArray} {L : List S66} {v : Value} {A B : World}
theorem KB.tc {T : Nat → Obj → Prop} (hT : ItT T) (h : KB X Sb M base v0 pf L v A) (hc : TC 0 T A B) : KB X Sb M base v0 pf L v B :=
  ⟨hc.blk _ _ h.hx (hT.2 _ (by simp) _ _), hc.blk _ _ h.hp (hT.2 _ (by simp) _ _), hc.blk _ _ h.hs (hT.2 _ (by simp) _ _), h.mv.tc hc (hT.1 _) (hT.2 _ (.inl rfl)), fun hl => by
    obtain ⟨g, c, cur, e, hg, hc'⟩ := h.row hl
    exact ⟨g, c, cur, e, hc.blk _ _ hg (hT.2 _ (by simp) _ _), hc'⟩, h.len⟩
theorem KB.below (h : KB X Sb M base v0 pf L v A) (hb : Below A.heap.size A B) : KB X Sb M base v0 pf L v B :=
  ⟨(hb.block _ (Array.getElem?_eq_some_iff.1 h.hx).1).trans h.hx, (hb.block _ (Array.getElem?_eq_some_iff.1 h.hp).1).trans h.hp, (hb.block _ (Array.getElem?_eq_some_iff.1 h.hs).1).trans h.hs, h.mv.below hb, fun hl => by
    obtain ⟨g, c, cur, e, hg, hc'⟩ := h.row hl
    exact ⟨g, c, cur, e, (hb.block _ (Array.getElem?_eq_some_iff.1 hg).1).trans hg, hc'⟩, h.len⟩
theorem KB.key (h : KB X Sb M base v0 pf L v A) {j : Nat} {p : S66} (hj : L[j]? = some p) : ∃ g c, v = .slice (some ⟨g, 0, none⟩) L.length c ∧ A.cell? ⟨g, j, none⟩ = some (.string p.f0) := by
  have hl : j < L.length := (List.getElem?_eq_some_iff.1 hj).1
  obtain ⟨g, c, cur, e, hg, hc⟩ := h.row (by omega)
  refine ⟨g, c, e, ?_⟩
  have h1 : (cur.toList.take L.length)[j]? = some (.string p.f0) := by rw [hc, List.getElem?_map, hj]; rfl
  rw [List.getElem?_take_of_lt hl] at h1
  unfold World.cell?
  rw [hg]
  simpa using h1
end
theorem row_shape {w : World} {b e n size : Nat} {v : Value} {xs : List Value} (h : w.ownsRow b e size v n xs) : ∃ A c, v = .slice A n c := by
  rcases h.2 with ⟨rfl, hz⟩ | ⟨g, cap, cur, rfl, _⟩
  · exact ⟨none, 0, by rw [hz]⟩
  · exact ⟨_, cap, rfl⟩
theorem row_kb {w : World} {b : Nat} {v : Value} {L : List S66} (h : w.ownsRow b 9 1 v L.length (L.map fun p => Value.string p.f0)) (hl : 0 < L.length) : ∃ g c cur, v = .slice (some ⟨g, 0, none⟩) L.length c ∧ w.heap[g]? = some (.cells cur 9 (0, 0)) ∧ cur.toList.take L.length = L.map fun p => Value.string p.f0 := by
  rcases h.2 with ⟨_, hz⟩ | ⟨g, cap, cur, rfl, _, hg, _, _, ht⟩
  · omega
  · exact ⟨g, cap, cur, rfl, hg, by simpa using ht.2⟩
abbrev KX := S66 × Value
def kpre (pf : ByteArray) (L : List S66) : List S66 := L.filter fun p => hasP p.f0 pf
def KAll (b0 : Nat) (pf : ByteArray) (L : List S66) (xs : List KX) (W : World) : Prop := xs.map (·.1) = kpre pf L ∧ ∀ x ∈ xs, BV W b0 x.2 x.1.f1
def KSome (b0 : Nat) (pf : ByteArray) (L : List S66) (xs : List KX) (W : World) : Prop := (xs.map (·.1)) <+: kpre pf L ∧ ∀ x ∈ xs, BV W b0 x.2 x.1.f1
theorem kpre_take {pf : ByteArray} {L : List S66} {j : Nat} {p : S66} (hj : L[j]? = some p) : kpre pf (L.take (j + 1)) = kpre pf (L.take j) ++ (if hasP p.f0 pf then [p] else []) := by
  unfold kpre
  rw [List.take_add_one, hj, List.filter_append]
  congr 1
  by_cases h : hasP p.f0 pf = true <;> simp [h]
theorem kpre_prefix (pf : ByteArray) (L : List S66) (j : Nat) : kpre pf (L.take j) <+: kpre pf L := (List.take_prefix j L).filter _
set_option maxRecDepth 100000 in
set_option maxHeartbeats 4000000 in
theorem keys1_in (n : Nat) (hn : 1 ≤ n) (l X Sb M base b0 : Nat) {v0 : Option Addr} {pf : ByteArray} {L : List S66} {T : Nat → Obj → Prop} (hT : ItT T) (J Jx : List KX → World → Prop) (W : World)
    (hJ : ∀ pre A B, J pre A → Below A.heap.size A B → J pre B)
    (hY : ∀ pre (x : KX) W1, J pre W1 → (pre.map (·.1) ++ [x.1] <+: kpre pf L) ∧ BV W1 b0 x.2 x.1.f1 → YieldAt Fence.wide (n - 1) Tryz.prog l #[.string x.1.f0, x.2] W1 fun e W' => (e = .returned (.bool true) ∧ J (pre ++ [x]) W' ∧ TC 0 T W1 W') ∨ (e = .returned (.bool false) ∧ Jx (pre ++ [x]) W' ∧ TC 0 T W1 W'))
    (hx : W.heap[X]? = some (.cells #[.pointer (some ⟨Sb, 0, none⟩)] 71 (0, 0))) (hp : W.heap[X + 1]? = some (.cells #[.string pf] 9 (0, 0))) (hs : W.heap[Sb]? = some (.cells #[.pointer v0, .map (some M)] 148 (0, 0))) (hM : MapV W base M L)
    (hk : ∀ p ∈ L, p.f0.size ≤ 1000000 ∧ p.f1.length ≤ 1000000) (hl : L.length ≤ 1000000) (hpf : pf.size ≤ 1000000) (hb0 : b0 ≤ W.heap.size) (h0 : J [] W) :
    CallsIn Fence.wide n Tryz.prog 87 #[.func (.yield l) #[] #[], .pointer (some ⟨X, 0, none⟩), .pointer (some ⟨X + 1, 0, none⟩)] W fun e W' => (∃ v, e = .returned v) ∧
      ((∃ xs, KAll b0 pf L xs W' ∧ J xs W') ∨ (∃ xs, KSome b0 pf L xs W' ∧ Jx xs W')) := by
  have hxc : W.cell? ⟨X, 0, none⟩ = some (.pointer (some ⟨Sb, 0, none⟩)) := box_cell hx
  obtain ⟨q0, q1, _⟩ := cells2 hs
  have HOK := Aside0.mk (sok_any hs)
  have HX := Aside0.mk hx
  have HP := Aside0.mk hp
  have HS := Aside0.mk hs
  have HM := Aside0.mk hM
  have HKS := Aside0.mk (fun p hp => (hk p hp).1)
  have HK := Aside0.mk hk
  have HPF := Aside0.mk hpf
  have HB0 := Aside0.mk hb0
  have HJ0 := Aside0.mk h0
  have HY := Aside0.mk hY
  have HJ := Aside0.mk hJ
  have HSK := Aside0.mk (fun (W' : World) (h : MapV W' base M L) => skeys_calls h (fun p hp => (hk p hp).1) hl)
  have hl2 : (L.length : Int) ≤ 1000000 := by omega
  clear hx hp hs hM hk hpf hb0 h0 hY hJ hl
  have hf1 : Fence.wide.fn 83 := trivial
  have hf2 : Fence.wide.fn 89 := trivial
  have hf3 : Fence.wide.fn 88 := trivial
  have hf4 : Fence.wide.fn 90 := trivial
  have hf5 : Fence.wide.fn 86 := trivial
  refine callsIn_of_wp Tryz.func87 rfl trivial ?_ rfl
  simp only [Tryz.ntmps87, List.size_toArray, List.length_cons, List.length_nil, Nat.reduceAdd, Nat.reduceSub, Array.replicate_succ, Array.replicate_zero, List.push_toArray, List.append_toArray, List.nil_append, List.cons_append]
  gi_wp2_with (first
    | (gi_at_call 83; (with_reducible refine (callsIn_wide.2 HOK.out).mono ?_); rintro e w' ⟨rfl, rfl⟩)
    | (gi_at_call 89; (with_reducible refine (callsIn_wide.2 (mkeys_calls M W)).mono ?_); rintro e w1 ⟨rfl, rfl⟩)
    | (gi_at_call 88; (with_reducible refine (callsIn_wide.2 (HSK.out W HM.out)).mono ?_); rintro e w2 ⟨v, rfl, hrow, hb⟩; have HR := Aside0.mk hrow; have HB := Aside0.mk hb; obtain ⟨Av, cv, rfl⟩ := row_shape hrow; clear hrow hb))
  have HKB := Aside0.mk (show KB X Sb M base v0 pf L (.slice Av L.length cv) w2 from ⟨(HB.out.block _ (Array.getElem?_eq_some_iff.1 HX.out).1).trans HX.out, (HB.out.block _ (Array.getElem?_eq_some_iff.1 HP.out).1).trans HP.out, (HB.out.block _ (Array.getElem?_eq_some_iff.1 HS.out).1).trans HS.out, HM.out.below HB.out, row_kb HR.out, ⟨_, _, rfl⟩⟩)
  have HB02 := Aside0.mk (Nat.le_trans HB0.out HB.out.size)
  have HJ02 := Aside0.mk (HJ.out _ _ _ HJ0.out HB.out)
  gi_loopw [16] (fun i wr => ∃ (j : Nat) (pre : List KX), i = .int .i64 (j : Int) ∧ Aside0 (j ≤ L.length) ∧ Aside0 (KB X Sb M base v0 pf L (.slice Av L.length cv) wr) ∧ Aside0 (b0 ≤ wr.heap.size) ∧ Aside0 (pre.map (·.1) = kpre pf (L.take j)) ∧ Aside0 (∀ x ∈ pre, BV wr b0 x.2 x.1.f1) ∧ Aside0 (J pre wr))
    (fun i _ => L.length - (intOf i).toNat)
  case atStart => exact ⟨0, [], rfl, ⟨Nat.zero_le _⟩, HKB, HB02, ⟨by simp [kpre]⟩, ⟨fun x hx => by cases hx⟩, HJ02⟩
  case round =>
    obtain ⟨j, pre, rfl, HJL, HKB, HB0, HPRE, HBV, HJP⟩ := hrel
    by_cases hlt : j < L.length
    · obtain ⟨p, hp⟩ : ∃ p, L[j]? = some p := ⟨L[j], List.getElem?_eq_getElem hlt⟩
      obtain ⟨g, c, ev, hkey⟩ := HKB.out.key hp
      cases ev
      have hlt' : decide ((j : Int) < (L.length : Int)) = true := by simp; omega
      have x1 := box_cell HKB.out.hx
      have x2 := box_cell HKB.out.hp
      obtain ⟨y0, y1, _⟩ := cells2 HKB.out.hs
      have HTK := Aside0.mk (kpre_take (pf := pf) hp)
      have hpk := HK.out p (List.mem_of_getElem? hp)
      have HHP := Aside0.mk (hasp_calls wr p.f0 pf hpk.1 HPF.out)
      have HPL := Aside0.mk (List.mem_of_getElem? hp)
      have HHAS := Aside0.mk hpk
      obtain ⟨hb, hhb⟩ : ∃ hb, hasP p.f0 pf = hb := ⟨_, rfl⟩
      rw [hhb] at HHP HTK
      clear hp hhb hpk
      cases hb with
      | true =>
        rcases HKB.out.mv.look p.f0 with ⟨p', u, hp', e', ⟨A, c', rfl, hc', hr⟩, hlk, _⟩ | ⟨hn', _⟩
        · obtain rfl := HKB.out.mv.2.1.uniq hp' HPL.out e'
          have HCL := Aside0.mk (clone_all wr A c' p'.f1 HHAS.out.2 (Kd.R_reads' hr).2.2)
          have HPFX := Aside0.mk (show pre.map (·.1) ++ [p'] <+: kpre pf L from by have h := kpre_prefix pf L (j + 1); rw [HTK.out, ← HPRE.out] at h; simpa using h)
          clear hr hc' hp' e'
          gi_wp2_with (first
            | (gi_at_call 90; (with_reducible refine (callsIn_wide.2 HHP.out).mono ?_); rintro e w' ⟨rfl, rfl⟩)
            | (gi_at_call 86; (with_reducible refine (callsIn_wide.2 HCL.out).mono ?_); rintro e w5 ⟨A5, c5, rfl, hr, hb⟩; have HB5 := Aside0.mk hb; have HBV5 := Aside0.mk (BV.of_clone hr HB0.out); obtain ⟨fn, tmps, assign, body, hy, hR⟩ := HY.out pre (p', .slice A5 p'.f1.length c5) w5 (HJ.out _ _ _ HJP.out hb) ⟨HPFX.out, HBV5.out⟩; clear hr hb))
          refine hR.mono ?_
          rintro e W3 (⟨rfl, hJ3, hc3⟩ | ⟨rfl, hJ3, hc3⟩)
          · have HJ3 := Aside0.mk hJ3
            have HC3 := Aside0.mk hc3
            clear hJ3 hc3 hy hR
            gi_wp2
            go_roundw
            case rel => exact ⟨j + 1, pre ++ [(p', .slice A5 p'.f1.length c5)], by go_num, ⟨hlt⟩, ⟨(HKB.out.below HB5.out).tc hT HC3.out⟩, ⟨Nat.le_trans HB0.out (Nat.le_trans HB5.out.size HC3.out.low.size)⟩, ⟨by rw [HTK.out, ← HPRE.out]; simp⟩, ⟨fun x hx => by
              rcases List.mem_append.1 hx with hx | hx
              · exact ((HBV.out x hx).below HB5.out).tc HC3.out (hT.2 _ (.inl rfl))
              · rw [List.mem_singleton] at hx
                subst hx
                exact HBV5.out.tc HC3.out (hT.2 _ (.inl rfl))⟩, HJ3⟩
            case measure => simp [intOf]; omega
          · have HJ3 := Aside0.mk hJ3
            have HC3 := Aside0.mk hc3
            clear hJ3 hc3 hy hR
            gi_wp2
            refine bodyPost_ret (results_none rfl _ _ _) rfl ?_
            refine ⟨⟨_, rfl⟩, .inr ⟨pre ++ [(p', .slice A5 p'.f1.length c5)], ⟨?_, fun x hx => ?_⟩, HJ3.out⟩⟩
            · have h := kpre_prefix pf L (j + 1)
              rw [HTK.out, ← HPRE.out] at h
              simpa using h
            · rcases List.mem_append.1 hx with hx | hx
              · exact ((HBV.out x hx).below HB5.out).tc HC3.out (hT.2 _ (.inl rfl))
              · rw [List.mem_singleton] at hx
                subst hx
                exact HBV5.out.tc HC3.out (hT.2 _ (.inl rfl))
        · exact absurd rfl (hn' p HPL.out)
      | false =>
        gi_wp2_with (first
            | (gi_at_call 90; (with_reducible refine (callsIn_wide.2 HHP.out).mono ?_); rintro e w' ⟨rfl, rfl⟩))
        refine ⟨fun f h => (by cases h), ?_⟩
        go_at_K
        gi_wp2
        go_roundw
        case rel => exact ⟨j + 1, pre, by go_num, ⟨hlt⟩, HKB, HB0, ⟨by rw [HTK.out, HPRE.out]; simp⟩, HBV, HJP⟩
        case measure => simp [intOf]; omega
    · have hlt' : decide ((j : Int) < (L.length : Int)) = false := by simp; omega
      have hj0 := HJL.out
      obtain rfl : j = L.length := by omega
      gi_wp2
      go_end0
      exact ⟨⟨_, rfl⟩, .inl ⟨pre, ⟨by have := HPRE.out; rwa [List.take_length] at this, HBV.out⟩, HJP.out⟩⟩
end Go.Proofs.YtlepcmljmibdnaaGreat
namespace Go.Proofs.YtlepcmljmibdnaaGreat
open Go.RowKit Go.Proofs.YtlepcmljmibdnaaGreatW.PrintWords Go.Proofs.YtlepcmljmibdnaaGreatW.PrintLast Go.Proofs.YtlepcmljmibdnaaGreatW.PrintMore PWalOpens
open PStoreRecords (S66 k66 rd_T66 at_T66 z66)
set_option linter.unusedVariables false
set_option linter.unusedSimpArgs false
attribute [local go_sem] Oper.semAt_some
theorem keysf_calls (w : World) (v : Option Addr) (pf : ByteArray) :
    Calls Tryz.prog 41 #[.pointer v, .string pf] w fun e w' => e = .returned (.func (.func 87) #[] #[.pointer (some ⟨w.heap.size, 0, none⟩), .pointer (some ⟨w.heap.size + 1, 0, none⟩)]) ∧ w' = (w.alloc (.cells #[.pointer v] 71)).alloc (.cells #[.string pf] 9) := by
  go_enter Tryz.func41, Tryz.ntmps41
  go_wp2
  exact bodyPost_ret (results_tmp rfl _ _ _) rfl ⟨rfl, rfl⟩
theorem below_grown {A B : World} (h : Below A.heap.size A B) : A.grownBy B none := ⟨h.os, h.tape, h.output, h.size, fun k hk _ => h.block k hk⟩
theorem keys_ok (n : Nat) (hn : 1 ≤ n) (X Sb M base b0 : Nat) {v0 : Option Addr} {pf : ByteArray} {L : List S66} {T : Nat → Obj → Prop} (hT : ItT T) (w : World)
    (hx : w.heap[X]? = some (.cells #[.pointer (some ⟨Sb, 0, none⟩)] 71 (0, 0))) (hp : w.heap[X + 1]? = some (.cells #[.string pf] 9 (0, 0))) (hs : w.heap[Sb]? = some (.cells #[.pointer v0, .map (some M)] 148 (0, 0))) (hM : MapV w base M L)
    (hk : ∀ p ∈ L, p.f0.size ≤ 1000000 ∧ p.f1.length ≤ 1000000) (hl : L.length ≤ 1000000) (hpf : pf.size ≤ 1000000) (hb0 : b0 ≤ w.heap.size) :
    SeqOk n Tryz.prog 87 #[.pointer (some ⟨X, 0, none⟩), .pointer (some ⟨X + 1, 0, none⟩)] (fun x : KX => #[.string x.1.f0, x.2]) (fun pre x W => (pre.map (·.1) ++ [x.1] <+: kpre pf L) ∧ BV W b0 x.2 x.1.f1) (TC 0 T) (KAll b0 pf L) (KSome b0 pf L) w := by
  intro l J Jx W hW hJ hJx hY h0
  exact keys1_in n hn l X Sb M base b0 hT J Jx W (fun pre A B h hb => hJ pre A B none h (below_grown hb) (fun r e => by cases e)) hY
    ((hW.block _ (Array.getElem?_eq_some_iff.1 hx).1).trans hx) ((hW.block _ (Array.getElem?_eq_some_iff.1 hp).1).trans hp) ((hW.block _ (Array.getElem?_eq_some_iff.1 hs).1).trans hs) (hM.below hW) hk hl hpf (Nat.le_trans hb0 hW.size) h0
/-! ### a row of what came -/
def rawC (x : KX) : List Value := [.string x.1.f0, x.2, .bool x.1.f2]
def rawL (xs : List KX) : List Value := xs.flatMap rawC
def isPut (k : Nat) (o : Obj) : Prop := isT 66 k o ∨ isT 57 k o
theorem itPut : ItT isPut := by
  refine ⟨fun k es cl h => ?_, fun q hq k cells h => ?_⟩
  · rcases h with h | h <;> exact h
  · rcases hq with rfl | rfl | rfl | rfl <;> rcases h with h | h <;> simp [isT] at h
def isLoop (_ : Nat) (o : Obj) : Prop := match o with
  | .loop _ => True
  | _ => False
def isPutB (k : Nat) (o : Obj) : Prop := isPut k o ∨ isLoop k o
theorem itB {T : Nat → Obj → Prop} (h : ItT T) : ItT (fun k o => T k o ∨ isLoop k o) :=
  ⟨fun k es cl hh => hh.elim (h.1 k es cl) (fun e => e), fun q hq k cells hh => hh.elim (h.2 q hq k cells) (fun e => e)⟩
theorem tc_loop {T : Nat → Obj → Prop} (W : World) (l : Nat) (r : Loop) (o' : Obj) (ho : W.heap[l]? = some (.loop r)) : TC 0 (fun k o => T k o ∨ isLoop k o) W (W.putObj l o') :=
  TC.grown (grownBy_putObj' W l o') (fun k hk => by cases hk; exact ⟨Nat.zero_le _, _, ho, .inr trivial⟩) (Nat.zero_le _)
theorem bv_own {b0 N : Nat} {u : Value} {b : List Int} {W W' : World} {row : Option Nat} (h : BV W b0 u b) (hg : W.grownBy W' row) (hr : ∀ r, row = some r → N ≤ r ∧ ∃ o : Obj, W.heap[r]? = some o ∧ o.isCells = false) : BV W' b0 u b :=
  h.chg (chg_grown hg (S := fun k => some k = row) (fun _ h => h)) (fun k hk _ cells hc => by
    obtain ⟨_, o, ho, hoc⟩ := hr k hk.symm
    rw [hc] at ho
    cases ho
    cases hoc)
theorem kall_own {b0 N : Nat} {pf : ByteArray} {L : List S66} : OwnFrom N (KAll b0 pf L) := fun s A B row h hg hr => ⟨h.1, fun x hx => bv_own (h.2 x hx) hg hr⟩
theorem ksome_own {b0 N : Nat} {pf : ByteArray} {L : List S66} : OwnFrom N (KSome b0 pf L) := fun s A B row h hg hr => ⟨h.1, fun x hx => bv_own (h.2 x hx) hg hr⟩
theorem raw_at {xs : List KX} {j : Nat} {x : KX} (h : xs[j]? = some x) : (rawL xs)[j * 3]? = some (.string x.1.f0) ∧ (rawL xs)[j * 3 + 1]? = some x.2 ∧ (rawL xs)[j * 3 + 2]? = some (.bool x.1.f2) := by
  induction xs generalizing j with
  | nil => simp at h
  | cons y ys ih =>
    cases j with
    | zero =>
      simp only [List.getElem?_cons_zero, Option.some.injEq] at h
      subst h
      simp [rawL, rawC]
    | succ j =>
      rw [List.getElem?_cons_succ] at h
      obtain ⟨h1, h2, h3⟩ := ih h
      have e : rawL (y :: ys) = rawC y ++ rawL ys := rfl
      rw [e]
      have hl : (rawC y).length = 3 := rfl
      refine ⟨?_, ?_, ?_⟩ <;> (rw [List.getElem?_append_right (by omega)]; rw [hl])
      · rw [show (j + 1) * 3 - 3 = j * 3 by omega]; exact h1
      · rw [show (j + 1) * 3 + 1 - 3 = j * 3 + 1 by omega]; exact h2
      · rw [show (j + 1) * 3 + 2 - 3 = j * 3 + 2 by omega]; exact h3
theorem raw_C {w : World} {n0 b0 : Nat} {v : Value} {xs : List KX} (h : w.ownsRow n0 66 3 v xs.length (rawL xs)) (hb : ∀ x ∈ xs, BV w b0 x.2 x.1.f1) (hm : xs.length ≤ 1000000) : ∃ A c, v = .slice A xs.length c ∧ xs.length ≤ c ∧ k66.C w A xs.length (xs.map (·.1)) := by
  rcases h.2 with ⟨rfl, hz⟩ | ⟨g, cap, cur, rfl, _, hg, hc, _, ht, hr⟩
  · obtain rfl : xs = [] := List.eq_nil_of_length_eq_zero hz
    exact ⟨none, 0, rfl, Nat.le_refl _, Kd.C_nil _ _⟩
  · refine ⟨_, cap, rfl, hc, by simp, by omega, fun _ => ⟨_, rfl, fun j p hj => ?_⟩⟩
    rw [List.getElem?_map] at hj
    obtain ⟨x, hx, rfl⟩ := Option.map_eq_some_iff.1 hj
    obtain ⟨A, c, e, hcap, hR⟩ := hb x (List.mem_of_getElem? hx)
    refine ⟨rawC x, rfl, by unfold rawC; rw [e]; exact PStoreRecords.k66_mk w x.1 hcap (Kd.R_reads' hR).2.2, fun i u hu => ?_⟩
    obtain ⟨h1, h2, h3⟩ := raw_at hx
    have hjl : j < xs.length := (List.getElem?_eq_some_iff.1 hx).1
    have e2 : (⟨g, 0, none⟩ : Addr).add (j * 3 + i) = ⟨g, j * 3 + i, none⟩ := by unfold Addr.add; split <;> simp_all <;> omega
    show w.cell? ((⟨g, 0, none⟩ : Addr).add (j * 3 + i)) = some u
    rw [e2]
    have hi : i < 3 := (List.getElem?_eq_some_iff.1 hu).1
    have hcur : cur[j * 3 + i]? = some u := by
      have : (rawL xs)[j * 3 + i]? = some u := by
        match i, hi with
        | 0, _ => simp [rawC] at hu; rw [← hu]; exact h1
        | 1, _ => simp [rawC] at hu; rw [← hu]; exact h2
        | 2, _ => simp [rawC] at hu; rw [← hu]; exact h3
      rw [← hr, List.getElem?_take_of_lt (by omega)] at this
      simpa using this
    unfold World.cell?
    rw [hg]
    exact hcur
theorem rawL_snoc (xs : List KX) (x : KX) : rawL (xs ++ [x]) = rawL xs ++ rawC x := by simp [rawL]
theorem kpre_nil (L : List S66) : kpre ⟨#[]⟩ L = L := by
  unfold kpre
  rw [List.filter_eq_self]
  intro p _
  exact hasP_nil p.f0
/-- a round's word: now = append(now, api.Put{Key: k, Val: v}); B: the box of now -/
def RowI (n0 B : Nat) (w : World) (xs : List KX) (W : World) : Prop := (∃ v, Boxed W B 57 v ∧ W.ownsRow n0 66 3 v xs.length (rawL xs) ∧ True) ∧ Below n0 w W
theorem rowI_own {n0 B N : Nat} {w : World} (hw : n0 ≤ w.heap.size) (hn : n0 ≤ N) : OwnFrom N (RowI n0 B w) := by
  refine OwnFrom.and ((holdsRow_own n0 B 57 66 3 (fun xs : List KX => xs.length) rawL (fun _ _ => True)).from N) ?_
  intro s W W' row h hg hr
  exact h.grown hg (Nat.le_trans hw h.size) (fun j hj => by have := (hr j hj).1; omega)
theorem tc_keepsFrom {B : Nat} {W W' : World} (h : TC 0 isPut W W') : KeepsFrom B W W' :=
  ⟨h.low.size, fun k o _ hk ho => h.blk k o hk (fun e => by
    cases o with
    | cells c t f => cases ho
    | _ => exact e.elim (fun e => e) (fun e => e))⟩
/-- a round's end: the row was grown, its box filled anew -/
theorem rowI_step {n0 B : Nat} {w W W2 : World} {xs : List KX} {x : KX} {v v' : Value} (hbx : Boxed W B 57 v) (hrow : W.ownsRow n0 66 3 v xs.length (rawL xs)) (hb : Below n0 w W) (hn : n0 ≤ w.heap.size) (hB : n0 ≤ B)
    (hg : (W.alloc (.cells (rawC x).toArray 66)).grownBy W2 v.ownBlock) (hrow2 : W2.ownsRow n0 66 3 v' (xs.length + 1) (rawL xs ++ rawC x)) :
    RowI n0 B w (xs ++ [x]) (W2.setCell ⟨B, 0, none⟩ v') ∧ TC 0 isPut W (W2.setCell ⟨B, 0, none⟩ v') := by
  have hbw : B < W.heap.size := hbx.lt
  have hal := Below.alloc (Below.refl W.heap.size W) (Nat.le_refl _) (.cells (rawC x).toArray 66)
  have hbx1 : Boxed (W.alloc (.cells (rawC x).toArray 66)) B 57 v := hbx.alloc _
  have hne : some B ≠ v.ownBlock := fun e => by
    obtain ⟨cells, hc⟩ := own_typed hrow B e.symm
    rw [show W.heap[B]? = _ from hbx] at hc
    simp at hc
  have hbx2 : Boxed W2 B 57 v := hbx1.kept hg hne
  have hbx3 := hbx2.set v'
  have htc1 : TC 0 isPut W W2 := (TC.of_below hal (Nat.zero_le _)).trans (TC.grown hg (fun k hk => by
    obtain ⟨cells, hc⟩ := own_typed hrow k hk.symm
    exact ⟨Nat.zero_le _, _, (hal.block k (Array.getElem?_eq_some_iff.1 hc).1).trans hc, .inl rfl⟩) (Nat.zero_le _))
  have htc2 : TC 0 isPut W2 (W2.setCell ⟨B, 0, none⟩ v') := TC.set (T := isPut) hbx2 (.inr rfl) (Nat.zero_le _) v'
  have hlow : Below n0 W W2 := (hal.mono (Nat.le_trans hn hb.size)).trans (Below.grown (Below.refl n0 _) hg (by rw [alloc_size]; exact Nat.le_succ_of_le (Nat.le_trans hn hb.size)) (fun k hk => own_base hrow k hk))
  refine ⟨⟨⟨v', hbx3, ?_, trivial⟩, ?_⟩, htc1.trans htc2⟩
  · rw [List.length_append, List.length_singleton, rawL_snoc]
    refine own_move hrow2 (fun k hk => ?_)
    refine Below.heap_setCell W2 ⟨B, 0, none⟩ v' k (fun e => ?_)
    obtain ⟨cells, hc⟩ := own_typed hrow2 k hk
    rw [e, show W2.heap[B]? = _ from hbx2] at hc
    simp at hc
  · exact (hb.trans hlow).trans ((Only.refl W2 B).set (i := 0) v' |>.chg (S := fun k => k = B) (fun _ h => h) |>.below (Nat.le_trans (Nat.le_trans hn hb.size) htc1.low.size) (fun k hk => by subst hk; exact hB))
theorem leave_one {F : Fence} {n : Nat} {fn : Func} {tmps : Array Value} {R : Ending → World → Prop} {D : Nat} {W : World} (hm : W.heap[D]? = some (.deferred (some []))) {v : Value} (hres : (results fn tmps).run Tryz.prog (W.putObj D (.deferred none)) = .ok v (W.putObj D (.deferred none))) (hR : R (.returned v) (W.putObj D (.deferred none))) :
    LeavesInM F n Tryz.prog fn tmps R [cmark D] .returning W :=
  ⟨by simp, .inl ⟨D, _, rfl, run_takeDeferred hm, v, hres, hR⟩⟩
theorem R_shut {α : Type} {d : Kd α} {e base : Nat} {ok : Nat → Prop} {v : Value} {xs : List α} {W : World} {D : Nat} (h : d.R e W base ok v xs) (hm : W.heap[D]? = some (.deferred (some []))) : d.R e (W.putObj D (.deferred none)) base ok v xs :=
  R_tc h (TC.grown (T := fun _ o => o.isCells = false) (grownBy_putObj' W D _) (fun k hk => by cases hk; exact ⟨Nat.zero_le _, _, hm, rfl⟩) (Nat.zero_le _)) (fun q _ k cells hh => by cases hh)
theorem below_shut {w W : World} {base D : Nat} (h : Below base w W) (hb : base ≤ w.heap.size) (hD : base ≤ D) : Below base w (W.putObj D (.deferred none)) :=
  h.grown (grownBy_putObj' W D _) (Nat.le_trans hb h.size) (fun k hk => by cases hk; exact hD)
theorem info66c : ∃ i, Tryz.prog.info? 66 = some i ∧ i.zero = some (.agg #[.string ⟨#[]⟩, .slice none 0 0, .bool false]) ∧ i.size = 3 ∧ i.bytes = 48 := by
  obtain ⟨i, hi, h⟩ := Option.map_eq_some_iff.1 info66
  simp only [Prod.mk.injEq] at h
  exact ⟨i, hi, h.1, h.2.1, h.2.2⟩
set_option maxRecDepth 100000 in
set_option maxHeartbeats 4000000 in
theorem whole_calls {w : World} {Sb M base : Nat} {v0 : Option Addr} {L : List S66} (hs : w.heap[Sb]? = some (.cells #[.pointer v0, .map (some M)] 148 (0, 0))) (hM : MapV w base M L) (hk : ∀ p ∈ L, p.f0.size ≤ 60000 ∧ p.f1.length ≤ 60000) (hl : L.length ≤ 100000) (hrec : (recB true L).length ≤ 600000) :
    Calls Tryz.prog 91 #[.pointer (some ⟨Sb, 0, none⟩)] w fun e w' => ∃ A c, e = .returned (.slice A (recB true L).length c) ∧ Kd.R (Kd.int .u8) 5 w' w.heap.size (fun k => w.heap.size ≤ k) (.slice A (recB true L).length c) (recB true L) ∧ Below w.heap.size w w' := by
  refine (callsIn_wide (n := 9)).1 ?_
  have HS := Aside0.mk hs
  have HM := Aside0.mk hM
  have HK := Aside0.mk hk
  have HL := Aside0.mk hl
  have HREC := Aside0.mk hrec
  clear hs hM hk hl hrec
  refine callsIn_of_wp_marks Tryz.func91 rfl trivial ?_ rfl
  simp only [Tryz.ntmps91, List.size_toArray, List.length_cons, List.length_nil, Nat.reduceAdd, Nat.reduceSub, Array.replicate_succ, Array.replicate_zero, List.push_toArray, List.append_toArray, List.nil_append, List.cons_append]
  refine wpIn_wide.2 ?_
  go_wp2_with (first
    | (go_at_call 41; (with_reducible refine (keysf_calls _ (some ⟨Sb, 0, none⟩) ⟨#[]⟩).mono ?_); rintro e w1 ⟨rfl, rfl⟩))
  obtain ⟨W1, hW1⟩ : ∃ W1, ((w.alloc (.cells #[.slice none 0 0] 57)).alloc (.cells #[.pointer (some ⟨Sb, 0, none⟩)] 71)).alloc (.cells #[.string ⟨#[]⟩] 9) = W1 := ⟨_, rfl⟩
  rw [hW1, show w.heap.size + 1 + 1 = (w.heap.size + 1) + 1 from rfl]
  have hB1 : Below w.heap.size w W1 := by rw [← hW1]; exact (((Below.refl w.heap.size w).alloc (Nat.le_refl _) _).alloc (by simp) _).alloc (by simp; omega) _
  have HB1 := Aside0.mk hB1
  have HS1 := Aside0.mk (show W1.heap.size = w.heap.size + 3 from by rw [← hW1]; simp)
  have HBX := Aside0.mk (show Boxed W1 w.heap.size 57 (.slice none 0 0) from by
    rw [← hW1]
    show _ = _
    rw [Below.heap_alloc _ _ _ (by simp; omega), Below.heap_alloc _ _ _ (by simp)]
    exact heap_alloc_new w _)
  have HX1 := Aside0.mk (show W1.heap[w.heap.size + 1]? = some (.cells #[.pointer (some ⟨Sb, 0, none⟩)] 71 (0, 0)) from by
    rw [← hW1, Below.heap_alloc _ _ _ (by simp)]
    have h := heap_alloc_new (w.alloc (.cells #[.slice none 0 0] 57)) (.cells #[.pointer (some ⟨Sb, 0, none⟩)] 71)
    rwa [alloc_size] at h)
  have HX2 := Aside0.mk (show W1.heap[w.heap.size + 1 + 1]? = some (.cells #[.string ⟨#[]⟩] 9 (0, 0)) from by
    rw [← hW1]
    have h := heap_alloc_new ((w.alloc (.cells #[.slice none 0 0] 57)).alloc (.cells #[.pointer (some ⟨Sb, 0, none⟩)] 71)) (.cells #[.string ⟨#[]⟩] 9)
    rwa [alloc_size, alloc_size] at h)
  clear hW1
  have HM1 := Aside0.mk (HM.out.below hB1)
  have HSB1 := Aside0.mk ((hB1.block _ (Array.getElem?_eq_some_iff.1 HS.out).1).trans HS.out)
  clear hB1
  obtain ⟨i0, hi, hz0, hz1, hz2⟩ := info66c
  have HI0 := Aside0.mk (And.intro hi (And.intro hz0 (And.intro hz1 hz2)))
  clear hi hz0 hz1 hz2
  have HPL := Aside0.mk (kpre_nil L)
  refine range_ok (n := 9) (by omega) rfl (enters_of Tryz.func87 (by kernel_rfl) rfl)
    (keys_ok 8 (by omega) (w.heap.size + 1) Sb M base w.heap.size (itB itPut) W1 HX1.out HX2.out HSB1.out HM1.out (fun p hp => ⟨Nat.le_trans (HK.out p hp).1 (by decide), Nat.le_trans (HK.out p hp).2 (by decide)⟩) (Nat.le_trans HL.out (by decide)) (by decide) HB1.out.size)
    (fun h k => h.trans k) (fun W l r o' _ ho => tc_loop W l r o' ho) (fun x => rfl) (fun pre x A B row h hg hr => ⟨h.1, bv_own h.2 hg hr⟩) kall_own ksome_own (RowI w.heap.size w.heap.size w) (fun _ _ _ => False) (rowI_own (Nat.le_refl _) HB1.out.size) (fun c s A B row h _ _ => h) ?h0
    (fun x => { tmps := #[.pointer (some ⟨Sb, 0, none⟩), undef, .slice none 0 0, .pointer (some ⟨w.heap.size, 0, none⟩), .string x.1.f0, x.2, .pointer (some ⟨Sb, 0, none⟩), .func (.func 87) #[] #[.pointer (some ⟨w.heap.size + 1, 0, none⟩), .pointer (some ⟨w.heap.size + 1 + 1, 0, none⟩)], .string x.1.f0, x.2, undef, undef, undef, undef, undef, undef, undef, undef], defers := [] }) ?hassign ?hbody ?hdone ?hstop
  case h0 => exact ⟨⟨_, HBX.out, ⟨rfl, .inl ⟨rfl, rfl⟩⟩, trivial⟩, HB1.out⟩
  case hassign =>
    intro l x W K hK
    gi_wp2
    exact hK
  case hbody =>
    rintro l pre ⟨p, u⟩ W hwl hrc ⟨⟨v, hbx, hrow, _⟩, hb⟩ ⟨hpre, hbv⟩
    rw [HPL.out] at hpre
    have hlen : pre.length + 1 ≤ 100000 := by
      have h := hpre.length_le
      simp only [List.length_append, List.length_map, List.length_singleton] at h
      exact Nat.le_trans h HL.out
    have hp2 : p.f2 = false := HM.out.2.1.here p (hpre.subset (by simp))
    have hc3 := hbx.cell
    have hf3 := hbx.frozen
    have HROW := Aside0.mk hrow
    have HBXW := Aside0.mk hbx
    have HBW := Aside0.mk hb
    have HBV := Aside0.mk (show BV W w.heap.size u p.f1 from hbv)
    have HP2 := Aside0.mk hp2
    simp only at hbv
    obtain ⟨A5, c5, rfl, _⟩ := hbv
    have HH1 := Aside0.mk (show pre.length + 1 ≤ maxLen from Nat.le_trans hlen (by decide))
    have HH2 := Aside0.mk (show (pre.length + 1) * 48 ≤ 140737488355328 from by omega)
    clear hbx hrow hb hpre hp2 hlen
    simp only []
    gi_wp2_with (first
      | (gi_at_builtin; refine wpListIn_append_own _ rfl (.tmp 10) (.tmp 14) 57 rfl w.heap.size 66 i0 (.agg #[.string ⟨#[]⟩, .slice none 0 0, .bool false]) 3 48 Tryz.underlying57 HI0.out.1 HI0.out.2.1 HI0.out.2.2.1 HI0.out.2.2.2 rfl (by decide) v pre.length (rawL pre) rfl (HROW.out.alloc _) ⟨W.heap.size, 0, none⟩ 1 1 [.string p.f0, .slice A5 p.f1.length c5, .bool false] rfl rfl ?c1 ?c2 HH1.out HH2.out ?c5 ?_))
    case c1 => simpa using World.news_of_block (cs := #[.string p.f0, .slice A5 p.f1.length c5, .bool false]) (t := 66) (fr := (0, 0)) (heap_alloc_new W (.cells #[.string p.f0, .slice A5 p.f1.length c5, .bool false] 66))
    case c2 => intro z hz; simp at hz; rcases hz with rfl | rfl | rfl <;> rfl
    case c5 => rw [alloc_size]; exact Nat.le_succ_of_le HBW.out.size
    intro v2 W2 hrow2 hg2 _
    obtain ⟨A2, c2, rfl⟩ := row_shape hrow2
    have hraw : rawC (p, .slice A5 p.f1.length c5) = [.string p.f0, .slice A5 p.f1.length c5, .bool false] := by unfold rawC; rw [HP2.out]
    obtain ⟨hri, htc⟩ := rowI_step (x := (p, .slice A5 p.f1.length c5)) HBXW.out HROW.out HBW.out (Nat.le_refl _) (Nat.le_refl _) (by rw [hraw]; exact hg2) (by rw [hraw]; exact hrow2)
    have hne : some w.heap.size ≠ v.ownBlock := fun e => by
      obtain ⟨cells, hc⟩ := own_typed HROW.out w.heap.size e.symm
      rw [show W.heap[w.heap.size]? = _ from HBXW.out] at hc
      simp at hc
    have hbx2 : Boxed W2 w.heap.size 57 v := (HBXW.out.alloc _).kept hg2 hne
    have hc4 := hbx2.cell
    have hf4 := hbx2.frozen
    have HRI := Aside0.mk hri
    have HTC := Aside0.mk htc
    clear hri htc hbx2 hrow2 hg2 hne hraw
    gi_wp2
    exact ⟨tc_keepsFrom HTC.out, HTC.out.mono (fun _ _ h => .inl h), HRI.out⟩
  case hdone =>
    rintro D xs W hwD ⟨hxs, hbv⟩ ⟨⟨v, hbx, hrow, _⟩, hb⟩ hmark
    rw [HPL.out] at hxs
    have hlen : xs.length = L.length := by rw [← hxs, List.length_map]
    obtain ⟨A, c, rfl, hcap, hC⟩ := raw_C hrow hbv (by rw [hlen]; exact Nat.le_trans HL.out (by decide))
    rw [hxs, hlen] at hC
    rw [hlen] at hcap
    rw [hlen] at hbx
    have hc3 := hbx.cell
    have HREC2 := Aside0.mk (srecord_calls W true A c L hcap HK.out HREC.out hC)
    have HMK := Aside0.mk hmark
    have HBW := Aside0.mk hb
    have HWD := Aside0.mk hwD
    clear hxs hbv hbx hrow hb hmark hcap hC hwD
    simp only []
    go_wp2_with (first
      | (go_at_call 34; (with_reducible refine HREC2.out.mono ?_); rintro e w7 ⟨A7, c7, rfl, hr, hb⟩; have HR7 := Aside0.mk hr; have HB7 := Aside0.mk hb; clear hr hb))
    have hm7 := (HB7.out.block _ (Array.getElem?_eq_some_iff.1 HMK.out).1).trans HMK.out
    exact leave_one hm7 (results_tmp rfl _ _ _) ⟨A7, c7, rfl, Kd.R_mono (Kd.R_lower (R_shut HR7.out hm7) HBW.out.size) (fun k hk => Nat.le_trans HBW.out.size hk), below_shut (HBW.out.trans (HB7.out.mono HBW.out.size)) (Nat.le_refl _) (Nat.le_trans HB1.out.size HWD.out)⟩
  case hstop => exact fun D c pre W _ _ h _ => h.elim
end Go.Proofs.YtlepcmljmibdnaaGreat
namespace Go.Proofs.YtlepcmljmibdnaaGreat
open Go.RowKit Go.Proofs.YtlepcmljmibdnaaGreatW.PrintWords Go.Proofs.YtlepcmljmibdnaaGreatW.PrintLast Go.Proofs.YtlepcmljmibdnaaGreatW.PrintMore PWalOpens
open PStoreRecords (S66 k66 rd_T66 at_T66 z66)
set_option linter.unusedVariables false
set_option linter.unusedSimpArgs false
/-- what a list of puts must be to be written whole -/
structure SLim (L : List S66) : Prop where
  each : ∀ p ∈ L, p.f0.size ≤ 60000 ∧ p.f1.length ≤ 60000
  len : L.length ≤ 100000
  rec_ : (recB true L).length ≤ 600000
def isSM (Mv : Nat) (k : Nat) (o : Obj) : Prop := k = Mv ∧ (match o with | .map _ _ => True | _ => False)
def isSD (M Bd Mv : Nat) (k : Nat) (o : Obj) : Prop := isWD M Bd k o ∨ isSM Mv k o
/-- a store in memory -/
structure SV (n0 : Nat) (w : World) (Sb Wb B M Bd Mv : Nat) (vc vs : Value) (D : PD) (gen head tail : Int) (S : List Int) (over : Bool) (L : List S66) : Prop where
  blk : w.heap[Sb]? = some (.cells #[.pointer (some ⟨Wb, 0, none⟩), .map (some Mv)] 148 (0, 0))
  hS : n0 ≤ Sb
  wv : WV n0 w Wb B M Bd vc vs D gen head tail S over
  mv : MapV w n0 Mv L
  ne : Mv ≠ M ∧ Mv ≠ Bd
section
variable {n0 : Nat} {w w' : World} {Sb Wb B M Bd Mv : Nat} {vc vs : Value} {D D2 : PD} {gen head tail g2 h2 t2 code : Int} {S S2 : List Int} {over o2 : Bool} {L : List S66}
theorem WV.keep {T : Nat → Obj → Prop} {b : Nat} (h : WV n0 w Wb B M Bd vc vs D gen head tail S over) (hc : TC b T w w') (hd : ∀ k o, isDisk M Bd k o → ¬ T k o) (hw : ∀ k cs, ¬ T k (.cells cs 102 (0, 0))) (hu : ∀ k cs, ¬ T k (.cells cs 52 (0, 0))) : WV n0 w' Wb B M Bd vc vs D gen head tail S over :=
  ⟨hc.blk _ _ h.blk (hw _ _), h.hW, h.dk.tkeep hc hd, R_tc h.st hc (fun q hq k cells => by obtain rfl := q56 q hq; exact hu k cells)⟩
theorem SV.fresh (h : SV n0 w Sb Wb B M Bd Mv vc vs D gen head tail S over L) (hb : Below w.heap.size w w') : SV n0 w' Sb Wb B M Bd Mv vc vs D gen head tail S over L :=
  ⟨(hb.block _ (Array.getElem?_eq_some_iff.1 h.blk).1).trans h.blk, h.hS, h.wv.fresh hb, h.mv.below hb, h.ne⟩
/-- a deed of the wal's -/
theorem SV.wal {vc' vs' : Value} (h : SV n0 w Sb Wb B M Bd Mv vc vs D gen head tail S over L) (hc : TC n0 (isWD M Bd) w w') (hv : WV n0 w' Wb B M Bd vc' vs' D2 g2 h2 t2 S2 o2) : SV n0 w' Sb Wb B M Bd Mv vc' vs' D2 g2 h2 t2 S2 o2 L :=
  ⟨hc.blk _ _ h.blk (by simp [isWD, isDisk, isT]), h.hS, hv, h.mv.tc hc (fun es cl e => by
    rcases e with e | e
    · rcases e with e | e
      · exact h.ne.1 e
      · exact h.ne.2 e
    · exact e) (fun k cells => by simp [isWD, isDisk, isT]), h.ne⟩
theorem SV.map_tc (h : SV n0 w Sb Wb B M Bd Mv vc vs D gen head tail S over L) (hc : Chg w w' (fun k => k = Mv)) : TC n0 (isSM Mv) w w' := by
  obtain ⟨h0, _, es, cl, hb, _⟩ := h.mv
  exact .of_chg hc h.wv.dk.base_le (fun k hk _ => by subst hk; exact ⟨h0, _, hb, rfl, trivial⟩)
/-- a deed of the map's -/
theorem SV.map {L2 : List S66} (h : SV n0 w Sb Wb B M Bd Mv vc vs D gen head tail S over L) (hc : Chg w w' (fun k => k = Mv)) (hv : MapV w' n0 Mv L2) : SV n0 w' Sb Wb B M Bd Mv vc vs D gen head tail S over L2 := by
  have htc := h.map_tc hc
  refine ⟨htc.blk _ _ h.blk (fun e => e.2), h.hS, h.wv.keep htc (fun k o hd e => ?_) (fun k cs e => e.2) (fun k cs e => e.2), hv, h.ne⟩
  obtain ⟨rfl, e⟩ := e
  cases o with
  | map es cl => exact hd.elim (fun e => h.ne.1 e) (fun e => h.ne.2 e)
  | _ => exact e
theorem SV.low (h : SV n0 w Sb Wb B M Bd Mv vc vs D gen head tail S over L) : n0 ≤ w.heap.size := h.wv.dk.base_le
end
set_option maxRecDepth 100000 in
theorem behind_calls {w : World} {Sb M base c : Nat} {v0 A : Option Addr} {L l : List S66} (hs : w.heap[Sb]? = some (.cells #[.pointer v0, .map (some M)] 148 (0, 0))) (hM : MapV w base M L) (hC : k66.C w A l.length l) (hz : ∀ p ∈ l, p.f1.length ≤ 1000000) (hL : SLim (hapL L l)) :
    Calls Tryz.prog 85 #[.pointer (some ⟨Sb, 0, none⟩), .slice A l.length c] w fun e w' => ∃ A' c', e = .returned (.slice A' (recB true (hapL L l)).length c') ∧ Kd.R (Kd.int .u8) 5 w' w.heap.size (fun k => w.heap.size ≤ k) (.slice A' (recB true (hapL L l)).length c') (recB true (hapL L l)) ∧ Below w.heap.size w w' := by
  obtain ⟨q0, q1, _⟩ := cells2 hs
  have HCL := Aside0.mk (mclone_map hM)
  have HC := Aside0.mk hC
  have HZ := Aside0.mk hz
  have HL := Aside0.mk hL
  have HBM := Aside0.mk (show base ≤ w.heap.size from Nat.le_trans hM.1 (Nat.le_of_lt hM.lt))
  clear hs hM hC hz hL
  go_enter Tryz.func85, Tryz.ntmps85
  go_wp2_with (first
    | (go_at_call 120; (with_reducible refine HCL.out.mono ?_); rintro e w1 ⟨rfl, hm, hb⟩; have HM1 := Aside0.mk hm; have HB1 := Aside0.mk hb; clear hm hb)
    | (go_at_call 82; (with_reducible refine (happen_calls (w1.alloc (.cells #[.pointer none, .map (some w.heap.size)] 148)) (c := c) (heap_alloc_new w1 _) (Kd.C_below (Kd.C_below HC.out HB1.out) (Below.alloc (Below.refl w1.heap.size w1) (Nat.le_refl _) _)) HZ.out (HM1.out.below (Below.alloc (Below.refl w1.heap.size w1) (Nat.le_refl _) _))).mono ?_); rintro e w2 ⟨rfl, hm, hc⟩; have HM2 := Aside0.mk hm; have HC2 := Aside0.mk hc; clear hm hc)
    | (go_at_call 91; (with_reducible refine (whole_calls (v0 := none) ((HC2.out.block w1.heap.size (by rw [alloc_size]; omega) (fun e => by have := HM1.out.lt; omega)).trans (heap_alloc_new w1 _)) HM2.out HL.out.each HL.out.len HL.out.rec_).mono ?_); rintro e w3 ⟨A3, c3, rfl, hr, hb⟩; have HR3 := Aside0.mk hr; have HB3 := Aside0.mk hb; clear hr hb))
  go_ret
  have hb2 : Below w.heap.size w w2 := (HB1.out.trans ((Below.alloc (Below.refl w1.heap.size w1) (Nat.le_refl _) (.cells #[.pointer none, .map (some w.heap.size)] 148)).mono HB1.out.size)).trans (HC2.out.below (by rw [alloc_size]; exact Nat.le_succ_of_le HB1.out.size) (fun k hk => by rw [hk]; exact Nat.le_refl _))
  exact ⟨A3, c3, rfl, Kd.R_mono (Kd.R_lower HR3.out hb2.size) (fun k hk => Nat.le_trans hb2.size hk), hb2.trans (HB3.out.mono hb2.size)⟩
end Go.Proofs.YtlepcmljmibdnaaGreat
namespace Go.Proofs.YtlepcmljmibdnaaGreat
open Go.RowKit Go.Proofs.YtlepcmljmibdnaaGreatW.PrintWords Go.Proofs.YtlepcmljmibdnaaGreatW.PrintLast Go.Proofs.YtlepcmljmibdnaaGreatW.PrintMore PWalOpens
open PStoreRecords (S66 k66 rd_T66 at_T66 z66)
set_option linter.unusedVariables false
set_option linter.unusedSimpArgs false
def SdQ (n0 : Nat) (w : World) (Sb Wb B M Bd Mv : Nat) (D2 : PD) (code g2 h2 t2 : Int) (S2 : List Int) (o2 : Bool) (L2 : List S66) (e : Ending) (w' : World) : Prop :=
  e = .returned (.int .i64 code) ∧ TC n0 (isSD M Bd Mv) w w' ∧ ∃ vc' vs', SV n0 w' Sb Wb B M Bd Mv vc' vs' D2 g2 h2 t2 S2 o2 L2
section
variable {n0 : Nat} {w : World} {Sb Wb B M Bd Mv c : Nat} {vc vs : Value} {A : Option Addr} {D D2 : PD} {gen head tail g2 h2 t2 code r f : Int} {S S2 : List Int} {o2 : Bool} {L l : List S66}
theorem commit_empty (h : SV n0 w Sb Wb B M Bd Mv vc vs D gen head tail S false L) : Calls Tryz.prog 39 #[.pointer (some ⟨Sb, 0, none⟩), .slice A 0 c] w fun e w' => e = .returned (.int .i64 0) ∧ w = w' := by
  have HOK := Aside0.mk (sok_any h.blk)
  clear h
  go_enter Tryz.func39, Tryz.ntmps39
  go_wp2_with (go_at_call 83; (with_reducible refine HOK.out.mono ?_); rintro e w' ⟨rfl, rfl⟩)
  go_ret
  exact ⟨rfl, rfl⟩
set_option maxRecDepth 100000 in
set_option maxHeartbeats 4000000 in
theorem commit_calls (b1 b2 : List Int) (n1 n2 : Int) (he1 : recB false l = b1) (he2 : recB true (hapL L l) = b2) (hn1 : needN b1 = n1) (hn2 : needN b2 = n2)
    (hadd : ∀ (w : World) (vc vs : Value) (A : Option Addr) (c : Nat), WV n0 w Wb B M Bd vc vs D gen head tail S false → (∀ W, TC n0 (isWD M Bd) w W → bytesK.C W A 1 [b1]) → Calls Tryz.prog 15 #[.pointer (some ⟨Wb, 0, none⟩), .slice A 1 c] w (WdQ n0 w Wb B M Bd D2 code g2 h2 t2 S2 o2))
    (hr : ringP D = r) (hf : r - (tail - head) = f) (ht : 0 ≤ head ∧ head ≤ tail ∧ tail < 18446744073709551616 ∧ tail - head ≤ 4094) (hne : l.length ≠ 0) (hlen : l.length ≤ 4096) (hc : l.length ≤ c) (hCT : ∀ W, TC n0 (isWD M Bd) w W → k66.C W A l.length l)
    (hz : ∀ p ∈ l, p.f0.size ≤ 60000 ∧ p.f1.length ≤ 60000) (hl1 : b1.length ≤ 60000) (hl2 : b2.length ≤ 60000) (hb1 : isBytes b1) (hb2 : isBytes b2) (hL : SLim (hapL L l)) (hroom : n1 + n2 ≤ f) (L2 : List S66) (hcd : (code = 0 ∧ L2 = hapL L l) ∨ (code ≠ 0 ∧ L2 = L)) (h : SV n0 w Sb Wb B M Bd Mv vc vs D gen head tail S false L) :
    Calls Tryz.prog 39 #[.pointer (some ⟨Sb, 0, none⟩), .slice A l.length c] w (SdQ n0 w Sb Wb B M Bd Mv D2 code g2 h2 t2 S2 o2 L2) := by
  have hm1 : 1 ≤ n1 ∧ n1 ≤ 1000 := by rw [← hn1]; unfold needN; rw [if_neg (by omega)]; omega
  have hm2 : 1 ≤ n2 ∧ n2 ≤ 1000 := by rw [← hn2]; unfold needN; rw [if_neg (by omega)]; omega
  obtain ⟨m1, m1'⟩ := hm1
  obtain ⟨m2, m2'⟩ := hm2
  have HN0 := Aside0.mk h.low
  have HC0 := Aside0.mk (hCT w (TC.refl _ _ _))
  have HCT := Aside0.mk hCT
  have HADD := Aside0.mk hadd
  have HE1 := Aside0.mk he1
  have HE2 := Aside0.mk he2
  have HN1 := Aside0.mk hn1
  have HN2 := Aside0.mk hn2
  have HR := Aside0.mk hr
  have HF := Aside0.mk hf
  have HT := Aside0.mk ht
  have HCC := Aside0.mk hc
  have HZ := Aside0.mk hz
  have HL1 := Aside0.mk hl1
  have HL2 := Aside0.mk hl2
  have HB1 := Aside0.mk hb1
  have HB2 := Aside0.mk hb2
  have HL := Aside0.mk hL
  have HH := Aside0.mk h
  have HOK := Aside0.mk (sok_any h.blk)
  have hg0 : ((l.length : Int) == 0) = false := by simpa using hne
  have hg1 : ¬ (4096 < (l.length : Int)) := by omega
  have hg2 : (n1 == 0) = false := by simp; omega
  have hg3 : (n2 == 0) = false := by simp; omega
  have hg4 : ¬ (f < n1 + n2) := by omega
  clear hCT hadd he1 he2 hn1 hn2 hr hf ht hne hlen hc hz hl1 hl2 hb1 hb2 hL h hroom
  rcases hcd with ⟨rfl, hl2⟩ | ⟨hcode, hl2⟩
  · have HLE := Aside0.mk hl2
    clear hl2
    go_enter Tryz.func39, Tryz.ntmps39
    go_wp2_with (first
      | (go_at_call 83; (with_reducible refine HOK.out.mono ?_); rintro e w' ⟨rfl, rfl⟩)
      | (go_at_call 34; (with_reducible refine (srecord_calls w false A c l HCC.out HZ.out (by rw [HE1.out]; exact Nat.le_trans HL1.out (by decide)) HC0.out).mono ?_); rw [HE1.out]; rintro e w1 ⟨A1, c1, rfl, hr, hb⟩; have HR1 := Aside0.mk hr; have HCA1 := Aside0.mk (Kd.R_reads' hr).2.1; have HBL1 := Aside0.mk hb; clear hr hb)
      | (go_at_call 84; (with_reducible refine (need_calls w1 A1 c1 b1 n1 HN1.out HB1.out (Nat.le_trans HL1.out (by decide)) HCA1.out (Kd.R_reads' HR1.out).2.2).mono ?_); rintro e w2 ⟨rfl, hb⟩; have HBL2 := Aside0.mk (HBL1.out.trans (hb.mono HBL1.out.size)); have HR2 := Aside0.mk (Kd.R_below HR1.out hb); have HH2 := Aside0.mk (HH.out.fresh (HBL1.out.trans (hb.mono HBL1.out.size))); clear hb)
      | (go_at_call 85; (with_reducible refine (behind_calls HH2.out.blk HH2.out.mv (Kd.C_below HC0.out HBL2.out) (fun p hp => Nat.le_trans (HZ.out p hp).2 (by decide)) HL.out).mono ?_); rw [HE2.out]; rintro e w3 ⟨A3, c3, rfl, hr, hb⟩; have HBL3 := Aside0.mk (HBL2.out.trans (hb.mono HBL2.out.size)); have HR3 := Aside0.mk hr; have HCA3 := Aside0.mk (Kd.R_reads' hr).2.1; have HR2' := Aside0.mk (Kd.R_below HR2.out hb); have HH3 := Aside0.mk (HH2.out.fresh hb); clear hr hb)
      | (go_at_call 84; (with_reducible refine (need_calls w3 A3 c3 b2 n2 HN2.out HB2.out (Nat.le_trans HL2.out (by decide)) HCA3.out (Kd.R_reads' HR3.out).2.2).mono ?_); rintro e w4 ⟨rfl, hb⟩; have HBL4 := Aside0.mk (HBL3.out.trans (hb.mono HBL3.out.size)); have HR4 := Aside0.mk (Kd.R_below HR2'.out hb); have HH4 := Aside0.mk (HH3.out.fresh hb); obtain ⟨q0, q1, _⟩ := cells2 HH4.out.blk; clear hb)
      | (go_at_call 28; (with_reducible refine (wfree_calls (w := w4) r f HR.out HF.out HT.out HH4.out.wv.blk (HH4.out.wv.dk.low 0 (Nat.zero_le _))).mono ?_); rintro e w5 ⟨rfl, rfl⟩; have HH5 := Aside0.mk (HH4.out.fresh (Below.refl _ _).drew); obtain ⟨q0, q1, _⟩ := cells2 HH5.out.blk)
      | (go_at_call 28; (with_reducible refine (wfree_calls (w := w4.drew) r f HR.out HF.out HT.out HH5.out.wv.blk (HH5.out.wv.dk.low 0 (Nat.zero_le _))).mono ?_); rintro e w5 ⟨rfl, rfl⟩; have HB5 := Aside0.mk (show Below w4.heap.size w4 w4.drew.drew from (Below.refl _ _).drew.drew); have HH6 := Aside0.mk (HH4.out.fresh HB5.out); obtain ⟨q0, q1, _⟩ := cells2 HH6.out.blk; have HB6 := Aside0.mk (show Below w4.heap.size w4 (w4.alloc (.cells #[.slice A1 b1.length c1] 58)).drew.drew from (Below.alloc (Below.refl w4.heap.size w4) (Nat.le_refl _) _).drew.drew); have HH7 := Aside0.mk (HH4.out.fresh HB6.out); have HR6 := Aside0.mk (Kd.R_below HR4.out HB5.out))
      | (go_at_call 15; (with_reducible refine (HADD.out _ vc vs _ 1 HH7.out.wv (fun W hc => lit_one_tc (v := .nilIface) HR4.out HCA1.out ((TC.refl _ _ _).drew.drew.trans hc))).mono ?_); rintro e w8 ⟨rfl, htc, vc8, vs8, hv⟩; have HTC8 := Aside0.mk ((TC.of_below (HBL4.out.trans (HB6.out.mono HBL4.out.size)) HN0.out).trans htc); have HH8 := Aside0.mk (HH7.out.wal htc hv); clear htc hv)
      | (go_at_call 82; (with_reducible refine (happen_calls w8 (c := c) HH8.out.blk (HCT.out w8 HTC8.out) (fun p hp => Nat.le_trans (HZ.out p hp).2 (by decide)) HH8.out.mv).mono ?_); rintro e w9 ⟨rfl, hm, hc⟩; have HM9 := Aside0.mk hm; have HC9 := Aside0.mk hc; clear hm hc))
    go_ret
    refine ⟨rfl, (HTC8.out.mono fun _ _ h => .inl h).trans ((HH8.out.map_tc HC9.out).mono fun _ _ h => .inr h), vc8, vs8, ?_⟩
    rw [HLE.out]
    exact HH8.out.map HC9.out HM9.out
  · have HLE := Aside0.mk hl2
    have hg5 : (code == 0) = false := by simpa using hcode
    clear hl2 hcode
    go_enter Tryz.func39, Tryz.ntmps39
    go_wp2_with (first
      | (go_at_call 83; (with_reducible refine HOK.out.mono ?_); rintro e w' ⟨rfl, rfl⟩)
      | (go_at_call 34; (with_reducible refine (srecord_calls w false A c l HCC.out HZ.out (by rw [HE1.out]; exact Nat.le_trans HL1.out (by decide)) HC0.out).mono ?_); rw [HE1.out]; rintro e w1 ⟨A1, c1, rfl, hr, hb⟩; have HR1 := Aside0.mk hr; have HCA1 := Aside0.mk (Kd.R_reads' hr).2.1; have HBL1 := Aside0.mk hb; clear hr hb)
      | (go_at_call 84; (with_reducible refine (need_calls w1 A1 c1 b1 n1 HN1.out HB1.out (Nat.le_trans HL1.out (by decide)) HCA1.out (Kd.R_reads' HR1.out).2.2).mono ?_); rintro e w2 ⟨rfl, hb⟩; have HBL2 := Aside0.mk (HBL1.out.trans (hb.mono HBL1.out.size)); have HR2 := Aside0.mk (Kd.R_below HR1.out hb); have HH2 := Aside0.mk (HH.out.fresh (HBL1.out.trans (hb.mono HBL1.out.size))); clear hb)
      | (go_at_call 85; (with_reducible refine (behind_calls HH2.out.blk HH2.out.mv (Kd.C_below HC0.out HBL2.out) (fun p hp => Nat.le_trans (HZ.out p hp).2 (by decide)) HL.out).mono ?_); rw [HE2.out]; rintro e w3 ⟨A3, c3, rfl, hr, hb⟩; have HBL3 := Aside0.mk (HBL2.out.trans (hb.mono HBL2.out.size)); have HR3 := Aside0.mk hr; have HCA3 := Aside0.mk (Kd.R_reads' hr).2.1; have HR2' := Aside0.mk (Kd.R_below HR2.out hb); have HH3 := Aside0.mk (HH2.out.fresh hb); clear hr hb)
      | (go_at_call 84; (with_reducible refine (need_calls w3 A3 c3 b2 n2 HN2.out HB2.out (Nat.le_trans HL2.out (by decide)) HCA3.out (Kd.R_reads' HR3.out).2.2).mono ?_); rintro e w4 ⟨rfl, hb⟩; have HBL4 := Aside0.mk (HBL3.out.trans (hb.mono HBL3.out.size)); have HR4 := Aside0.mk (Kd.R_below HR2'.out hb); have HH4 := Aside0.mk (HH3.out.fresh hb); obtain ⟨q0, q1, _⟩ := cells2 HH4.out.blk; clear hb)
      | (go_at_call 28; (with_reducible refine (wfree_calls (w := w4) r f HR.out HF.out HT.out HH4.out.wv.blk (HH4.out.wv.dk.low 0 (Nat.zero_le _))).mono ?_); rintro e w5 ⟨rfl, rfl⟩; have HH5 := Aside0.mk (HH4.out.fresh (Below.refl _ _).drew); obtain ⟨q0, q1, _⟩ := cells2 HH5.out.blk)
      | (go_at_call 28; (with_reducible refine (wfree_calls (w := w4.drew) r f HR.out HF.out HT.out HH5.out.wv.blk (HH5.out.wv.dk.low 0 (Nat.zero_le _))).mono ?_); rintro e w5 ⟨rfl, rfl⟩; have HB5 := Aside0.mk (show Below w4.heap.size w4 w4.drew.drew from (Below.refl _ _).drew.drew); have HH6 := Aside0.mk (HH4.out.fresh HB5.out); obtain ⟨q0, q1, _⟩ := cells2 HH6.out.blk; have HB6 := Aside0.mk (show Below w4.heap.size w4 (w4.alloc (.cells #[.slice A1 b1.length c1] 58)).drew.drew from (Below.alloc (Below.refl w4.heap.size w4) (Nat.le_refl _) _).drew.drew); have HH7 := Aside0.mk (HH4.out.fresh HB6.out); have HR6 := Aside0.mk (Kd.R_below HR4.out HB5.out))
      | (go_at_call 15; (with_reducible refine (HADD.out _ vc vs _ 1 HH7.out.wv (fun W hc => lit_one_tc (v := .nilIface) HR4.out HCA1.out ((TC.refl _ _ _).drew.drew.trans hc))).mono ?_); rintro e w8 ⟨rfl, htc, vc8, vs8, hv⟩; have HTC8 := Aside0.mk ((TC.of_below (HBL4.out.trans (HB6.out.mono HBL4.out.size)) HN0.out).trans htc); have HH8 := Aside0.mk (HH7.out.wal htc hv); clear htc hv))
    go_ret
    refine ⟨rfl, HTC8.out.mono fun _ _ h => .inl h, vc8, vs8, ?_⟩
    rw [HLE.out]
    exact HH8.out
end
end Go.Proofs.YtlepcmljmibdnaaGreat
namespace Go.Proofs.YtlepcmljmibdnaaGreat
open Go.RowKit Go.Proofs.YtlepcmljmibdnaaGreatW.PrintWords Go.Proofs.YtlepcmljmibdnaaGreatW.PrintLast Go.Proofs.YtlepcmljmibdnaaGreatW.PrintMore PWalOpens
open PStoreRecords (S66 k66 rd_T66 at_T66 z66)
attribute [local go_sem] run_makeMap
set_option linter.unusedVariables false
set_option linter.unusedSimpArgs false
/-- what records come to, one behind the other -/
def rep1 (L : List S66) (x : Bool × List S66) : List S66 := hapL (if x.1 then [] else L) x.2
def replay (rs : List (Bool × List S66)) : List S66 := rs.foldl rep1 []
def recOf (x : Bool × List S66) : List Int := recB x.1 x.2
theorem replay_snoc (rs : List (Bool × List S66)) (x : Bool × List S66) : replay (rs ++ [x]) = rep1 (replay rs) x := by simp [replay]
theorem replay_take {rs : List (Bool × List S66)} {i : Nat} {x : Bool × List S66} (h : rs[i]? = some x) : replay (rs.take (i + 1)) = rep1 (replay (rs.take i)) x := by
  rw [List.take_add_one, h]
  exact replay_snoc _ _
theorem hap1_norm (L : List S66) (p : S66) : hap1 L (normP p) = hap1 L p := by
  obtain ⟨k, b, g⟩ := p
  cases g with
  | true => simp [hap1, normP]
  | false => simp [normP]
theorem hapL_norm (L l : List S66) : hapL L (l.map normP) = hapL L l := by
  induction l generalizing L with
  | nil => rfl
  | cons p l ih =>
    show hapL (hap1 L (normP p)) (l.map normP) = hapL (hap1 L p) l
    rw [hap1_norm]
    exact ih _
/-- a record that may be -/
structure RecOK (x : Bool × List S66) : Prop where
  len : x.2.length ≤ 4096
  each : ∀ p ∈ x.2, p.f0.size ≤ 60000 ∧ p.f1.length ≤ 60000 ∧ isBytes p.f1
  fit : (recOf x).length ≤ 60000
theorem recOf_pos (x : Bool × List S66) : 0 < (recOf x).length := by
  unfold recOf recB recH flagB
  simp
theorem replay_sl (rs : List (Bool × List S66)) : SL (replay rs) := by
  suffices h : ∀ (rs : List (Bool × List S66)) (L : List S66), SL L → SL (rs.foldl rep1 L) from h rs [] .nil
  intro rs
  induction rs with
  | nil => exact fun _ h => h
  | cons x rs ih =>
    intro L hL
    refine ih _ ?_
    unfold rep1
    split
    · exact SL.nil.hapL _
    · exact hL.hapL _
theorem normP_len (l : List S66) (h : ∀ p ∈ l, p.f0.size ≤ 60000 ∧ p.f1.length ≤ 60000 ∧ isBytes p.f1) : ∀ p ∈ l.map normP, p.f1.length ≤ 1000000 := by
  intro p hp
  obtain ⟨q, hq, rfl⟩ := List.mem_map.1 hp
  have h1 := (h q hq).2.1
  unfold normP
  simp only
  split
  · simp
  · omega
def SopQ (n0 : Nat) (w : World) (B M Bd : Nat) (vc : Value) (D : PD) (g head tail : Int) (st : List Int) (L : List S66) (e : Ending) (w' : World) : Prop :=
  ∃ Sb Wb Mv vs, e = .returned (.tuple #[.pointer (some ⟨Sb, 0, none⟩), .int .i64 0]) ∧ SV n0 w' Sb Wb B M Bd Mv vc vs D g head tail st false L ∧ Below w.heap.size w w'
section
variable {n0 : Nat} {w : World} {B M Bd : Nat} {vc : Value} {D : PD} {S : Int → List Int} {r g head tail : Int}
set_option maxRecDepth 100000 in
set_option maxHeartbeats 4000000 in
theorem sopen_calls (rs : List (Bool × List S66)) (hi : WInv D S r g head tail (rs.map recOf)) (hne : rs ≠ []) (hrs : ∀ x ∈ rs, RecOK x) (hd : DK w n0 B M Bd vc D) :
    Calls Tryz.prog 38 #[.pointer (some ⟨B, 0, none⟩)] w (SopQ n0 w B M Bd vc D g head tail (startsP head (rs.map recOf)) (replay rs)) := by
  have hN0 := hd.base_le
  have HN0 := Aside0.mk hN0
  have HO := Aside0.mk hi.open_
  have HOK := Aside0.mk hi.ok
  have HCH := Aside0.mk (show D.cache.length ≤ 40000 by rw [hi.cache]; decide)
  have HD := Aside0.mk hd
  have HRS := Aside0.mk hrs
  have hlen : rs.length ≠ 0 := fun e => hne (List.eq_nil_of_length_eq_zero e)
  obtain ⟨RR, hRR⟩ : ∃ RR, rs.map recOf = RR := ⟨_, rfl⟩
  have hLN : RR.length = rs.length := by rw [← hRR, List.length_map]
  have HLN := Aside0.mk hLN
  have hg0 : ((RR.length : Int) == 0) = false := by rw [hLN]; simpa using hlen
  rw [hRR] at HO
  rw [hRR]
  have HRR := Aside0.mk hRR
  clear hi hne hrs hd hN0 hlen hRR hLN
  go_enter Tryz.func38, Tryz.ntmps38
  go_wp2_with (first
    | (go_at_call 12; (with_reducible refine (open_calls HO.out HOK.out HCH.out HD.out).mono ?_); rintro e w2 hq; obtain ⟨Wb, vs, vo, rfl, hv, hb, hr⟩ := op_ok (n0 := n0) hq rfl HN0.out HD.out; have HV2 := Aside0.mk (show WV n0 w2 Wb B M Bd vc vs D g head tail (startsP head RR) false from hv); have HB2 := Aside0.mk hb; obtain ⟨Ao, co, hvo⟩ := Kd.R_slice hr; subst hvo; have HR2 := Aside0.mk (show Kd.R bytesK 58 w2 w.heap.size (fun _ => True) (.slice Ao RR.length co) RR from hr); simp only [] at *; clear hq hv hb hr))
  obtain ⟨W3, hW3⟩ : ∃ W3, (w2.alloc (.map #[] 0)).alloc (.cells #[.pointer (some ⟨Wb, 0, none⟩), .map (some w2.heap.size)] 148) = W3 := ⟨_, rfl⟩
  rw [hW3]
  have hb3 : Below w2.heap.size w2 W3 := by rw [← hW3]; exact ((Below.refl w2.heap.size w2).alloc (Nat.le_refl _) _).alloc (by simp) _
  have HB3 := Aside0.mk hb3
  have HS3 := Aside0.mk (show W3.heap[w2.heap.size + 1]? = some (.cells #[.pointer (some ⟨Wb, 0, none⟩), .map (some w2.heap.size)] 148 (0, 0)) from by
    rw [← hW3]
    have h := heap_alloc_new (w2.alloc (.map #[] 0)) (.cells #[.pointer (some ⟨Wb, 0, none⟩), .map (some w2.heap.size)] 148)
    rwa [alloc_size] at h)
  have HN2 := Aside0.mk (show n0 ≤ w2.heap.size from Nat.le_trans HN0.out HB2.out.size)
  have HMP := Aside0.mk (show w2.heap[w2.heap.size]? = none from by simp)
  have HM3 := Aside0.mk (show MapV W3 n0 w2.heap.size [] from by
    rw [← hW3]
    exact (MapV.empty (w := w2) HN2.out).below ((Below.refl _ _).alloc (Nat.le_refl _) _))
  have HV3 := Aside0.mk (HV2.out.fresh hb3)
  have HNE := Aside0.mk (show w2.heap.size ≠ M ∧ w2.heap.size ≠ Bd from by
    obtain ⟨_, _, h1, _⟩ := HV2.out.dk.kept
    obtain ⟨_, _, h2, _⟩ := HV2.out.dk.bad
    have e1 := (Array.getElem?_eq_some_iff.1 h1).1
    have e2 := (Array.getElem?_eq_some_iff.1 h2).1
    omega)
  have HSV3 := Aside0.mk (show SV n0 W3 (w2.heap.size + 1) Wb B M Bd w2.heap.size vc vs D g head tail (startsP head RR) false [] from ⟨HS3.out, Nat.le_succ_of_le HN2.out, HV3.out, HM3.out, HNE.out⟩)
  have HRC := Aside0.mk (Kd.C_below (Kd.R_reads' HR2.out).2.2 hb3)
  clear hW3 hb3
  have hm0 : RR.length ≤ 9223372036854775807 := HRC.out.2.1
  go_loopg [31] RR.length (fun kq v31 w' => ∃ (i : Nat), v31 = .int .i64 (i : Int) ∧ Aside0 (i + kq = RR.length) ∧ Aside0 (MapV w' n0 w2.heap.size (replay (rs.take i))) ∧ Aside0 (Chg W3 w' (fun k => k = w2.heap.size)))
  case atStart => exact ⟨0, rfl, ⟨by omega⟩, ⟨by rw [List.take_zero]; exact HM3.out⟩, ⟨Chg.refl _ _⟩⟩
  case round =>
    obtain ⟨i, rfl, HI, HMV, HCH⟩ := hrel
    have hk1 := HI.out
    have HSV := Aside0.mk (HSV3.out.map HCH.out HMV.out)
    by_cases hi : i < RR.length
    · obtain ⟨x, hx⟩ : ∃ x, rs[i]? = some x := ⟨rs[i]'(by rw [← HLN.out]; exact hi), List.getElem?_eq_getElem _⟩
      have HX := Aside0.mk (HRS.out x (List.mem_of_getElem? hx))
      obtain ⟨es0, cl0, hmb⟩ : ∃ es cl, W3.heap[w2.heap.size]? = some (.map es cl) := by obtain ⟨_, _, es, cl, h, _⟩ := HM3.out; exact ⟨es, cl, h⟩
      have HCS := Aside0.mk (Cst.of_map hmb HCH.out)
      obtain ⟨ad, A0, c0, e, hcell, hcap, hC⟩ := texts_at HRC.out i hi
      subst e
      have hgd : RR.getD i [] = recOf x := by rw [← HRR.out, List.getD_eq_getElem?_getD, List.getElem?_map, hx]; rfl
      rw [hgd] at hcell hcap hC
      replace hcell := HCS.out _ _ hcell
      have HC := Aside0.mk (C8_cells HCS.out hC)
      have HCAP := Aside0.mk hcap
      have HPOS := Aside0.mk (recOf_pos x)
      have HSUC := Aside0.mk (replay_take hx)
      obtain ⟨all, l⟩ := x
      have HSO := Aside0.mk (show sofP (recOf (all, l)) = (all, l.map normP, 0) from sofP_rec all l HX.out.len (fun p hp => ⟨(HX.out.each p hp).1, (HX.out.each p hp).2.1⟩))
      have HBY := Aside0.mk (show isBytes (recOf (all, l)) from recB_bytes all l (fun p hp => (HX.out.each p hp).2.2))
      have HLB := Aside0.mk (show (recOf (all, l)).length ≤ 900000 from Nat.le_trans HX.out.fit (by decide))
      obtain ⟨b, hb⟩ : ∃ b, recOf (all, l) = b := ⟨_, rfl⟩
      rw [hb] at hcell HC HCAP HPOS HSO HBY HLB
      have HNL := Aside0.mk (normP_len l HX.out.each)
      have HHP := Aside0.mk (fun L => hapL_norm L l)
      obtain ⟨l', hl'⟩ : ∃ l', l.map normP = l' := ⟨_, rfl⟩
      rw [hl'] at HSO HNL HHP
      clear hl'
      have HOF := Aside0.mk (show Calls Tryz.prog 32 #[.slice A0 b.length c0] wr fun e w' => ∃ A c, e = .returned (.tuple #[.bool all, .slice A l'.length c, .int .i64 0]) ∧ Kd.R k66 66 w' wr.heap.size (fun _ => True) (.slice A l'.length c) (l') ∧ Below wr.heap.size wr w' from (sof_calls wr A0 c0 b HLB.out HBY.out (fun e => by
          have h1 := HPOS.out
          obtain ⟨ad', e', _⟩ := HC.out.2.2 h1
          rw [e] at e'
          cases e') HC.out).mono fun e w' hq => by
        obtain ⟨A, c, he, h1, h2⟩ := hq
        rw [HSO.out] at he h1
        exact ⟨A, c, he, h1, h2⟩)
      clear hb hx hgd hcap hC hmb
      cases all with
      | true =>
        go_wp2_with (first
          | (go_at_call 32; (with_reducible refine HOF.out.mono ?_); rintro e w4 ⟨A4, c4, rfl, hr, hb⟩; have HR4 := Aside0.mk hr; have HB4 := Aside0.mk hb; have HSV4 := Aside0.mk (HSV.out.fresh hb); obtain ⟨q0, q1, _⟩ := cells2 HSV4.out.blk; obtain ⟨w5, hrun, hch, hmv⟩ := HSV4.out.mv.clear (ty := 0); have HCH5 := Aside0.mk hch; have HMV5 := Aside0.mk hmv; have HSV5 := Aside0.mk (HSV4.out.map hch hmv); have HR5 := Aside0.mk (R_tc hr (HSV4.out.map_tc hch) (fun q _ k cells h => h.2)); clear hr hb hch hmv)
          | (go_at_call 82; (with_reducible refine (happen_calls w5 (c := c4) HSV5.out.blk (Kd.R_reads' HR5.out).2.2 HNL.out HSV5.out.mv).mono ?_); rintro e w6 ⟨rfl, hm, hc⟩; have HM6 := Aside0.mk hm; have HC6 := Aside0.mk hc; clear hm hc))
        obtain ⟨gq, rfl⟩ : ∃ gq, gk = gq + 1 := ⟨gk - 1, by omega⟩
        go_roundg gq
        case rel => exact ⟨i + 1, by go_num, ⟨by omega⟩, ⟨by rw [HSUC.out]; unfold rep1; simp only [if_pos]; rw [← HHP.out]; exact HM6.out⟩, ⟨((HCH.out.trans (.of_below HB4.out)).trans HCH5.out).trans HC6.out⟩⟩
        case measure => omega
      | false =>
        go_wp2_with (first
          | (go_at_call 32; (with_reducible refine HOF.out.mono ?_); rintro e w4 ⟨A4, c4, rfl, hr, hb⟩; have HR4 := Aside0.mk hr; have HB4 := Aside0.mk hb; have HSV4 := Aside0.mk (HSV.out.fresh hb); obtain ⟨q0, q1, _⟩ := cells2 HSV4.out.blk; clear hr hb)
          | (go_at_call 82; (with_reducible refine (happen_calls w4 (c := c4) HSV4.out.blk (Kd.R_reads' HR4.out).2.2 HNL.out HSV4.out.mv).mono ?_); rintro e w6 ⟨rfl, hm, hc⟩; have HM6 := Aside0.mk hm; have HC6 := Aside0.mk hc; clear hm hc))
        obtain ⟨gq, rfl⟩ : ∃ gq, gk = gq + 1 := ⟨gk - 1, by omega⟩
        go_roundg gq
        case rel => exact ⟨i + 1, by go_num, ⟨by omega⟩, ⟨by rw [HSUC.out]; unfold rep1; simp only [Bool.false_eq_true, if_false]; rw [← HHP.out]; exact HM6.out⟩, ⟨(HCH.out.trans (.of_below HB4.out)).trans HC6.out⟩⟩
        case measure => omega
    · have hi0 := HI.out
      obtain rfl : gk = 0 := by omega
      obtain rfl : i = RR.length := by omega
      clear hi0
      have hm3 : ¬ ((RR.length : Int) < (RR.length : Int)) := by omega
      go_wp2
      go_ret2
      exact ⟨_, _, _, _, rfl, by have h := HSV.out; rw [HLN.out, List.take_length] at h; exact h, (HB2.out.trans (HB3.out.mono HB2.out.size)).trans (HCH.out.below (Nat.le_trans HB2.out.size HB3.out.size) (fun k hk => by rw [hk]; exact HB2.out.size))⟩
end
end Go.Proofs.YtlepcmljmibdnaaGreat
