/- Parts of one proof, joined: Zz, Ga, Rdg, Rdh, Zn, Gb, Gc, Ge, Hc, Hd, Ha, Hb, He, Gd. Conditions: those of each statement. -/
import Derived.Test.YtlepcmljmibdnaaGreatZh11
import Derived.Test.YtlepcmljmibdnaaGreatZhFWWords
import Derived.Deep.Slices
import Derived.ChangeArms
import Derived.Test.YtlepcmljmibdnaaGreatZh3
import Derived.WalkKit
import Derived.ProofKit
import Derived.OpenShut
import Derived.ShutString
import Derived.ChangeOld
import Derived.Below
import Derived.Test.YtlepcmljmibdnaaGreatZh10
import Derived.Sort.Walk0
import Derived.Test.YtlepcmljmibdnaaGreatZh7
namespace Go.Proofs.YtlepcmljmibdnaaGreat
open Go.RowKit Go.Proofs.YtlepcmljmibdnaaGreatW.PrintWords Go.Proofs.YtlepcmljmibdnaaGreatW.PrintLast Go.Proofs.YtlepcmljmibdnaaGreatW.PrintMore PWalOpens
open PStoreRecords (S66 k66 rd_T66 at_T66 z66)
set_option linter.unusedVariables false
set_option linter.unusedSimpArgs false
def exA : S66 := ⟨⟨#[97]⟩, [49], false⟩
def exB : List Int := [0, 1, 1, 97, 0, 1, 49]
def exC : List Int := [1, 1, 1, 97, 0, 1, 49]
theorem exA_rec : recB false [exA] = exB := by decide
theorem exA_hap : hapL [] [exA] = [exA] := rfl
theorem exA_all : recB true (hapL [] [exA]) = exC := by rw [exA_hap]; decide
theorem recs1 : RecsOK [exB] := ⟨by decide, fun b hb => by simp [exB] at hb; subst hb; exact ⟨fun x hx => by simp at hx; omega, by decide⟩⟩
def rsA : List (Bool × List S66) := [(true, [])]
def rsB : List (Bool × List S66) := [(true, []), (false, [exA])]
theorem rsA_map : rsA.map recOf = [[1, 0]] := by decide
theorem rsB_map : rsB.map recOf = [[1, 0]] ++ [exB] := by decide
theorem rsA_ok : ∀ x ∈ rsA, RecOK x := by
  intro x hx
  simp [rsA] at hx
  subst hx
  exact ⟨by simp, fun p hp => (by cases hp), by decide⟩
theorem rsB_ok : ∀ x ∈ rsB, RecOK x := by
  intro x hx
  simp [rsB] at hx
  rcases hx with rfl | rfl
  · exact ⟨by simp, fun p hp => (by cases hp), by decide⟩
  · refine ⟨by simp, fun p hp => ?_, by decide⟩
    simp at hp
    subst hp
    exact ⟨by decide, by decide, fun x hx => by simp [exA] at hx; omega⟩
theorem rsA_rep : replay rsA = [] := rfl
theorem exA_get : getP [exA] ⟨#[97]⟩ = ([49], true) := by decide
theorem exA_lim : SLim (hapL [] [exA]) := by
  rw [exA_hap]
  refine ⟨fun p hp => ?_, by decide, by decide⟩
  simp at hp
  subst hp
  exact ⟨by decide, by decide⟩
/-- one put in a literal, under what a wal's deeds may change -/
theorem lit_put {n0 M Bd a b : Nat} {w W : World} {k : ByteArray} {x : Int} {m : Nat × Nat} (h1 : w.heap[a]? = some (.cells #[.int .u8 x] 5 m)) (h2 : w.heap[b]? = some (.cells #[.string k, .slice (some ⟨a, 0, none⟩) 1 1, .bool false] 66 (0, 0))) (hc : TC n0 (isWD M Bd) w W) : k66.C W (some ⟨b, 0, none⟩) 1 [⟨k, [x], false⟩] := by
  have g1 := hc.blk _ _ h1 (by simp [isWD, isDisk, isT])
  have g2 := hc.blk _ _ h2 (by simp [isWD, isDisk, isT])
  have hx : (Kd.int .u8).C W (some ⟨a, 0, none⟩) 1 [x] := by
    refine ⟨rfl, by decide, fun _ => ⟨_, rfl, fun j p hj => ?_⟩⟩
    have hj0 : j = 0 := by have := (List.getElem?_eq_some_iff.1 hj).1; simp at this; omega
    subst hj0
    simp at hj
    subst hj
    refine ⟨[.int .u8 x], rfl, rfl, fun i u hu => ?_⟩
    have hi0 : i = 0 := by have := (List.getElem?_eq_some_iff.1 hu).1; simp at this; omega
    subst hi0
    simp at hu
    subst hu
    exact box_cellm g1
  refine ⟨rfl, by decide, fun _ => ⟨_, rfl, fun j p hj => ?_⟩⟩
  have hj0 : j = 0 := by have := (List.getElem?_eq_some_iff.1 hj).1; simp at this; omega
  subst hj0
  simp at hj
  subst hj
  refine ⟨[.string k, .slice (some ⟨a, 0, none⟩) 1 1, .bool false], rfl, PStoreRecords.k66_mk W ⟨k, [x], false⟩ (Nat.le_refl _) hx, fun i u hu => ?_⟩
  have hi : i < 3 := (List.getElem?_eq_some_iff.1 hu).1
  show W.cell? ((⟨b, 0, none⟩ : Addr).add (0 * 3 + i)) = some u
  have e : (⟨b, 0, none⟩ : Addr).add (0 * 3 + i) = ⟨b, i, none⟩ := by unfold Addr.add; split <;> simp_all
  rw [e]
  unfold World.cell?
  rw [g2]
  simpa using hu
theorem lit_world (w : World) : ∃ W, (w.alloc (.cells #[.int .u8 49] 5 (1, 2))).alloc (.cells #[.string ⟨#[97]⟩, .slice (some ⟨w.heap.size, 0, none⟩) 1 1, .bool false] 66) = W ∧ Below w.heap.size w W ∧
    W.heap[w.heap.size]? = some (.cells #[.int .u8 49] 5 (1, 2)) ∧ W.heap[w.heap.size + 1]? = some (.cells #[.string ⟨#[97]⟩, .slice (some ⟨w.heap.size, 0, none⟩) 1 1, .bool false] 66 (0, 0)) := by
  refine ⟨_, rfl, ((Below.refl w.heap.size w).alloc (Nat.le_refl _) _).alloc (by simp) _, ?_, ?_⟩
  · rw [Below.heap_alloc _ _ _ (by simp)]
    exact heap_alloc_new w _
  · have h := heap_alloc_new (w.alloc (.cells #[.int .u8 49] 5 (1, 2))) (.cells #[.string ⟨#[97]⟩, .slice (some ⟨w.heap.size, 0, none⟩) 1 1, .bool false] 66)
    rwa [alloc_size] at h
theorem str49 : strOfNums [49] = ⟨#[49]⟩ := by decide
set_option maxRecDepth 100000 in
set_option maxHeartbeats 4000000 in
theorem awake8_calls : AwakeQ := by
  intro w
  have hcv := fun (w : World) (C : Array Value) (n c : Nat) => Lib.run_convert_bytes_const (P := Tryz.prog) w 58 5 C n c Tryz.underlying58 Tryz.underlying5
  go_enter Tryz.func30, Tryz.ntmps30
  go_wp2_with (first
    | (go_at_call 8; (with_reducible refine (new_calls w w.heap.size (Nat.le_refl _) 16).mono ?_); rintro e w1 ⟨B, M, Bd, rfl, hd, hb⟩; have HD1 := Aside0.mk hd; have HB1 := Aside0.mk hb; clear hd hb)
    | (go_at_call 37; (with_reducible refine (sformat_calls (w0 := w) 16 ⟨by decide, by decide⟩ HD1.out HB1.out).mono ?_); rintro e w2 ⟨rfl, D2, S2, vc2, hi, hd, hb⟩; have HI2 := Aside0.mk hi; have HD2 := Aside0.mk hd; have HB2 := Aside0.mk hb; clear hi hd hb)
    | (go_at_call 38; (with_reducible refine (sopen_calls (n0 := w.heap.size) rsA (by rw [rsA_map]; exact HI2.out) (by decide) rsA_ok HD2.out).mono ?_); rintro e w3 ⟨Sb, Wb, Mv, vs, rfl, hsv, hb⟩; have HSV3 := Aside0.mk hsv; have HB3 := Aside0.mk (HB2.out.trans (hb.mono HB2.out.size)); clear hsv hb))
  obtain ⟨W3, hW3, hb3, k0, k1⟩ := lit_world w3
  rw [hW3]
  have HSV3' := Aside0.mk (HSV3.out.fresh hb3)
  have HB3' := Aside0.mk (HB3.out.trans (hb3.mono HB3.out.size))
  have HLT := Aside0.mk (fun (W : World) (hc : TC w.heap.size (isWD M Bd) W3 W) => lit_put k0 k1 hc)
  clear hW3 hb3 k0 k1
  have hnd : needs [[1, 0]] = 1 := by decide
  have hnb : needs [exB] = 1 := by decide
  obtain ⟨D3, S3, hi3, hadd⟩ := real_add (w0 := w) HI2.out recs1 (by rw [hnd, hnb]; decide) (by rw [hnd]; decide) (by decide) (by decide) (by decide)
  have HI3 := Aside0.mk hi3
  have HCM := Aside0.mk (show Calls Tryz.prog 39 #[.pointer (some ⟨Sb, 0, none⟩), .slice (some ⟨w3.heap.size + 1, 0, none⟩) 1 1] W3 (SdQ w.heap.size W3 Sb Wb B M Bd Mv D3 0 (1 + 1) 0 (needs [[1, 0]] + needs [exB]) (startsP 0 ([[1, 0]] ++ [exB])) false [exA]) from commit_calls (A := some ⟨w3.heap.size + 1, 0, none⟩) (c := 1) (l := [exA]) exB exC 1 1 exA_rec (by rw [rsA_rep]; exact exA_all) (by decide) (by decide) (fun w' vc vs A c hv hT => hadd w' Wb B M Bd vc vs A c (by rw [rsA_map] at hv; exact hv) hT)
    HI2.out.ring rfl (by rw [hnd]; decide) (by decide) (by decide) (by decide) HLT.out (fun p hp => by simp at hp; subst hp; exact ⟨by decide, by decide⟩) (by decide) (by decide) (fun x hx => by simp [exB] at hx; omega) (fun x hx => by simp [exC] at hx; omega) (by rw [rsA_rep]; exact exA_lim) (by rw [hnd]; decide) [exA] (.inl ⟨rfl, by rw [rsA_rep]; rfl⟩) HSV3'.out)
  clear hi3 hadd hnd hnb
  (with_reducible refine HCM.out.mono ?_)
  rintro e w4 ⟨rfl, htc, vc4, vs4, hsv⟩
  have HSV4 := Aside0.mk hsv
  have HB4 := Aside0.mk (HB3'.out.trans htc.low)
  clear htc hsv
  have HGT := Aside0.mk (fun (w5 : World) (Sb5 Mv5 : Nat) (v0 : Option Addr) (h1 : w5.heap[Sb5]? = some (.cells #[.pointer v0, .map (some Mv5)] 148 (0, 0))) (h2 : MapV w5 w.heap.size Mv5 (replay rsB)) => show Calls Tryz.prog 40 #[.pointer (some ⟨Sb5, 0, none⟩), .string ⟨#[97]⟩] w5 (fun e w' => ∃ A c, e = .returned (.tuple #[.slice A 1 c, .bool true]) ∧ (convert 58 9 (.slice A 1 c)).run Tryz.prog w' = .ok (.string ⟨#[49]⟩) w' ∧ Below w5.heap.size w5 w') from
    (get_calls (L := [exA]) ⟨#[97]⟩ h1 (fun p hp => by simp at hp; subst hp; decide) h2).mono (fun e w' hq => by
      rw [exA_get] at hq
      obtain ⟨A, c, he, hr, hb⟩ := hq
      exact ⟨A, c, he, by rw [← str49]; exact Kd.C_string Tryz.underlying58 Tryz.underlying5 Tryz.underlying9 (Kd.R_reads' hr).2.2, hb⟩))
  go_wp2_with (first
    | (go_at_call 38; (with_reducible refine (sopen_calls (n0 := w.heap.size) rsB (by rw [rsB_map]; exact HI3.out) (by decide) rsB_ok HSV4.out.wv.dk).mono ?_); rintro e w5 ⟨Sb5, Wb5, Mv5, vs5, rfl, hsv, hb⟩; have HSV5 := Aside0.mk hsv; have HB5 := Aside0.mk (HB4.out.trans (hb.mono HB4.out.size)); clear hsv hb)
    | (go_at_call 40; (with_reducible refine (HGT.out w5 Sb5 Mv5 (some ⟨Wb5, 0, none⟩) HSV5.out.blk HSV5.out.mv).mono ?_); rintro e w6 ⟨A6, c6, rfl, hcs, hb⟩; have HB6 := Aside0.mk (HB5.out.trans (hb.mono HB5.out.size)); clear hb))
  go_ret
  exact ⟨rfl, HB6.out⟩
end Go.Proofs.YtlepcmljmibdnaaGreat
namespace Go.Proofs.YtlepcmljmibdnaaGreat
open Go.RowKit Go.Proofs.YtlepcmljmibdnaaGreatW.PrintWords Go.Proofs.YtlepcmljmibdnaaGreatW.PrintLast Go.Proofs.YtlepcmljmibdnaaGreatW.PrintMore PWalOpens
open PStoreRecords (S66 k66 rd_T66 at_T66 z66)
set_option linter.unusedVariables false
set_option linter.unusedSimpArgs false
/-- a small put -/
def FewP (p : S66) : Prop := p.f0.size ≤ 30 ∧ p.f1.length ≤ 200 ∧ isBytes p.f1
theorem recB_le (all : Bool) (l : List S66) (h : ∀ p ∈ l, FewP p) : (recB all l).length ≤ 300 * l.length + 20 := by
  have key : ∀ l : List S66, (∀ p ∈ l, FewP p) → (l.flatMap putB).length ≤ 300 * l.length := by
    intro l
    induction l with
    | nil => intro _; simp
    | cons p l ih =>
      intro h
      have h1 := ih (fun q hq => h q (by simp [hq]))
      have h2 := h p (by simp)
      have e1 := encN_len ((bytesOf p.f0).length : Int)
      have e2 := encN_len ((if p.f2 then [] else p.f1).length : Int)
      have h3 : (if p.f2 then [] else p.f1).length ≤ 200 := by split <;> first | exact h2.2.1 | simp
      have h4 := bytesOf_length p.f0
      have h6 := h2.1
      have h5 : (putB p).length ≤ 300 := by
        unfold putB textB flagB
        simp only [List.length_append, List.length_singleton]
        omega
      rw [List.flatMap_cons, List.length_append, List.length_cons]
      omega
  have h1 := key l h
  have h2 := encN_len (l.length : Int)
  unfold recB recH
  rw [List.take_length]
  unfold flagB
  simp only [List.length_append, List.length_singleton]
  omega
theorem few_ins {q : S66} {L : List S66} (hq : FewP q) (hL : ∀ p ∈ L, FewP p) : ∀ p ∈ insK q L, FewP p := by
  induction L with
  | nil => intro p hp; simp [insK] at hp; subst hp; exact hq
  | cons x l ih =>
    have hl := ih (fun p hp => hL p (List.mem_cons_of_mem _ hp))
    intro p hp
    unfold insK at hp
    split at hp
    · rcases List.mem_cons.1 hp with rfl | hp
      · exact hq
      · exact hL p hp
    · split at hp
      · rcases List.mem_cons.1 hp with rfl | hp
        · exact hq
        · exact hL p (List.mem_cons_of_mem _ hp)
      · rcases List.mem_cons.1 hp with rfl | hp
        · exact hL _ (List.mem_cons_self ..)
        · exact hl p hp
theorem few_hap {L l : List S66} (hl : ∀ p ∈ l, FewP p) (hL : ∀ p ∈ L, FewP p) : ∀ p ∈ hapL L l, FewP p := by
  induction l generalizing L with
  | nil => exact hL
  | cons q l ih =>
    refine ih (L := hap1 L q) (fun p hp => hl p (List.mem_cons_of_mem _ hp)) ?_
    unfold hap1
    split
    · intro p hp; exact hL p (mem_delK.1 hp).1
    · exact few_ins (hl q (List.mem_cons_self ..)) hL
/-- a store on a disk of 1000 sectors, behind i commits of few puts -/
structure GI (i : Nat) (D : PD) (S : Int → List Int) (g tail : Int) (rs : List (Bool × List S66)) : Prop where
  winv : WInv D S 998 g 0 tail (rs.map recOf)
  ne : rs ≠ []
  ok : ∀ x ∈ rs, RecOK x
  len : (replay rs).length ≤ 8 * i
  few : ∀ p ∈ replay rs, FewP p
  tail_ : 0 ≤ tail ∧ tail ≤ 1 + 40 * i
  g_ : 0 ≤ g ∧ g ≤ 1 + i
  rl : rs.length ≤ 1 + i
theorem rec_ok {all : Bool} {l : List S66} (hl : l.length ≤ 8) (hf : ∀ p ∈ l, FewP p) : RecOK (all, l) :=
  ⟨by simp only; omega, fun p hp => by have := hf p hp; exact ⟨by have := this.1; omega, by have := this.2.1; omega, this.2.2⟩, by have := recB_le all l hf; show (recB all l).length ≤ 60000; omega⟩
theorem gi_start {D : PD} {S : Int → List Int} (h : WInv D S 998 1 0 (needs [[1, 0]]) [[1, 0]]) : GI 0 D S 1 (needs [[1, 0]]) rsA := by
  refine ⟨by rw [rsA_map]; exact h, by decide, rsA_ok, by rw [rsA_rep]; simp, (by rw [rsA_rep]; intro p hp; cases hp), ⟨by decide, by decide⟩, ⟨by decide, by decide⟩, by decide⟩
theorem slim_few {L : List S66} (hf : ∀ p ∈ L, FewP p) (hl : L.length ≤ 200) : SLim L :=
  ⟨fun p hp => by have := hf p hp; exact ⟨by have := this.1; omega, by have := this.2.1; omega⟩, by omega, by have := recB_le true L hf; omega⟩
/-- what may be committed, and what it comes to -/
theorem gi_commit {w0 : World} {i : Nat} {D : PD} {S : Int → List Int} {g tail : Int} {rs : List (Bool × List S66)} {l : List S66} (h : GI i D S g tail rs) (hl : l.length ≤ 8) (hf : ∀ p ∈ l, FewP p) (hne : l.length ≠ 0) (hi : i ≤ 11) :
    ∃ D2 S2, GI (i + 1) D2 S2 (g + 1) (tail + needN (recB false l)) (rs ++ [(false, l)]) ∧ ∀ (w : World) (Sb Wb B M Bd Mv : Nat) (vc vs : Value) (A : Option Addr) (c : Nat), SV w0.heap.size w Sb Wb B M Bd Mv vc vs D g 0 tail (startsP 0 (rs.map recOf)) false (replay rs) → l.length ≤ c → (∀ W, TC w0.heap.size (isWD M Bd) w W → k66.C W A l.length l) →
      Calls Tryz.prog 39 #[.pointer (some ⟨Sb, 0, none⟩), .slice A l.length c] w (SdQ w0.heap.size w Sb Wb B M Bd Mv D2 0 (g + 1) 0 (tail + needN (recB false l)) (startsP 0 ((rs ++ [(false, l)]).map recOf)) false (replay (rs ++ [(false, l)]))) := by
  have hb1 := recB_le false l hf
  have hfh := few_hap hf h.few
  have hlh := hapL_length (replay rs) l
  have hl1 := h.len
  have hb2 := recB_le true (hapL (replay rs) l) hfh
  have hlen1 : (recB false l).length ≤ 40000 := by omega
  have hlen2 : (recB true (hapL (replay rs) l)).length ≤ 40000 := by omega
  have hby : isBytes (recB false l) := recB_bytes false l (fun p hp => (hf p hp).2.2)
  have hby2 : isBytes (recB true (hapL (replay rs) l)) := recB_bytes true _ (fun p hp => (hfh p hp).2.2)
  have hX : RecsOK [recB false l] := ⟨by simp, fun b hb => by rw [List.mem_singleton] at hb; subst hb; exact ⟨hby, hlen1⟩⟩
  have hn1 : needs [recB false l] = needN (recB false l) := by show needN (recB false l) + 0 = _; omega
  have hm1 : 1 ≤ needN (recB false l) ∧ needN (recB false l) ≤ 40 := by unfold needN; rw [if_neg (by omega)]; omega
  have hm2 : 1 ≤ needN (recB true (hapL (replay rs) l)) ∧ needN (recB true (hapL (replay rs) l)) ≤ 460 := by unfold needN; rw [if_neg (by omega)]; omega
  have ht := h.tail_
  have hg := h.g_
  have hrl := h.rl
  have hmap : (rs ++ [(false, l)]).map recOf = rs.map recOf ++ [recB false l] := by rw [List.map_append]; rfl
  have hrep : replay (rs ++ [(false, l)]) = hapL (replay rs) l := by rw [replay_snoc]; rfl
  obtain ⟨D2, S2, hi2, hadd⟩ := real_add (w0 := w0) h.winv hX (by rw [hn1]; omega) (by omega) (by omega) (by decide) (by rw [List.length_map]; omega)
  rw [hn1] at hi2 hadd
  refine ⟨D2, S2, ⟨by rw [hmap]; exact hi2, by simp, ?_, by rw [hrep]; omega, by rw [hrep]; exact hfh, ⟨by omega, by omega⟩, ⟨by omega, by omega⟩, by rw [List.length_append, List.length_singleton]; omega⟩, fun w Sb Wb B M Bd Mv vc vs A c hsv hc hT => ?_⟩
  · intro x hx
    rcases List.mem_append.1 hx with hx | hx
    · exact h.ok x hx
    · rw [List.mem_singleton] at hx
      subst hx
      exact rec_ok hl hf
  · rw [hmap, hrep]
    exact commit_calls (recB false l) (recB true (hapL (replay rs) l)) _ _ rfl rfl rfl rfl (fun w' vc vs A c hv hT => hadd w' Wb B M Bd vc vs A c hv hT) h.winv.ring rfl ⟨by omega, by omega, by omega, by omega⟩ hne (by omega) hc hT (fun p hp => by have := hf p hp; exact ⟨by have := this.1; omega, by have := this.2.1; omega⟩) (by omega) (by omega) hby hby2 (slim_few hfh (by omega)) (by omega) _ (.inl ⟨rfl, rfl⟩) hsv
end Go.Proofs.YtlepcmljmibdnaaGreat
namespace Go.Rd
open Go.RowKit Go.Proofs.YtlepcmljmibdnaaGreatW.PrintWords

structure Reads (P : Program) (t : TypeId) {α : Type} (d : Kd α) (ok : α → Prop) : Prop where
  cells : P.cellsOf t = d.sz
  rd : ∀ {H : Type} (enc : TypeId × Value → H) (w : World) (sp : Nat → Bool) (held : Bool) (fuel : Nat) (cs : List Value) (x : DataW H × List MemPlace),
    DataW.trod enc P w 0 sp held fuel t cs = some x → ∃ a, d.K w a cs ∧ ok a

section
variable {P : Program} {t e : TypeId}
theorem int {k : IntKind} (ht : P.underlying t = some (.int k)) (hc : P.cellsOf t = 1) : Reads P t (Kd.int k) (fun n => (Lit.int k n).wf = true) :=
  ⟨hc, fun enc w sp held fuel cs x h => by
    obtain ⟨n, rfl, _, hw⟩ := DataW.trod_int ht h
    exact ⟨n, rfl, hw⟩⟩
theorem bool (ht : P.underlying t = some .bool) (hc : P.cellsOf t = 1) : Reads P t Kd.bool (fun _ => True) :=
  ⟨hc, fun enc w sp held fuel cs x h => by
    obtain ⟨n, rfl, _⟩ := DataW.trod_bool ht h
    exact ⟨n, rfl, trivial⟩⟩
theorem string (ht : P.underlying t = some .string) (hc : P.cellsOf t = 1) : Reads P t Kd.string (fun s => s.size ≤ maxLen) :=
  ⟨hc, fun enc w sp held fuel cs x h => by
    obtain ⟨n, rfl, _, hs⟩ := DataW.trod_string ht h
    exact ⟨n, rfl, hs⟩⟩
theorem slice {α : Type} {d : Kd α} {ok : α → Prop} (hd : Reads P e d ok) (ht : P.underlying t = some (.slice e)) (hc : P.cellsOf t = 1) : Reads P t (Kd.slice e d) (fun xs => ∀ a ∈ xs, ok a) :=
  ⟨hc, fun enc w sp held fuel cs x h => by
    rcases Deep.open_slice ht h with ⟨rfl, _⟩ | ⟨a, len, cap, m, n, D, Pl, rfl, hb, hl, hm, hmm, _, hx⟩
    · exact ⟨[], ⟨none, 0, rfl, Nat.le_refl _, Kd.C_nil _ _⟩, by simp⟩
    · have hlm : len ≤ m := by rw [hmm]; split <;> omega
      have hall : ∀ i, i < len → ∃ y : α, ok y ∧ ∃ c, c.length = d.sz ∧ d.K w y c ∧ ∀ j u, c[j]? = some u → w.cell? (a.add (i * d.sz + j)) = some u := by
        intro i hi
        obtain ⟨cs', h1, h2⟩ := hx i (by omega)
        obtain ⟨y, hy, hok⟩ := hd.rd enc w sp held n cs' _ h2
        obtain ⟨_, h4, h5⟩ := World.cells?_some h1
        rw [hd.cells] at h4 h5
        refine ⟨y, hok, cs', h4, hy, fun j u hj => ?_⟩
        have hjl : j < d.sz := by rw [← h4]; exact (List.getElem?_eq_some_iff.1 hj).1
        have := h5 j hjl
        rw [Deep.add_add] at this
        rw [this, hj]
      by_cases h0 : len = 0
      · subst h0
        exact ⟨[], ⟨some a, cap, rfl, by simp, ⟨rfl, by simp, fun h => absurd h (Nat.lt_irrefl 0)⟩⟩, by simp⟩
      · obtain ⟨y0, _⟩ := hall 0 (by omega)
        haveI : Inhabited α := ⟨y0⟩
        obtain ⟨f, hf⟩ := Deep.choose_lt (p := fun i y => ok y ∧ ∃ c, c.length = d.sz ∧ d.K w y c ∧ ∀ j u, c[j]? = some u → w.cell? (a.add (i * d.sz + j)) = some u) hall
        have hlen : ((List.range len).map f).length = len := by simp
        refine ⟨(List.range len).map f, ⟨some a, cap, by rw [hlen], by rw [hlen]; exact hl, ?_⟩, fun y hy => ?_⟩
        · refine ⟨rfl, by rw [hlen]; simp only [maxLen] at hm; omega, fun _ => ⟨a, rfl, fun j p hj => ?_⟩⟩
          have hjl : j < len := by rw [← hlen]; exact (List.getElem?_eq_some_iff.1 hj).1
          rw [List.getElem?_map, List.getElem?_range hjl] at hj
          obtain rfl := Option.some.inj hj
          exact (hf j hjl).2
        · obtain ⟨i, hi, rfl⟩ := List.mem_map.1 hy
          exact (hf i (List.mem_range.1 hi)).1⟩

structure FieldsR (P : Program) (fs : List Field) (o : Nat) {α : Type} (d : Kd α) (ok : α → Prop) : Prop where
  rd : ∀ {H : Type} (enc : TypeId × Value → H) (w : World) (sp : Nat → Bool) (held : Bool) (n : Nat) (cs : List Value), o + d.sz ≤ cs.length →
    (∀ f ∈ fs, ∃ y, DataW.trod enc P w 0 sp held n f.type ((cs.drop f.offset).take (P.cellsOf f.type)) = some y) → ∃ a, d.K w a ((cs.drop o).take d.sz) ∧ ok a
theorem one {α : Type} {d : Kd α} {ok : α → Prop} {f : Field} (hd : Reads P f.type d ok) : FieldsR P [f] f.offset d ok := by
  refine ⟨fun {H} enc w sp held n cs hl h => ?_⟩
  obtain ⟨y, hy⟩ := h f (by simp)
  rw [hd.cells] at hy
  exact hd.rd enc w sp held n _ y hy
theorem cons {α β : Type} {d : Kd α} {d' : Kd β} {ok : α → Prop} {ok' : β → Prop} {f : Field} {fs : List Field} (hd : Reads P f.type d ok) (hf : FieldsR P fs (f.offset + d.sz) d' ok') :
    FieldsR P (f :: fs) f.offset (Kd.pair d d') (fun p => ok p.1 ∧ ok' p.2) := by
  refine ⟨fun {H} enc w sp held n cs hl h => ?_⟩
  have hsz : (Kd.pair d d').sz = d.sz + d'.sz := rfl
  rw [hsz] at hl ⊢
  obtain ⟨y, hy⟩ := h f (by simp)
  rw [hd.cells] at hy
  obtain ⟨a, ha, hoa⟩ := hd.rd enc w sp held n _ y hy
  obtain ⟨b, hb, hob⟩ := hf.rd enc w sp held n cs (by omega) (fun g hg => h g (by simp [hg]))
  refine ⟨(a, b), ⟨_, _, ?_, ha, hb⟩, hoa, hob⟩
  rw [← List.drop_drop, List.take_add]
theorem struct {α : Type} {d : Kd α} {ok : α → Prop} {fs : Array Field} (ht : P.underlying t = some (.struct fs)) (hf : FieldsR P fs.toList 0 d ok) (hc : P.cellsOf t = d.sz) : Reads P t d ok :=
  ⟨hc, fun enc w sp held fuel cs x h => by
    obtain ⟨xs, n, _, _, hl, hx, hall⟩ := DataW.trod_struct ht h
    obtain ⟨a, ha, hoa⟩ := hf.rd enc w sp held n cs (by rw [hl, hc]; omega) (fun f hm => by
      obtain ⟨i, hi⟩ := List.mem_iff_getElem?.1 hm
      have hil : i < fs.size := by simpa using (List.getElem?_eq_some_iff.1 hi).1
      have := hall i f (by simpa using hi)
      rw [List.getElem?_eq_getElem (by omega)] at this
      exact ⟨_, this⟩)
    refine ⟨a, ?_, hoa⟩
    rw [List.drop_zero, List.take_of_length_le (by rw [hl, hc]; exact Nat.le_refl _)] at ha
    exact ha⟩
theorem iso {α β : Type} {d : Kd α} {ok : α → Prop} (hd : Reads P t d ok) (f : β → α) (g : α → β) (h : ∀ a, f (g a) = a) : Reads P t (Kd.iso d f) (fun x => ok (f x)) :=
  ⟨hd.cells, fun enc w sp held fuel cs x hx => by
    obtain ⟨a, ha, hok⟩ := hd.rd enc w sp held fuel cs x hx
    refine ⟨g a, ?_, by rw [h]; exact hok⟩
    show d.K w (f (g a)) cs
    rw [h]
    exact ha⟩
/-- A slice that came in. -/
theorem arg {α : Type} {d : Kd α} {ok : α → Prop} (hd : Reads P e d ok) (ht : P.underlying t = some (.slice e)) (hc : P.cellsOf t = 1) {H : Type} {enc : TypeId × Value → H} {W : World} {a : Option Addr} {len cap : Nat} {D : DataW H} {ps : List MemPlace}
    (h : DataW.Trod enc P W 0 (fun _ => true) true t (.slice a len cap) D ps) : ∃ l : List α, len = l.length ∧ l.length ≤ cap ∧ d.C W a l.length l ∧ ∀ x ∈ l, ok x := by
  obtain ⟨fuel, hf⟩ := h
  obtain ⟨l, ⟨A, c, he, hl, hC⟩, hok⟩ := (slice hd ht hc).rd enc W _ _ fuel _ _ hf
  simp only [Value.cells, List.cons.injEq, and_true] at he
  injection he with h1 h2 h3
  subst h1; subst h2; subst h3
  exact ⟨l, rfl, hl, hC, hok⟩
end
end Go.Rd
namespace Go.Rd
theorem caps {P : Program} {t e : TypeId} (ht : P.underlying t = some (.slice e)) {H : Type} {enc : TypeId × Value → H} {W : World} {a : Option Addr} {len cap : Nat} {D : DataW H} {ps : List MemPlace}
    (h : DataW.Trod enc P W 0 (fun _ => true) true t (.slice a len cap) D ps) : (a = none → len = 0 ∧ cap = 0) ∧ cap ≤ 9223372036854775807 := by
  obtain ⟨fuel, hf⟩ := h
  rcases Deep.open_slice ht hf with ⟨h1, _⟩ | ⟨a', len', cap', m, n, D', Pl, h1, hb, hl, hm, _⟩
  · simp only [Value.cells, List.cons.injEq, and_true] at h1
    injection h1 with h1 h2 h3
    exact ⟨fun _ => ⟨h2, h3⟩, by omega⟩
  · simp only [Value.cells, List.cons.injEq, and_true] at h1
    injection h1 with h1 h2 h3
    refine ⟨fun hn => ?_, by unfold maxLen at hm; omega⟩
    rw [hn] at h1
    cases h1
end Go.Rd
namespace Go.Proofs.YtlepcmljmibdnaaGreat
open Go.ChangeShapes Go.WideShapes Go.ChangeAt Go.RowKit Go.Proofs.YtlepcmljmibdnaaGreatW.PrintWords Go.Proofs.YtlepcmljmibdnaaGreatW.PrintLast Go.Proofs.YtlepcmljmibdnaaGreatW.PrintMore
theorem rInt : Rd.Reads Tryz.prog 3 (Kd.int .i64) (fun n => (Lit.int .i64 n).wf = true) := Rd.int Tryz.underlying3 (by kernel_rfl)
theorem rU8 : Rd.Reads Tryz.prog 5 (Kd.int .u8) (fun n => (Lit.int .u8 n).wf = true) := Rd.int Tryz.underlying5 (by kernel_rfl)
theorem rBool : Rd.Reads Tryz.prog 4 Kd.bool (fun _ => True) := Rd.bool Tryz.underlying4 (by kernel_rfl)
theorem rBytes : Rd.Reads Tryz.prog 58 (Kd.slice 5 (Kd.int .u8)) (fun xs => ∀ a ∈ xs, (Lit.int .u8 a).wf = true) := Rd.slice rU8 Tryz.underlying58 (by kernel_rfl)
theorem rBools : Rd.Reads Tryz.prog 38 (Kd.slice 4 Kd.bool) (fun xs => ∀ a ∈ xs, True) := Rd.slice rBool Tryz.underlying38 (by kernel_rfl)
theorem int_in {n : Int} (h : (Lit.int .i64 n).wf = true) : -9223372036854775808 ≤ n ∧ n ≤ 9223372036854775807 := by
  have := bounds_i64 h
  omega
theorem u8_in' {n : Int} (h : (Lit.int .u8 n).wf = true) : 0 ≤ n ∧ n < 256 := by
  have := bounds_u8 h
  omega
end Go.Proofs.YtlepcmljmibdnaaGreat
namespace Go.Proofs.YtlepcmljmibdnaaGreat
open Go.ChangeShapes Go.WideShapes Go.ChangeAt Go.RowKit Go.Proofs.YtlepcmljmibdnaaGreatW.PrintWords Go.Proofs.YtlepcmljmibdnaaGreatW.PrintLast Go.Proofs.YtlepcmljmibdnaaGreatW.PrintMore
open PStoreRecords (S66 k66)
theorem rString : Rd.Reads Tryz.prog 9 Kd.string (fun s => s.size ≤ maxLen) := Rd.string Tryz.underlying9 (by kernel_rfl)
theorem rTupP : Rd.Reads Tryz.prog 66 (Kd.pair Kd.string (Kd.pair (Kd.slice 5 (Kd.int .u8)) Kd.bool))
    (fun x => x.1.size ≤ maxLen ∧ (∀ a ∈ x.2.1, (Lit.int .u8 a).wf = true) ∧ True) := by
  refine Rd.struct Tryz.underlying66 ?_ (by kernel_rfl)
  refine Rd.cons (ok' := fun y : List Int × Bool => (∀ a ∈ y.1, (Lit.int .u8 a).wf = true) ∧ True) (f := { name := "Key", type := 9, offset := 0, embedded := false, tag := "", pkgPath := "", byteOffset := 0 }) rString ?_
  refine Rd.cons (ok' := fun y : Bool => True) (f := { name := "Val", type := 58, offset := 1, embedded := false, tag := "", pkgPath := "", byteOffset := 16 }) rBytes ?_
  exact Rd.one (f := { name := "Gone", type := 4, offset := 2, embedded := false, tag := "", pkgPath := "", byteOffset := 40 }) rBool
theorem rPut : Rd.Reads Tryz.prog 66 k66 (fun x => x.f0.size ≤ maxLen ∧ (∀ a ∈ x.f1, (Lit.int .u8 a).wf = true) ∧ True) :=
  Rd.iso rTupP (fun x : S66 => (x.f0, x.f1, x.f2)) (fun a => (⟨a.1, a.2.1, a.2.2⟩ : S66)) (fun _ => rfl)
end Go.Proofs.YtlepcmljmibdnaaGreat
namespace Go.Proofs.YtlepcmljmibdnaaGreat
open Go.ChangeShapes Go.WideShapes Go.ChangeAt Go.RowKit Go.Proofs.YtlepcmljmibdnaaGreatW.PrintWords Go.Proofs.YtlepcmljmibdnaaGreatW.PrintLast Go.Proofs.YtlepcmljmibdnaaGreatW.PrintMore
open PStoreRecords (S66 k66)
set_option linter.unusedVariables false
/-- a deed of layer 8 -/
structure SDeed where
  kind : Int
  l : List S66
  n : Int
  keep : List Bool
def zE : SDeed := ⟨0, [], 0, []⟩
def kE : Kd SDeed := Kd.iso (Kd.pair (Kd.int .i64) (Kd.pair (Kd.slice 66 k66) (Kd.pair (Kd.int .i64) (Kd.slice 4 Kd.bool)))) (fun x : SDeed => (x.kind, x.l, x.n, x.keep))
theorem kE_open {w : World} {x : SDeed} {cs : List Value} (h : kE.K w x cs) : ∃ A1 c1 A3 c3, cs = [.int .i64 x.kind, .slice A1 x.l.length c1, .int .i64 x.n, .slice A3 x.keep.length c3] ∧ x.l.length ≤ c1 ∧ k66.C w A1 x.l.length x.l ∧ x.keep.length ≤ c3 ∧ Kd.bool.C w A3 x.keep.length x.keep := by
  obtain ⟨_, _, rfl, rfl, ⟨_, _, rfl, ⟨A1, c1, rfl, l1, g1⟩, ⟨_, _, rfl, rfl, ⟨A3, c3, rfl, l3, g3⟩⟩⟩⟩ := h
  exact ⟨A1, c1, A3, c3, rfl, l1, g1, l3, g3⟩
def rd_E (xs : List SDeed) (i : Int) : SDeed := xs.getD i.toNat zE
theorem at_E {w : World} {A : Option Addr} {n : Nat} {xs : List SDeed} (h : Kd.C kE w A n xs) (i : Int) (h0 : 0 ≤ i) (h1 : i < n) : ∃ ad A1 c1 A3 c3, A = some ad ∧ w.cell? (ad.add (i.toNat * 4)) = some (.int .i64 (rd_E xs i).kind) ∧ w.cell? ⟨(ad.add (i.toNat * 4)).block, (ad.add (i.toNat * 4)).off + 1, none⟩ = some (.slice A1 (rd_E xs i).l.length c1) ∧ w.cell? ⟨(ad.add (i.toNat * 4)).block, (ad.add (i.toNat * 4)).off + 2, none⟩ = some (.int .i64 (rd_E xs i).n) ∧ w.cell? ⟨(ad.add (i.toNat * 4)).block, (ad.add (i.toNat * 4)).off + 3, none⟩ = some (.slice A3 (rd_E xs i).keep.length c3) ∧ (rd_E xs i).l.length ≤ c1 ∧ k66.C w A1 (rd_E xs i).l.length (rd_E xs i).l ∧ (rd_E xs i).keep.length ≤ c3 ∧ Kd.bool.C w A3 (rd_E xs i).keep.length (rd_E xs i).keep := by
  obtain ⟨ad, c, e, _, hK, hc0⟩ := Kd.C_get h zE i h0 h1
  have hc : ∀ j u, c[j]? = some u → w.cell? (ad.add (i.toNat * 4 + j)) = some u := hc0
  obtain ⟨A1, c1, A3, c3, rfl, l1, g1, l3, g3⟩ := kE_open hK
  exact ⟨ad, A1, c1, A3, c3, e, hc 0 _ rfl, by rw [← add_field _ _ 1 (by omega)]; exact hc 1 _ rfl, by rw [← add_field _ _ 2 (by omega)]; exact hc 2 _ rfl, by rw [← add_field _ _ 3 (by omega)]; exact hc 3 _ rfl, l1, g1, l3, g3⟩
theorem rd_getE (l : List SDeed) (i : Nat) (hi : i < l.length) : l[i]? = some (rd_E l (i : Int)) := by
  simp [rd_E, hi]
theorem rPuts : Rd.Reads Tryz.prog 57 (Kd.slice 66 k66) (fun xs => ∀ a ∈ xs, a.f0.size ≤ maxLen ∧ (∀ b ∈ a.f1, (Lit.int .u8 b).wf = true) ∧ True) := Rd.slice rPut Tryz.underlying57 (by kernel_rfl)
theorem rTupE : Rd.Reads Tryz.prog 75 (Kd.pair (Kd.int .i64) (Kd.pair (Kd.slice 66 k66) (Kd.pair (Kd.int .i64) (Kd.slice 4 Kd.bool))))
    (fun x => (Lit.int .i64 x.1).wf = true ∧ (∀ a ∈ x.2.1, a.f0.size ≤ maxLen ∧ (∀ b ∈ a.f1, (Lit.int .u8 b).wf = true) ∧ True) ∧ (Lit.int .i64 x.2.2.1).wf = true ∧ ∀ a ∈ x.2.2.2, True) := by
  refine Rd.struct Tryz.underlying75 ?_ (by kernel_rfl)
  refine Rd.cons (ok' := fun y : List S66 × Int × List Bool => (∀ a ∈ y.1, a.f0.size ≤ maxLen ∧ (∀ b ∈ a.f1, (Lit.int .u8 b).wf = true) ∧ True) ∧ (Lit.int .i64 y.2.1).wf = true ∧ ∀ a ∈ y.2.2, True) (f := { name := "Kind", type := 3, offset := 0, embedded := false, tag := "", pkgPath := "", byteOffset := 0 }) rInt ?_
  refine Rd.cons (ok' := fun y : Int × List Bool => (Lit.int .i64 y.1).wf = true ∧ ∀ a ∈ y.2, True) (f := { name := "L", type := 57, offset := 1, embedded := false, tag := "", pkgPath := "", byteOffset := 8 }) rPuts ?_
  refine Rd.cons (ok' := fun y : List Bool => ∀ a ∈ y, True) (f := { name := "N", type := 3, offset := 2, embedded := false, tag := "", pkgPath := "", byteOffset := 32 }) rInt ?_
  exact Rd.one (f := { name := "Keep", type := 38, offset := 3, embedded := false, tag := "", pkgPath := "", byteOffset := 40 }) rBools
theorem rSDeed : Rd.Reads Tryz.prog 75 kE (fun x => (Lit.int .i64 x.kind).wf = true ∧ (∀ a ∈ x.l, a.f0.size ≤ maxLen ∧ (∀ b ∈ a.f1, (Lit.int .u8 b).wf = true) ∧ True) ∧ (Lit.int .i64 x.n).wf = true ∧ ∀ a ∈ x.keep, True) :=
  Rd.iso rTupE (fun x : SDeed => (x.kind, x.l, x.n, x.keep)) (fun a => (⟨a.1, a.2.1, a.2.2.1, a.2.2.2⟩ : SDeed)) (fun _ => rfl)
end Go.Proofs.YtlepcmljmibdnaaGreat
namespace Go.Proofs.YtlepcmljmibdnaaGreat
open Go.RowKit Go.Proofs.YtlepcmljmibdnaaGreatW.PrintWords Go.Proofs.YtlepcmljmibdnaaGreatW.PrintLast Go.Proofs.YtlepcmljmibdnaaGreatW.PrintMore PWalOpens
open PStoreRecords (S66 k66 rd_T66 at_T66 z66)
set_option linter.unusedVariables false
set_option linter.unusedSimpArgs false
theorem up_box {g : Nat} {w w' : World} {o : Obj} (h : w.heap[g]? = some o) (hb : Below w.heap.size w w') : w'.heap[g]? = some o := (hb.block _ (Array.getElem?_eq_some_iff.1 h).1).trans h
/-- the state between two deeds -/
structure GV (w0 : World) (i : Nat) (w : World) (Sb Wb B M Bd Mv : Nat) (vc vs : Value) (D : PD) (S : Int → List Int) (g tail : Int) (rs : List (Bool × List S66)) : Prop where
  gi : GI i D S g tail rs
  sv : SV w0.heap.size w Sb Wb B M Bd Mv vc vs D g 0 tail (startsP 0 (rs.map recOf)) false (replay rs)
  low : Below w0.heap.size w0 w
theorem GV.fresh {w0 w w' : World} {i Sb Wb B M Bd Mv : Nat} {vc vs : Value} {D : PD} {S : Int → List Int} {g tail : Int} {rs : List (Bool × List S66)} (h : GV w0 i w Sb Wb B M Bd Mv vc vs D S g tail rs) (hb : Below w.heap.size w w') : GV w0 i w' Sb Wb B M Bd Mv vc vs D S g tail rs :=
  ⟨h.gi, h.sv.fresh hb, h.low.trans (hb.mono h.low.size)⟩
def GcmQ (w0 : World) (i : Nat) (w : World) (Sb Wb B M Bd Mv : Nat) (L : List S66) (e : Ending) (w' : World) : Prop :=
  e = .returned (.int .i64 0) ∧ TC w0.heap.size (isSD M Bd Mv) w w' ∧ ∃ vc vs D S g tail rs, GV w0 (i + 1) w' Sb Wb B M Bd Mv vc vs D S g tail rs ∧ replay rs = L
/-- a commit of few puts, any number -/
theorem gv_commit {w0 w : World} {i Sb Wb B M Bd Mv c : Nat} {vc vs : Value} {D : PD} {S : Int → List Int} {g tail : Int} {rs : List (Bool × List S66)} {A : Option Addr} {l : List S66} (h : GV w0 i w Sb Wb B M Bd Mv vc vs D S g tail rs) (hl : l.length ≤ 8) (hf : ∀ p ∈ l, FewP p) (hi : i ≤ 11) (hc : l.length ≤ c) (hT : ∀ W, TC w0.heap.size (isWD M Bd) w W → k66.C W A l.length l) :
    Calls Tryz.prog 39 #[.pointer (some ⟨Sb, 0, none⟩), .slice A l.length c] w (GcmQ w0 i w Sb Wb B M Bd Mv (hapL (replay rs) l)) := by
  by_cases hne : l.length = 0
  · obtain rfl : l = [] := List.eq_nil_of_length_eq_zero hne
    refine (commit_empty h.sv).mono ?_
    rintro e w' ⟨rfl, rfl⟩
    have hg := h.gi
    exact ⟨rfl, TC.refl _ _ _, vc, vs, D, S, g, tail, rs, ⟨⟨hg.winv, hg.ne, hg.ok, by have := hg.len; omega, hg.few, ⟨hg.tail_.1, by have := hg.tail_.2; omega⟩, ⟨hg.g_.1, by have := hg.g_.2; omega⟩, by have := hg.rl; omega⟩, h.sv, h.low⟩, rfl⟩
  · obtain ⟨D2, S2, hg2, hcm⟩ := gi_commit (w0 := w0) h.gi hl hf hne hi
    refine (hcm w Sb Wb B M Bd Mv vc vs A c h.sv hc hT).mono ?_
    rintro e w' ⟨rfl, htc, vc', vs', hsv⟩
    exact ⟨rfl, htc, vc', vs', D2, S2, _, _, _, ⟨hg2, hsv, h.low.trans htc.low⟩, by rw [replay_snoc]; rfl⟩
end Go.Proofs.YtlepcmljmibdnaaGreat
namespace Go.Proofs.YtlepcmljmibdnaaGreat
open Go.RowKit Go.Proofs.YtlepcmljmibdnaaGreatW.PrintWords Go.Proofs.YtlepcmljmibdnaaGreatW.PrintLast Go.Proofs.YtlepcmljmibdnaaGreatW.PrintMore PWalOpens
open PStoreRecords (S66 k66 rd_T66 at_T66 z66)
set_option linter.unusedVariables false
set_option linter.unusedSimpArgs false
/-- a kind of blocks that no store holds -/
structure NoS (M Bd Mv : Nat) (T : Nat → Obj → Prop) : Prop where
  map : ∀ es cl, ¬ T M (.map es cl) ∧ ¬ T Bd (.map es cl) ∧ ¬ T Mv (.map es cl)
  cells : ∀ q, q = 90 ∨ q = 124 ∨ q = 102 ∨ q = 52 ∨ q = 5 ∨ q = 148 → ∀ k cs, ¬ T k (.cells cs q (0, 0))
/-- what is no cells, from N on -/
def isFar (N : Nat) (k : Nat) (o : Obj) : Prop := N ≤ k ∧ o.isCells = false
/-- boxes of numbers and flags -/
def isIB (k : Nat) (o : Obj) : Prop := isT 3 k o ∨ isT 4 k o
end Go.Proofs.YtlepcmljmibdnaaGreat
namespace Go.Proofs.YtlepcmljmibdnaaGreat
open Go.RowKit Go.Proofs.YtlepcmljmibdnaaGreatW.PrintWords Go.Proofs.YtlepcmljmibdnaaGreatW.PrintLast Go.Proofs.YtlepcmljmibdnaaGreatW.PrintMore PWalOpens
open PStoreRecords (S66 k66 rd_T66 at_T66 z66)
set_option linter.unusedVariables false
set_option linter.unusedSimpArgs false
/-- what a change leaves: its code, the disk -/
def DkQ (n0 : Nat) (w : World) (T : Nat → Obj → Prop) (B M Bd : Nat) (D2 : PD) (code : Int) (r : Ending) (w' : World) : Prop :=
  r = .returned (.int .i64 code) ∧ TC n0 T w w' ∧ ∃ vc', DK w' n0 B M Bd vc' D2
section
variable {n0 : Nat} {w : World} {Wb B M Bd : Nat} {vc vs : Value} {D D1 : PD} {gen head tail : Int} {S st : List Int} {s e : Int}
theorem arm_wv (n : Int) (hn : -9223372036854775808 ≤ n ∧ n ≤ 9223372036854775807) {over : Bool} (h : WV n0 w Wb B M Bd vc vs D gen head tail S over) :
    Calls Tryz.prog 21 #[.pointer (some ⟨B, 0, none⟩), .int .i64 n] w fun r w' => r = .returned (.tuple #[]) ∧ TC n0 (isWD M Bd) w w' ∧ ∃ vc', WV n0 w' Wb B M Bd vc' vs (armP D n) gen head tail S over := by
  refine (at_arm n hn (At.refl h.dk)).mono ?_
  rintro r w2 ⟨rfl, ha⟩
  obtain ⟨h1, h2⟩ := h.disk ha
  exact ⟨rfl, h2.mono fun _ _ h => .inl h, _, h1⟩
theorem swap_chg {A : Option Addr} {c : Nat} {R : List (List Int)} {r f : Int} (hr : ringP D = r) (hR : RecsOK R) (hf : r - (tail - head) = f) (hres : layP D r f tail R = (D1, st, s, e)) (he : e = 0 ∨ e = 50)
    (ht : 0 ≤ head ∧ head ≤ tail ∧ tail < 18446744073709540000 ∧ tail - head ≤ 4094) (hg : 0 ≤ gen ∧ gen < 18446744073709551615) (hs : 0 ≤ s ∧ s < 18446744073709551616) (hl : D.cache.length ≤ 20000) (hl1 : D1.cache.length ≤ 30000) (h : WV n0 w Wb B M Bd vc vs D gen head tail S false)
    (hT : ∀ W, TC n0 (isWD M Bd) w W → bytesK.C W A R.length R) :
    Calls Tryz.prog 17 #[.pointer (some ⟨Wb, 0, none⟩), .slice A R.length c] w (DkQ n0 w (isWD M Bd) B M Bd (chgD D1 e tail s (gen + 1)) (chgE D1 e tail s (gen + 1))) := by
  refine (swap_calls (c := c) (D2 := (saveP D1 (gen + 1) [tail, s]).1) (e2 := (saveP D1 (gen + 1) [tail, s]).2) hr hR hf hres rfl ht hg hs hl hl1 h hT).mono ?_
  rintro x w2 ⟨htc, vc', vs', q1, q2, q3, q4⟩
  unfold DkQ chgE chgD
  rcases he with rfl | rfl
  · rw [if_pos rfl]
    by_cases h2 : (saveP D1 (gen + 1) [tail, s]).2 = 0
    · obtain ⟨rfl, hv⟩ := q3 rfl h2
      rw [if_pos ⟨rfl, h2⟩]
      exact ⟨rfl, htc, vc', hv.dk⟩
    · obtain ⟨rfl, hv⟩ := q4 rfl h2
      rw [if_neg (fun e => h2 e.2)]
      exact ⟨rfl, htc, vc', hv.dk⟩
  · obtain ⟨rfl, hv⟩ := q2 (by decide) (by decide)
    rw [if_neg (fun e => by cases e.1), if_neg (by decide)]
    exact ⟨rfl, htc, vc', hv.dk⟩
/-- an Add, its code and its disk, with the store's word -/
theorem add_chg {R : List (List Int)} {r f : Int} (hr : ringP D = r) (hR : RecsOK R) (hf : r - (tail - head) = f) (hres : layP D r f tail R = (D1, st, s, e)) (he : e = 0 ∨ e = 50)
    (ht : 0 ≤ head ∧ head ≤ tail ∧ tail < 18446744073709540000 ∧ tail - head ≤ 4094) (hg : 0 ≤ gen ∧ gen < 18446744073709551615) (hs : 0 ≤ s ∧ s < 18446744073709551616) (hl : D.cache.length ≤ 20000) (hl1 : D1.cache.length ≤ 30000) (hS : S.length + st.length ≤ 1000000) :
    ∃ g2 h2 t2 S2 o2, ∀ (w : World) (Wb B M Bd : Nat) (vc vs : Value) (A : Option Addr) (c : Nat), WV n0 w Wb B M Bd vc vs D gen head tail S false → (∀ W, TC n0 (isWD M Bd) w W → bytesK.C W A R.length R) →
      Calls Tryz.prog 15 #[.pointer (some ⟨Wb, 0, none⟩), .slice A R.length c] w (WdQ n0 w Wb B M Bd (chgD D1 e head s (gen + 1)) (chgE D1 e head s (gen + 1)) g2 h2 t2 S2 o2) := by
  have key := fun (w : World) (Wb B M Bd : Nat) (vc vs : Value) (A : Option Addr) (c : Nat) h hT => wd_add (add_calls (w := w) (vc := vc) (vs := vs) (A := A) (c := c) (Wb := Wb) (B := B) (M := M) (Bd := Bd) (n0 := n0) (D2 := (saveP D1 (gen + 1) [head, s]).1) (e2 := (saveP D1 (gen + 1) [head, s]).2) hr hR hf hres rfl ht hg hs hl hl1 hS h hT)
  unfold chgE chgD
  rcases he with rfl | rfl
  · rw [if_pos rfl]
    by_cases h2 : (saveP D1 (gen + 1) [head, s]).2 = 0
    · rw [if_pos ⟨rfl, h2⟩]
      exact ⟨_, _, _, _, _, fun w Wb B M Bd vc vs A c h hT => (key w Wb B M Bd vc vs A c h hT).2.2.1 rfl h2⟩
    · rw [if_neg (fun e => h2 e.2)]
      exact ⟨_, _, _, _, _, fun w Wb B M Bd vc vs A c h hT => (key w Wb B M Bd vc vs A c h hT).2.2.2 rfl h2⟩
  · rw [if_neg (by decide), if_neg (fun e => by cases e.1)]
    exact ⟨_, _, _, _, _, fun w Wb B M Bd vc vs A c h hT => (key w Wb B M Bd vc vs A c h hT).2.1 rfl⟩
end
set_option maxRecDepth 100000 in
theorem compact_calls {n0 : Nat} {w : World} {Sb Wb B M Bd Mv : Nat} {vc vs : Value} {D D2 : PD} {gen head tail code : Int} {S : List Int} {L : List S66} (b : List Int) (hb : recB true L = b) (hL : SLim L) (h : SV n0 w Sb Wb B M Bd Mv vc vs D gen head tail S false L)
    (hswap : ∀ (w : World) (A : Option Addr) (c : Nat), WV n0 w Wb B M Bd vc vs D gen head tail S false → (∀ W, TC n0 (isWD M Bd) w W → bytesK.C W A 1 [b]) → Calls Tryz.prog 17 #[.pointer (some ⟨Wb, 0, none⟩), .slice A 1 c] w (DkQ n0 w (isWD M Bd) B M Bd D2 code)) :
    Calls Tryz.prog 42 #[.pointer (some ⟨Sb, 0, none⟩)] w (DkQ n0 w (isWD M Bd) B M Bd D2 code) := by
  have HN0 := Aside0.mk h.low
  have HOK := Aside0.mk (sok_any h.blk)
  have HH := Aside0.mk h
  have HSW := Aside0.mk hswap
  have HBE := Aside0.mk hb
  have HWH := Aside0.mk (fun (W : World) (hw : Below w.heap.size w W) => whole_calls (h.fresh hw).blk (h.fresh hw).mv hL.each hL.len hL.rec_)
  obtain ⟨q0, q1, _⟩ := cells2 h.blk
  clear h hswap hb hL
  go_enter Tryz.func42, Tryz.ntmps42
  go_wp2_with (first
    | (go_at_call 83; (with_reducible refine HOK.out.mono ?_); rintro e w' ⟨rfl, rfl⟩))
  refine Fork.wp_fork (Fork.Lo.rel 0) [7] [] (.one 0 0 (.one 1 0 (.one 2 0 (.one 4 0 (.one 3 1 (.one 5 2 (.one 6 2 (.one 7 2 (.one 8 0 .nil))))))))) (by kernel_rfl) (by kernel_rfl) ?_
  generalize hops : List.toArray (_ : List Oper) = ops
  have HO := Aside0.mk hops
  clear hops
  iterate 4 ((refine Fork.plain (Fork.at_ HO.out rfl) _ rfl (fun W => by go_simp; exact rfl) ?_); simp only [Act.put, List.setIfInBounds_toArray, List.set_cons_succ, List.set_cons_zero])
  refine Fork.reads (Fork.at_ HO.out rfl) _ rfl (fun W hW => Arr.ex_load1 rfl rfl (by kernel_rfl) (Fork.bel_cell hW (by assumption))) ?_
  simp only [Act.put, List.setIfInBounds_toArray, List.set_cons_succ, List.set_cons_zero]
  refine Fork.step (Fork.at_ HO.out rfl) (fun K hK => ?_)
  go_simp
  (with_reducible refine (HWH.out _ (Below.refl _ _).drew).mono ?_)
  rw [HBE.out]
  rintro e w1 ⟨A1, c1, rfl, hr, hbl⟩
  have HR1 := Aside0.mk hr
  have HB1 := Aside0.mk ((Below.refl w.heap.size w).drew.trans hbl)
  have HV1 := Aside0.mk (HH.out.wv.fresh (((Below.refl w.heap.size w).drew.trans hbl).trans (((Below.refl w1.heap.size w1).alloc (Nat.le_refl _) (.cells #[.slice A1 b.length c1] 58)).mono hbl.size)))
  refine hK _ _ (Fork.Grow.of_new hbl (Nat.zero_le _)) ?_
  clear hK K hr hbl
  try simp only [Act.put, List.setIfInBounds_toArray, List.set_cons_succ, List.set_cons_zero]
  refine Fork.step (Fork.at_ HO.out rfl) (fun K hK => ?_)
  go_simp
  refine hK _ _ (Fork.Grow.of_new (Below.alloc (Below.refl _ _) (Nat.le_refl _) _) (Nat.zero_le _)) ?_
  clear hK K
  try simp only [Act.put, List.setIfInBounds_toArray, List.set_cons_succ, List.set_cons_zero]
  refine Fork.step (Fork.at_ HO.out rfl) (fun K hK => ?_)
  go_simp
  (with_reducible refine (HSW.out _ _ 1 HV1.out (fun W hc => lit_one_tc (v := .nilIface) HR1.out (Kd.R_reads' HR1.out).2.1 hc)).mono ?_)
  rintro e w2 ⟨rfl, htc, hd⟩
  have HT2 := Aside0.mk ((TC.of_below (HB1.out.trans (((Below.refl w1.heap.size w1).alloc (Nat.le_refl _) (.cells #[.slice A1 b.length c1] 58)).mono HB1.out.size)) HN0.out).trans htc)
  have HD2 := Aside0.mk hd
  refine hK _ _ (Fork.Grow.of_old (Fork.Lo.zero htc.low.os htc.low.tape htc.low.output) rfl) ?_
  clear hK K htc hd
  try simp only [Act.put, List.setIfInBounds_toArray, List.set_cons_succ, List.set_cons_zero]
  ((refine Fork.plain (Fork.at_ HO.out rfl) _ rfl (fun W => by go_simp; exact rfl) ?_); simp only [Act.put, List.setIfInBounds_toArray, List.set_cons_succ, List.set_cons_zero])
  refine Fork.done ?_
  go_wp2
  go_ret
  exact ⟨rfl, HT2.out, HD2.out⟩
end Go.Proofs.YtlepcmljmibdnaaGreat
namespace Go.Proofs.YtlepcmljmibdnaaGreat
open Go.RowKit Go.Proofs.YtlepcmljmibdnaaGreatW.PrintWords Go.Proofs.YtlepcmljmibdnaaGreatW.PrintLast Go.Proofs.YtlepcmljmibdnaaGreatW.PrintMore PWalOpens
open PStoreRecords (S66 k66 rd_T66 at_T66 z66)
set_option linter.unusedVariables false
set_option linter.unusedSimpArgs false
theorem insK_high (q : S66) : ∀ L : List S66, (∀ x ∈ L, KLt x.f0 q.f0) → insK q L = L ++ [kvP q.f0 q.f1]
  | [], _ => rfl
  | x :: L, h => by
    have hx := h x (by simp)
    unfold insK
    rw [if_neg (klt_asymm hx), if_neg (klt_ne hx), insK_high q L (fun y hy => h y (by simp [hy]))]
    rfl
theorem hapL_self : ∀ (L acc : List S66), SL (acc ++ L) → hapL acc L = acc ++ L
  | [], acc, _ => by simp [hapL]
  | p :: L, acc, h => by
    have hp : p.f2 = false := h.here p (by simp)
    have hk : kvP p.f0 p.f1 = p := by
      obtain ⟨a, b, c⟩ := p
      simp only at hp
      subst hp
      rfl
    have hlow : ∀ x ∈ acc, KLt x.f0 p.f0 := fun x hx => (List.pairwise_append.1 h.pw).2.2 x hx p (by simp)
    have e : hap1 acc p = acc ++ [p] := by
      unfold hap1
      rw [hp, insK_high p acc hlow, hk]
      rfl
    have h2 := hapL_self L (acc ++ [p]) (by rw [List.append_assoc]; exact h)
    show hapL (hap1 acc p) L = _
    rw [e, h2, List.append_assoc]
    rfl
theorem replay_self {L : List S66} (h : SL L) : replay [(true, L)] = L := by
  show hapL [] L = L
  rw [hapL_self L [] h]
  rfl
theorem crash_quiet {D : PD} {S : Int → List Int} {r g head tail : Int} {R : List (List Int)} (h : WInv D S r g head tail R) (arm : Int) (ks : List Bool) : WInv (crashP (armP D arm) ks) S r g head tail R := by
  have hc : (armP D arm).cache = [] := h.cache
  refine h.free (m := 0) (by have := h.fit; omega) ?_ rfl ((h.ok.arm arm).crash ks) (fun _ _ => rfl)
  have e : crashP (armP D arm) ks = restP (armP D arm) := by unfold crashP; rw [hc]; rfl
  rw [e]
  refine ⟨rfl, rfl, h.rdy.bad, h.rdy.n, fun a => ?_⟩
  have hv := h.rdy.view a
  unfold view at hv ⊢
  rw [h.cache] at hv
  exact hv
/-- what a crash leaves: what was, or what is next -/
structure Crashed (D2 : PD) (code : Int) (ks : List Bool) (was next : List S66) : Prop where
  len : D2.cache.length ≤ 20000
  got : ∃ rs S g h t, WInv (crashP D2 ks) S 998 g h t (rs.map recOf) ∧ rs ≠ [] ∧ (∀ x ∈ rs, RecOK x) ∧ (replay rs = next ∨ (code ≠ 0 ∧ replay rs = was))
theorem chgD_len {D1 : PD} {e h1 s g : Int} (hl : D1.cache.length ≤ 4200) : (chgD D1 e h1 s g).cache.length ≤ 20000 := by
  unfold chgD
  split
  · have := saveP_cache D1 g [h1, s]
    omega
  · omega
theorem armed_none {i : Nat} {D : PD} {S : Int → List Int} {g tail : Int} {rs : List (Bool × List S66)} (h : GI i D S g tail rs) (arm : Int) (ks : List Bool) : Crashed (armP D arm) 0 ks (replay rs) (replay rs) :=
  ⟨by show D.cache.length ≤ 20000; rw [h.winv.cache]; decide, rs, S, g, 0, tail, crash_quiet h.winv arm ks, h.ne, h.ok, .inl rfl⟩
theorem armed_commit {w0 : World} {i : Nat} {D : PD} {S : Int → List Int} {g tail : Int} {rs : List (Bool × List S66)} {l : List S66} (h : GI i D S g tail rs) (hl : l.length ≤ 8) (hf : ∀ p ∈ l, FewP p) (hne : l.length ≠ 0) (hi : i ≤ 11) (arm : Int) (ks : List Bool) :
    ∃ D2 code, Crashed D2 code ks (replay rs) (hapL (replay rs) l) ∧ ∀ (w : World) (Sb Wb B M Bd Mv : Nat) (vc vs : Value) (A : Option Addr) (c : Nat), SV w0.heap.size w Sb Wb B M Bd Mv vc vs (armP D arm) g 0 tail (startsP 0 (rs.map recOf)) false (replay rs) → l.length ≤ c → (∀ W, TC w0.heap.size (isWD M Bd) w W → k66.C W A l.length l) →
      Calls Tryz.prog 39 #[.pointer (some ⟨Sb, 0, none⟩), .slice A l.length c] w (DkQ w0.heap.size w (isSD M Bd Mv) B M Bd D2 code) := by
  have hb1 := recB_le false l hf
  have hfh := few_hap hf h.few
  have hlh := hapL_length (replay rs) l
  have hl1 := h.len
  have hb2 := recB_le true (hapL (replay rs) l) hfh
  have hlen1 : (recB false l).length ≤ 40000 := by omega
  have hby : isBytes (recB false l) := recB_bytes false l (fun p hp => (hf p hp).2.2)
  have hby2 : isBytes (recB true (hapL (replay rs) l)) := recB_bytes true _ (fun p hp => (hfh p hp).2.2)
  have hX : RecsOK [recB false l] := ⟨by simp, fun b hb => by rw [List.mem_singleton] at hb; subst hb; exact ⟨hby, hlen1⟩⟩
  have hn1 : needs [recB false l] = needN (recB false l) := by show needN (recB false l) + 0 = _; omega
  have hm1 : 1 ≤ needN (recB false l) ∧ needN (recB false l) ≤ 40 := by unfold needN; rw [if_neg (by omega)]; omega
  have hm2 : 1 ≤ needN (recB true (hapL (replay rs) l)) ∧ needN (recB true (hapL (replay rs) l)) ≤ 460 := by unfold needN; rw [if_neg (by omega)]; omega
  have ht := h.tail_
  have hg := h.g_
  have hrl := h.rl
  have hrep : replay (rs ++ [(false, l)]) = hapL (replay rs) l := by rw [replay_snoc]; rfl
  obtain ⟨D1, st, s, e, hlay, hst, hK⟩ := h.winv.keeps hX (by rw [hn1]; omega) (by rw [hn1]; omega) (by omega) false arm ks
  simp only [Bool.false_eq_true, if_false] at hK
  have hlen := hX.len
  obtain ⟨g2, h2, t2, S2, o2, hadd⟩ := add_chg (n0 := w0.heap.size) (show ringP (armP D arm) = 998 from h.winv.ring) hX rfl hlay hK.code (S := startsP 0 (rs.map recOf)) (gen := g) (by omega) (by omega) hK.s0 (by show D.cache.length ≤ 20000; rw [h.winv.cache]; decide) (by have := hK.len; omega) (by rw [starts_len, List.length_map]; simp at hst; omega)
  refine ⟨chgD D1 e 0 s (g + 1), chgE D1 e 0 s (g + 1), ⟨chgD_len hK.len, ?_⟩, fun w Sb Wb B M Bd Mv vc vs A c hsv hc hT => ?_⟩
  · obtain ⟨S', g', h', t', X, hw, hX2⟩ := hK.got
    rcases hX2 with rfl | ⟨hcd, rfl⟩
    · refine ⟨rs ++ [(false, l)], S', g', h', t', by rw [List.map_append]; exact hw, by simp, ?_, .inl hrep⟩
      intro x hx
      rcases List.mem_append.1 hx with hx | hx
      · exact h.ok x hx
      · rw [List.mem_singleton] at hx
        subst hx
        exact rec_ok hl hf
    · exact ⟨rs, S', g', h', t', hw, h.ne, h.ok, .inr ⟨hcd, rfl⟩⟩
  · have hcm := fun L2 hcd => commit_calls (A := A) (c := c) (Sb := Sb) (Mv := Mv) (vc := vc) (vs := vs) (L2 := L2) (L := replay rs) (l := l) (recB false l) (recB true (hapL (replay rs) l)) _ _ rfl rfl rfl rfl (fun w' vc vs A c hv hT => hadd w' Wb B M Bd vc vs A c hv hT) (show ringP (armP D arm) = 998 from h.winv.ring) rfl ⟨by omega, by omega, by omega, by omega⟩ hne (by omega) hc hT (fun p hp => by have := hf p hp; exact ⟨by have := this.1; omega, by have := this.2.1; omega⟩) (by omega) (by omega) hby hby2 (slim_few hfh (by omega)) (by omega) hcd hsv
    by_cases hcd : chgE D1 e 0 s (g + 1) = 0
    · refine (hcm _ (.inl ⟨hcd, rfl⟩)).mono ?_
      rintro r w' ⟨rfl, htc, vc', vs', hsv⟩
      exact ⟨rfl, htc, vc', hsv.wv.dk⟩
    · refine (hcm _ (.inr ⟨hcd, rfl⟩)).mono ?_
      rintro r w' ⟨rfl, htc, vc', vs', hsv⟩
      exact ⟨rfl, htc, vc', hsv.wv.dk⟩
set_option maxRecDepth 100000 in
theorem armed_compact {w0 : World} {i : Nat} {D : PD} {S : Int → List Int} {g tail : Int} {rs : List (Bool × List S66)} (h : GI i D S g tail rs) (hi : i ≤ 11) (arm : Int) (ks : List Bool) :
    ∃ D2 code, Crashed D2 code ks (replay rs) (replay rs) ∧ ∀ (w : World) (Sb Wb B M Bd Mv : Nat) (vc vs : Value), SV w0.heap.size w Sb Wb B M Bd Mv vc vs (armP D arm) g 0 tail (startsP 0 (rs.map recOf)) false (replay rs) →
      Calls Tryz.prog 42 #[.pointer (some ⟨Sb, 0, none⟩)] w (DkQ w0.heap.size w (isWD M Bd) B M Bd D2 code) := by
  have hl1 := h.len
  have hb2 := recB_le true (replay rs) h.few
  have hby2 : isBytes (recB true (replay rs)) := recB_bytes true _ (fun p hp => (h.few p hp).2.2)
  have hX : RecsOK [recB true (replay rs)] := ⟨by simp, fun b hb => by rw [List.mem_singleton] at hb; subst hb; exact ⟨hby2, by omega⟩⟩
  have hn1 : needs [recB true (replay rs)] = needN (recB true (replay rs)) := by show needN (recB true (replay rs)) + 0 = _; omega
  have hm2 : 1 ≤ needN (recB true (replay rs)) ∧ needN (recB true (replay rs)) ≤ 460 := by unfold needN; rw [if_neg (by omega)]; omega
  have ht := h.tail_
  have hg := h.g_
  obtain ⟨D1, st, s, e, hlay, hst, hK⟩ := h.winv.keeps hX (by rw [hn1]; omega) (by rw [hn1]; omega) (by omega) true arm ks
  simp only [if_true] at hK
  refine ⟨chgD D1 e tail s (g + 1), chgE D1 e tail s (g + 1), ⟨chgD_len hK.len, ?_⟩, fun w Sb Wb B M Bd Mv vc vs hsv => ?_⟩
  · obtain ⟨S', g', h', t', X, hw, hX2⟩ := hK.got
    rcases hX2 with rfl | ⟨hcd, rfl⟩
    · refine ⟨[(true, replay rs)], S', g', h', t', hw, by simp, ?_, .inl (replay_self (replay_sl rs))⟩
      intro x hx
      rw [List.mem_singleton] at hx
      subst hx
      exact ⟨by show (replay rs).length ≤ 4096; omega, fun p hp => by have := h.few p hp; exact ⟨by have := this.1; omega, by have := this.2.1; omega, this.2.2⟩, by show (recB true (replay rs)).length ≤ 60000; omega⟩
    · exact ⟨rs, S', g', h', t', hw, h.ne, h.ok, .inr ⟨hcd, rfl⟩⟩
  · refine compact_calls _ rfl (slim_few h.few (by omega)) hsv (fun w A c hv hT => ?_)
    have hring : ringP (armP D arm) = 998 := h.winv.ring
    have hc : (armP D arm).cache.length ≤ 20000 := by show D.cache.length ≤ 20000; rw [h.winv.cache]; decide
    have hs0 := hK.s0
    have hl2 : D1.cache.length ≤ 30000 := by have := hK.len; omega
    have hcode := hK.code
    clear hK hst hn1 hm2 hb2
    generalize armP D arm = Da at *
    exact swap_chg (c := c) (R := [recB true (replay rs)]) (st := st) hring hX rfl hlay hcode (by omega) (by omega) hs0 hc hl2 hv hT
end Go.Proofs.YtlepcmljmibdnaaGreat
namespace Go.Proofs.YtlepcmljmibdnaaGreat
open Go.RowKit Go.Proofs.YtlepcmljmibdnaaGreatW.PrintWords Go.Proofs.YtlepcmljmibdnaaGreatW.PrintLast Go.Proofs.YtlepcmljmibdnaaGreatW.PrintMore PWalOpens
open PStoreRecords (S66 k66 rd_T66 at_T66 z66)
set_option linter.unusedVariables false
set_option linter.unusedSimpArgs false
/-! ### plain -/
def kvX (p : KX) : KX := (kvP p.1.f0 p.1.f1, p.2)
def hst (p : KX) (s : List KX × Bool) (x : KX) : List KX × Bool :=
  let s1 := if s.2 = false ∧ KLt p.1.f0 x.1.f0 then (s.1 ++ [kvX p], true) else s
  if x.1.f0 = p.1.f0 then s1 else (s1.1 ++ [x], s1.2)
def hfi (p : KX) (s : List KX × Bool) : List KX := if s.2 then s.1 else s.1 ++ [kvX p]
def hR (L : List KX) (p : KX) : List KX := hfi p (L.foldl (hst p) ([], p.1.f2))
def happR (L ps : List KX) : List KX := ps.foldl hR L
theorem hst_lt {p x : KX} {s : List KX × Bool} (h : s.2 = false) (hl : KLt p.1.f0 x.1.f0) : hst p s x = (s.1 ++ [kvX p] ++ [x], true) := by
  have hne : x.1.f0 ≠ p.1.f0 := (klt_ne hl).symm
  unfold hst
  simp [hl, hne, h]
theorem hst_eq {p x : KX} {s : List KX × Bool} (h : x.1.f0 = p.1.f0) : hst p s x = s := by
  have h2 : ¬ KLt p.1.f0 x.1.f0 := by rw [h]; exact klt_irrefl _
  unfold hst
  simp only [h2, and_false, if_false]
  rw [if_pos h]
theorem hst_gt {p x : KX} {s : List KX × Bool} (h : KLt x.1.f0 p.1.f0) : hst p s x = (s.1 ++ [x], s.2) := by
  have hne : x.1.f0 ≠ p.1.f0 := klt_ne h
  have hnl := klt_asymm h
  unfold hst
  simp [hnl, hne]
theorem hst_tr {p x : KX} {s : List KX × Bool} (h : s.2 = true) (hne : x.1.f0 ≠ p.1.f0) : hst p s x = (s.1 ++ [x], true) := by
  obtain ⟨a, b⟩ := s
  simp only at h
  subst h
  unfold hst
  simp [hne]
theorem hst_done (p : KX) : ∀ (L acc : List KX), L.foldl (hst p) (acc, true) = (acc ++ L.filter (fun x => decide (x.1.f0 ≠ p.1.f0)), true)
  | [], acc => by simp
  | x :: L, acc => by
    have ih := hst_done p L
    rw [List.foldl_cons, List.filter_cons]
    by_cases h : x.1.f0 = p.1.f0
    · have e : hst p (acc, true) x = (acc, true) := by unfold hst; simp [h]
      rw [e, ih]
      simp [h]
    · have e : hst p (acc, true) x = (acc ++ [x], true) := by unfold hst; simp [h]
      rw [e, ih]
      simp [h]
theorem insK_low (q : S66) : ∀ L : List S66, (∀ x ∈ L, KLt q.f0 x.f0) → insK q L = kvP q.f0 q.f1 :: L
  | [], _ => rfl
  | x :: L, h => by unfold insK; rw [if_pos (h x (by simp))]
theorem hst_ins (p : KX) : ∀ (L acc : List KX), (L.map (·.1)).Pairwise (fun a b => KLt a.f0 b.f0) → (hfi p (L.foldl (hst p) (acc, false))).map (·.1) = acc.map (·.1) ++ insK p.1 (L.map (·.1))
  | [], acc, _ => by simp [hfi, insK, kvX]
  | x :: L, acc, h => by
    rw [List.map_cons, List.pairwise_cons] at h
    have ih := fun acc => hst_ins p L acc h.2
    rw [List.foldl_cons, List.map_cons]
    rcases klt_tri p.1.f0 x.1.f0 with hl | he | hg
    · have hne : x.1.f0 ≠ p.1.f0 := (klt_ne hl).symm
      have e : hst p (acc, false) x = (acc ++ [kvX p] ++ [x], true) := by unfold hst; simp [hl, hne]
      rw [e, hst_done]
      have hf : L.filter (fun x => decide (x.1.f0 ≠ p.1.f0)) = L := by
        rw [List.filter_eq_self]
        intro y hy
        have := klt_trans hl (h.1 y.1 (List.mem_map_of_mem hy))
        simpa using (klt_ne this).symm
      rw [hf]
      unfold insK
      rw [if_pos hl]
      simp [hfi, kvX]
    · have e : hst p (acc, false) x = (acc, false) := by unfold hst; rw [← he]; simp [klt_irrefl]
      rw [e, ih, insK_low p.1 (L.map (·.1)) (fun y hy => by rw [he]; exact h.1 y hy)]
      conv => rhs; unfold insK
      rw [if_neg (by rw [he]; exact klt_irrefl _), if_pos he.symm]
    · have hne : x.1.f0 ≠ p.1.f0 := klt_ne hg
      have hnl := klt_asymm hg
      have e : hst p (acc, false) x = (acc ++ [x], false) := by unfold hst; simp [hnl, hne]
      rw [e, ih]
      conv => rhs; unfold insK
      rw [if_neg hnl, if_neg hne]
      simp
theorem hR_map {L : List KX} (hL : SL (L.map (·.1))) (p : KX) : (hR L p).map (·.1) = hap1 (L.map (·.1)) p.1 := by
  unfold hR hap1
  cases h : p.1.f2 with
  | true =>
    rw [hst_done]
    simp only [hfi, if_pos, List.nil_append, delK]
    rw [List.filter_map]
    rfl
  | false =>
    rw [hst_ins p L [] hL.pw]
    simp
theorem happR_map {L : List KX} (hL : SL (L.map (·.1))) (ps : List KX) : (happR L ps).map (·.1) = hapL (L.map (·.1)) (ps.map (·.1)) := by
  induction ps generalizing L with
  | nil => rfl
  | cons p ps ih =>
    have h := ih (L := hR L p) (by rw [hR_map hL]; exact hL.hap1 _)
    show (happR (hR L p) ps).map (·.1) = hapL (hap1 (L.map (·.1)) p.1) (ps.map (·.1))
    rw [h, hR_map hL]
theorem hst_all {P : KX → Prop} (p : KX) (hp : P (kvX p)) : ∀ (L : List KX) (s : List KX × Bool), (∀ x ∈ s.1, P x) → (∀ x ∈ L, P x) → ∀ x ∈ (L.foldl (hst p) s).1, P x
  | [], s, h, _ => h
  | y :: L, s, h, hL => by
    refine hst_all p hp L _ ?_ (fun x hx => hL x (List.mem_cons_of_mem _ hx))
    have hy := hL y (List.mem_cons_self ..)
    have app : ∀ {l : List KX} {z : KX}, (∀ x ∈ l, P x) → P z → ∀ x ∈ l ++ [z], P x := by
      intro l z h1 h2 x hx
      rcases List.mem_append.1 hx with hx | hx
      · exact h1 x hx
      · rw [List.mem_singleton] at hx; rw [hx]; exact h2
    unfold hst
    simp only
    split <;> split <;> first | exact h | exact app h hp | exact app h hy | exact app (app h hp) hy
theorem happR_all {P : KX → Prop} (ps L : List KX) (hp : ∀ p ∈ ps, P (kvX p)) (hL : ∀ x ∈ L, P x) : ∀ x ∈ happR L ps, P x := by
  induction ps generalizing L with
  | nil => exact hL
  | cons p ps ih =>
    refine ih (L := hR L p) (fun q hq => hp q (List.mem_cons_of_mem _ hq)) ?_
    have h := hst_all p (hp p (List.mem_cons_self ..)) L ([], p.1.f2) (fun x hx => by cases hx) hL
    unfold hR hfi
    split
    · exact h
    · intro x hx
      rcases List.mem_append.1 hx with hx | hx
      · exact h x hx
      · rw [List.mem_singleton] at hx; rw [hx]; exact hp p (List.mem_cons_self ..)
def hlen (s : List KX × Bool) : Nat := s.1.length + if s.2 then 0 else 1
theorem hst_len (p : KX) (s : List KX × Bool) (x : KX) : hlen (hst p s x) ≤ hlen s + 1 := by
  obtain ⟨a, b⟩ := s
  unfold hst hlen
  cases b <;> simp only <;> split <;> split <;> simp_all <;> omega
theorem hst_lens (p : KX) : ∀ (L : List KX) (s : List KX × Bool), hlen (L.foldl (hst p) s) ≤ hlen s + L.length
  | [], s => Nat.le_refl _
  | x :: L, s => by
    have h1 := hst_lens p L (hst p s x)
    have h2 := hst_len p s x
    rw [List.foldl_cons, List.length_cons]
    omega
theorem hR_len (L : List KX) (p : KX) : (hR L p).length ≤ L.length + 1 := by
  have h := hst_lens p L ([], p.1.f2)
  unfold hR hfi
  unfold hlen at h
  generalize L.foldl (hst p) ([], p.1.f2) = s at h ⊢
  simp only [List.length_nil] at h
  split <;> (try rw [List.length_append, List.length_singleton]) <;> simp_all <;> (try split at h) <;> omega
theorem happR_len (L ps : List KX) : (happR L ps).length ≤ L.length + ps.length := by
  induction ps generalizing L with
  | nil => exact Nat.le_refl _
  | cons p ps ih =>
    have h := ih (hR L p)
    have h2 := hR_len L p
    show (happR (hR L p) ps).length ≤ _
    rw [List.length_cons]
    omega
theorem foldl_take {α β : Type} {f : β → α → β} {b : β} {l : List α} {i : Nat} {x : α} (h : l[i]? = some x) : (l.take (i + 1)).foldl f b = f ((l.take i).foldl f b) x := by
  rw [List.take_add_one, h]
  simp
/-! ### in memory -/
def IsSl (v : Value) : Prop := ∃ A n c, v = .slice A n c
theorem IsSl.one {v : Value} (h : IsSl v) : v.oneCell' = true := by obtain ⟨A, n, c, rfl⟩ := h; rfl
def rawK : Kd KX where
  sz := 3
  E := []
  K := fun _ x cs => cs = rawC x ∧ IsSl x.2
  M := fun _ _ _ x cs => cs = rawC x ∧ IsSl x.2
  K_len := by rintro _ _ _ ⟨rfl, _⟩; rfl
  K_one := by
    rintro _ x _ ⟨rfl, h⟩ u hu
    simp [rawC] at hu
    rcases hu with rfl | rfl | rfl
    · rfl
    · exact h.one
    · rfl
  K_below := fun _ h => h
  K_of_M := fun h => h
  M_mono := fun _ h => h
  M_bound := fun h => h
  M_move := fun _ h => h
  M_lower := fun _ h => h
/-- a put's bytes, in an elder world -/
def FarV (w0 : World) (x : KX) : Prop := ∃ A c, x.2 = .slice A x.1.f1.length c ∧ x.1.f1.length ≤ c ∧ (Kd.int .u8).C w0 A x.1.f1.length x.1.f1
theorem FarV.kv {w0 : World} {x : KX} (h : FarV w0 x) : FarV w0 (kvX x) := h
theorem FarV.one {w0 : World} {x : KX} (h : FarV w0 x) : IsSl x.2 := by obtain ⟨A, c, e, _⟩ := h; exact ⟨A, _, c, e⟩
theorem raw_of {w : World} {A : Option Addr} {l : List S66} (h : k66.C w A l.length l) : ∃ xs : List KX, xs.map (·.1) = l ∧ rawK.C w A xs.length xs ∧ ∀ x ∈ xs, FarV w x := by
  have hv : ∀ p : S66, ∀ i : Nat, ∃ v : Value, l[i]? = some p → FarV w (p, v) ∧ ∃ ad, A = some ad ∧ ∀ j u, (rawC (p, v))[j]? = some u → w.cell? (ad.add (i * 3 + j)) = some u := by
    intro p i
    by_cases hi : l[i]? = some p
    · obtain ⟨ad, e, hc⟩ := h.2.2 (by have := (List.getElem?_eq_some_iff.1 hi).1; omega)
      obtain ⟨c, h1, h2, h3⟩ := hc i p hi
      obtain ⟨A1, c1, rfl, l1, g1⟩ := PStoreRecords.k66_open h2
      exact ⟨_, fun _ => ⟨⟨A1, c1, rfl, l1, g1⟩, ad, e, h3⟩⟩
    · exact ⟨.nilIface, fun e => absurd e hi⟩
  obtain ⟨f, hf⟩ : ∃ f : S66 → Nat → Value, ∀ p i, l[i]? = some p → FarV w (p, f p i) ∧ ∃ ad, A = some ad ∧ ∀ j u, (rawC (p, f p i))[j]? = some u → w.cell? (ad.add (i * 3 + j)) = some u := ⟨fun p i => Classical.choose (hv p i), fun p i => Classical.choose_spec (hv p i)⟩
  refine ⟨(List.range l.length).map (fun i => (l.getD i z66, f (l.getD i z66) i)), ?_, ⟨rfl, ?_, fun h0 => ?_⟩, ?_⟩
  · refine List.ext_getElem? fun i => ?_
    rw [List.map_map, List.getElem?_map]
    by_cases hi : i < l.length
    · rw [List.getElem?_range hi]
      simp [hi]
    · rw [List.getElem?_eq_none (by simpa using hi), List.getElem?_eq_none (by simpa using hi)]
      rfl
  · rw [List.length_map, List.length_range]; exact h.2.1
  · rw [List.length_map, List.length_range] at h0
    obtain ⟨ad, e, hc⟩ := h.2.2 h0
    refine ⟨ad, e, fun j p hj => ?_⟩
    rw [List.getElem?_map] at hj
    obtain ⟨i, hi, rfl⟩ := Option.map_eq_some_iff.1 hj
    obtain ⟨hlt, hi⟩ := List.getElem?_eq_some_iff.1 hi
    rw [List.length_range] at hlt
    rw [List.getElem_range] at hi
    subst hi
    have hx : l[j]? = some (l.getD j z66) := by rw [List.getD_eq_getElem?_getD, List.getElem?_eq_getElem hlt]; rfl
    obtain ⟨h1, ad', e', h2⟩ := hf _ _ hx
    rw [e] at e'
    injection e' with e'
    subst e'
    exact ⟨_, rfl, ⟨rfl, h1.one⟩, h2⟩
  · intro x hx
    obtain ⟨i, hi, rfl⟩ := List.mem_map.1 hx
    have hlt := List.mem_range.1 hi
    exact (hf _ _ (by rw [List.getD_eq_getElem?_getD, List.getElem?_eq_getElem hlt]; rfl)).1
theorem raw_to {w0 w : World} {A : Option Addr} {n : Nat} {xs : List KX} (h : rawK.C w A n xs) (hf : ∀ x ∈ xs, FarV w0 x) (hb : Below w0.heap.size w0 w) : k66.C w A n (xs.map (·.1)) := by
  refine ⟨by rw [List.length_map]; exact h.1, h.2.1, fun h0 => ?_⟩
  obtain ⟨ad, e, hc⟩ := h.2.2 h0
  refine ⟨ad, e, fun j p hj => ?_⟩
  rw [List.getElem?_map] at hj
  obtain ⟨x, hx, rfl⟩ := Option.map_eq_some_iff.1 hj
  obtain ⟨c, h1, ⟨rfl, _⟩, h3⟩ := hc j x hx
  obtain ⟨A1, c1, e1, hcap, hC⟩ := hf x (List.mem_of_getElem? hx)
  exact ⟨_, h1, by unfold rawC; rw [e1]; exact PStoreRecords.k66_mk w x.1 hcap (Kd.C_below hC hb), h3⟩
theorem raw_get {w : World} {A : Option Addr} {xs : List KX} (h : rawK.C w A xs.length xs) {i : Nat} {x : KX} (hx : xs[i]? = some x) : ∃ ad, A = some ad ∧ IsSl x.2 ∧ w.cell? (ad.add (i * 3)) = some (.string x.1.f0) ∧ w.cell? ⟨(ad.add (i * 3)).block, (ad.add (i * 3)).off + 1, none⟩ = some x.2 ∧ w.cell? ⟨(ad.add (i * 3)).block, (ad.add (i * 3)).off + 2, none⟩ = some (.bool x.1.f2) := by
  have hlt := (List.getElem?_eq_some_iff.1 hx).1
  obtain ⟨ad, c, e, _, ⟨hK, hS⟩, hc0⟩ := Kd.C_get h x (i : Int) (by omega) (by omega)
  rw [Int.toNat_natCast, List.getD_eq_getElem?_getD, hx] at hK hS
  subst hK
  have hc : ∀ j u, (rawC x)[j]? = some u → w.cell? (ad.add (i * 3 + j)) = some u := by
    intro j u hj
    have := hc0 j u hj
    rwa [Int.toNat_natCast] at this
  exact ⟨ad, e, hS, hc 0 _ rfl, by rw [← add_field _ _ 1 (by omega)]; exact hc 1 _ rfl, by rw [← add_field _ _ 2 (by omega)]; exact hc 2 _ rfl⟩
end Go.Proofs.YtlepcmljmibdnaaGreat
namespace Go.Proofs.YtlepcmljmibdnaaGreat
open Go.RowKit Go.Proofs.YtlepcmljmibdnaaGreatW.PrintWords Go.Proofs.YtlepcmljmibdnaaGreatW.PrintLast Go.Proofs.YtlepcmljmibdnaaGreatW.PrintMore PWalOpens
open PStoreRecords (S66 k66 rd_T66 at_T66 z66)
set_option linter.unusedVariables false
set_option linter.unusedSimpArgs false
theorem info66r : (Tryz.prog.info? 66).map (fun i => (i.zero, i.size, i.bytes)) = some (some (.agg #[.string ⟨#[]⟩, .slice none 0 0, .bool false]), rawK.sz, 48) := by kernel_rfl
theorem bytes_list (a : ByteArray) : a.toList = a.data.toList := by rw [ByteArray.toList_eq]
theorem data_inj {a b : ByteArray} (h : a.data.toList = b.data.toList) : a = b := by
  cases a
  cases b
  simp only at h
  rw [Array.toList_inj.1 h]
def ltB (a b : ByteArray) : Bool := decide (KLt a b)
theorem gtr_str (t : TypeId) (a b : ByteArray) : binOp .gtr t (.string a) (.string b) = pure (.bool (ltB b a)) := by
  unfold ltB
  have e : binOp .gtr t (.string a) (.string b) = pure (.bool !(Op.bytesLess a.toList b.toList || a.toList == b.toList)) := by simp [binOp, Op.stringOp]
  rw [e, bytesLess_eq, bytes_list, bytes_list]
  congr 2
  rcases klt_tri a b with h | h | h
  · have h2 : ¬ KLt b a := klt_asymm h
    have h' : a.data.toList < b.data.toList := h
    simp [h', h2]
  · subst h
    have h2 : ¬ KLt a a := klt_irrefl _
    simp [h2]
  · have h2 : ¬ a.data.toList < b.data.toList := klt_asymm h
    have h3 : a.data ≠ b.data := fun e => klt_ne h (data_inj (by rw [e]))
    simp [h, h2, h3]
attribute [local go_sem] gtr_str
theorem ne_str {a b : ByteArray} (h : a ≠ b) : (a.toList == b.toList) = false := by
  rw [bytes_list, bytes_list]
  simpa using fun e => h (data_inj e)
theorem cells3 {w : World} {B t : Nat} {a b c : Value} (h : w.heap[B]? = some (.cells #[a, b, c] t (0, 0))) : (w.cell? ⟨B, 0, none⟩ = some a ∧ w.cell? ⟨B, 1, none⟩ = some b ∧ w.cell? ⟨B, 2, none⟩ = some c) ∧ w.frozen? ⟨B, 0, none⟩ = false ∧ w.frozen? ⟨B, 1, none⟩ = false ∧ w.frozen? ⟨B, 2, none⟩ = false := by
  refine ⟨⟨?_, ?_, ?_⟩, ?_, ?_, ?_⟩ <;> simp [World.cell?, World.frozen?, h]
def HapQ (w : World) (base : Nat) (X : List KX) (e : Ending) (w' : World) : Prop := ∃ A n c, e = .returned (.slice A n c) ∧ Kd.R rawK 66 w' base (fun _ => True) (.slice A n c) X ∧ Below w.heap.size w w'
set_option maxRecDepth 100000 in
set_option maxHeartbeats 8000000 in
theorem happen_ref (w : World) (base : Nat) (A0 : Option Addr) (n0 c0 : Nat) (L : List KX) (A1 : Option Addr) (c1 : Nat) (ps : List KX) (h0 : Kd.R rawK 66 w base (fun _ => True) (.slice A0 n0 c0) L) (hbase : base ≤ w.heap.size) (h1 : rawK.C w A1 ps.length ps) (hl : L.length + ps.length ≤ 100000) :
    Calls Tryz.prog 44 #[.slice A0 n0 c0, .slice A1 ps.length c1] w (HapQ w base (happR L ps)) := by
  have HBS := Aside0.mk hbase
  have HC0 := Aside0.mk h0
  have HC1 := Aside0.mk h1
  have HLL := Aside0.mk hl
  have hps : (ps.length : Int) ≤ 9223372036854775807 := by omega
  clear h0 h1 hl hbase
  go_enter Tryz.func44, Tryz.ntmps44
  go_wp2
  go_loopg [0, 13] ps.length (fun kq v0 v13 w' => ∃ (i : Nat) (A : Option Addr) (n c : Nat), v13 = .int .i64 (i : Int) ∧ v0 = .slice A n c ∧ Aside0 (i + kq = ps.length) ∧ Aside0 (n = (happR L (ps.take i)).length) ∧ Aside0 (Kd.R rawK 66 w' base (fun _ => True) (.slice A n c) (happR L (ps.take i))) ∧ Aside0 (Below w.heap.size w w'))
  case atStart => exact ⟨0, _, _, _, rfl, rfl, ⟨by omega⟩, ⟨by rw [List.take_zero]; exact (Kd.R_reads' HC0.out).1⟩, ⟨by rw [List.take_zero]; exact HC0.out⟩, ⟨Below.refl _ _⟩⟩
  case round =>
    obtain ⟨i, A, n, c, rfl, rfl, HI, HN, HC, HB⟩ := hrel
    have hk1 := HI.out
    have hn1 : (n : Int) ≤ 9223372036854775807 := by
      have h2 := happR_len L (ps.take i)
      have h3 := HN.out
      have h4 := HLL.out
      rw [List.length_take] at h2
      omega
    by_cases hi : i < ps.length
    · obtain ⟨p, hp⟩ : ∃ p, ps[i]? = some p := ⟨ps[i]'hi, List.getElem?_eq_getElem _⟩
      obtain ⟨ad, e, hs, x0, x1, x2⟩ := raw_get HC1.out hp
      have HR := Aside0.mk (show (ps.take (i + 1)).foldl hR L = hR ((ps.take i).foldl hR L) p from foldl_take hp)
      subst e
      obtain ⟨⟨k, b, gone⟩, u⟩ := p
      obtain ⟨A5, n5, c5, e5⟩ := hs
      simp only at e5
      subst e5
      simp only at x0 x1 x2
      clear hp
      replace x0 := (HB.out.cell (World.block_lt_of_cell? w _ x0)).trans x0
      replace x1 := (HB.out.cell (World.block_lt_of_cell? w _ x1)).trans x1
      replace x2 := (HB.out.cell (World.block_lt_of_cell? w _ x2)).trans x2
      go_wp2
      obtain ⟨gq0, rfl⟩ : ∃ gq0, gk = gq0 + 1 := ⟨gk - 1, by omega⟩
      obtain ⟨wo, rfl⟩ : ∃ wo, wo = wr := ⟨_, rfl⟩
      obtain ⟨W1, hW1⟩ : ∃ W1, wo.alloc (.cells #[.string k, .slice A5 n5 c5, .bool gone] 66) = W1 := ⟨_, rfl⟩
      have HBP := Aside0.mk (show W1.heap[wo.heap.size]? = some (.cells #[.string k, .slice A5 n5 c5, .bool gone] 66 (0, 0)) from by rw [← hW1]; exact heap_alloc_new wo _)
      have HB1 := Aside0.mk (show Below wo.heap.size wo W1 from by rw [← hW1]; exact (Below.refl _ _).alloc (Nat.le_refl _) _)
      have hs1 : W1.heap.size = wo.heap.size + 1 := by rw [← hW1]; exact alloc_size _ _
      have HS1 := Aside0.mk hs1
      obtain ⟨P, hP⟩ : ∃ P : KX, (⟨k, b, gone⟩, .slice A5 n5 c5) = P := ⟨_, rfl⟩
      obtain ⟨Lc, hLc⟩ : ∃ Lc, happR L (ps.take i) = Lc := ⟨_, rfl⟩
      rw [hLc] at HN HC
      rw [hP] at HR
      have HPE := Aside0.mk hP
      have HLE := Aside0.mk hLc
      rw [hW1]
      clear hW1 hs1 hP hLc x0 x1 x2
      go_loopg [7, 8, 21] n (fun kq v7 v8 v21 w' => ∃ (j : Nat) (A7 : Option Addr) (n7 c7 : Nat) (d : Bool), v21 = .int .i64 (j : Int) ∧ v7 = .slice A7 n7 c7 ∧ v8 = .bool d ∧ Aside0 (j + kq = n) ∧ Aside0 (d = ((Lc.take j).foldl (hst P) ([], gone)).2) ∧ Aside0 (Kd.R rawK 66 w' W1.heap.size (fun _ => True) (.slice A7 n7 c7) ((Lc.take j).foldl (hst P) ([], gone)).1) ∧ Aside0 (Below W1.heap.size W1 w'))
      case atStart => exact ⟨0, none, 0, 0, gone, rfl, rfl, rfl, ⟨by omega⟩, ⟨rfl⟩, ⟨Kd.R_nil _ _ _ _ _⟩, ⟨Below.refl _ _⟩⟩
      case round =>
        obtain ⟨j, A7, n7, c7, d, rfl, rfl, rfl, HJ, HD, HO, HB2⟩ := hrel
        have hk2 := HJ.out
        have HB3 := Aside0.mk (HB1.out.trans (HB2.out.mono HB1.out.size))
        have HQ := Aside0.mk ((HB2.out.block wo.heap.size (by rw [HS1.out]; omega)).trans HBP.out)
        obtain ⟨⟨y0, y1, y2⟩, fz0, fz1, fz2⟩ := cells3 HQ.out
        by_cases hj : j < n
        · obtain ⟨x, hx⟩ : ∃ x, Lc[j]? = some x := ⟨Lc[j]'(by have := HN.out; omega), List.getElem?_eq_getElem _⟩
          obtain ⟨ad2, e, hs, x0, x1, x2⟩ := raw_get (Kd.R_reads' HC.out).2.2 hx
          have HR2 := Aside0.mk (foldl_take (f := hst P) (b := ([], gone)) hx)
          subst e
          obtain ⟨⟨kx, bx, gx⟩, ux⟩ := x
          obtain ⟨A6, n6, c6, e6⟩ := hs
          simp only at e6
          subst e6
          simp only at x0 x1 x2
          replace x0 := (HB3.out.cell (World.block_lt_of_cell? _ _ x0)).trans x0
          replace x1 := (HB3.out.cell (World.block_lt_of_cell? _ _ x1)).trans x1
          replace x2 := (HB3.out.cell (World.block_lt_of_cell? _ _ x2)).trans x2
          obtain ⟨X, hX⟩ : ∃ X : KX, (⟨kx, bx, gx⟩, .slice A6 n6 c6) = X := ⟨_, rfl⟩
          rw [hX] at HR2
          have HXE := Aside0.mk hX
          have hk0 : P.1.f0 = k := by rw [← HPE.out]
          have hx0 : X.1.f0 = kx := by rw [← hX]
          have HACC := Aside0.mk (show ((Lc.take j).foldl (hst P) ([], gone)).1.length ≤ 100001 from by
            have e1 := hst_lens P (Lc.take j) ([], gone)
            have e2 : (Lc.take j).length ≤ j := by rw [List.length_take]; omega
            have e3 : hlen (([] : List KX), gone) ≤ 1 := by cases gone <;> decide
            have e4 : ((Lc.take j).foldl (hst P) ([], gone)).1.length ≤ hlen ((Lc.take j).foldl (hst P) ([], gone)) := by unfold hlen; omega
            have e5 := happR_len L (ps.take i)
            have e6 : (ps.take i).length ≤ i := by rw [List.length_take]; omega
            have e7 := HN.out
            have e8 := HLE.out
            have e9 := HLL.out
            rw [e8, ← e7] at e5
            omega)
          obtain ⟨st, hst0⟩ : ∃ st, (Lc.take j).foldl (hst P) ([], gone) = st := ⟨_, rfl⟩
          rw [hst0] at HR2 HACC HD HO
          have hb2 : Below wr.heap.size wr (wr.alloc (.cells #[.string kx, .slice A6 n6 c6, .bool gx] 66)) := (Below.refl _ _).alloc (Nat.le_refl _) _
          have HP2 := Aside0.mk (up_box HQ.out hb2)
          have HX2 := Aside0.mk (show (wr.alloc (.cells #[.string kx, .slice A6 n6 c6, .bool gx] 66)).heap[wr.heap.size]? = some (.cells #[.string kx, .slice A6 n6 c6, .bool gx] 66 (0, 0)) from heap_alloc_new wr _)
          have HO2 := Aside0.mk (Kd.R_below HO.out hb2)
          have HB2' := Aside0.mk (HB2.out.trans (hb2.mono HB2.out.size))
          have HSZ := Aside0.mk (show W1.heap.size ≤ (wr.alloc (.cells #[.string kx, .slice A6 n6 c6, .bool gx] 66)).heap.size from HB2'.out.size)
          have HNE := Aside0.mk (show some wr.heap.size ≠ (Value.slice A7 n7 c7).ownBlock from fun e => by
            obtain ⟨_, cells, hc⟩ := own_cells HO.out _ e
            simp at hc)
          have z0 : (wr.alloc (.cells #[.string kx, .slice A6 n6 c6, .bool gx] 66)).cell? ⟨wo.heap.size, 0, none⟩ = some (.string k) := (cells3 HP2.out).1.1
          have z1 : (wr.alloc (.cells #[.string kx, .slice A6 n6 c6, .bool gx] 66)).cell? ⟨wo.heap.size, 1, none⟩ = some (.slice A5 n5 c5) := (cells3 HP2.out).1.2.1
          obtain ⟨gq, rfl⟩ : ∃ gq, gk = gq + 1 := ⟨gk - 1, by omega⟩
          clear hx hX hb2 hst0
          cases d with
          | false =>
            rcases klt_tri k kx with hl | he | hg
            · have g1 := ne_str (klt_ne hl).symm
              have g2 : ltB k kx = true := decide_eq_true hl
              have HE := Aside0.mk (hst_lt (p := P) (x := X) (s := st) HD.out.symm (by rw [hk0, hx0]; exact hl))
              clear hl
              go_wp2_with (first
                | ((with_reducible refine gate_builtin (b := .append) (xs := #[.tmp 34, .tmp 40]) rfl ?_); at_builtin; refine Kd.R_append rawK (W := wr.alloc (.cells #[.string kx, .slice A6 n6 c6, .bool gx] 66)) (w0 := W1) W1.heap.size rfl (.tmp 34) (.tmp 40) 57 66 (.agg #[.string ⟨#[]⟩, .slice none 0 0, .bool false]) 48 rfl Tryz.underlying57 info66r rfl (by decide) (by decide) (.slice A7 n7 c7) st.1 (kvX P) [.string k, .slice A5 n5 c5, .bool false] (fun _ => True) (fun _ => False) rfl (by rw [alloc_size]; rfl) ⟨by rw [← HPE.out]; rfl, by rw [← HPE.out]; exact ⟨_, _, _, rfl⟩⟩ (fun _ h => h.elim) (fun _ _ => trivial) HO2.out HB2'.out HSZ.out (by have := HACC.out; omega) ?_; intro v8 w6 ho hb hg hat; obtain ⟨A8, n8, c8, rfl⟩ := R_slice3 ho; have HO6 := Aside0.mk ho; have HB6 := Aside0.mk hb; have hxb := (hg.block _ (by rw [alloc_size]; omega) HNE.out).trans HX2.out; obtain ⟨⟨r0, r1, r2⟩, _, _, _⟩ := cells3 hxb; have hpb := (hb.block wo.heap.size (by rw [HS1.out]; omega)).trans HBP.out; obtain ⟨⟨t0, t1, t2⟩, _, _, _⟩ := cells3 hpb; clear ho hb hg hat hxb hpb)
                | ((with_reducible refine gate_builtin (b := .append) (xs := #[.tmp 47, .tmp 49]) rfl ?_); at_builtin; refine Kd.R_append rawK (W := w6) (w0 := W1) W1.heap.size rfl (.tmp 47) (.tmp 49) 57 66 (.agg #[.string ⟨#[]⟩, .slice none 0 0, .bool false]) 48 rfl Tryz.underlying57 info66r rfl (by decide) (by decide) (.slice A8 n8 c8) (st.1 ++ [kvX P]) X [.string kx, .slice A6 n6 c6, .bool gx] (fun _ => True) (fun _ => False) rfl rfl ⟨by rw [← HXE.out]; rfl, by rw [← HXE.out]; exact ⟨_, _, _, rfl⟩⟩ (fun _ h => h.elim) (fun _ _ => trivial) HO6.out HB6.out HB6.out.size (by have := HACC.out; rw [List.length_append, List.length_singleton]; omega) ?_; intro v9 w7 ho hb hg hat; obtain ⟨A9, n9, c9, rfl⟩ := R_slice3 ho; have HO7 := Aside0.mk ho; have HB7 := Aside0.mk hb; clear ho hb hg hat))
              go_roundg gq
              case rel => exact ⟨j + 1, _, _, _, true, by go_num, rfl, rfl, ⟨by omega⟩, ⟨by rw [HR2.out, HE.out]⟩, ⟨by rw [HR2.out, HE.out]; exact HO7.out⟩, HB7⟩
              case measure => omega
            · have g1 : (kx.toList == k.toList) = true := by rw [he]; simp
              have g2 : ltB k kx = false := decide_eq_false (by rw [he]; exact klt_irrefl _)
              have HE := Aside0.mk (hst_eq (p := P) (x := X) (s := st) (by rw [hk0, hx0]; exact he.symm))
              clear he
              go_wp2
              go_roundg gq
              case rel => exact ⟨j + 1, _, _, _, false, by go_num, rfl, rfl, ⟨by omega⟩, ⟨by rw [HR2.out, HE.out]; exact HD.out⟩, ⟨by rw [HR2.out, HE.out]; exact HO2.out⟩, HB2'⟩
              case measure => omega
            · have g1 := ne_str (klt_ne hg)
              have g2 : ltB k kx = false := decide_eq_false (klt_asymm hg)
              have HE := Aside0.mk (hst_gt (p := P) (x := X) (s := st) (by rw [hk0, hx0]; exact hg))
              clear hg
              go_wp2_with (first
                | ((with_reducible refine gate_builtin (b := .append) (xs := #[.tmp 47, .tmp 49]) rfl ?_); at_builtin; refine Kd.R_append rawK (W := wr.alloc (.cells #[.string kx, .slice A6 n6 c6, .bool gx] 66)) (w0 := W1) W1.heap.size rfl (.tmp 47) (.tmp 49) 57 66 (.agg #[.string ⟨#[]⟩, .slice none 0 0, .bool false]) 48 rfl Tryz.underlying57 info66r rfl (by decide) (by decide) (.slice A7 n7 c7) st.1 X [.string kx, .slice A6 n6 c6, .bool gx] (fun _ => True) (fun _ => False) rfl (by rw [alloc_size]; rfl) ⟨by rw [← HXE.out]; rfl, by rw [← HXE.out]; exact ⟨_, _, _, rfl⟩⟩ (fun _ h => h.elim) (fun _ _ => trivial) HO2.out HB2'.out HSZ.out (by have := HACC.out; omega) ?_; intro v9 w7 ho hb hg hat; obtain ⟨A9, n9, c9, rfl⟩ := R_slice3 ho; have HO7 := Aside0.mk ho; have HB7 := Aside0.mk hb; clear ho hb hg hat))
              go_roundg gq
              case rel => exact ⟨j + 1, _, _, _, false, by go_num, rfl, rfl, ⟨by omega⟩, ⟨by rw [HR2.out, HE.out]; exact HD.out⟩, ⟨by rw [HR2.out, HE.out]; exact HO7.out⟩, HB7⟩
              case measure => omega
          | true =>
            by_cases he : kx = k
            · have g1 : (kx.toList == k.toList) = true := by rw [he]; simp
              have HE := Aside0.mk (hst_eq (p := P) (x := X) (s := st) (by rw [hk0, hx0]; exact he))
              clear he
              go_wp2
              go_roundg gq
              case rel => exact ⟨j + 1, _, _, _, true, by go_num, rfl, rfl, ⟨by omega⟩, ⟨by rw [HR2.out, HE.out]; exact HD.out⟩, ⟨by rw [HR2.out, HE.out]; exact HO2.out⟩, HB2'⟩
              case measure => omega
            · have g1 := ne_str he
              have HE := Aside0.mk (hst_tr (p := P) (x := X) (s := st) HD.out.symm (by rw [hk0, hx0]; exact he))
              clear he
              go_wp2_with (first
                | ((with_reducible refine gate_builtin (b := .append) (xs := #[.tmp 47, .tmp 49]) rfl ?_); at_builtin; refine Kd.R_append rawK (W := wr.alloc (.cells #[.string kx, .slice A6 n6 c6, .bool gx] 66)) (w0 := W1) W1.heap.size rfl (.tmp 47) (.tmp 49) 57 66 (.agg #[.string ⟨#[]⟩, .slice none 0 0, .bool false]) 48 rfl Tryz.underlying57 info66r rfl (by decide) (by decide) (.slice A7 n7 c7) st.1 X [.string kx, .slice A6 n6 c6, .bool gx] (fun _ => True) (fun _ => False) rfl (by rw [alloc_size]; rfl) ⟨by rw [← HXE.out]; rfl, by rw [← HXE.out]; exact ⟨_, _, _, rfl⟩⟩ (fun _ h => h.elim) (fun _ _ => trivial) HO2.out HB2'.out HSZ.out (by have := HACC.out; omega) ?_; intro v9 w7 ho hb hg hat; obtain ⟨A9, n9, c9, rfl⟩ := R_slice3 ho; have HO7 := Aside0.mk ho; have HB7 := Aside0.mk hb; clear ho hb hg hat))
              go_roundg gq
              case rel => exact ⟨j + 1, _, _, _, true, by go_num, rfl, rfl, ⟨by omega⟩, ⟨by rw [HR2.out, HE.out]⟩, ⟨by rw [HR2.out, HE.out]; exact HO7.out⟩, HB7⟩
              case measure => omega
        · have hj0 := HJ.out
          obtain rfl : gk = 0 := by omega
          obtain rfl : j = n := by omega
          have hk0 : P.1.f0 = k := by rw [← HPE.out]
          have hg0 : P.1.f2 = gone := by rw [← HPE.out]
          have htk : Lc.take j = Lc := by rw [HN.out, List.take_length]
          rw [htk] at HD HO
          have HACC := Aside0.mk (show (Lc.foldl (hst P) ([], gone)).1.length ≤ 100001 from by
            have e1 := hst_lens P Lc ([], gone)
            have e3 : hlen (([] : List KX), gone) ≤ 1 := by cases gone <;> decide
            have e4 : (Lc.foldl (hst P) ([], gone)).1.length ≤ hlen (Lc.foldl (hst P) ([], gone)) := by unfold hlen; omega
            have e5 := happR_len L (ps.take i)
            have e6 : (ps.take i).length ≤ i := by rw [List.length_take]; omega
            have e7 := HN.out
            have e8 := HLE.out
            have e9 := HLL.out
            rw [e8, ← e7] at e5
            omega)
          have HRE := Aside0.mk (show happR L (ps.take (i + 1)) = hfi P (Lc.foldl (hst P) ([], gone)) from by
            have e := HR.out
            rw [show (ps.take i).foldl hR L = Lc from HLE.out] at e
            unfold happR
            rw [e]
            unfold hR
            rw [hg0])
          obtain ⟨st, hst0⟩ : ∃ st, Lc.foldl (hst P) ([], gone) = st := ⟨_, rfl⟩
          rw [hst0] at HRE HACC HD HO
          have hm : ¬ ((j : Int) < (j : Int)) := by omega
          have HBW := Aside0.mk (HB.out.trans (HB3.out.mono HB.out.size))
          clear hj0 hst0 htk hg0
          cases d with
          | false =>
            go_wp2_with (first
              | ((with_reducible refine gate_builtin (b := .append) (xs := #[.tmp 54, .tmp 60]) rfl ?_); at_builtin; refine Kd.R_append rawK (W := wr) (w0 := W1) W1.heap.size rfl (.tmp 54) (.tmp 60) 57 66 (.agg #[.string ⟨#[]⟩, .slice none 0 0, .bool false]) 48 rfl Tryz.underlying57 info66r rfl (by decide) (by decide) (.slice A7 n7 c7) st.1 (kvX P) [.string k, .slice A5 n5 c5, .bool false] (fun _ => True) (fun _ => False) rfl rfl ⟨by rw [← HPE.out]; rfl, by rw [← HPE.out]; exact ⟨_, _, _, rfl⟩⟩ (fun _ h => h.elim) (fun _ _ => trivial) HO.out HB2.out HB2.out.size (by have := HACC.out; omega) ?_; intro v8 w6 ho hb hg hat; obtain ⟨A8, n8, c8, rfl⟩ := R_slice3 ho; have HO6 := Aside0.mk ho; have HB6 := Aside0.mk hb; clear ho hb hg hat))
            have HR1 := Aside0.mk (Kd.R_reads' HO6.out).1
            have HR3 := Aside0.mk (Kd.R_lower HO6.out (Nat.le_trans HBS.out (Nat.le_trans HB.out.size HB1.out.size)))
            go_roundg gq0
            case rel => exact ⟨i + 1, _, _, _, by go_num, rfl, ⟨by omega⟩, ⟨by rw [HRE.out]; unfold hfi; rw [← HD.out, HR1.out]; rfl⟩, ⟨by rw [HRE.out]; unfold hfi; rw [← HD.out]; exact HR3.out⟩, ⟨HB.out.trans ((HB1.out.trans (HB6.out.mono HB1.out.size)).mono HB.out.size)⟩⟩
            case measure => omega
          | true =>
            have HR1 := Aside0.mk (Kd.R_reads' HO.out).1
            have HR3 := Aside0.mk (Kd.R_lower HO.out (Nat.le_trans HBS.out (Nat.le_trans HB.out.size HB1.out.size)))
            go_wp2
            go_roundg gq0
            case rel => exact ⟨i + 1, _, _, _, by go_num, rfl, ⟨by omega⟩, ⟨by rw [HRE.out]; unfold hfi; rw [← HD.out, HR1.out]; rfl⟩, ⟨by rw [HRE.out]; unfold hfi; rw [← HD.out]; exact HR3.out⟩, HBW⟩
            case measure => omega
    · have hi0 := HI.out
      obtain rfl : gk = 0 := by omega
      obtain rfl : i = ps.length := by omega
      have hm : ¬ ((ps.length : Int) < (ps.length : Int)) := by omega
      clear hi0
      have hh2 := HC.out
      rw [List.take_length] at hh2
      have HC2 := Aside0.mk hh2
      clear hh2
      go_wp2
      go_ret
      exact ⟨_, _, _, rfl, HC2.out, HB.out⟩
end Go.Proofs.YtlepcmljmibdnaaGreat
namespace Go.Proofs.YtlepcmljmibdnaaGreat
open Go.RowKit Go.Proofs.YtlepcmljmibdnaaGreatW.PrintWords Go.Proofs.YtlepcmljmibdnaaGreatW.PrintLast Go.Proofs.YtlepcmljmibdnaaGreatW.PrintMore PWalOpens
open PStoreRecords (S66 k66 rd_T66 at_T66 z66)
set_option linter.unusedVariables false
set_option linter.unusedSimpArgs false
theorem below_drawn {w w' : World} (h : Drawn0 w w') : Below w.heap.size w w' := by
  obtain ⟨nd, rfl⟩ := h
  exact bel_drewN (Below.refl _ _) nd
set_option maxRecDepth 100000 in
set_option maxHeartbeats 4000000 in
theorem sameputs_ne (w : World) (A B : Option Addr) (c d : Nat) (l m : List S66) (ha : k66.C w A l.length l) (hb : k66.C w B m.length m) (hbl : ∀ p ∈ l, isBytes p.f1) (hbm : ∀ p ∈ m, isBytes p.f1) (hne : l ≠ m) :
    Calls Tryz.prog 36 #[.slice A l.length c, .slice B m.length d] w fun e w' => e = .returned (.bool false) ∧ Below w.heap.size w w' := by
  have HA := Aside0.mk ha
  have HB := Aside0.mk hb
  have HNE := Aside0.mk hne
  have HBL := Aside0.mk hbl
  have HBM := Aside0.mk hbm
  have hl1 : (l.length : Int) ≤ 9223372036854775807 := by have := ha.2.1; omega
  have hl2 : (m.length : Int) ≤ 9223372036854775807 := by have := hb.2.1; omega
  clear ha hb hne hbl hbm
  by_cases hlen : l.length = m.length
  · have c1 : ((l.length : Int) != (m.length : Int)) = false := by rw [hlen]; simp
    have c2 : ((l.length : Int) == (m.length : Int)) = true := by rw [hlen]; simp
    have HLE := Aside0.mk hlen
    go_enter Tryz.func36, Tryz.ntmps36
    go_wp2
    go_loopg [13] l.length (fun kq v13 w' => ∃ i : Nat, v13 = .int .i64 (i : Int) ∧ Aside0 (i + kq = l.length) ∧ Aside0 (∀ j, j < i → l[j]? = m[j]?) ∧ Drawn0 w w')
    case atStart => exact ⟨0, rfl, ⟨by omega⟩, ⟨fun j hj => by omega⟩, Drawn0.refl _⟩
    case round =>
      obtain ⟨i, rfl, HI, HEQ, ⟨m1, rfl⟩⟩ := hrel
      clear c1 c2
      by_cases hi : i < l.length
      · obtain ⟨ad, A1, d1, e, x0, x1, x2, hl1', hc1⟩ := at_T66 HA.out (i : Int) (by omega) (by omega)
        subst e
        obtain ⟨bd, B1, e1, e, y0, y1, y2, hl2', hc2⟩ := at_T66 HB.out (i : Int) (by omega) (by omega)
        subst e
        have hxe : l[i]? = some (rd_T66 l (i : Int)) := by unfold rd_T66; rw [Int.toNat_natCast, List.getD_eq_getElem?_getD, List.getElem?_eq_getElem hi]; rfl
        have hye : m[i]? = some (rd_T66 m (i : Int)) := by unfold rd_T66; rw [Int.toNat_natCast, List.getD_eq_getElem?_getD, List.getElem?_eq_getElem (by omega)]; rfl
        generalize rd_T66 l (i : Int) = x at x0 x1 x2 hl1' hc1 hxe
        generalize rd_T66 m (i : Int) = y at y0 y1 y2 hl2' hc2 hye
        rw [Int.toNat_natCast] at x0 x1 x2 y0 y1 y2
        obtain ⟨s, b, g⟩ := x
        obtain ⟨s', b', g'⟩ := y
        simp only at x0 x1 x2 hl1' hc1 y0 y1 y2 hl2' hc2
        have hcvx : ∀ k, (convert 58 9 (.slice A1 b.length d1)).run Tryz.prog (w.drewN k) = .ok (.string (strOfNums b)) (w.drewN k) := fun k => Kd.C_string Tryz.underlying58 Tryz.underlying5 Tryz.underlying9 (Kd.C_below hc1 (bel_drewN (Below.refl _ _) k))
        have hcvy : ∀ k, (convert 58 9 (.slice B1 b'.length e1)).run Tryz.prog (w.drewN k) = .ok (.string (strOfNums b')) (w.drewN k) := fun k => Kd.C_string Tryz.underlying58 Tryz.underlying5 Tryz.underlying9 (Kd.C_below hc2 (bel_drewN (Below.refl _ _) k))
        have HBB := Aside0.mk (show isBytes b ∧ isBytes b' from ⟨HBL.out _ (List.mem_of_getElem? hxe), HBM.out _ (List.mem_of_getElem? hye)⟩)
        have HXE := Aside0.mk hxe
        have HYE := Aside0.mk hye
        clear hl1' hc1 hl2' hc2 hxe hye
        have hi1 : (i : Int) < (l.length : Int) := by omega
        have hi2 : (i : Int) < (m.length : Int) := by omega
        have hi0 : (0 : Int) ≤ (i : Int) := by omega
        obtain ⟨k1, h1⟩ : ∃ k1, (s.toList == s'.toList) = k1 := ⟨_, rfl⟩
        obtain ⟨k2, h2⟩ : ∃ k2, ((strOfNums b).toList == (strOfNums b').toList) = k2 := ⟨_, rfl⟩
        obtain ⟨k3, h3⟩ : ∃ k3, (g == g') = k3 := ⟨_, rfl⟩
        have h1' : (s.toList != s'.toList) = !k1 := by rw [← h1]; rfl
        have h2' : ((strOfNums b).toList != (strOfNums b').toList) = !k2 := by rw [← h2]; rfl
        have h3' : (g != g') = !k3 := by rw [← h3]; rfl
        cases k1 with
        | false =>
          go_wp2
          go_quiet (fail)
          go_wp2
          go_ret
          exact ⟨rfl, below_drawn (by repeat (first | exact Drawn0.refl _ | apply Drawn0.step))⟩
        | true =>
          cases k2 with
          | false =>
            go_wp2
            go_quiet (fail)
            go_wp2
            go_ret
            exact ⟨rfl, below_drawn (by repeat (first | exact Drawn0.refl _ | apply Drawn0.step))⟩
          | true =>
            cases k3 with
            | false =>
              go_wp2
              go_quiet (fail)
              go_wp2
              go_ret
              exact ⟨rfl, below_drawn (by repeat (first | exact Drawn0.refl _ | apply Drawn0.step))⟩
            | true =>
              have HNX := Aside0.mk (show ∀ j, j < i + 1 → l[j]? = m[j]? from by
                intro j hj
                by_cases hji : j < i
                · exact HEQ.out j hji
                · obtain rfl : j = i := by omega
                  rw [HXE.out, HYE.out]
                  have e1 : s = s' := data_inj (by have := eq_of_beq h1; rwa [bytes_list, bytes_list] at this)
                  have e2 : b = b' := bytes_inj _ _ HBB.out.1 HBB.out.2 (by have := eq_of_beq h2; rwa [str_list, str_list] at this)
                  have e3 : g = g' := eq_of_beq h3
                  rw [e1, e2, e3])
              go_wp2
              go_quiet (fail)
              go_wp2
              have hk1 := HI.out
              obtain ⟨gq, rfl⟩ : ∃ gq, gk = gq + 1 := ⟨gk - 1, by omega⟩
              go_roundg gq
              case rel => exact ⟨i + 1, by go_num, ⟨by omega⟩, HNX, by repeat (first | exact Drawn0.refl _ | apply Drawn0.step)⟩
              case measure => omega
      · have hi0 := HI.out
        obtain rfl : gk = 0 := by omega
        obtain rfl : i = l.length := by omega
        refine absurd (List.ext_getElem? fun j => ?_) HNE.out
        by_cases hj : j < l.length
        · exact HEQ.out j hj
        · rw [List.getElem?_eq_none (by omega), List.getElem?_eq_none (by omega)]
  · have c1 : ((l.length : Int) != (m.length : Int)) = true := by simp; omega
    have c2 : ((l.length : Int) == (m.length : Int)) = false := by simp; omega
    go_enter Tryz.func36, Tryz.ntmps36
    go_wp2
    go_ret
    exact ⟨rfl, Below.refl _ _⟩
open Classical in
theorem sameputs_d (w : World) (A B : Option Addr) (n k c d : Nat) (l m : List S66) (ha : k66.C w A n l) (hb : k66.C w B k m) (hbl : ∀ p ∈ l, isBytes p.f1) (hbm : ∀ p ∈ m, isBytes p.f1) (b : Bool) (h : b = decide (l = m)) :
    Calls Tryz.prog 36 #[.slice A n c, .slice B k d] w fun e w' => e = .returned (.bool b) ∧ Below w.heap.size w w' := by
  obtain rfl : l.length = n := ha.1
  obtain rfl : m.length = k := hb.1
  by_cases he : l = m
  · rw [decide_eq_true he] at h
    subst he h
    refine (sameputs_same w A B c d l ha hb).mono ?_
    rintro e w' ⟨rfl, hd⟩
    exact ⟨rfl, below_drawn hd⟩
  · rw [decide_eq_false he] at h
    subst h
    exact sameputs_ne w A B c d l m ha hb hbl hbm he
/-- any commit of few puts, armed -/
theorem armed_put {w0 : World} {i : Nat} {D : PD} {S : Int → List Int} {g tail : Int} {rs : List (Bool × List S66)} {l : List S66} (h : GI i D S g tail rs) (hl : l.length ≤ 8) (hf : ∀ p ∈ l, FewP p) (hi : i ≤ 11) (arm : Int) (ks : List Bool) :
    ∃ D2 code, Crashed D2 code ks (replay rs) (hapL (replay rs) l) ∧ ∀ (w : World) (Sb Wb B M Bd Mv : Nat) (vc vs : Value) (A : Option Addr) (c : Nat), SV w0.heap.size w Sb Wb B M Bd Mv vc vs (armP D arm) g 0 tail (startsP 0 (rs.map recOf)) false (replay rs) → l.length ≤ c → (∀ W, TC w0.heap.size (isWD M Bd) w W → k66.C W A l.length l) →
      Calls Tryz.prog 39 #[.pointer (some ⟨Sb, 0, none⟩), .slice A l.length c] w (DkQ w0.heap.size w (isSD M Bd Mv) B M Bd D2 code) := by
  by_cases hne : l.length = 0
  · obtain rfl : l = [] := List.eq_nil_of_length_eq_zero hne
    refine ⟨_, _, armed_none h arm ks, fun w Sb Wb B M Bd Mv vc vs A c hsv hc hT => ?_⟩
    refine (commit_empty hsv).mono ?_
    rintro e w' ⟨rfl, rfl⟩
    exact ⟨rfl, TC.refl _ _ _, vc, hsv.wv.dk⟩
  · exact armed_commit h hl hf hne hi arm ks
end Go.Proofs.YtlepcmljmibdnaaGreat
namespace Go.Proofs.YtlepcmljmibdnaaGreat
open Go.RowKit Go.Proofs.YtlepcmljmibdnaaGreatW.PrintWords Go.Proofs.YtlepcmljmibdnaaGreatW.PrintLast Go.Proofs.YtlepcmljmibdnaaGreatW.PrintMore PWalOpens
open PStoreRecords (S66 k66 rd_T66 at_T66 z66)
set_option linter.unusedVariables false
set_option linter.unusedSimpArgs false
attribute [local go_sem] Oper.semAt_some
theorem awake8 (w : World) : Calls Tryz.prog 30 #[] w fun e w' => e = .returned (.bool true) ∧ Below w.heap.size w w' := awake8_calls w
/-- between two rounds over the keys -/
structure KI (w1 : World) (i nb xb vb : Nat) (Sb Wb B M Bd Mv : Nat) (vc vs : Value) (D : PD) (S : Int → List Int) (g tail : Int) (rs : List (Bool × List S66)) (v9 : Value) (val : List Int) (n : Int) (W : World) : Prop where
  gv : GV w1 i W Sb Wb B M Bd Mv vc vs D S g tail rs
  nb_ : Boxed W nb 3 (.int .i64 n)
  xb_ : Boxed W xb 71 (.pointer (some ⟨Sb, 0, none⟩))
  r9 : Kd.R (Kd.int .u8) 5 W vb (fun _ => True) v9 val
section
variable {w1 W W' : World} {i nb xb vb : Nat} {Sb Wb B M Bd Mv : Nat} {vc vs : Value} {D : PD} {S : Int → List Int} {g tail : Int} {rs : List (Bool × List S66)} {v9 : Value} {val : List Int} {n : Int}
end
end Go.Proofs.YtlepcmljmibdnaaGreat
