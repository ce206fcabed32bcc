/- Parts of one proof, joined: Zg, Zh, Zi, Zj, Fi, Ck, Wf. Conditions: those of each statement. -/
import Derived.Test.YtlepcmljmibdnaaGreatZh3
import Derived.Test.YtlepcmljmibdnaaGreatZh5
import Derived.RangeFuncNested
import Derived.RangeFuncBound
import Derived.RangeFuncCalls
import Derived.RangeFuncLeaves
import Derived.RangeFuncWrites
import Derived.OrdersIn
import Derived.Shelf.Abstract
import Derived.Shelf.RegionOpen
import Derived.WalkKit
import Derived.OwnWalkIn
import Derived.TacticsInMore
import Derived.LoopNIn
import Derived.LoopIn
namespace Go.Proofs.YtlepcmljmibdnaaGreat
open Go.RowKit Go.Proofs.YtlepcmljmibdnaaGreatW.PrintWords Go.Proofs.YtlepcmljmibdnaaGreatW.PrintLast Go.Proofs.YtlepcmljmibdnaaGreatW.PrintMore PWalOpens
open PStoreRecords (S66 k66 rd_T66 at_T66 z66 k66_mkM)
set_option linter.unusedVariables false
set_option linter.unusedSimpArgs false
theorem rdB_facts {xs out r : List Int} {bad b' : Bool} {mx : Int} (h : isBytes xs) (e : rdB xs bad mx = (out, r, b')) : isBytes out ∧ isBytes r ∧ (b' = true → r = []) ∧ r.length ≤ xs.length ∧ out.length ≤ xs.length := by
  obtain ⟨n, q, c, hn⟩ : ∃ n q c, rdN xs bad mx = (n, q, c) := ⟨_, _, _, rfl⟩
  obtain ⟨h1, h2, h3⟩ := rdN_bytes h hn
  have h4 := rdN_le xs bad mx
  unfold rdB at e
  rw [hn] at e h4
  simp only at e h4
  split at e
  · cases e
    exact ⟨(fun x hx => by cases hx), (fun x hx => by cases hx), fun _ => rfl, Nat.zero_le _, Nat.zero_le _⟩
  · cases e
    refine ⟨h1.take _, h1.drop _, (fun h => by cases h), ?_, ?_⟩
    · rw [List.length_drop]; omega
    · rw [List.length_take]; omega
def rdPut (xs : List Int) (bad : Bool) : S66 × List Int × Bool :=
  (⟨strOfNums (rdB xs bad 60000).1, (rdB (rdN (rdB xs bad 60000).2.1 (rdB xs bad 60000).2.2 1).2.1 (rdN (rdB xs bad 60000).2.1 (rdB xs bad 60000).2.2 1).2.2 60000).1, (rdN (rdB xs bad 60000).2.1 (rdB xs bad 60000).2.2 1).1 == 1⟩,
    (rdB (rdN (rdB xs bad 60000).2.1 (rdB xs bad 60000).2.2 1).2.1 (rdN (rdB xs bad 60000).2.1 (rdB xs bad 60000).2.2 1).2.2 60000).2)
def ofGo : Nat → List Int → Bool → List S66 → Option (List S66 × List Int × Bool)
  | 0, xs, bad, acc => some (acc, xs, bad)
  | k + 1, xs, bad, acc => if (rdPut xs bad).1.f2 = true ∧ 0 < (rdPut xs bad).1.f1.length then none else ofGo k (rdPut xs bad).2.1 (rdPut xs bad).2.2 (acc ++ [(rdPut xs bad).1])
def ofHd (b : List Int) : Int × List Int × Bool := rdN b false 1
def ofCt (b : List Int) : Int × List Int × Bool := rdN (ofHd b).2.1 (ofHd b).2.2 4096
def ofR (b : List Int) : Option (List S66 × List Int × Bool) → Bool × List S66 × Int
  | none => (false, [], 80)
  | some (l, r, bad) => if bad = true ∨ 0 < r.length then (false, [], 80) else ((ofHd b).1 == 1, l, 0)
def sofP (b : List Int) : Bool × List S66 × Int := ofR b (ofGo (ofCt b).1.toNat (ofCt b).2.1 (ofCt b).2.2 [])
def SofQ (w : World) (b : List Int) (e : Ending) (w' : World) : Prop :=
  ∃ A c, e = .returned (.tuple #[.bool (sofP b).1, .slice A (sofP b).2.1.length c, .int .i64 (sofP b).2.2]) ∧ Kd.R k66 66 w' w.heap.size (fun _ => True) (.slice A (sofP b).2.1.length c) (sofP b).2.1 ∧ Below w.heap.size w w'
theorem gx_tc {w0 w w' : World} {base B : Nat} {xs : List Int} {bad : Bool} (h : GX w base B xs bad) (hb : w0.heap.size ≤ base) (hc : Chg w w' (fun k => k = B)) : TC w0.heap.size (isT 179) w w' := by
  have hlt := h.lt
  have hB := h.hB
  obtain ⟨A, c, hk, _⟩ := h
  exact TC.of_chg hc (by omega) fun k hk1 _ => by
    subst hk1
    exact ⟨by omega, _, hk.blk, by simp [isT]⟩
theorem info66 : (Tryz.prog.info? 66).map (fun i => (i.zero, i.size, i.bytes)) = some (some (.agg #[.string ⟨#[]⟩, .slice none 0 0, .bool false]), k66.sz, 48) := by kernel_rfl
theorem sofP_early {b : List Int} (h : ofGo (ofCt b).1.toNat (ofCt b).2.1 (ofCt b).2.2 [] = none) : sofP b = (false, [], 80) := by
  unfold sofP
  rw [h]
  rfl
theorem sofP_late {b : List Int} {l : List S66} {r : List Int} {bad : Bool} (h : ofGo (ofCt b).1.toNat (ofCt b).2.1 (ofCt b).2.2 [] = some (l, r, bad)) : sofP b = if bad = true ∨ 0 < r.length then (false, [], 80) else ((ofHd b).1 == 1, l, 0) := by
  unfold sofP
  rw [h]
  rfl
/-- a round's box, with its three cells -/
theorem box_c {w : World} {g : Nat} {a0 a1 a2 : Value} (h : w.heap[g]? = some (.cells #[a0, a1, a2] 66 (0, 0))) : w.cell? ⟨g, 0, none⟩ = some a0 ∧ w.cell? ⟨g, 1, none⟩ = some a1 ∧ w.cell? ⟨g, 2, none⟩ = some a2 ∧ w.frozen? ⟨g, 1, none⟩ = false ∧ w.frozen? ⟨g, 2, none⟩ = false := by
  refine ⟨?_, ?_, ?_, ?_, ?_⟩ <;> simp [World.cell?, World.frozen?, h]
theorem chg_set {w : World} {g i : Nat} {u : Value} : Chg w (w.setCell ⟨g, i, none⟩ u) (fun k => k = g) := ((Only.refl w g).set (i := i) u).chg fun _ h => h
theorem sof_err (w : World) (b : List Int) (w' : World) (hP : sofP b = (false, [], 80)) (hb : Below w.heap.size w w') : SofQ w b (.returned (.tuple #[.bool false, .slice none 0 0, .int .i64 80])) w' := by
  unfold SofQ
  rw [hP]
  exact ⟨none, 0, rfl, Kd.R_nil _ _ _ _ _, hb⟩
theorem of_move {w wr wF : World} {B : Nat} {xs : List Int} {bad : Bool} {v : Value} {acc : List S66} (hG : GX wr w.heap.size B xs bad) (hR : Kd.R k66 66 wr w.heap.size (fun k => B < k) v acc) (hB : Below w.heap.size w wr) (hc : Chg wr wF (fun k => k = B ∨ wr.heap.size ≤ k)) : Kd.R k66 66 wF w.heap.size (fun k => B < k) v acc ∧ Below w.heap.size w wF := by
  refine ⟨Kd.R_mono (Kd.R_move (Kd.R_bound hR) fun k hk => ?_) (fun _ hk => hk.1), hB.trans (hc.below hB.size fun k hk => ?_)⟩
  · obtain ⟨hlt, _, _, q, hq, cells, hce⟩ := hk
    exact hc.block k (Array.getElem?_eq_some_iff.1 hce).1 (fun h => h.elim (fun e => by omega) (fun e => absurd (Array.getElem?_eq_some_iff.1 hce).1 (by omega)))
  · rcases hk with rfl | hk
    · exact hG.hB
    · exact Nat.le_trans hB.size hk
theorem set_size {w : World} {g i : Nat} {u : Value} : (w.setCell ⟨g, i, none⟩ u).heap.size = w.heap.size := by
  simp [World.setCell]
theorem of_val {w9 : World} {g B m base : Nat} {a0 a1 a2 v u : Value} {xs : List Int} (hb : w9.heap[g]? = some (.cells #[a0, a1, a2] 66 (0, 0))) (hr : Kd.R (Kd.int .u8) 5 w9 m (fun k => m ≤ k) v xs) (hm : B ≤ m) (hbase : base ≤ B) : Kd.R (Kd.int .u8) 5 (w9.setCell ⟨g, 1, none⟩ u) base (fun k => B ≤ k) v xs :=
  Kd.R_mono (Kd.R_lower (Kd.R_set hr hb (fun q hq => by simp at hq; rcases hq with h | h; (simp [h]); cases h) 1 u) (Nat.le_trans hbase hm)) (fun k hk => Nat.le_trans hm hk)
set_option maxRecDepth 100000 in
set_option maxHeartbeats 4000000 in
theorem sof_calls (w : World) (A : Option Addr) (c : Nat) (b : List Int) (hl : b.length ≤ 900000) (hby : isBytes b) (hn : A = none → b.length = 0 ∧ c = 0) (hC : (Kd.int .u8).C w A b.length b) :
    Calls Tryz.prog 32 #[.slice A b.length c] w (SofQ w b) := by
  have HRD := Aside0.mk (gread_calls w A c b (by omega) hn hC)
  obtain ⟨n1, x1, bad1, hd⟩ : ∃ n1 x1 bad1, ofHd b = (n1, x1, bad1) := ⟨_, _, _, rfl⟩
  obtain ⟨n2, x2, bad2, hct⟩ : ∃ n2 x2 bad2, ofCt b = (n2, x2, bad2) := ⟨_, _, _, rfl⟩
  have hd' : rdN b false 1 = (n1, x1, bad1) := hd
  have hct' : rdN x1 bad1 4096 = (n2, x2, bad2) := by have h := hct; unfold ofCt at h; rw [hd] at h; exact h
  obtain ⟨p1, p2, p3⟩ := rdN_bytes hby hd'
  obtain ⟨p4, p5, p6⟩ := rdN_bytes p1 hct'
  have l1 := rdN_le b false 1
  rw [hd'] at l1
  have l2 := rdN_le x1 bad1 4096
  rw [hct'] at l2
  simp only at l1 l2
  have hr2 := rdN_range (bad := bad1) p1 (by decide : (0 : Int) ≤ 4096) (by decide)
  rw [hct'] at hr2
  simp only at hr2
  have HD := Aside0.mk hd
  have HD1 := Aside0.mk hd'
  have HCT1 := Aside0.mk hct'
  have HBY := Aside0.mk hby
  have HBY1 := Aside0.mk p1
  obtain ⟨m, rfl⟩ := Int.eq_ofNat_of_zero_le p6
  have HG0 := Aside0.mk (show ofGo m x2 bad2 [] = ofGo (ofCt b).1.toNat (ofCt b).2.1 (ofCt b).2.2 [] by rw [hct]; rfl)
  have HBY2 := Aside0.mk p4
  have HNB2 := Aside0.mk p5
  have HL2 := Aside0.mk (show x2.length ≤ 900000 by omega)
  have hm4 : (m : Int) ≤ 4096 := hr2.2
  clear hd hct hd' hct' p1 p2 p3 p4 p5 l1 l2 hr2 hn hC hby
  go_enter Tryz.func32, Tryz.ntmps32
  go_wp2_with (first
    | (go_at_call 66; (with_reducible refine HRD.out.mono ?_); rintro e w1 ⟨B, rfl, hg, hb⟩; have HG1 := Aside0.mk hg; have HB1 := Aside0.mk hb; clear hg hb)
    | (go_at_call 67; (with_reducible refine (gFlag_any HBY.out HD1.out HG1.out).mono ?_); rintro e w2 ⟨rfl, hg, hc⟩; have HG2 := Aside0.mk hg; have HB2 := Aside0.mk (HB1.out.trans (gx_tc HG1.out (Nat.le_refl _) hc).low); clear hg hc)
    | (go_at_call 68; (with_reducible refine (gN_any _ _ _ 4096 _ _ _ _ _ (by decide) HBY1.out HCT1.out HG2.out).mono ?_); rintro e w3 ⟨rfl, hg, hc⟩; have HG3 := Aside0.mk hg; have HB3 := Aside0.mk (HB2.out.trans (gx_tc HG2.out (Nat.le_refl _) hc).low); clear hg hc))
  go_loopg [2, 3, 6] m (fun kq v2 v3 v6 w' => v2 = .bool (n1 == 1) ∧ ∃ (k : Nat) (xs : List Int) (bad : Bool) (acc : List S66) (A0 : Option Addr) (c0 : Nat), v6 = .int .u64 (k : Int) ∧ v3 = .slice A0 acc.length c0 ∧ Aside0 (k = kq) ∧ Aside0 (acc.length + k ≤ 4096) ∧ Aside0 (ofGo k xs bad acc = ofGo (ofCt b).1.toNat (ofCt b).2.1 (ofCt b).2.2 []) ∧ Aside0 (isBytes xs) ∧ Aside0 (bad = true → xs = []) ∧ Aside0 (xs.length ≤ 900000) ∧ Aside0 (GX w' w.heap.size B xs bad) ∧ Aside0 (Kd.R k66 66 w' w.heap.size (fun k => B < k) (.slice A0 acc.length c0) acc) ∧ Aside0 (Below w.heap.size w w'))
  case atStart => exact ⟨rfl, m, x2, bad2, [], none, 0, rfl, rfl, ⟨rfl⟩, ⟨by simp; omega⟩, HG0, HBY2, HNB2, HL2, HG3, ⟨Kd.R_nil _ _ _ _ _⟩, HB3⟩
  case round =>
    clear HG1 HB1 HG2 HB2 HG3 HB3 HRD HD1 HCT1 HBY HBY1 HBY2 HNB2 HL2 HG0 hm4
    obtain ⟨rfl, k, xs, bad, acc, A0, c0, rfl, rfl, HK, HAK, HGO, HBY, HNB, HLX, HG, HR, HB⟩ := hrel
    cases k with
    | zero =>
      have hk0 := HK.out
      subst hk0
      obtain ⟨v, hv⟩ : ∃ v : Int, (if bad = true ∨ 0 < xs.length then 20 else 0) = v := ⟨_, rfl⟩
      have HEN := Aside0.mk (gEnd_any v hv HG.out)
      have hgo := HGO.out
      have hP := sofP_late (b := b) (l := acc) (r := xs) (bad := bad) hgo.symm
      by_cases hbx : bad = true ∨ 0 < xs.length
      · rw [if_pos hbx] at hv hP
        subst hv
        have HP := Aside0.mk hP
        clear hP hbx hgo
        go_wp2_with (first
          | (go_at_call 70; (with_reducible refine HEN.out.mono ?_); rintro e w5 ⟨rfl, rfl⟩))
        go_ret3
        exact sof_err w b _ HP.out HB.out
      · rw [if_neg hbx] at hv hP
        subst hv
        have HP := Aside0.mk hP
        clear hP hbx hgo
        go_wp2_with (first
          | (go_at_call 70; (with_reducible refine HEN.out.mono ?_); rintro e w5 ⟨rfl, rfl⟩))
        go_ret3
        unfold SofQ
        rw [HP.out, HD.out]
        exact ⟨A0, c0, rfl, Kd.R_mono HR.out (fun _ _ => trivial), HB.out⟩
    | succ k =>
      obtain ⟨o1, y1, d1, e1⟩ : ∃ o1 y1 d1, rdB xs bad 60000 = (o1, y1, d1) := ⟨_, _, _, rfl⟩
      obtain ⟨f2, y2, d2, e2⟩ : ∃ f2 y2 d2, rdN y1 d1 1 = (f2, y2, d2) := ⟨_, _, _, rfl⟩
      obtain ⟨o3, y3, d3, e3⟩ : ∃ o3 y3 d3, rdB y2 d2 60000 = (o3, y3, d3) := ⟨_, _, _, rfl⟩
      obtain ⟨b1, b2, b3, b4, b5⟩ := rdB_facts HBY.out e1
      obtain ⟨b6, b7, b8⟩ := rdN_bytes b2 e2
      have b9 := rdN_le y1 d1 1
      rw [e2] at b9
      simp only at b9
      obtain ⟨c1, c2, c3, c4, c5⟩ := rdB_facts b6 e3
      have hput : rdPut xs bad = (⟨strOfNums o1, o3, f2 == 1⟩, y3, d3) := by unfold rdPut; rw [e1]; simp only; rw [e2]; simp only; rw [e3]
      have hgo := HGO.out
      rw [show ofGo (k + 1) xs bad acc = if (rdPut xs bad).1.f2 = true ∧ 0 < (rdPut xs bad).1.f1.length then none else ofGo k (rdPut xs bad).2.1 (rdPut xs bad).2.2 (acc ++ [(rdPut xs bad).1]) from rfl, hput] at hgo
      simp only at hgo
      have HE1 := Aside0.mk (gB_any (w := wr) ⟨by decide, by decide⟩ HBY.out HLX.out e1 HG.out)
      have HE2 := Aside0.mk e2
      have HE3 := Aside0.mk e3
      have HB2' := Aside0.mk b2
      have HB6' := Aside0.mk b6
      have HL2' := Aside0.mk (show y2.length ≤ 900000 by have := HLX.out; omega)
      have HL3' := Aside0.mk (show y3.length ≤ 900000 by have := HLX.out; omega)
      have HBY3 := Aside0.mk c2
      have HNB3 := Aside0.mk c3
      have ho3 : (o3.length : Int) ≤ 900000 := by have := HLX.out; omega
      have HALN := Aside0.mk (show (acc.length + 1) * 48 ≤ 140737488355328 by have := HAK.out; omega)
      have HPAST := Aside0.mk (fun k (hk : wr.heap.size ≤ k) => own_past HR.out hk)
      have hk64 : ((k : Int) + 1) ≤ 4096 := by have := HAK.out; omega
      clear e1 e2 e3 b1 b2 b3 b4 b5 b6 b7 b8 b9 c1 c2 c3 c4 c5 hput
      have hstep1 : ∀ (A5 : Option Addr) (c5 : Nat) (w5 : World), Kd.R (Kd.int .u8) 5 w5 wr.heap.size (fun k => wr.heap.size ≤ k) (.slice A5 o1.length c5) o1 → (convert 58 9 (.slice A5 o1.length c5)).run Tryz.prog w5 = .ok (.string (strOfNums o1)) w5 := fun A5 c5 w5 h => Kd.C_string Tryz.underlying58 Tryz.underlying5 Tryz.underlying9 (Kd.R_reads' h).2.2
      have HCS := Aside0.mk hstep1
      clear hstep1
      by_cases hf : (f2 == 1) = true
      · by_cases hlen : 0 < o3.length
        · rw [if_pos ⟨hf, hlen⟩] at hgo
          have HP := Aside0.mk (sofP_early hgo.symm)
          have hlen2 : decide ((0 : Int) < (o3.length : Int)) = true := decide_eq_true (by omega)
          clear hgo
          go_wp2_with (first
          | (go_at_call 69; (with_reducible refine HE1.out.mono ?_); rintro e w5 ⟨A5, c5, rfl, hr, hg, hc⟩; have hcs := HCS.out A5 c5 w5 hr; have HG5 := Aside0.mk hg; have HC5 := Aside0.mk (hc.mono (S' := fun k => k = B ∨ wr.heap.size ≤ k) fun _ h => .inl h); have HA5 := Aside0.mk (Below.alloc (Below.refl w5.heap.size w5) (Nat.le_refl _) (.cells #[.string (strOfNums o1), .slice none 0 0, .bool false] 66)); clear hr hg hc HE1)
          | (go_at_call 67; (with_reducible refine (gFlag_any HB2'.out HE2.out (HG5.out.keep (S := fun _ => False) (.of_below HA5.out) (fun _ _ h => h))).mono ?_); rintro e w7 ⟨rfl, hg, hc⟩; have HG7 := Aside0.mk hg; have HC7 := Aside0.mk ((HC5.out.trans (.of_below HA5.out)).trans (hc.mono (S' := fun k => k = B ∨ wr.heap.size ≤ k) fun _ h => .inl h)); have hbx := (hc.block w5.heap.size (by rw [alloc_size]; omega) (Nat.ne_of_gt HG5.out.lt)).trans (heap_alloc_new w5 _); have HBX := Aside0.mk hbx; obtain ⟨z0, z1, z2, g1, g2⟩ := box_c hbx; clear hg hc hbx)
          | (go_at_call 69; (with_reducible refine (gB_any (w := w7.setCell ⟨w5.heap.size, 2, none⟩ (.bool true)) ⟨by decide, by decide⟩ HB6'.out HL2'.out HE3.out (HG7.out.keep chg_set (fun k hk e => absurd (Nat.lt_of_le_of_lt hk HG5.out.lt) (by rw [e]; exact Nat.lt_irrefl _)))).mono ?_); rintro e w9 ⟨A9, c9, rfl, hr, hg, hc⟩; have HG9 := Aside0.mk hg; have HR9 := Aside0.mk hr; have HC9 := Aside0.mk ((HC7.out.trans (chg_set.mono (fun k (e : k = w5.heap.size) => Or.inr (by rw [e]; exact HC5.out.size)))).trans (hc.mono (S' := fun k => k = B ∨ wr.heap.size ≤ k) fun _ h => .inl h)); have hbx := (hc.block w5.heap.size (Array.getElem?_eq_some_iff.1 (set7 HBX.out 2 (.bool true))).1 (Nat.ne_of_gt HG5.out.lt)).trans (set7 HBX.out 2 (.bool true)); have HBX9 := Aside0.mk hbx; obtain ⟨t0, t1, t2, g3, g4⟩ := box_c hbx; have HBXF := Aside0.mk (set7 hbx 1 (.slice A9 o3.length c9)); obtain ⟨s0, s1, s2, g5, g6⟩ := box_c HBXF.out; have HCF := Aside0.mk (HC9.out.trans (chg_set.mono (fun k (e : k = w5.heap.size) => Or.inr (by rw [e]; exact HC5.out.size)) : Chg w9 (w9.setCell ⟨w5.heap.size, 1, none⟩ (.slice A9 o3.length c9)) (fun k => k = B ∨ wr.heap.size ≤ k))); clear hr hg hc hbx))
          go_ret3
          exact sof_err w b _ HP.out (of_move HG.out HR.out HB.out HCF.out).2
        · rw [if_neg (fun h => hlen h.2), hf] at hgo
          have HGO2 := Aside0.mk hgo
          have hlen2 : decide ((0 : Int) < (o3.length : Int)) = false := decide_eq_false (by omega)
          have hlen3 : decide (0 < o3.length) = false := decide_eq_false hlen
          clear hlen
          clear hgo
          go_wp2_with (first
          | (go_at_call 69; (with_reducible refine HE1.out.mono ?_); rintro e w5 ⟨A5, c5, rfl, hr, hg, hc⟩; have hcs := HCS.out A5 c5 w5 hr; have HG5 := Aside0.mk hg; have HC5 := Aside0.mk (hc.mono (S' := fun k => k = B ∨ wr.heap.size ≤ k) fun _ h => .inl h); have HA5 := Aside0.mk (Below.alloc (Below.refl w5.heap.size w5) (Nat.le_refl _) (.cells #[.string (strOfNums o1), .slice none 0 0, .bool false] 66)); clear hr hg hc HE1)
          | (go_at_call 67; (with_reducible refine (gFlag_any HB2'.out HE2.out (HG5.out.keep (S := fun _ => False) (.of_below HA5.out) (fun _ _ h => h))).mono ?_); rintro e w7 ⟨rfl, hg, hc⟩; have HG7 := Aside0.mk hg; have HC7 := Aside0.mk ((HC5.out.trans (.of_below HA5.out)).trans (hc.mono (S' := fun k => k = B ∨ wr.heap.size ≤ k) fun _ h => .inl h)); have hbx := (hc.block w5.heap.size (by rw [alloc_size]; omega) (Nat.ne_of_gt HG5.out.lt)).trans (heap_alloc_new w5 _); have HBX := Aside0.mk hbx; obtain ⟨z0, z1, z2, g1, g2⟩ := box_c hbx; clear hg hc hbx)
          | (go_at_call 69; (with_reducible refine (gB_any (w := w7.setCell ⟨w5.heap.size, 2, none⟩ (.bool true)) ⟨by decide, by decide⟩ HB6'.out HL2'.out HE3.out (HG7.out.keep chg_set (fun k hk e => absurd (Nat.lt_of_le_of_lt hk HG5.out.lt) (by rw [e]; exact Nat.lt_irrefl _)))).mono ?_); rintro e w9 ⟨A9, c9, rfl, hr, hg, hc⟩; have HG9 := Aside0.mk hg; have HR9 := Aside0.mk hr; have HC9 := Aside0.mk ((HC7.out.trans (chg_set.mono (fun k (e : k = w5.heap.size) => Or.inr (by rw [e]; exact HC5.out.size)))).trans (hc.mono (S' := fun k => k = B ∨ wr.heap.size ≤ k) fun _ h => .inl h)); have hbx := (hc.block w5.heap.size (Array.getElem?_eq_some_iff.1 (set7 HBX.out 2 (.bool true))).1 (Nat.ne_of_gt HG5.out.lt)).trans (set7 HBX.out 2 (.bool true)); have HBX9 := Aside0.mk hbx; obtain ⟨t0, t1, t2, g3, g4⟩ := box_c hbx; have HBXF := Aside0.mk (set7 hbx 1 (.slice A9 o3.length c9)); obtain ⟨s0, s1, s2, g5, g6⟩ := box_c HBXF.out; have HCF := Aside0.mk (HC9.out.trans (chg_set.mono (fun k (e : k = w5.heap.size) => Or.inr (by rw [e]; exact HC5.out.size)) : Chg w9 (w9.setCell ⟨w5.heap.size, 1, none⟩ (.slice A9 o3.length c9)) (fun k => k = B ∨ wr.heap.size ≤ k))); clear hr hg hc hbx)
          | ((with_reducible refine gate_builtin (b := .append) (xs := #[.tmp 36, .tmp 38]) rfl ?_); at_builtin; go_loud (refine Kd.R_append k66 (W := w9.setCell ⟨w5.heap.size, 1, none⟩ (.slice A9 o3.length c9)) (w0 := w9.setCell ⟨w5.heap.size, 1, none⟩ (.slice A9 o3.length c9)) w.heap.size rfl (.tmp 36) (.tmp 38) 57 66 (.agg #[.string ⟨#[]⟩, .slice none 0 0, .bool false]) 48 rfl Tryz.underlying57 info66 rfl (by decide) (by decide) (.slice A0 acc.length c0) acc ⟨strOfNums o1, o3, true⟩ [.string (strOfNums o1), .slice A9 o3.length c9, .bool true] (fun k => B < k) (fun k => wr.heap.size ≤ k) rfl (by rw [set_size]; rfl) (k66_mkM _ _ _ ⟨strOfNums o1, o3, true⟩ (of_val HBX9.out HR9.out (Nat.le_trans HC5.out.size (Nat.le_trans (Nat.le_of_lt (Array.getElem?_eq_some_iff.1 HBX.out).1) (by rw [set_size]; exact Nat.le_refl _))) HB.out.size)) (fun k hk => ⟨Nat.lt_of_lt_of_le HG.out.lt hk, HPAST.out k hk⟩) (fun k hk => Nat.lt_of_lt_of_le HG.out.lt (Nat.le_trans HCF.out.size hk)) (of_move HG.out HR.out HB.out HCF.out).1 (Below.refl _ _) (Nat.le_trans HB.out.size HCF.out.size) HALN.out ?_); intro v1 w10 ho hb hg hat; have HGF := Aside0.mk (HG9.out.keep chg_set (fun k hk e => absurd (Nat.lt_of_le_of_lt hk HG5.out.lt) (by rw [e]; exact Nat.lt_irrefl _)) : GX (w9.setCell ⟨w5.heap.size, 1, none⟩ (.slice A9 o3.length c9)) w.heap.size B y3 d3); have HG10 := Aside0.mk (HGF.out.keep (chg_grown hg fun _ h => h) (fun k hk e => absurd (HR.out.1 k e.symm) (Nat.not_lt.2 hk))); have HR10 := Aside0.mk ho; have HB10 := Aside0.mk ((of_move HG.out HR.out HB.out HCF.out).2.trans hb); obtain ⟨A10, c10, hv10⟩ := Kd.R_slice ho; subst hv10; clear ho hb hg hat))
          have hk1 := HK.out
          obtain ⟨gq, rfl⟩ : ∃ gq, gk = gq + 1 := ⟨gk - 1, by omega⟩
          go_roundg gq
          case rel => exact ⟨rfl, k, y3, d3, acc ++ [⟨strOfNums o1, o3, true⟩], A10, c10, by go_num, by rw [List.length_append, List.length_singleton], ⟨by omega⟩, ⟨by rw [List.length_append, List.length_singleton]; have := HAK.out; omega⟩, HGO2, HBY3, HNB3, HL3', HG10, HR10, HB10⟩
          case measure => omega
      · have hf : (f2 == 1) = false := by simpa using hf
        rw [if_neg (fun h => by rw [hf] at h; cases h.1), hf] at hgo
        have HGO2 := Aside0.mk hgo
        clear hgo
        go_wp2_with (first
        | (go_at_call 69; (with_reducible refine HE1.out.mono ?_); rintro e w5 ⟨A5, c5, rfl, hr, hg, hc⟩; have hcs := HCS.out A5 c5 w5 hr; have HG5 := Aside0.mk hg; have HC5 := Aside0.mk (hc.mono (S' := fun k => k = B ∨ wr.heap.size ≤ k) fun _ h => .inl h); have HA5 := Aside0.mk (Below.alloc (Below.refl w5.heap.size w5) (Nat.le_refl _) (.cells #[.string (strOfNums o1), .slice none 0 0, .bool false] 66)); clear hr hg hc HE1)
        | (go_at_call 67; (with_reducible refine (gFlag_any HB2'.out HE2.out (HG5.out.keep (S := fun _ => False) (.of_below HA5.out) (fun _ _ h => h))).mono ?_); rintro e w7 ⟨rfl, hg, hc⟩; have HG7 := Aside0.mk hg; have HC7 := Aside0.mk ((HC5.out.trans (.of_below HA5.out)).trans (hc.mono (S' := fun k => k = B ∨ wr.heap.size ≤ k) fun _ h => .inl h)); have hbx := (hc.block w5.heap.size (by rw [alloc_size]; omega) (Nat.ne_of_gt HG5.out.lt)).trans (heap_alloc_new w5 _); have HBX := Aside0.mk hbx; obtain ⟨z0, z1, z2, g1, g2⟩ := box_c hbx; clear hg hc hbx)
        | (go_at_call 69; (with_reducible refine (gB_any (w := w7.setCell ⟨w5.heap.size, 2, none⟩ (.bool false)) ⟨by decide, by decide⟩ HB6'.out HL2'.out HE3.out (HG7.out.keep chg_set (fun k hk e => absurd (Nat.lt_of_le_of_lt hk HG5.out.lt) (by rw [e]; exact Nat.lt_irrefl _)))).mono ?_); rintro e w9 ⟨A9, c9, rfl, hr, hg, hc⟩; have HG9 := Aside0.mk hg; have HR9 := Aside0.mk hr; have HC9 := Aside0.mk ((HC7.out.trans (chg_set.mono (fun k (e : k = w5.heap.size) => Or.inr (by rw [e]; exact HC5.out.size)))).trans (hc.mono (S' := fun k => k = B ∨ wr.heap.size ≤ k) fun _ h => .inl h)); have hbx := (hc.block w5.heap.size (Array.getElem?_eq_some_iff.1 (set7 HBX.out 2 (.bool false))).1 (Nat.ne_of_gt HG5.out.lt)).trans (set7 HBX.out 2 (.bool false)); have HBX9 := Aside0.mk hbx; obtain ⟨t0, t1, t2, g3, g4⟩ := box_c hbx; have HBXF := Aside0.mk (set7 hbx 1 (.slice A9 o3.length c9)); obtain ⟨s0, s1, s2, g5, g6⟩ := box_c HBXF.out; have HCF := Aside0.mk (HC9.out.trans (chg_set.mono (fun k (e : k = w5.heap.size) => Or.inr (by rw [e]; exact HC5.out.size)) : Chg w9 (w9.setCell ⟨w5.heap.size, 1, none⟩ (.slice A9 o3.length c9)) (fun k => k = B ∨ wr.heap.size ≤ k))); clear hr hg hc hbx)
        | ((with_reducible refine gate_builtin (b := .append) (xs := #[.tmp 36, .tmp 38]) rfl ?_); at_builtin; go_loud (refine Kd.R_append k66 (W := w9.setCell ⟨w5.heap.size, 1, none⟩ (.slice A9 o3.length c9)) (w0 := w9.setCell ⟨w5.heap.size, 1, none⟩ (.slice A9 o3.length c9)) w.heap.size rfl (.tmp 36) (.tmp 38) 57 66 (.agg #[.string ⟨#[]⟩, .slice none 0 0, .bool false]) 48 rfl Tryz.underlying57 info66 rfl (by decide) (by decide) (.slice A0 acc.length c0) acc ⟨strOfNums o1, o3, false⟩ [.string (strOfNums o1), .slice A9 o3.length c9, .bool false] (fun k => B < k) (fun k => wr.heap.size ≤ k) rfl (by rw [set_size]; rfl) (k66_mkM _ _ _ ⟨strOfNums o1, o3, false⟩ (of_val HBX9.out HR9.out (Nat.le_trans HC5.out.size (Nat.le_trans (Nat.le_of_lt (Array.getElem?_eq_some_iff.1 HBX.out).1) (by rw [set_size]; exact Nat.le_refl _))) HB.out.size)) (fun k hk => ⟨Nat.lt_of_lt_of_le HG.out.lt hk, HPAST.out k hk⟩) (fun k hk => Nat.lt_of_lt_of_le HG.out.lt (Nat.le_trans HCF.out.size hk)) (of_move HG.out HR.out HB.out HCF.out).1 (Below.refl _ _) (Nat.le_trans HB.out.size HCF.out.size) HALN.out ?_); intro v1 w10 ho hb hg hat; have HGF := Aside0.mk (HG9.out.keep chg_set (fun k hk e => absurd (Nat.lt_of_le_of_lt hk HG5.out.lt) (by rw [e]; exact Nat.lt_irrefl _)) : GX (w9.setCell ⟨w5.heap.size, 1, none⟩ (.slice A9 o3.length c9)) w.heap.size B y3 d3); have HG10 := Aside0.mk (HGF.out.keep (chg_grown hg fun _ h => h) (fun k hk e => absurd (HR.out.1 k e.symm) (Nat.not_lt.2 hk))); have HR10 := Aside0.mk ho; have HB10 := Aside0.mk ((of_move HG.out HR.out HB.out HCF.out).2.trans hb); obtain ⟨A10, c10, hv10⟩ := Kd.R_slice ho; subst hv10; clear ho hb hg hat))
        have hk1 := HK.out
        obtain ⟨gq, rfl⟩ : ∃ gq, gk = gq + 1 := ⟨gk - 1, by omega⟩
        go_roundg gq
        case rel => exact ⟨rfl, k, y3, d3, acc ++ [⟨strOfNums o1, o3, false⟩], A10, c10, by go_num, by rw [List.length_append, List.length_singleton], ⟨by omega⟩, ⟨by rw [List.length_append, List.length_singleton]; have := HAK.out; omega⟩, HGO2, HBY3, HNB3, HL3', HG10, HR10, HB10⟩
        case measure => omega
end Go.Proofs.YtlepcmljmibdnaaGreat
namespace Go.Proofs.YtlepcmljmibdnaaGreat
open Go.RowKit Go.Proofs.YtlepcmljmibdnaaGreatW.PrintWords Go.Proofs.YtlepcmljmibdnaaGreatW.PrintLast Go.Proofs.YtlepcmljmibdnaaGreatW.PrintMore PWalOpens
open PStoreRecords (S66 k66 rd_T66 at_T66 z66 k66_mkM)
set_option linter.unusedVariables false
set_option linter.unusedSimpArgs false
end Go.Proofs.YtlepcmljmibdnaaGreat
namespace Go.Proofs.YtlepcmljmibdnaaGreat
open Go.RowKit Go.Proofs.YtlepcmljmibdnaaGreatW.PrintWords Go.Proofs.YtlepcmljmibdnaaGreatW.PrintLast Go.Proofs.YtlepcmljmibdnaaGreatW.PrintMore PWalOpens
open PStoreRecords (S66 k66 rd_T66 at_T66 z66)
set_option linter.unusedVariables false
set_option linter.unusedSimpArgs false
section
variable {w : World} {base B c : Nat} {A : Option Addr}
end
end Go.Proofs.YtlepcmljmibdnaaGreat
namespace Go.Proofs.YtlepcmljmibdnaaGreat
open Go.RowKit Go.Proofs.YtlepcmljmibdnaaGreatW.PrintWords Go.Proofs.YtlepcmljmibdnaaGreatW.PrintLast Go.Proofs.YtlepcmljmibdnaaGreatW.PrintMore PWalOpens
open PStoreRecords (S66 k66 rd_T66 at_T66 z66)
set_option linter.unusedVariables false
set_option linter.unusedSimpArgs false
theorem str_bytesOf (s : ByteArray) : strOfNums (bytesOf s) = s := by
  have h1 := str_list (bytesOf s)
  rw [ByteArray.toList_eq] at h1
  have h2 : (bytesOf s).map (fun n => UInt8.ofNat n.toNat) = s.data.toList := by
    unfold bytesOf
    rw [List.map_map]
    conv => rhs; rw [← List.map_id s.data.toList]
    apply List.map_congr_left
    intro b _
    simp
  rw [h2] at h1
  exact ByteArray.ext (Array.ext' h1)
theorem bytesOf_bytes (s : ByteArray) : isBytes (bytesOf s) := by
  intro x hx
  unfold bytesOf at hx
  obtain ⟨b, _, rfl⟩ := List.mem_map.1 hx
  have := b.toNat_lt
  omega
theorem flag_enc (is : Bool) : flagB is = encN (if is then 1 else 0) := by
  cases is <;> simp [flagB, encN]
theorem rdB_text (b r : List Int) (h : b.length ≤ 60000) : rdB (textB b ++ r) false 60000 = (b, r, false) := by
  unfold rdB textB
  rw [List.append_assoc, rdN_enc (b.length : Int) 60000 (b ++ r) (by omega) (by omega) (by omega)]
  simp only
  rw [if_neg (by rw [List.length_append]; simp; omega), Int.toNat_natCast]
  simp
theorem rdN_flag (is : Bool) (r : List Int) : rdN (flagB is ++ r) false 1 = ((if is then 1 else 0), r, false) := by
  rw [flag_enc]
  cases is
  · exact rdN_enc 0 1 r (by omega) (by omega) (by omega)
  · exact rdN_enc 1 1 r (by omega) (by omega) (by omega)
def normP (p : S66) : S66 := ⟨p.f0, if p.f2 then [] else p.f1, p.f2⟩
theorem rdPut_put (p : S66) (r : List Int) (h : p.f0.size ≤ 60000 ∧ p.f1.length ≤ 60000) : rdPut (putB p ++ r) false = (normP p, r, false) := by
  unfold rdPut putB
  rw [List.append_assoc, List.append_assoc, rdB_text (bytesOf p.f0) _ (by rw [bytesOf_length]; exact h.1)]
  try simp only
  rw [rdN_flag]
  try simp only
  rw [rdB_text _ r (by split <;> first | exact h.2 | simp), str_bytesOf]
  unfold normP
  cases p.f2 <;> simp
theorem ofGo_puts : ∀ (l : List S66) (r : List Int) (acc : List S66), (∀ p ∈ l, p.f0.size ≤ 60000 ∧ p.f1.length ≤ 60000) → ofGo l.length (l.flatMap putB ++ r) false acc = some (acc ++ l.map normP, r, false)
  | [], r, acc, h => by simp [ofGo]
  | p :: l, r, acc, h => by
    have hp := rdPut_put p (l.flatMap putB ++ r) (h p (by simp))
    rw [List.flatMap_cons, List.append_assoc, List.length_cons]
    rw [show ofGo (l.length + 1) (putB p ++ (l.flatMap putB ++ r)) false acc = if (rdPut (putB p ++ (l.flatMap putB ++ r)) false).1.f2 = true ∧ 0 < (rdPut (putB p ++ (l.flatMap putB ++ r)) false).1.f1.length then none else ofGo l.length (rdPut (putB p ++ (l.flatMap putB ++ r)) false).2.1 (rdPut (putB p ++ (l.flatMap putB ++ r)) false).2.2 (acc ++ [(rdPut (putB p ++ (l.flatMap putB ++ r)) false).1]) from rfl, hp]
    simp only
    rw [if_neg (by unfold normP; intro h; obtain ⟨h1, h2⟩ := h; simp only at h1 h2; rw [if_pos h1] at h2; simp at h2), ofGo_puts l r _ (fun q hq => h q (by simp [hq]))]
    simp
theorem sofP_rec (all : Bool) (l : List S66) (hl : l.length ≤ 4096) (h : ∀ p ∈ l, p.f0.size ≤ 60000 ∧ p.f1.length ≤ 60000) : sofP (recB all l) = (all, l.map normP, 0) := by
  have e0 : recB all l = flagB all ++ (encN (l.length : Int) ++ (l.flatMap putB ++ [])) := by
    unfold recB recH
    rw [List.take_length, List.append_nil, List.append_assoc]
  have e1 : ofHd (recB all l) = ((if all then 1 else 0), encN (l.length : Int) ++ (l.flatMap putB ++ []), false) := by
    unfold ofHd
    rw [e0, rdN_flag]
  have e2 : ofCt (recB all l) = ((l.length : Int), l.flatMap putB ++ [], false) := by
    unfold ofCt
    rw [e1]
    exact rdN_enc (l.length : Int) 4096 _ (by omega) (by omega) (by omega)
  have e3 : ofGo (ofCt (recB all l)).1.toNat (ofCt (recB all l)).2.1 (ofCt (recB all l)).2.2 [] = some (l.map normP, [], false) := by
    rw [e2]
    simp only [Int.toNat_natCast]
    rw [ofGo_puts l [] [] h]
    simp
  rw [sofP_late e3, if_neg (by simp), e1]
  cases all <;> simp
theorem putB_bytes (p : S66) (hp : isBytes p.f1) : isBytes (putB p) := by
  have ht : ∀ b, isBytes b → isBytes (textB b) := fun b hb x hx => by
    unfold textB at hx
    rcases List.mem_append.1 hx with h | h
    · exact encN_bytes _ (by omega) x h
    · exact hb x h
  intro x hx
  unfold putB at hx
  rcases List.mem_append.1 hx with h | h
  · exact ht _ (bytesOf_bytes _) x h
  · rcases List.mem_append.1 h with h | h
    · unfold flagB at h
      rw [List.mem_singleton] at h
      rw [h]
      split <;> omega
    · refine ht _ ?_ x h
      split
      · exact fun x hx => by cases hx
      · exact hp
theorem recB_bytes (all : Bool) (l : List S66) (h : ∀ p ∈ l, isBytes p.f1) : isBytes (recB all l) := by
  intro x hx
  unfold recB recH at hx
  rw [List.take_length] at hx
  rcases List.mem_append.1 hx with hx | hx
  · rcases List.mem_append.1 hx with hx | hx
    · unfold flagB at hx
      rw [List.mem_singleton] at hx
      rw [hx]
      split <;> omega
    · exact encN_bytes _ (by omega) x hx
  · obtain ⟨p, hp, hx⟩ := List.mem_flatMap.1 hx
    exact putB_bytes p (h p hp) x hx
end Go.Proofs.YtlepcmljmibdnaaGreat
namespace Go.Fork
open Go.RowKit Go.Calm
section
variable {P : Program} {ops : Array Oper} {ro : Option Nat} {n : Nat}
def NoOut (Q : Exit → Act → World → Prop) : Exit → Act → World → Prop
  | .outgrown, _, _ => False
  | e, a, w => Q e a w
theorem noOut {Q : Exit → Act → World → Prop} {a : Act} {w : World} (h : Q .normal a w) : NoOut Q .normal a w := h
theorem not_out (Q : Exit → Act → World → Prop) : ¬ LetsOut (NoPanic (NoOut Q)) := fun ⟨_, _, h⟩ => h
theorem uponIn_of {o : Oper} {a : Act} {next next' : Act → World → Prop} {Q : Exit → Act → World → Prop} (hn : ∀ a w, next a w → next' a w) {r : Result Next} (h : o.upon P a next Q r) : o.uponIn { Fence.wide with round := ro } n P a next' Q r := by
  cases r with
  | ok x w' =>
    cases x <;> simp only [Oper.upon, Oper.uponIn] at h ⊢ <;>
      first
        | exact hn _ _ h
        | exact ⟨by simp [Fence.wide], (show CallsIn Fence.wide _ _ _ _ _ _ from callsIn_wide.2 (h.mono fun e w'' he => by cases e <;> first | exact hn _ _ he | exact he))⟩
        | exact ⟨by simp [Fence.wide], fun c cs _ => let ⟨v, w'', r, s⟩ := h c cs; ⟨v, w'', hn _ _ r, stepsIn_wide.2 s⟩⟩
        | exact h.elim
  | halt x w' => cases x <;> simp only [Oper.upon, Oper.uponIn] at h ⊢ <;> exact h
theorem wpOpsIn_of {Q : Exit → Act → World → Prop} (hQ : ¬ LetsOut Q) (hd : ∀ (i : Nat) (o : Oper) c, ops[i]? = some o → o.op ≠ .defer c) : ∀ (is : List Nat) (a : Act) (w : World), wpOps P ops Q is a w → wpOpsIn { Fence.wide with round := ro } n P ops Q is a w
  | [], _, _, h => h
  | i :: rest, a, w, h => by
    simp only [wpOps, wpOpsIn] at h ⊢
    cases ho : ops[i]? with
    | none => simp only [ho] at h ⊢; exact wpOpsIn_of hQ hd rest a w h
    | some o =>
      simp only [ho] at h ⊢
      by_cases hw : Region.wanted o (yielded ops a.tmps) = true
      · rw [if_pos hw] at h ⊢
        rcases h with h | h
        · refine ⟨fun _ _ => trivial, ?_⟩
          rw [Oper.semAt_eq _ _ _ (fun c => hd i o c ho)]
          exact uponIn_of (wpOpsIn_of hQ hd rest) h
        · exact absurd h.2 hQ
      · rw [if_neg hw] at h ⊢
        exact ⟨fun _ _ => trivial, wpOpsIn_of hQ hd rest _ w h⟩
def noDefer (ops : List Oper) : Bool := ops.all fun o => match o.op with
  | .defer _ => false
  | _ => true
theorem noDefer_spec {os : List Oper} (h : noDefer os = true) (i : Nat) (o : Oper) c (hi : os.toArray[i]? = some o) : o.op ≠ .defer c := by
  intro hc
  have hm : o ∈ os := by
    rw [List.getElem?_toArray] at hi
    exact List.mem_of_getElem? hi
  have := List.all_eq_true.1 h o hm
  rw [hc] at this
  cases this
end
section
variable {P : Program} {ro : Option Nat} {n : Nat} {Q : Exit → Act → World → Prop}
theorem wpIn_forkR {id : Nat} {a : Act} {w : World} {os : List Oper} {G : World → World → Prop} (hG : Rel G) (xs ys : List Nat) (t : Tr) (hm : P.follows .mixedOrders = true)
    (hB : (Region.noSelect os.toArray && t.len == os.length && okT .any os.toArray xs ys (Array.replicate os.length false) t && noDefer os) = true)
    (h : wpT P os.toArray (NoPanic (NoOut Q)) G xs ys t a w.drew) : (Code.region id os.toArray true).wpIn { Fence.wide with round := ro } n P Q a w := by
  simp only [Bool.and_eq_true, beq_iff_eq] at hB
  obtain ⟨hB, hd⟩ := hB
  have h0 : (Code.region id os.toArray true).wpIn { Fence.wide with round := ro } n P (NoPanic (NoOut Q)) a w := by
    refine wpIn_region_draw fun t' => wpOpsIn_of (not_out Q) (noDefer_spec hd) _ _ _ ?_
    simp only [Region.schedule, hm, Bool.true_or, if_true]
    have h1 := anyG_of_wpT (md := .any) hG hB.1.1 (fun c a w hp => hp) t (Array.replicate os.length false) a w.drew (closed_none _) hB.2 h
    have h2 := wpAny_of_G _ _ _ _ h1
    rw [hB.1.2] at h2
    exact wpAny_sound os.toArray.size t' _ a _ (by simpa using h2)
  exact Code.wpIn_mono (fun e a w h => by cases e <;> first | exact h | exact (h : False).elim) h0
theorem wpIn_fork {l : Nat} {id : Nat} {a : Act} {w : World} {os : List Oper} {G : World → World → Prop} (hG : Rel G) (xs ys : List Nat) (t : Tr) (hm : P.follows .mixedOrders = true)
    (hB : (Region.noSelect os.toArray && t.len == os.length && okT .any os.toArray xs ys (Array.replicate os.length false) t && noDefer os) = true)
    (h : wpT P os.toArray (NoPanic (NoOut Q)) G xs ys t a w.drew) : (Code.region id os.toArray true).wpIn (Fence.wide.inRound l) n P Q a w := wpIn_forkR (ro := some l) hG xs ys t hm hB h
theorem wpIn_fork0 {id : Nat} {a : Act} {w : World} {os : List Oper} {G : World → World → Prop} (hG : Rel G) (xs ys : List Nat) (t : Tr) (hm : P.follows .mixedOrders = true)
    (hB : (Region.noSelect os.toArray && t.len == os.length && okT .any os.toArray xs ys (Array.replicate os.length false) t && noDefer os) = true)
    (h : wpT P os.toArray (NoPanic (NoOut Q)) G xs ys t a w.drew) : (Code.region id os.toArray true).wpIn Fence.wide n P Q a w := wpIn_forkR (ro := none) hG xs ys t hm hB h
end
end Go.Fork
namespace Go.Proofs.YtlepcmljmibdnaaGreat
open Go.RowKit Go.Proofs.YtlepcmljmibdnaaGreatW.PrintWords Go.Proofs.YtlepcmljmibdnaaGreatW.PrintLast Go.Proofs.YtlepcmljmibdnaaGreatW.PrintMore PWalOpens
set_option linter.unusedVariables false
set_option linter.unusedSimpArgs false
attribute [local go_sem] Oper.semAt_some
theorem chunk_calls (w : World) (A : Option Addr) (n c : Nat) :
    Calls Tryz.prog 106 #[.slice A n c, .int .i64 64] w fun e w' => e = .returned (.func (.func 137) #[] #[.pointer (some ⟨w.heap.size, 0, none⟩), .pointer (some ⟨w.heap.size + 1, 0, none⟩)]) ∧
      w' = (w.alloc (.cells #[.slice A n c] 58)).alloc (.cells #[.int .i64 64] 3) := by
  go_enter Tryz.func106, Tryz.ntmps106
  go_wp2
  exact bodyPost_ret (results_tmp rfl _ _ _) rfl ⟨rfl, rfl⟩
def cutV (ad : Addr) (N i : Nat) : Value := .slice (some (ad.add (64 * i))) (min 64 (N - 64 * i)) (min 64 (N - 64 * i))
def KpX (X : Nat) (c1 c2 : Obj) (W W' : World) : Prop := (W.heap[X]? = some c1 → W'.heap[X]? = some c1) ∧ (W.heap[X + 1]? = some c2 → W'.heap[X + 1]? = some c2)
def boxS (ad : Addr) (N c : Nat) : Obj := .cells #[.slice (some ad) N c] 58
def boxN : Obj := .cells #[.int .i64 64] 3
theorem box_cell {w : World} {b : Nat} {v : Value} {t : Nat} (h : w.heap[b]? = some (.cells #[v] t)) : w.cell? ⟨b, 0, none⟩ = some v := by
  unfold World.cell?
  simp [h]
set_option maxRecDepth 100000 in
set_option maxHeartbeats 2000000 in
theorem chunk_in (n : Nat) (hn : 1 ≤ n) (l X N c : Nat) (ad : Addr) (hN : 0 < N ∧ N ≤ 1000000) (hc : N ≤ c) (J Jx : List (Fin ((N + 63) / 64)) → World → Prop) (W : World)
    (hd : ∀ pre W, J pre W → J pre W.drew)
    (hY : ∀ pre (x : Fin ((N + 63) / 64)) W, J pre W → pre.length < (N + 63) / 64 → YieldAt Fence.wide (n - 1) Tryz.prog l #[cutV ad N x.val] W fun e W' =>
      (e = .returned (.bool true) ∧ J (pre ++ [x]) W' ∧ KpX X (boxS ad N c) boxN W W') ∨ (e = .returned (.bool false) ∧ Jx (pre ++ [x]) W'))
    (h1 : W.heap[X]? = some (boxS ad N c)) (h2 : W.heap[X + 1]? = some boxN) (h0 : J [] W) :
    CallsIn Fence.wide n Tryz.prog 137 #[.func (.yield l) #[] #[], .pointer (some ⟨X, 0, none⟩), .pointer (some ⟨X + 1, 0, none⟩)] W fun e W' => (∃ v, e = .returned v) ∧
      ((∃ ys, ys = List.finRange ((N + 63) / 64) ∧ J ys W') ∨ (∃ pre, (∃ k, pre = (List.finRange ((N + 63) / 64)).take k) ∧ Jx pre W')) := by
  obtain ⟨K, hK⟩ : ∃ K, (N + 63) / 64 = K := ⟨_, rfl⟩
  revert J Jx
  rw [hK]
  intro J Jx hd hY h0
  refine callsIn_of_wp Tryz.func137 rfl trivial ?_ rfl
  simp only [Tryz.ntmps137, List.size_toArray, List.length_cons, List.length_nil, Nat.reduceAdd, Nat.reduceSub, Array.replicate_succ, Array.replicate_zero, List.push_toArray, List.append_toArray, List.nil_append, List.cons_append]
  gi_wp2
  gi_loopw [4] (fun i wr => ∃ k : Nat, k ≤ K ∧ i = .int .i64 (64 * (k : Int)) ∧ J ((List.finRange K).take k) wr ∧ wr.heap[X]? = some (boxS ad N c) ∧ wr.heap[X + 1]? = some boxN)
    (fun i _ => 64 * K - (intOf i).toNat)
  case atStart => exact ⟨0, Nat.zero_le _, rfl, h0, h1, h2⟩
  case round =>
    obtain ⟨k, hk, rfl, hJs, hx1, hx2⟩ := hrel
    have hc1 : wr.cell? ⟨X, 0, none⟩ = some (.slice (some ad) N c) := box_cell hx1
    have hc2 : wr.cell? ⟨X + 1, 0, none⟩ = some (.int .i64 64) := box_cell hx2
    by_cases hlt : k < K
    · have hlt' : decide (64 * (k : Int) < (N : Int)) = true := by simp; omega

      obtain ⟨m, hm⟩ : ∃ m, min 64 (N - 64 * k) = m := ⟨_, rfl⟩
      have hm0 : 1 ≤ m ∧ m ≤ 64 ∧ m ≤ N - 64 * k := by omega
      have HT : (64 * (k : Int)).toNat = 64 * k := by omega
      have HM : (if ((N - 64 * k : Nat) : Int) < 64 then ((N - 64 * k : Nat) : Int) else 64) = (m : Int) := by split <;> omega
      obtain ⟨fn, tmps, assign, body, hy, hR⟩ := hY _ ⟨k, hlt⟩ wr.drew (hd _ _ hJs) (by rw [List.length_take, List.length_finRange]; omega)
      rw [show cutV ad N (⟨k, hlt⟩ : Fin K).val = .slice (some (ad.add (64 * k))) m m from by unfold cutV; simp only [hm]] at hy
      gi_wp2
      refine Fork.wpIn_fork0 (Fork.Lo.rel 0) [] [] (.one 2 0 (.one 0 1 (.one 1 1 (.one 3 0 (.one 4 0 (.one 5 0 (.one 6 0 .nil))))))) (by kernel_rfl) (by kernel_rfl) ?_
      generalize hops : List.toArray (_ : List Oper) = ops
      have HO := Aside0.mk hops
      clear hops
      ((refine Fork.plain (Fork.at_ HO.out rfl) _ rfl (fun W => by go_simp; exact rfl) ?_); simp only [Act.put, List.setIfInBounds_toArray, List.set_cons_succ, List.set_cons_zero])
      refine Fork.reads (Fork.at_ HO.out rfl) _ rfl (fun W hW => Arr.ex_load1 rfl rfl (by kernel_rfl) (Fork.bel_cell hW (by assumption))) ?_
      simp only [Act.put, List.setIfInBounds_toArray, List.set_cons_succ, List.set_cons_zero]
      refine Fork.reads (Fork.at_ HO.out rfl) _ rfl (fun W hW => Arr.ex_load1 rfl rfl (by kernel_rfl) (Fork.bel_cell hW (by assumption))) ?_
      simp only [Act.put, List.setIfInBounds_toArray, List.set_cons_succ, List.set_cons_zero]
      refine Fork.plain (Fork.at_ HO.out rfl) _ rfl (fun W => by go_simp; rw [if_pos ⟨by omega, by omega⟩, if_neg (by omega)]) ?_
      simp only [Act.put, List.setIfInBounds_toArray, List.set_cons_succ, List.set_cons_zero]
      iterate 3 ((refine Fork.plain (Fork.at_ HO.out rfl) _ rfl (fun W => by go_simp; exact rfl) ?_); simp only [Act.put, List.setIfInBounds_toArray, List.set_cons_succ, List.set_cons_zero])
      refine Fork.done ?_
      refine Fork.noOut ?_
      gi_wp2
      refine hR.mono ?_
      rintro e W3 (⟨rfl, hJ3, hk3⟩ | ⟨rfl, hJx3⟩)
      · have y1 := hk3.1 hx1
        have y2 := hk3.2 hx2
        have yc1 := box_cell y1
        have yc2 := box_cell y2
        gi_wp2
        go_roundw
        case rel => exact ⟨k + 1, by omega, by congr 1, by rw [List.take_succ_eq_append_getElem (by simpa using hlt)]; simpa using hJ3, y1, y2⟩
        case measure => simp [intOf]; omega
      · gi_wp2
        refine bodyPost_ret (results_none rfl _ _ _) rfl ?_
        exact ⟨⟨_, rfl⟩, .inr ⟨_, ⟨k + 1, by rw [List.take_succ_eq_append_getElem (by simpa using hlt)]; simp⟩, hJx3⟩⟩
    · have hlt' : decide (64 * (k : Int) < (N : Int)) = false := by simp; omega
      obtain rfl : k = K := by omega
      gi_wp2
      go_end0
      exact ⟨⟨_, rfl⟩, .inl ⟨_, rfl, by rw [List.take_of_length_le (by simp)] at hJs; exact hJs⟩⟩
theorem grown_drew (w : World) : w.grownBy w.drew none := ⟨rfl, rfl, rfl, Nat.le_refl _, fun _ _ _ => rfl⟩
theorem chunk_stops (n : Nat) (hn : 1 ≤ n) (X N c : Nat) (ad : Addr) (hN : 0 < N ∧ N ≤ 1000000) (hc : N ≤ c) (w : World) (h1 : w.heap[X]? = some (boxS ad N c)) (h2 : w.heap[X + 1]? = some boxN) :
    SeqStopsK Fence.wide n Tryz.prog 137 #[.pointer (some ⟨X, 0, none⟩), .pointer (some ⟨X + 1, 0, none⟩)] (fun x : Fin ((N + 63) / 64) => #[cutV ad N x.val]) (KpX X (boxS ad N c) boxN) (fun ys => ys = List.finRange ((N + 63) / 64)) (fun pre => ∃ k, pre = (List.finRange ((N + 63) / 64)).take k) ((N + 63) / 64) w := by
  intro l J Jx W hW hJ hJx hY h0
  exact chunk_in n hn l X N c ad hN hc J Jx W (fun pre W' h => hJ pre W' W'.drew none h (grown_drew W') (fun r e => by cases e)) hY
    ((hW.block X (Array.getElem?_eq_some_iff.1 h1).1).trans h1) ((hW.block (X + 1) (Array.getElem?_eq_some_iff.1 h2).1).trans h2) h0
theorem kpX_t {X : Nat} {c1 c2 : Obj} {a b c : World} (h : KpX X c1 c2 a b) (k : KpX X c1 c2 b c) : KpX X c1 c2 a c := ⟨fun e => k.1 (h.1 e), fun e => k.2 (h.2 e)⟩
theorem kpX_b {X : Nat} {ad : Addr} {N c : Nat} (W : World) (l : Nat) (o o' : Obj) (ho : W.heap[l]? = some o) (hc : o.isCells = false) : KpX X (boxS ad N c) boxN W (W.putObj l o') := by
  have hput : ∀ k, k ≠ l → (W.putObj l o').heap[k]? = W.heap[k]? := fun k hk => by
    simp only [World.putObj]
    rw [Array.getElem?_setIfInBounds_ne (by omega)]
  refine ⟨fun e => ?_, fun e => ?_⟩
  · rw [hput X (fun e' => by subst e'; rw [ho] at e; cases e; cases hc)]; exact e
  · rw [hput (X + 1) (fun e' => by subst e'; rw [ho] at e; cases e; cases hc)]; exact e
theorem kpX_keep {X : Nat} {c1 c2 : Obj} {a b : World} (h1 : b.heap[X]? = a.heap[X]?) (h2 : b.heap[X + 1]? = a.heap[X + 1]?) : KpX X c1 c2 a b := ⟨fun e => h1.trans e, fun e => h2.trans e⟩
end Go.Proofs.YtlepcmljmibdnaaGreat
namespace Go.Proofs.YtlepcmljmibdnaaGreat
open Go.RowKit Go.Proofs.YtlepcmljmibdnaaGreatW.PrintWords Go.Proofs.YtlepcmljmibdnaaGreatW.PrintLast Go.Proofs.YtlepcmljmibdnaaGreatW.PrintMore PWalOpens
attribute [local go_sem] max2_int min2_int max_two min_two
set_option linter.unusedVariables false
set_option linter.unusedSimpArgs false
section
variable {w : World} {Wb B M Bd : Nat} {vc vs : Value} {D : PD} {gen head tail : Int} {made over : Bool}
/-- a wal's block, its starts whatever -/
def WlC (w : World) (Wb B : Nat) (gen head tail : Int) (vs : Value) (made over : Bool) : Prop :=
  w.heap[Wb]? = some (.cells #[.pointer (some ⟨B, 0, none⟩), .int .u64 gen, .int .u64 head, .int .u64 tail, vs, .bool made, .bool over] 102 (0, 0))
theorem wok_calls (h : WlC w Wb B gen head tail vs made over) : Calls Tryz.prog 54 #[.pointer (some ⟨Wb, 0, none⟩)] w fun e w' => e = .returned (.bool (made && !over)) ∧ w = w' := by
  obtain ⟨⟨q0, q1, q2, q3, q4, q5, q6⟩, _⟩ := cells7 h
  cases made <;> cases over <;>
  · go_enter Tryz.func54, Tryz.ntmps54
    go_wp2
    go_ret
    exact ⟨rfl, rfl⟩
theorem wfree_calls (r f : Int) (hr : ringP D = r) (hf : r - (tail - head) = f) (ht : 0 ≤ head ∧ head ≤ tail ∧ tail < 18446744073709551616 ∧ tail - head ≤ 4094) (h : WlC w Wb B gen head tail vs true over) (hd : DK w 0 B M Bd vc D) :
    Calls Tryz.prog 28 #[.pointer (some ⟨Wb, 0, none⟩)] w fun e w' => e = .returned (.int .i64 f) ∧ w' = w.drew := by
  subst hf
  have HR := Aside0.mk (ring_calls w.drew 0 B M Bd vc D r hr (hd.chg (.of_below (Below.refl _ _).drew)))
  obtain ⟨⟨q0, q1, q2, q3, q4, q5, q6⟩, _⟩ := cells7 h
  obtain ⟨t0, t1, t2, t3⟩ := ht
  have r0 : 0 ≤ r ∧ r ≤ 4094 := by rw [← hr]; exact ringP_le hd
  obtain ⟨r0, r1⟩ := r0
  have u0 : 0 ≤ tail - head := by omega
  have u1 : tail - head ≤ 4094 := by omega
  have W1 := Aside0.mk (show IntKind.u64.wrap (tail - head) = tail - head from IntWalk.u64_in _ (by omega))
  have W2 := Aside0.mk (show IntKind.i64.wrap (tail - head) = tail - head from IntWalk.i64_in _ (by omega))
  have W3 := Aside0.mk (show IntKind.i64.wrap (r - (tail - head)) = r - (tail - head) from IntWalk.i64_in _ (by omega))
  clear hr hd h
  go_enter Tryz.func28, Tryz.ntmps28
  go_wp2
  refine Fork.wp_fork (Fork.Lo.rel 0) [] [] (.one 0 0 (.one 1 0 (.one 2 0 (.one 5 0 (.one 6 0 (.one 7 0 (.one 9 0 (.one 10 0 (.one 11 0 (.one 3 1 (.one 8 1 (.one 12 1 (.one 13 0 (.one 14 0 (.one 4 2 (.one 15 0 (.one 16 0 .nil))))))))))))))))) (by kernel_rfl) (by kernel_rfl) ?_
  generalize hops : List.toArray (_ : List Oper) = ops
  have HO := Aside0.mk hops
  clear hops
  iterate 9 ((refine Fork.plain (Fork.at_ HO.out rfl) _ rfl (fun W => by go_simp; exact rfl) ?_); simp only [Act.put, List.setIfInBounds_toArray, List.set_cons_succ, List.set_cons_zero])
  refine Fork.reads (Fork.at_ HO.out rfl) _ rfl (fun W hW => Arr.ex_load1 rfl rfl (by kernel_rfl) (Fork.bel_cell hW (by assumption))) ?_
  simp only [Act.put, List.setIfInBounds_toArray, List.set_cons_succ, List.set_cons_zero]
  refine Fork.reads (Fork.at_ HO.out rfl) _ rfl (fun W hW => Arr.ex_load1 rfl rfl (by kernel_rfl) (Fork.bel_cell hW (by assumption))) ?_
  simp only [Act.put, List.setIfInBounds_toArray, List.set_cons_succ, List.set_cons_zero]
  refine Fork.reads (Fork.at_ HO.out rfl) _ rfl (fun W hW => Arr.ex_load1 rfl rfl (by kernel_rfl) (Fork.bel_cell hW (by assumption))) ?_
  simp only [Act.put, List.setIfInBounds_toArray, List.set_cons_succ, List.set_cons_zero]
  iterate 2 ((refine Fork.plain (Fork.at_ HO.out rfl) _ rfl (fun W => by go_simp; exact rfl) ?_); simp only [Act.put, List.setIfInBounds_toArray, List.set_cons_succ, List.set_cons_zero])
  refine Fork.step (Fork.at_ HO.out rfl) (fun K hK => ?_)
  go_simp
  refine HR.out.mono ?_
  rintro e w' ⟨rfl, rfl⟩
  refine hK _ _ (.of_new (Below.refl _ _) (Nat.zero_le _)) ?_
  clear hK K
  try simp only [Act.put, List.setIfInBounds_toArray, List.set_cons_succ, List.set_cons_zero]
  iterate 2 ((refine Fork.plain (Fork.at_ HO.out rfl) _ rfl (fun W => by go_simp; exact rfl) ?_); simp only [Act.put, List.setIfInBounds_toArray, List.set_cons_succ, List.set_cons_zero])
  refine Fork.done ?_
  go_wp2
  go_ret
  rw [W1.out, W2.out, W3.out]
  exact ⟨rfl, rfl⟩
theorem wend_same (x : Int) (hx : x = 2 ∨ x = 51) : Calls Tryz.prog 56 #[.pointer (some ⟨Wb, 0, none⟩), .int .i64 x] w fun e w' => e = .returned (.int .i64 x) ∧ w = w' := by
  rcases hx with rfl | rfl <;>
  · go_enter Tryz.func56, Tryz.ntmps56
    go_wp2
    go_ret
    exact ⟨rfl, rfl⟩
theorem wend_over (x : Int) (hx : x ≠ 2 ∧ x ≠ 51) (h : WlC w Wb B gen head tail vs made over) : Calls Tryz.prog 56 #[.pointer (some ⟨Wb, 0, none⟩), .int .i64 x] w fun e w' => e = .returned (.int .i64 50) ∧ w' = w.setCell ⟨Wb, 6, none⟩ (.bool true) := by
  obtain ⟨⟨q0, q1, q2, q3, q4, q5, q6⟩, k2, k4, k5, k6⟩ := cells7 h
  have h1 : (x != 2) = true := by simp; exact hx.1
  have h2 : (x != 51) = true := by simp; exact hx.2
  have h3 : (x == 2) = false := by simp; exact hx.1
  have h4 : (x == 51) = false := by simp; exact hx.2
  go_enter Tryz.func56, Tryz.ntmps56
  go_wp2
  go_ret
  exact ⟨rfl, rfl⟩
theorem WlC.overed (h : WlC w Wb B gen head tail vs made over) : WlC (w.setCell ⟨Wb, 6, none⟩ (.bool true)) Wb B gen head tail vs made true := by
  unfold WlC at h ⊢
  exact set7 h 6 _
end
end Go.Proofs.YtlepcmljmibdnaaGreat
