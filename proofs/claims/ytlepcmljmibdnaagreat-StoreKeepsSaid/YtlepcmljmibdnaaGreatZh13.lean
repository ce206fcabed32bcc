/- Parts of one proof, joined: Hf, Hg, Hh, Hi. Conditions: those of each statement. -/
import Derived.Test.YtlepcmljmibdnaaGreatZh12
namespace Go.Proofs.YtlepcmljmibdnaaGreat
open Go.RowKit Go.Proofs.YtlepcmljmibdnaaGreatW.PrintWords Go.Proofs.YtlepcmljmibdnaaGreatW.PrintLast Go.Proofs.YtlepcmljmibdnaaGreatW.PrintMore PWalOpens
open PStoreRecords (S66 k66 rd_T66 at_T66 z66)
set_option linter.unusedVariables false
set_option linter.unusedSimpArgs false
theorem happen_refn (w : World) (base : Nat) (A0 : Option Addr) (n0 c0 : Nat) (L : List KX) (A1 : Option Addr) (n1 c1 : Nat) (ps : List KX) (h0 : Kd.R rawK 66 w base (fun _ => True) (.slice A0 n0 c0) L) (hbase : base ≤ w.heap.size) (h1 : rawK.C w A1 n1 ps) (hl : L.length + ps.length ≤ 100000) :
    Calls Tryz.prog 44 #[.slice A0 n0 c0, .slice A1 n1 c1] w (HapQ w base (happR L ps)) := by
  obtain rfl : ps.length = n1 := h1.1
  exact happen_ref w base A0 n0 c0 L A1 c1 ps h0 hbase h1 hl
theorem row_tc {b n0 M Bd Mv : Nat} {w w' : World} {v : Value} {X : List KX} (h : Kd.R rawK 66 w b (fun _ => True) v X) (hc : TC n0 (isSD M Bd Mv) w w') : Kd.R rawK 66 w' b (fun _ => True) v X :=
  R_tc h hc (fun q hq k cells => by
    have : q = 66 := by
      have e : (66 :: rawK.E) = [66] := rfl
      rw [e] at hq
      simpa using hq
    subst this
    simp [isSD, isWD, isDisk, isT, isSM])
/-- a range over a store's keys, key and value taken -/
theorem range_okv {P : Program} {n : Nat} {g : Operand} {assign body : Code} {Q : Exit → Act → World → Prop} {tmps : Array Value} {ds : List Deferred} {w : World} {p q r s : Nat} (h1 : 1 ≤ n) {gf : Nat} {lb : Array Value} (hg : ({ tmps := tmps, defers := ds } : Act).eval g = .func (.func gf) #[] lb)
    (eg : ∀ args w, (callFunc gf args).run P w = .ok (.enter gf args) w) {Ok : List KX → KX → World → Prop} {Kp : World → World → Prop} {S Sp : List KX → World → Prop} (hseq : SeqOk (n - 1) P gf lb (fun x : KX => #[.string x.1.f0, x.2]) Ok Kp S Sp w)
    (hKt : ∀ {A B C : World}, Kp A B → Kp B C → Kp A C) (hKb : ∀ (W : World) (l : Nat) (r : Loop) (o' : Obj), w.heap.size ≤ l → W.heap[l]? = some (.loop r) → Kp W (W.putObj l o'))
    (hOk : ∀ pre, OwnFrom w.heap.size (Ok pre)) (hS : OwnFrom w.heap.size S) (hSp : OwnFrom w.heap.size Sp) (I : List KX → World → Prop) (Ix : Code → List KX → World → Prop) (hI : OwnFrom w.heap.size I) (hIx : ∀ c, OwnFrom w.heap.size (Ix c)) (h0 : I [] w)
    (hassign : ∀ (l : Nat) (x : KX) (W : World) (K : Act → World → Prop), K { tmps := (((tmps.setIfInBounds p (.string x.1.f0)).setIfInBounds q x.2).setIfInBounds r (.string x.1.f0)).setIfInBounds s x.2, defers := [] } W → assign.wpIn (Fence.wide.inRound l) (n - 1 - 1) P (Exit.then K (fun _ _ _ => False)) { tmps := (#[p, q].zip #[.string x.1.f0, x.2]).foldl (fun t (p, v) => t.setIfInBounds p v) tmps, defers := [] } W)
    (hbody : ∀ (l : Nat) (pre : List KX) (x : KX) (W : World), w.heap.size ≤ l → (∃ r, W.heap[l]? = some (.loop r)) → I pre W → Ok pre x W → body.wpIn (Fence.wide.inRound l) (n - 1 - 1) P (okPost w.heap.size Kp I Ix (pre ++ [x]) W) { tmps := (((tmps.setIfInBounds p (.string x.1.f0)).setIfInBounds q x.2).setIfInBounds r (.string x.1.f0)).setIfInBounds s x.2, defers := [] } W)
    (hdone : ∀ (D : Nat) (xs : List KX) (W : World), w.heap.size ≤ D → S xs W → I xs W → W.heap[D]? = some (.deferred (some [])) → Q .normal { tmps := tmps, defers := cmark D :: ds } W)
    (hstop : ∀ (D : Nat) (c : Code) (pre : List KX) (W : World), w.heap.size ≤ D → Sp pre W → Ix c pre W → W.heap[D]? = some (.deferred (some [])) → c.wp P Q { tmps := tmps, defers := cmark D :: ds } W) :
    (Code.rangeFunc g #[p, q] assign body).wp P Q { tmps := tmps, defers := ds } w :=
  range_ok h1 hg eg hseq hKt hKb (fun _ => rfl) hOk hS hSp I Ix hI hIx h0 (fun x => { tmps := (((tmps.setIfInBounds p (.string x.1.f0)).setIfInBounds q x.2).setIfInBounds r (.string x.1.f0)).setIfInBounds s x.2, defers := [] }) hassign hbody hdone hstop
end Go.Proofs.YtlepcmljmibdnaaGreat
namespace Go.Proofs.YtlepcmljmibdnaaGreat
open Go.RowKit Go.Proofs.YtlepcmljmibdnaaGreatW.PrintWords Go.Proofs.YtlepcmljmibdnaaGreatW.PrintLast Go.Proofs.YtlepcmljmibdnaaGreatW.PrintMore PWalOpens
open PStoreRecords (S66 k66 rd_T66 at_T66 z66)
set_option linter.unusedVariables false
set_option linter.unusedSimpArgs false
attribute [local go_sem] Oper.semAt_some
set_option maxRecDepth 100000 in
set_option maxHeartbeats 8000000 in
theorem keeps_compact (A0 : Option Addr) (c0 : Nat) (l : List SDeed) (A1 : Option Addr) (c1 : Nat) (m : List S66) (arm : Int) (A4 : Option Addr) (c4 : Nat) (keep : List Bool) (w : World) (hC0 : kE.C w A0 l.length l) (hC1 : k66.C w A1 m.length m) (hC4 : Kd.bool.C w A4 keep.length keep) (hc1 : m.length ≤ c1)
    (hbl : ∀ x ∈ l, ∀ p ∈ x.l, isBytes p.f1) (harm : -9223372036854775808 ≤ arm ∧ arm ≤ 9223372036854775807) (hl : l.length ≤ 10) (hk : keep.length ≤ 60) (hfm : PStoreRecords.factotumlaw08_Few.f (m.length + 1) m = some true) (hm8 : m.length ≤ 8) (hmf : ∀ p ∈ m, FewP p) :
    Calls Tryz.prog 6 #[.slice A0 l.length c0, .slice A1 m.length c1, .bool true, .int .i64 arm, .slice A4 keep.length c4] w fun e w' => e = .returned (.bool true) ∧ Below w.heap.size w w' := by
  refine (callsIn_wide (n := 9)).1 ?_
  have HC0 := Aside0.mk hC0
  have HC1 := Aside0.mk hC1
  have HC4 := Aside0.mk hC4
  have HBL := Aside0.mk hbl
  have HARM := Aside0.mk harm
  have HL10 := Aside0.mk hl
  have HM8 := Aside0.mk hm8
  have HMF := Aside0.mk hmf
  have HCM1 := Aside0.mk hc1
  have HFM := Aside0.mk (fun (W : World) (hb : Below w.heap.size w W) => few8_at A1 c1 m true hc1 hC1 hfm W hb)
  have hl1 : ¬ ((10 : Int) < (l.length : Int)) := by omega
  have hl1' : decide ((10 : Int) < (l.length : Int)) = false := decide_eq_false hl1
  have hk1 : ¬ ((60 : Int) < (keep.length : Int)) := by omega
  have hk1' : decide ((60 : Int) < (keep.length : Int)) = false := decide_eq_false hk1
  clear hC0 hC1 hC4 hbl harm hm8 hmf hc1 hfm
  refine callsIn_of_wp_marks Tryz.func6 rfl trivial ?_ rfl
  simp only [Tryz.ntmps6, List.size_toArray, List.length_cons, List.length_nil, Nat.reduceAdd, Nat.reduceSub, Array.replicate_succ, Array.replicate_zero, List.push_toArray, List.append_toArray, List.nil_append, List.cons_append]
  refine wpIn_wide.2 ?_
  go_wp2_with (first
    | (go_at_call 30; (with_reducible refine (awake8 w).mono ?_); rintro e w0 ⟨rfl, hb⟩; have HB0 := Aside0.mk hb; clear hb)
    | (go_at_call 31; (with_reducible refine (HFM.out w0 HB0.out).mono ?_); rintro e w1 ⟨rfl, hb⟩; have HB1 := Aside0.mk (HB0.out.trans (hb.mono HB0.out.size)); clear hb)
    | (go_at_call 8; (with_reducible refine (new_calls w1 w1.heap.size (Nat.le_refl _) 1000).mono ?_); rintro e w2 ⟨B, M, Bd, rfl, hd, hb⟩; have HD2 := Aside0.mk hd; have HB2 := Aside0.mk hb; clear hd hb)
    | (go_at_call 37; (with_reducible refine (sformat_calls (w0 := w1) 1000 ⟨by decide, by decide⟩ HD2.out HB2.out).mono ?_); rintro e w3 ⟨rfl, D3, S3, vc3, hi, hd, hb⟩; have HI3 := Aside0.mk hi; have HD3 := Aside0.mk hd; have HB3 := Aside0.mk hb; clear hi hd hb)
    | (go_at_call 38; (with_reducible refine (sopen_calls (n0 := w1.heap.size) rsA (by rw [rsA_map]; exact HI3.out) (by decide) rsA_ok HD3.out).mono ?_); rintro e w4 ⟨Sb, Wb, Mv, vs, rfl, hsv, hb⟩; have HSV4 := Aside0.mk hsv; have HB4 := Aside0.mk (HB3.out.trans (hb.mono HB3.out.size)); clear hsv hb))
  have HGV5 := Aside0.mk (show GV w1 0 w4 Sb Wb B M Bd Mv vc3 vs D3 S3 1 (needs [[1, 0]]) rsA from ⟨gi_start HI3.out, HSV4.out, HB4.out⟩)
  have hl9 : (l.length : Int) ≤ 9223372036854775807 := by omega
  go_loopg [14, 52] l.length (fun kq v14 v52 wr => ∃ (i : Nat) (vc vs : Value) (D : PD) (S : Int → List Int) (g tail : Int) (rs : List (Bool × List S66)) (X : List KX) (A : Option Addr) (n c : Nat), v52 = .int .i64 (i : Int) ∧ v14 = .slice A n c ∧ Aside0 (i + kq = l.length) ∧ Aside0 (GV w1 i wr Sb Wb B M Bd Mv vc vs D S g tail rs) ∧ Aside0 (Kd.R rawK 66 wr w1.heap.size (fun _ => True) (.slice A n c) X) ∧ Aside0 (X.map (·.1) = replay rs) ∧ Aside0 (∀ x ∈ X, FarV w x))
  case atStart => exact ⟨0, vc3, vs, D3, S3, 1, needs [[1, 0]], rsA, [], none, 0, 0, rfl, rfl, ⟨by omega⟩, HGV5, ⟨Kd.R_nil _ _ _ _ _⟩, ⟨by rw [rsA_rep]; rfl⟩, ⟨fun x hx => by cases hx⟩⟩
  case round =>
    clear HGV5
    obtain ⟨i, vc, vs, D, S, g, tail, rs, X, A, n, c, rfl, rfl, HI, HGV, HR, HXR, HXF⟩ := hrel
    have hk1 := HI.out
    have HBW := Aside0.mk (HB1.out.trans (HGV.out.low.mono HB1.out.size))
    have HXL := Aside0.mk (show X.length ≤ 88 from by have h1 := HGV.out.gi.len; have h2 := HXR.out; have h3 := HL10.out; rw [← h2, List.length_map] at h1; omega)
    by_cases hi : i < l.length
    · obtain ⟨ad, A1', c1', A3, c3, e, x0, x1, x2, x3, l1, g1, l3, g3⟩ := at_E HC0.out (i : Int) (by omega) (by omega)
      subst e
      have hx := rd_getE l i hi
      generalize rd_E l (i : Int) = x at x0 x1 x2 x3 l1 g1 l3 g3 hx
      rw [Int.toNat_natCast] at x0 x1 x2 x3
      replace x0 := (HBW.out.cell (World.block_lt_of_cell? w _ x0)).trans x0
      replace x1 := (HBW.out.cell (World.block_lt_of_cell? w _ x1)).trans x1
      replace x2 := (HBW.out.cell (World.block_lt_of_cell? w _ x2)).trans x2
      replace x3 := (HBW.out.cell (World.block_lt_of_cell? w _ x3)).trans x3
      have HBX := Aside0.mk (HBL.out x (List.mem_of_getElem? hx))
      obtain ⟨r1, hfew, hfew2⟩ := few8_f x.l g1.2.1
      have HFW := Aside0.mk (fun (W : World) (hb : Below w.heap.size w W) => few8_at A1' c1' x.l r1 l1 g1 hfew W hb)
      obtain ⟨xs, hxm, hxC, hxF⟩ := raw_of g1
      have hxl : xs.length = x.l.length := by rw [← hxm, List.length_map]
      rw [hxl] at hxC
      have HXS := Aside0.mk hxC
      have HXM := Aside0.mk hxm
      have HXSL := Aside0.mk hxl
      have HXSF := Aside0.mk hxF
      have HG1 := Aside0.mk g1
      have HL1 := Aside0.mk l1
      obtain ⟨W6, hW6⟩ : ∃ W6, wr.alloc (.cells #[.int .i64 x.kind, .slice A1' x.l.length c1', .int .i64 x.n, .slice A3 x.keep.length c3] 75) = W6 := ⟨_, rfl⟩
      have hb6 : Below wr.heap.size wr W6 := by rw [← hW6]; exact (Below.refl _ _).alloc (Nat.le_refl _) _
      have HB6 := Aside0.mk hb6
      have hbx : W6.heap[wr.heap.size]? = some (.cells #[.int .i64 x.kind, .slice A1' x.l.length c1', .int .i64 x.n, .slice A3 x.keep.length c3] 75 (0, 0)) := by rw [← hW6]; exact heap_alloc_new wr _
      have HBX6 := Aside0.mk hbx
      have y1 : W6.cell? ⟨wr.heap.size, 1, none⟩ = some (.slice A1' x.l.length c1') := by unfold World.cell?; rw [hbx]; rfl
      clear hx g1 l1 l3 g3 hfew hb6 hbx hxm hxC hxF hxl
      cases r1 with
      | false =>
        go_wp2_with (first
          | (go_at_call 31; (with_reducible refine (HFW.out W6 (HBW.out.trans (HB6.out.mono HBW.out.size))).mono ?_); rintro e w7 ⟨rfl, hb⟩; have HB7 := Aside0.mk (HB6.out.trans (hb.mono HB6.out.size)); clear hb))
        exact ⟨_, results_tmp rfl _ _ _, rfl, HBW.out.trans (HB7.out.mono HBW.out.size)⟩
      | true =>
        obtain ⟨f1, f2⟩ := hfew2 rfl
        have HF8 := Aside0.mk f1
        have HFP := Aside0.mk (show ∀ p ∈ x.l, FewP p from fun p hp => ⟨(f2 p hp).1, (f2 p hp).2, HBX.out p hp⟩)
        have HIL := Aside0.mk (show i ≤ 11 from by have := HL10.out; omega)
        clear f1 f2 hfew2
        go_wp2_with (first
          | (go_at_call 31; (with_reducible refine (HFW.out W6 (HBW.out.trans (HB6.out.mono HBW.out.size))).mono ?_); rintro e w7 ⟨rfl, hb⟩; have HB7 := Aside0.mk (HB6.out.trans (hb.mono HB6.out.size)); have HGV7 := Aside0.mk (HGV.out.fresh HB7.out); have HR7 := Aside0.mk (Kd.R_below HR.out HB7.out); have HX7 := Aside0.mk (up_box HBX6.out hb); have y17 : w7.cell? ⟨wr.heap.size, 1, none⟩ = some (.slice A1' x.l.length c1') := (by unfold World.cell?; rw [up_box HBX6.out hb]; rfl); clear hb)
          | (go_at_call 39; (with_reducible refine (gv_commit (c := c1') HGV7.out HF8.out HFP.out HIL.out HL1.out (fun W htc => Kd.C_below HG1.out (HB1.out.trans ((HGV7.out.low.trans htc.low).mono HB1.out.size)))).mono ?_); rintro e w8 ⟨rfl, htc, vc8, vs8, D8, S8, g8, t8, rs8, hgv, hrp⟩; have HGV8 := Aside0.mk hgv; have HRP8 := Aside0.mk hrp; have HR8 := Aside0.mk (row_tc HR7.out htc); have HX8 := Aside0.mk (htc.blk _ _ HX7.out (by simp [isSD, isWD, isDisk, isT, isSM])); have y18 : w8.cell? ⟨wr.heap.size, 1, none⟩ = some (.slice A1' x.l.length c1') := (by unfold World.cell?; rw [HX8.out]; rfl); clear htc hgv hrp)
          | (go_at_call 44; (with_reducible refine (happen_refn w8 w1.heap.size A n c X A1' x.l.length c1' xs HR8.out HGV8.out.low.size (Kd.C_below HXS.out (HB1.out.trans (HGV8.out.low.mono HB1.out.size))) (by have := HXL.out; have := HF8.out; have := HXSL.out; omega)).mono ?_); rintro e w9 ⟨A9, n9, c9, rfl, hr, hb⟩; have HR9 := Aside0.mk hr; have HGV9 := Aside0.mk (HGV8.out.fresh hb); clear hr hb))
        obtain ⟨gq, rfl⟩ : ∃ gq, gk = gq + 1 := ⟨gk - 1, by omega⟩
        go_roundg gq
        case rel => exact ⟨i + 1, vc8, vs8, D8, S8, g8, t8, rs8, happR X xs, A9, n9, c9, by go_num, rfl, ⟨by omega⟩, HGV9, HR9, ⟨by rw [HRP8.out, happR_map (by rw [HXR.out]; exact replay_sl rs), HXM.out, HXR.out]⟩, ⟨happR_all xs X (fun p hp => (HXSF.out p hp).kv) HXF.out⟩⟩
        case measure => omega
    · have hi0 := HI.out
      obtain rfl : gk = 0 := by omega
      obtain rfl : i = l.length := by omega
      clear hi0
      have hm3 : ¬ ((l.length : Int) < (l.length : Int)) := by omega
      have hi11 : l.length ≤ 11 := by omega
      obtain ⟨D2, code, hcr, hcall⟩ := armed_compact (w0 := w1) HGV.out.gi hi11 arm keep
      have HCALL := Aside0.mk hcall
      have HLEN := Aside0.mk hcr.len
      obtain ⟨rs5, S5, g5, h5, t5, hi5, hne5, hok5, hres⟩ := hcr.got
      have HFN := Aside0.mk (show (∀ p ∈ replay rs, FewP p) ∧ (replay rs).length ≤ 200 from ⟨HGV.out.gi.few, by have := HGV.out.gi.len; omega⟩)
      have HFO := Aside0.mk (show (∀ p ∈ replay rs, FewP p) ∧ (replay rs).length ≤ 200 from ⟨HGV.out.gi.few, by have := HGV.out.gi.len; omega⟩)
      have HF5 := Aside0.mk (show (∀ p ∈ replay rs5, FewP p) ∧ (replay rs5).length ≤ 200 from by
        rcases hres with h | ⟨_, h⟩
        · rw [h]; exact HFN.out
        · rw [h]; exact HFO.out)
      have HI5 := Aside0.mk hi5
      have HNE5 := Aside0.mk hne5
      have HOK5 := Aside0.mk hok5
      have HRES := Aside0.mk hres
      obtain ⟨D5, hD5⟩ : ∃ D5, crashP D2 keep = D5 := ⟨_, rfl⟩
      rw [hD5] at HI5
      have HD5 := Aside0.mk hD5
      clear hcr hcall hi5 hne5 hok5 hres hD5 hi11
      go_wp2_with (first
        | (go_at_call 21; (with_reducible refine (arm_wv arm HARM.out HGV.out.sv.wv).mono ?_); rintro e wa ⟨rfl, htc, vca, hv⟩; have HSVA := Aside0.mk (HGV.out.sv.wal htc hv); have HRA := Aside0.mk (row_tc (Mv := Mv) HR.out (htc.mono fun _ _ h => .inl h)); have HLA := Aside0.mk (HGV.out.low.trans htc.low); clear htc hv)
        | (go_at_call 42; (with_reducible refine (HCALL.out wa Sb Wb B M Bd Mv vca vs HSVA.out).mono ?_); rintro e wb ⟨rfl, htc, vcb, hd⟩; have HDB := Aside0.mk hd; have HRB := Aside0.mk (row_tc (Mv := Mv) HRA.out (htc.mono fun _ _ h => .inl h)); have HRN := HRB; have HLB := Aside0.mk (HLA.out.trans htc.low); clear htc hd)
        | (go_at_call 23; (with_reducible refine (crash_dk A4 c4 keep HD5.out (Nat.le_trans HLEN.out (by decide)) (fun w' hc => Kd.C_below HC4.out (HB1.out.trans ((HLB.out.trans hc.low).mono HB1.out.size))) HDB.out).mono ?_); rintro e wc ⟨rfl, htc, vcc, hd⟩; have HDC := Aside0.mk hd; have HRC := Aside0.mk (row_tc (Mv := Mv) HRB.out (htc.mono fun _ _ h => .inl (.inl h))); have HRNC := Aside0.mk (row_tc (Mv := Mv) HRN.out (htc.mono fun _ _ h => .inl (.inl h))); have HLC := Aside0.mk (HLB.out.trans htc.low); clear htc hd)
        | (go_at_call 38; (with_reducible refine (sopen_calls (n0 := w1.heap.size) rs5 HI5.out HNE5.out HOK5.out HDC.out).mono ?_); rintro e wd ⟨Sd, Wd, Md, vsd, rfl, hsv, hb⟩; have HSVD := Aside0.mk hsv; have HRD := Aside0.mk (Kd.R_below HRC.out hb); have HRND := Aside0.mk (Kd.R_below HRNC.out hb); have HLD := Aside0.mk (HLC.out.trans (hb.mono HLC.out.size)); clear hsv hb)
        | (go_at_call 41; (with_reducible refine (keysf_calls _ (some ⟨Sd, 0, none⟩) ⟨#[]⟩).mono ?_); rintro e w10 ⟨rfl, rfl⟩))
      obtain ⟨We, hWe⟩ : ∃ We, ((wd.alloc (.cells #[.slice none 0 0] 57)).alloc (.cells #[.pointer (some ⟨Sd, 0, none⟩)] 71)).alloc (.cells #[.string ⟨#[]⟩] 9) = We := ⟨_, rfl⟩
      rw [hWe]
      have hBe : Below wd.heap.size wd We := by rw [← hWe]; exact (((Below.refl wd.heap.size wd).alloc (Nat.le_refl _) _).alloc (by simp) _).alloc (by simp; omega) _
      have HBE := Aside0.mk hBe
      have HBX := Aside0.mk (show Boxed We wd.heap.size 57 (.slice none 0 0) from by
        rw [← hWe]
        show _ = _
        rw [Below.heap_alloc _ _ _ (by simp; omega), Below.heap_alloc _ _ _ (by simp)]
        exact heap_alloc_new wd _)
      have HX1 := Aside0.mk (show We.heap[wd.heap.size + 1]? = some (.cells #[.pointer (some ⟨Sd, 0, none⟩)] 71 (0, 0)) from by
        rw [← hWe, Below.heap_alloc _ _ _ (by simp)]
        have h := heap_alloc_new (wd.alloc (.cells #[.slice none 0 0] 57)) (.cells #[.pointer (some ⟨Sd, 0, none⟩)] 71)
        rwa [alloc_size] at h)
      have HX2 := Aside0.mk (show We.heap[wd.heap.size + 1 + 1]? = some (.cells #[.string ⟨#[]⟩] 9 (0, 0)) from by
        rw [← hWe]
        have h := heap_alloc_new ((wd.alloc (.cells #[.slice none 0 0] 57)).alloc (.cells #[.pointer (some ⟨Sd, 0, none⟩)] 71)) (.cells #[.string ⟨#[]⟩] 9)
        rwa [alloc_size, alloc_size] at h)
      have HM1 := Aside0.mk (HSVD.out.mv.below hBe)
      have HSB1 := Aside0.mk ((hBe.block _ (Array.getElem?_eq_some_iff.1 HSVD.out.blk).1).trans HSVD.out.blk)
      clear hWe hBe
      obtain ⟨i0, hi, hz0, hz1, hz2⟩ := info66c
      have HI0 := Aside0.mk (And.intro hi (And.intro hz0 (And.intro hz1 hz2)))
      clear hi hz0 hz1 hz2
      have HPL := Aside0.mk (kpre_nil (replay rs5))
      refine range_okv (n := 9) (r := 22) (s := 23) (by omega) rfl (enters_of Tryz.func87 (by kernel_rfl) rfl)
        (keys_ok 8 (by omega) (wd.heap.size + 1) Sd Md w1.heap.size wd.heap.size (itB itPut) We HX1.out HX2.out HSB1.out HM1.out (fun p hp => by have := HF5.out.1 p hp; exact ⟨Nat.le_trans this.1 (by decide), Nat.le_trans this.2.1 (by decide)⟩) (Nat.le_trans HF5.out.2 (by decide)) (by decide) HBE.out.size)
        (fun h k => h.trans k) (fun W l r o' _ ho => tc_loop W l r o' ho) (fun pre x A B row h hg hr => ⟨h.1, bv_own h.2 hg hr⟩) kall_own ksome_own (RowI wd.heap.size wd.heap.size wd) (fun _ _ _ => False) (rowI_own (Nat.le_refl _) HBE.out.size) (fun c s A B row h _ _ => h) ?h0 ?hassign ?hbody ?hdone ?hstop
      case h0 => exact ⟨⟨_, HBX.out, ⟨rfl, .inl ⟨rfl, rfl⟩⟩, trivial⟩, HBE.out⟩
      case hassign =>
        intro l x W K hK
        gi_wp2
        exact hK
      case hbody =>
        rintro l' pre ⟨p, u⟩ W hwl hrc ⟨⟨v, hbx, hrow, _⟩, hb⟩ ⟨hpre, hbv⟩
        rw [HPL.out] at hpre
        have hlen : pre.length + 1 ≤ 100000 := by
          have h := hpre.length_le
          simp only [List.length_append, List.length_map, List.length_singleton] at h
          exact Nat.le_trans h (Nat.le_trans HF5.out.2 (by decide))
        have hp2 : p.f2 = false := HM1.out.2.1.here p (hpre.subset (by simp))
        have hc3 := hbx.cell
        have hf3 := hbx.frozen
        have HROW := Aside0.mk hrow
        have HBXW := Aside0.mk hbx
        have HBW' := Aside0.mk hb
        have HBV := Aside0.mk (show BV W wd.heap.size u p.f1 from hbv)
        have HP2 := Aside0.mk hp2
        simp only at hbv
        obtain ⟨A5, c5, rfl, _⟩ := hbv
        have HH1 := Aside0.mk (show pre.length + 1 ≤ maxLen from Nat.le_trans hlen (by decide))
        have HH2 := Aside0.mk (show (pre.length + 1) * 48 ≤ 140737488355328 from by omega)
        clear hbx hrow hb hpre hp2 hlen
        simp only [List.setIfInBounds_toArray, List.set_cons_succ, List.set_cons_zero]
        gi_wp2_with (first
          | (gi_at_builtin; refine wpListIn_append_own _ rfl (.tmp 97) (.tmp 101) 57 rfl wd.heap.size 66 i0 (.agg #[.string ⟨#[]⟩, .slice none 0 0, .bool false]) 3 48 Tryz.underlying57 HI0.out.1 HI0.out.2.1 HI0.out.2.2.1 HI0.out.2.2.2 rfl (by decide) v pre.length (rawL pre) rfl (HROW.out.alloc _) ⟨W.heap.size, 0, none⟩ 1 1 [.string p.f0, .slice A5 p.f1.length c5, .bool false] rfl rfl ?c1 ?c2 HH1.out HH2.out ?c5 ?_))
        case c1 => simpa using World.news_of_block (cs := #[.string p.f0, .slice A5 p.f1.length c5, .bool false]) (t := 66) (fr := (0, 0)) (heap_alloc_new W (.cells #[.string p.f0, .slice A5 p.f1.length c5, .bool false] 66))
        case c2 => intro z hz; simp at hz; rcases hz with rfl | rfl | rfl <;> rfl
        case c5 => rw [alloc_size]; exact Nat.le_succ_of_le HBW'.out.size
        intro v2 W2 hrow2 hg2 _
        obtain ⟨A2, c2, rfl⟩ := row_shape hrow2
        have hraw : rawC (p, .slice A5 p.f1.length c5) = [.string p.f0, .slice A5 p.f1.length c5, .bool false] := by unfold rawC; rw [HP2.out]
        obtain ⟨hri, htc⟩ := rowI_step (x := (p, .slice A5 p.f1.length c5)) HBXW.out HROW.out HBW'.out (Nat.le_refl _) (Nat.le_refl _) (by rw [hraw]; exact hg2) (by rw [hraw]; exact hrow2)
        have hne : some wd.heap.size ≠ v.ownBlock := fun e => by
          obtain ⟨cells, hc⟩ := own_typed HROW.out wd.heap.size e.symm
          rw [show W.heap[wd.heap.size]? = _ from HBXW.out] at hc
          simp at hc
        have hbx2 : Boxed W2 wd.heap.size 57 v := (HBXW.out.alloc _).kept hg2 hne
        have hc4 := hbx2.cell
        have hf4 := hbx2.frozen
        have HRI := Aside0.mk hri
        have HTC := Aside0.mk htc
        clear hri htc hbx2 hrow2 hg2 hne hraw
        gi_wp2
        exact ⟨tc_keepsFrom HTC.out, HTC.out.mono (fun _ _ h => .inl h), HRI.out⟩
      case hdone =>
        rintro D xs W hwD ⟨hxs, hbv⟩ ⟨⟨v, hbx, hrow, _⟩, hb⟩ hmark
        rw [HPL.out] at hxs
        have hlen : xs.length = (replay rs5).length := by rw [← hxs, List.length_map]
        obtain ⟨A7, c7, rfl, hcap, hC⟩ := raw_C hrow hbv (by rw [hlen]; exact Nat.le_trans HF5.out.2 (by decide))
        rw [hxs] at hC
        have hc3 := hbx.cell
        have HLW := Aside0.mk (show Below w.heap.size w W from HB1.out.trans ((HLD.out.trans (hb.mono HLD.out.size)).mono HB1.out.size))
        have HCN := Aside0.mk (show k66.C W A n (replay rs) from by
          obtain ⟨e, _, h⟩ := Kd.R_reads' (Kd.R_below HRND.out hb)
          rw [e]
          have := raw_to h HXF.out HLW.out
          rwa [HXR.out] at this)
        have HCO := Aside0.mk (show k66.C W A n (replay rs) from by
          obtain ⟨e, _, h⟩ := Kd.R_reads' (Kd.R_below HRD.out hb)
          rw [e]
          have := raw_to h HXF.out HLW.out
          rwa [HXR.out] at this)
        have HCX := Aside0.mk hC
        have HMK := Aside0.mk hmark
        have HWD := Aside0.mk (Nat.le_trans (Nat.le_trans HLD.out.size HBE.out.size) hwD)
        have HDW := Aside0.mk (show D < W.heap.size from (Array.getElem?_eq_some_iff.1 hmark).1)
        clear hxs hbv hbx hrow hb hmark hcap hC hwD hlen
        by_cases heq : replay rs5 = replay rs
        · have hsm := fun k => sameputs_d W A7 A xs.length n c7 k (replay rs5) (replay rs) HCX.out HCN.out (fun p hp => (HF5.out.1 p hp).2.2) (fun p hp => (HFN.out.1 p hp).2.2) true (by rw [heq]; simp)
          have HSM := Aside0.mk hsm
          clear hsm heq
          go_wp2_with (first
            | (go_at_call 36; (with_reducible refine (HSM.out _).mono ?_); rintro e wf ⟨rfl, hb⟩; have HBF := Aside0.mk hb; clear hb))
          have hm7 := (HBF.out.block _ HDW.out).trans HMK.out
          exact leave_one hm7 (results_tmp rfl _ _ _) ⟨rfl, below_shut (HLW.out.trans (HBF.out.mono HLW.out.size)) (Nat.le_refl _) (Nat.le_trans HB1.out.size HWD.out)⟩
        · have hq : code ≠ 0 ∧ replay rs5 = replay rs := HRES.out.resolve_left heq
          have hcd : (code == 0) = false := by simpa using hq.1
          have hcd2 : (code != 0) = true := by simpa using hq.1
          have HSM := Aside0.mk (fun k => sameputs_d W A7 A xs.length n c7 k (replay rs5) (replay rs) HCX.out HCN.out (fun p hp => (HF5.out.1 p hp).2.2) (fun p hp => (HFN.out.1 p hp).2.2) false (by simp [heq]))
          have HSM2 := Aside0.mk (fun (W' : World) (hb : Below W.heap.size W W') k => sameputs_d W' A7 A xs.length n c7 k (replay rs5) (replay rs) (Kd.C_below HCX.out hb) (Kd.C_below HCO.out hb) (fun p hp => (HF5.out.1 p hp).2.2) (fun p hp => (HFO.out.1 p hp).2.2) true (by rw [hq.2]; simp))
          have HBXC := Aside0.mk hc3
          clear heq hq
          go_wp2_with (first
            | (go_at_call 36; (with_reducible refine (HSM.out _).mono ?_); rintro e wf ⟨rfl, hb⟩; have HBF := Aside0.mk hb; have hc5 := (hb.cell (World.block_lt_of_cell? W _ HBXC.out)).trans HBXC.out; clear hb)
            | (go_at_call 36; (with_reducible refine (HSM2.out wf HBF.out _).mono ?_); rintro e wg ⟨rfl, hb⟩; have HBG := Aside0.mk (HBF.out.trans (hb.mono HBF.out.size)); clear hb))
          have hm7 := (HBG.out.block _ HDW.out).trans HMK.out
          exact leave_one hm7 (results_tmp rfl _ _ _) ⟨rfl, below_shut (HLW.out.trans (HBG.out.mono HLW.out.size)) (Nat.le_refl _) (Nat.le_trans HB1.out.size HWD.out)⟩
      case hstop => exact fun D c pre W _ _ h _ => h.elim
end Go.Proofs.YtlepcmljmibdnaaGreat
namespace Go.Proofs.YtlepcmljmibdnaaGreat
open Go.RowKit Go.Proofs.YtlepcmljmibdnaaGreatW.PrintWords Go.Proofs.YtlepcmljmibdnaaGreatW.PrintLast Go.Proofs.YtlepcmljmibdnaaGreatW.PrintMore PWalOpens
open PStoreRecords (S66 k66 rd_T66 at_T66 z66)
set_option linter.unusedVariables false
set_option linter.unusedSimpArgs false
attribute [local go_sem] Oper.semAt_some
set_option maxRecDepth 100000 in
set_option maxHeartbeats 8000000 in
theorem keeps_commit (A0 : Option Addr) (c0 : Nat) (l : List SDeed) (A1 : Option Addr) (c1 : Nat) (m : List S66) (arm : Int) (A4 : Option Addr) (c4 : Nat) (keep : List Bool) (w : World) (hC0 : kE.C w A0 l.length l) (hC1 : k66.C w A1 m.length m) (hC4 : Kd.bool.C w A4 keep.length keep) (hc1 : m.length ≤ c1)
    (hbl : ∀ x ∈ l, ∀ p ∈ x.l, isBytes p.f1) (harm : -9223372036854775808 ≤ arm ∧ arm ≤ 9223372036854775807) (hl : l.length ≤ 10) (hk : keep.length ≤ 60) (hfm : PStoreRecords.factotumlaw08_Few.f (m.length + 1) m = some true) (hm8 : m.length ≤ 8) (hmf : ∀ p ∈ m, FewP p) :
    Calls Tryz.prog 6 #[.slice A0 l.length c0, .slice A1 m.length c1, .bool false, .int .i64 arm, .slice A4 keep.length c4] w fun e w' => e = .returned (.bool true) ∧ Below w.heap.size w w' := by
  refine (callsIn_wide (n := 9)).1 ?_
  have HC0 := Aside0.mk hC0
  have HC1 := Aside0.mk hC1
  have HC4 := Aside0.mk hC4
  have HBL := Aside0.mk hbl
  have HARM := Aside0.mk harm
  have HL10 := Aside0.mk hl
  have HM8 := Aside0.mk hm8
  have HMF := Aside0.mk hmf
  have HCM1 := Aside0.mk hc1
  have HFM := Aside0.mk (fun (W : World) (hb : Below w.heap.size w W) => few8_at A1 c1 m true hc1 hC1 hfm W hb)
  have hl1 : ¬ ((10 : Int) < (l.length : Int)) := by omega
  have hl1' : decide ((10 : Int) < (l.length : Int)) = false := decide_eq_false hl1
  have hk1 : ¬ ((60 : Int) < (keep.length : Int)) := by omega
  have hk1' : decide ((60 : Int) < (keep.length : Int)) = false := decide_eq_false hk1
  clear hC0 hC1 hC4 hbl harm hm8 hmf hc1 hfm
  refine callsIn_of_wp_marks Tryz.func6 rfl trivial ?_ rfl
  simp only [Tryz.ntmps6, List.size_toArray, List.length_cons, List.length_nil, Nat.reduceAdd, Nat.reduceSub, Array.replicate_succ, Array.replicate_zero, List.push_toArray, List.append_toArray, List.nil_append, List.cons_append]
  refine wpIn_wide.2 ?_
  go_wp2_with (first
    | (go_at_call 30; (with_reducible refine (awake8 w).mono ?_); rintro e w0 ⟨rfl, hb⟩; have HB0 := Aside0.mk hb; clear hb)
    | (go_at_call 31; (with_reducible refine (HFM.out w0 HB0.out).mono ?_); rintro e w1 ⟨rfl, hb⟩; have HB1 := Aside0.mk (HB0.out.trans (hb.mono HB0.out.size)); clear hb)
    | (go_at_call 8; (with_reducible refine (new_calls w1 w1.heap.size (Nat.le_refl _) 1000).mono ?_); rintro e w2 ⟨B, M, Bd, rfl, hd, hb⟩; have HD2 := Aside0.mk hd; have HB2 := Aside0.mk hb; clear hd hb)
    | (go_at_call 37; (with_reducible refine (sformat_calls (w0 := w1) 1000 ⟨by decide, by decide⟩ HD2.out HB2.out).mono ?_); rintro e w3 ⟨rfl, D3, S3, vc3, hi, hd, hb⟩; have HI3 := Aside0.mk hi; have HD3 := Aside0.mk hd; have HB3 := Aside0.mk hb; clear hi hd hb)
    | (go_at_call 38; (with_reducible refine (sopen_calls (n0 := w1.heap.size) rsA (by rw [rsA_map]; exact HI3.out) (by decide) rsA_ok HD3.out).mono ?_); rintro e w4 ⟨Sb, Wb, Mv, vs, rfl, hsv, hb⟩; have HSV4 := Aside0.mk hsv; have HB4 := Aside0.mk (HB3.out.trans (hb.mono HB3.out.size)); clear hsv hb))
  have HGV5 := Aside0.mk (show GV w1 0 w4 Sb Wb B M Bd Mv vc3 vs D3 S3 1 (needs [[1, 0]]) rsA from ⟨gi_start HI3.out, HSV4.out, HB4.out⟩)
  have hl9 : (l.length : Int) ≤ 9223372036854775807 := by omega
  go_loopg [14, 52] l.length (fun kq v14 v52 wr => ∃ (i : Nat) (vc vs : Value) (D : PD) (S : Int → List Int) (g tail : Int) (rs : List (Bool × List S66)) (X : List KX) (A : Option Addr) (n c : Nat), v52 = .int .i64 (i : Int) ∧ v14 = .slice A n c ∧ Aside0 (i + kq = l.length) ∧ Aside0 (GV w1 i wr Sb Wb B M Bd Mv vc vs D S g tail rs) ∧ Aside0 (Kd.R rawK 66 wr w1.heap.size (fun _ => True) (.slice A n c) X) ∧ Aside0 (X.map (·.1) = replay rs) ∧ Aside0 (∀ x ∈ X, FarV w x))
  case atStart => exact ⟨0, vc3, vs, D3, S3, 1, needs [[1, 0]], rsA, [], none, 0, 0, rfl, rfl, ⟨by omega⟩, HGV5, ⟨Kd.R_nil _ _ _ _ _⟩, ⟨by rw [rsA_rep]; rfl⟩, ⟨fun x hx => by cases hx⟩⟩
  case round =>
    clear HGV5
    obtain ⟨i, vc, vs, D, S, g, tail, rs, X, A, n, c, rfl, rfl, HI, HGV, HR, HXR, HXF⟩ := hrel
    have hk1 := HI.out
    have HBW := Aside0.mk (HB1.out.trans (HGV.out.low.mono HB1.out.size))
    have HXL := Aside0.mk (show X.length ≤ 88 from by have h1 := HGV.out.gi.len; have h2 := HXR.out; have h3 := HL10.out; rw [← h2, List.length_map] at h1; omega)
    by_cases hi : i < l.length
    · obtain ⟨ad, A1', c1', A3, c3, e, x0, x1, x2, x3, l1, g1, l3, g3⟩ := at_E HC0.out (i : Int) (by omega) (by omega)
      subst e
      have hx := rd_getE l i hi
      generalize rd_E l (i : Int) = x at x0 x1 x2 x3 l1 g1 l3 g3 hx
      rw [Int.toNat_natCast] at x0 x1 x2 x3
      replace x0 := (HBW.out.cell (World.block_lt_of_cell? w _ x0)).trans x0
      replace x1 := (HBW.out.cell (World.block_lt_of_cell? w _ x1)).trans x1
      replace x2 := (HBW.out.cell (World.block_lt_of_cell? w _ x2)).trans x2
      replace x3 := (HBW.out.cell (World.block_lt_of_cell? w _ x3)).trans x3
      have HBX := Aside0.mk (HBL.out x (List.mem_of_getElem? hx))
      obtain ⟨r1, hfew, hfew2⟩ := few8_f x.l g1.2.1
      have HFW := Aside0.mk (fun (W : World) (hb : Below w.heap.size w W) => few8_at A1' c1' x.l r1 l1 g1 hfew W hb)
      obtain ⟨xs, hxm, hxC, hxF⟩ := raw_of g1
      have hxl : xs.length = x.l.length := by rw [← hxm, List.length_map]
      rw [hxl] at hxC
      have HXS := Aside0.mk hxC
      have HXM := Aside0.mk hxm
      have HXSL := Aside0.mk hxl
      have HXSF := Aside0.mk hxF
      have HG1 := Aside0.mk g1
      have HL1 := Aside0.mk l1
      obtain ⟨W6, hW6⟩ : ∃ W6, wr.alloc (.cells #[.int .i64 x.kind, .slice A1' x.l.length c1', .int .i64 x.n, .slice A3 x.keep.length c3] 75) = W6 := ⟨_, rfl⟩
      have hb6 : Below wr.heap.size wr W6 := by rw [← hW6]; exact (Below.refl _ _).alloc (Nat.le_refl _) _
      have HB6 := Aside0.mk hb6
      have hbx : W6.heap[wr.heap.size]? = some (.cells #[.int .i64 x.kind, .slice A1' x.l.length c1', .int .i64 x.n, .slice A3 x.keep.length c3] 75 (0, 0)) := by rw [← hW6]; exact heap_alloc_new wr _
      have HBX6 := Aside0.mk hbx
      have y1 : W6.cell? ⟨wr.heap.size, 1, none⟩ = some (.slice A1' x.l.length c1') := by unfold World.cell?; rw [hbx]; rfl
      clear hx g1 l1 l3 g3 hfew hb6 hbx hxm hxC hxF hxl
      cases r1 with
      | false =>
        go_wp2_with (first
          | (go_at_call 31; (with_reducible refine (HFW.out W6 (HBW.out.trans (HB6.out.mono HBW.out.size))).mono ?_); rintro e w7 ⟨rfl, hb⟩; have HB7 := Aside0.mk (HB6.out.trans (hb.mono HB6.out.size)); clear hb))
        exact ⟨_, results_tmp rfl _ _ _, rfl, HBW.out.trans (HB7.out.mono HBW.out.size)⟩
      | true =>
        obtain ⟨f1, f2⟩ := hfew2 rfl
        have HF8 := Aside0.mk f1
        have HFP := Aside0.mk (show ∀ p ∈ x.l, FewP p from fun p hp => ⟨(f2 p hp).1, (f2 p hp).2, HBX.out p hp⟩)
        have HIL := Aside0.mk (show i ≤ 11 from by have := HL10.out; omega)
        clear f1 f2 hfew2
        go_wp2_with (first
          | (go_at_call 31; (with_reducible refine (HFW.out W6 (HBW.out.trans (HB6.out.mono HBW.out.size))).mono ?_); rintro e w7 ⟨rfl, hb⟩; have HB7 := Aside0.mk (HB6.out.trans (hb.mono HB6.out.size)); have HGV7 := Aside0.mk (HGV.out.fresh HB7.out); have HR7 := Aside0.mk (Kd.R_below HR.out HB7.out); have HX7 := Aside0.mk (up_box HBX6.out hb); have y17 : w7.cell? ⟨wr.heap.size, 1, none⟩ = some (.slice A1' x.l.length c1') := (by unfold World.cell?; rw [up_box HBX6.out hb]; rfl); clear hb)
          | (go_at_call 39; (with_reducible refine (gv_commit (c := c1') HGV7.out HF8.out HFP.out HIL.out HL1.out (fun W htc => Kd.C_below HG1.out (HB1.out.trans ((HGV7.out.low.trans htc.low).mono HB1.out.size)))).mono ?_); rintro e w8 ⟨rfl, htc, vc8, vs8, D8, S8, g8, t8, rs8, hgv, hrp⟩; have HGV8 := Aside0.mk hgv; have HRP8 := Aside0.mk hrp; have HR8 := Aside0.mk (row_tc HR7.out htc); have HX8 := Aside0.mk (htc.blk _ _ HX7.out (by simp [isSD, isWD, isDisk, isT, isSM])); have y18 : w8.cell? ⟨wr.heap.size, 1, none⟩ = some (.slice A1' x.l.length c1') := (by unfold World.cell?; rw [HX8.out]; rfl); clear htc hgv hrp)
          | (go_at_call 44; (with_reducible refine (happen_refn w8 w1.heap.size A n c X A1' x.l.length c1' xs HR8.out HGV8.out.low.size (Kd.C_below HXS.out (HB1.out.trans (HGV8.out.low.mono HB1.out.size))) (by have := HXL.out; have := HF8.out; have := HXSL.out; omega)).mono ?_); rintro e w9 ⟨A9, n9, c9, rfl, hr, hb⟩; have HR9 := Aside0.mk hr; have HGV9 := Aside0.mk (HGV8.out.fresh hb); clear hr hb))
        obtain ⟨gq, rfl⟩ : ∃ gq, gk = gq + 1 := ⟨gk - 1, by omega⟩
        go_roundg gq
        case rel => exact ⟨i + 1, vc8, vs8, D8, S8, g8, t8, rs8, happR X xs, A9, n9, c9, by go_num, rfl, ⟨by omega⟩, HGV9, HR9, ⟨by rw [HRP8.out, happR_map (by rw [HXR.out]; exact replay_sl rs), HXM.out, HXR.out]⟩, ⟨happR_all xs X (fun p hp => (HXSF.out p hp).kv) HXF.out⟩⟩
        case measure => omega
    · have hi0 := HI.out
      obtain rfl : gk = 0 := by omega
      obtain rfl : i = l.length := by omega
      clear hi0
      have hm3 : ¬ ((l.length : Int) < (l.length : Int)) := by omega
      have hi11 : l.length ≤ 11 := by omega
      obtain ⟨D2, code, hcr, hcall⟩ := armed_put (w0 := w1) HGV.out.gi HM8.out HMF.out hi11 arm keep
      have HCALL := Aside0.mk hcall
      have HLEN := Aside0.mk hcr.len
      obtain ⟨rs5, S5, g5, h5, t5, hi5, hne5, hok5, hres⟩ := hcr.got
      have HFN := Aside0.mk (show (∀ p ∈ hapL (replay rs) m, FewP p) ∧ (hapL (replay rs) m).length ≤ 200 from ⟨few_hap HMF.out HGV.out.gi.few, by have h1 := HGV.out.gi.len; have h2 := hapL_length (replay rs) m; have h3 := HM8.out; omega⟩)
      have HFO := Aside0.mk (show (∀ p ∈ replay rs, FewP p) ∧ (replay rs).length ≤ 200 from ⟨HGV.out.gi.few, by have := HGV.out.gi.len; omega⟩)
      have HF5 := Aside0.mk (show (∀ p ∈ replay rs5, FewP p) ∧ (replay rs5).length ≤ 200 from by
        rcases hres with h | ⟨_, h⟩
        · rw [h]; exact HFN.out
        · rw [h]; exact HFO.out)
      have HI5 := Aside0.mk hi5
      have HNE5 := Aside0.mk hne5
      have HOK5 := Aside0.mk hok5
      have HRES := Aside0.mk hres
      obtain ⟨D5, hD5⟩ : ∃ D5, crashP D2 keep = D5 := ⟨_, rfl⟩
      rw [hD5] at HI5
      have HD5 := Aside0.mk hD5
      obtain ⟨xm, hxm, hxC, hxF⟩ := raw_of HC1.out
      rw [show xm.length = m.length by rw [← hxm, List.length_map]] at hxC
      have HXMC := Aside0.mk hxC
      have HXML := Aside0.mk (show xm.length ≤ 8 from by have h := HM8.out; rw [← hxm, List.length_map] at h; exact h)
      have HNF := Aside0.mk (show ∀ x ∈ happR X xm, FarV w x from happR_all xm X (fun p hp => (hxF p hp).kv) HXF.out)
      have HNR := Aside0.mk (show (happR X xm).map (·.1) = hapL (replay rs) m from by rw [happR_map (by rw [HXR.out]; exact replay_sl rs), hxm, HXR.out])
      clear hxm hxC hxF
      clear hcr hcall hi5 hne5 hok5 hres hD5 hi11
      go_wp2_with (first
        | (go_at_call 21; (with_reducible refine (arm_wv arm HARM.out HGV.out.sv.wv).mono ?_); rintro e wa ⟨rfl, htc, vca, hv⟩; have HSVA := Aside0.mk (HGV.out.sv.wal htc hv); have HRA := Aside0.mk (row_tc (Mv := Mv) HR.out (htc.mono fun _ _ h => .inl h)); have HLA := Aside0.mk (HGV.out.low.trans htc.low); clear htc hv)
        | (go_at_call 39; (with_reducible refine (HCALL.out wa Sb Wb B M Bd Mv vca vs A1 c1 HSVA.out HCM1.out (fun W htc => Kd.C_below HC1.out (HB1.out.trans ((HLA.out.trans htc.low).mono HB1.out.size)))).mono ?_); rintro e wb0 ⟨rfl, htc, vcb, hd⟩; have HDB0 := Aside0.mk hd; have HRB0 := Aside0.mk (row_tc HRA.out htc); have HLB0 := Aside0.mk (HLA.out.trans htc.low); clear htc hd)
        | (go_at_call 44; (with_reducible refine (happen_refn wb0 w1.heap.size A n c X A1 m.length c1 xm HRB0.out HLB0.out.size (Kd.C_below HXMC.out (HB1.out.trans (HLB0.out.mono HB1.out.size))) (by have := HXL.out; have := HXML.out; omega)).mono ?_); rintro e wb ⟨A9, n9, c9, rfl, hr, hb⟩; have HRN := Aside0.mk hr; have HRB := Aside0.mk (Kd.R_below HRB0.out hb); have HDB := Aside0.mk (HDB0.out.chg (.of_below hb)); have HLB := Aside0.mk (HLB0.out.trans (hb.mono HLB0.out.size)); clear hr hb)
        | (go_at_call 23; (with_reducible refine (crash_dk A4 c4 keep HD5.out (Nat.le_trans HLEN.out (by decide)) (fun w' hc => Kd.C_below HC4.out (HB1.out.trans ((HLB.out.trans hc.low).mono HB1.out.size))) HDB.out).mono ?_); rintro e wc ⟨rfl, htc, vcc, hd⟩; have HDC := Aside0.mk hd; have HRC := Aside0.mk (row_tc (Mv := Mv) HRB.out (htc.mono fun _ _ h => .inl (.inl h))); have HRNC := Aside0.mk (row_tc (Mv := Mv) HRN.out (htc.mono fun _ _ h => .inl (.inl h))); have HLC := Aside0.mk (HLB.out.trans htc.low); clear htc hd)
        | (go_at_call 38; (with_reducible refine (sopen_calls (n0 := w1.heap.size) rs5 HI5.out HNE5.out HOK5.out HDC.out).mono ?_); rintro e wd ⟨Sd, Wd, Md, vsd, rfl, hsv, hb⟩; have HSVD := Aside0.mk hsv; have HRD := Aside0.mk (Kd.R_below HRC.out hb); have HRND := Aside0.mk (Kd.R_below HRNC.out hb); have HLD := Aside0.mk (HLC.out.trans (hb.mono HLC.out.size)); clear hsv hb)
        | (go_at_call 41; (with_reducible refine (keysf_calls _ (some ⟨Sd, 0, none⟩) ⟨#[]⟩).mono ?_); rintro e w10 ⟨rfl, rfl⟩))
      obtain ⟨We, hWe⟩ : ∃ We, ((wd.alloc (.cells #[.slice none 0 0] 57)).alloc (.cells #[.pointer (some ⟨Sd, 0, none⟩)] 71)).alloc (.cells #[.string ⟨#[]⟩] 9) = We := ⟨_, rfl⟩
      rw [hWe]
      have hBe : Below wd.heap.size wd We := by rw [← hWe]; exact (((Below.refl wd.heap.size wd).alloc (Nat.le_refl _) _).alloc (by simp) _).alloc (by simp; omega) _
      have HBE := Aside0.mk hBe
      have HBX := Aside0.mk (show Boxed We wd.heap.size 57 (.slice none 0 0) from by
        rw [← hWe]
        show _ = _
        rw [Below.heap_alloc _ _ _ (by simp; omega), Below.heap_alloc _ _ _ (by simp)]
        exact heap_alloc_new wd _)
      have HX1 := Aside0.mk (show We.heap[wd.heap.size + 1]? = some (.cells #[.pointer (some ⟨Sd, 0, none⟩)] 71 (0, 0)) from by
        rw [← hWe, Below.heap_alloc _ _ _ (by simp)]
        have h := heap_alloc_new (wd.alloc (.cells #[.slice none 0 0] 57)) (.cells #[.pointer (some ⟨Sd, 0, none⟩)] 71)
        rwa [alloc_size] at h)
      have HX2 := Aside0.mk (show We.heap[wd.heap.size + 1 + 1]? = some (.cells #[.string ⟨#[]⟩] 9 (0, 0)) from by
        rw [← hWe]
        have h := heap_alloc_new ((wd.alloc (.cells #[.slice none 0 0] 57)).alloc (.cells #[.pointer (some ⟨Sd, 0, none⟩)] 71)) (.cells #[.string ⟨#[]⟩] 9)
        rwa [alloc_size, alloc_size] at h)
      have HM1 := Aside0.mk (HSVD.out.mv.below hBe)
      have HSB1 := Aside0.mk ((hBe.block _ (Array.getElem?_eq_some_iff.1 HSVD.out.blk).1).trans HSVD.out.blk)
      clear hWe hBe
      obtain ⟨i0, hi, hz0, hz1, hz2⟩ := info66c
      have HI0 := Aside0.mk (And.intro hi (And.intro hz0 (And.intro hz1 hz2)))
      clear hi hz0 hz1 hz2
      have HPL := Aside0.mk (kpre_nil (replay rs5))
      refine range_okv (n := 9) (r := 22) (s := 23) (by omega) rfl (enters_of Tryz.func87 (by kernel_rfl) rfl)
        (keys_ok 8 (by omega) (wd.heap.size + 1) Sd Md w1.heap.size wd.heap.size (itB itPut) We HX1.out HX2.out HSB1.out HM1.out (fun p hp => by have := HF5.out.1 p hp; exact ⟨Nat.le_trans this.1 (by decide), Nat.le_trans this.2.1 (by decide)⟩) (Nat.le_trans HF5.out.2 (by decide)) (by decide) HBE.out.size)
        (fun h k => h.trans k) (fun W l r o' _ ho => tc_loop W l r o' ho) (fun pre x A B row h hg hr => ⟨h.1, bv_own h.2 hg hr⟩) kall_own ksome_own (RowI wd.heap.size wd.heap.size wd) (fun _ _ _ => False) (rowI_own (Nat.le_refl _) HBE.out.size) (fun c s A B row h _ _ => h) ?h0 ?hassign ?hbody ?hdone ?hstop
      case h0 => exact ⟨⟨_, HBX.out, ⟨rfl, .inl ⟨rfl, rfl⟩⟩, trivial⟩, HBE.out⟩
      case hassign =>
        intro l x W K hK
        gi_wp2
        exact hK
      case hbody =>
        rintro l' pre ⟨p, u⟩ W hwl hrc ⟨⟨v, hbx, hrow, _⟩, hb⟩ ⟨hpre, hbv⟩
        rw [HPL.out] at hpre
        have hlen : pre.length + 1 ≤ 100000 := by
          have h := hpre.length_le
          simp only [List.length_append, List.length_map, List.length_singleton] at h
          exact Nat.le_trans h (Nat.le_trans HF5.out.2 (by decide))
        have hp2 : p.f2 = false := HM1.out.2.1.here p (hpre.subset (by simp))
        have hc3 := hbx.cell
        have hf3 := hbx.frozen
        have HROW := Aside0.mk hrow
        have HBXW := Aside0.mk hbx
        have HBW' := Aside0.mk hb
        have HBV := Aside0.mk (show BV W wd.heap.size u p.f1 from hbv)
        have HP2 := Aside0.mk hp2
        simp only at hbv
        obtain ⟨A5, c5, rfl, _⟩ := hbv
        have HH1 := Aside0.mk (show pre.length + 1 ≤ maxLen from Nat.le_trans hlen (by decide))
        have HH2 := Aside0.mk (show (pre.length + 1) * 48 ≤ 140737488355328 from by omega)
        clear hbx hrow hb hpre hp2 hlen
        simp only [List.setIfInBounds_toArray, List.set_cons_succ, List.set_cons_zero]
        gi_wp2_with (first
          | (gi_at_builtin; refine wpListIn_append_own _ rfl (.tmp 97) (.tmp 101) 57 rfl wd.heap.size 66 i0 (.agg #[.string ⟨#[]⟩, .slice none 0 0, .bool false]) 3 48 Tryz.underlying57 HI0.out.1 HI0.out.2.1 HI0.out.2.2.1 HI0.out.2.2.2 rfl (by decide) v pre.length (rawL pre) rfl (HROW.out.alloc _) ⟨W.heap.size, 0, none⟩ 1 1 [.string p.f0, .slice A5 p.f1.length c5, .bool false] rfl rfl ?c1 ?c2 HH1.out HH2.out ?c5 ?_))
        case c1 => simpa using World.news_of_block (cs := #[.string p.f0, .slice A5 p.f1.length c5, .bool false]) (t := 66) (fr := (0, 0)) (heap_alloc_new W (.cells #[.string p.f0, .slice A5 p.f1.length c5, .bool false] 66))
        case c2 => intro z hz; simp at hz; rcases hz with rfl | rfl | rfl <;> rfl
        case c5 => rw [alloc_size]; exact Nat.le_succ_of_le HBW'.out.size
        intro v2 W2 hrow2 hg2 _
        obtain ⟨A2, c2, rfl⟩ := row_shape hrow2
        have hraw : rawC (p, .slice A5 p.f1.length c5) = [.string p.f0, .slice A5 p.f1.length c5, .bool false] := by unfold rawC; rw [HP2.out]
        obtain ⟨hri, htc⟩ := rowI_step (x := (p, .slice A5 p.f1.length c5)) HBXW.out HROW.out HBW'.out (Nat.le_refl _) (Nat.le_refl _) (by rw [hraw]; exact hg2) (by rw [hraw]; exact hrow2)
        have hne : some wd.heap.size ≠ v.ownBlock := fun e => by
          obtain ⟨cells, hc⟩ := own_typed HROW.out wd.heap.size e.symm
          rw [show W.heap[wd.heap.size]? = _ from HBXW.out] at hc
          simp at hc
        have hbx2 : Boxed W2 wd.heap.size 57 v := (HBXW.out.alloc _).kept hg2 hne
        have hc4 := hbx2.cell
        have hf4 := hbx2.frozen
        have HRI := Aside0.mk hri
        have HTC := Aside0.mk htc
        clear hri htc hbx2 hrow2 hg2 hne hraw
        gi_wp2
        exact ⟨tc_keepsFrom HTC.out, HTC.out.mono (fun _ _ h => .inl h), HRI.out⟩
      case hdone =>
        rintro D xs W hwD ⟨hxs, hbv⟩ ⟨⟨v, hbx, hrow, _⟩, hb⟩ hmark
        rw [HPL.out] at hxs
        have hlen : xs.length = (replay rs5).length := by rw [← hxs, List.length_map]
        obtain ⟨A7, c7, rfl, hcap, hC⟩ := raw_C hrow hbv (by rw [hlen]; exact Nat.le_trans HF5.out.2 (by decide))
        rw [hxs] at hC
        have hc3 := hbx.cell
        have HLW := Aside0.mk (show Below w.heap.size w W from HB1.out.trans ((HLD.out.trans (hb.mono HLD.out.size)).mono HB1.out.size))
        have HCN := Aside0.mk (show k66.C W A9 n9 (hapL (replay rs) m) from by
          obtain ⟨e, _, h⟩ := Kd.R_reads' (Kd.R_below HRND.out hb)
          rw [e]
          have := raw_to h HNF.out HLW.out
          rwa [HNR.out] at this)
        have HCO := Aside0.mk (show k66.C W A n (replay rs) from by
          obtain ⟨e, _, h⟩ := Kd.R_reads' (Kd.R_below HRD.out hb)
          rw [e]
          have := raw_to h HXF.out HLW.out
          rwa [HXR.out] at this)
        have HCX := Aside0.mk hC
        have HMK := Aside0.mk hmark
        have HWD := Aside0.mk (Nat.le_trans (Nat.le_trans HLD.out.size HBE.out.size) hwD)
        have HDW := Aside0.mk (show D < W.heap.size from (Array.getElem?_eq_some_iff.1 hmark).1)
        clear hxs hbv hbx hrow hb hmark hcap hC hwD hlen
        by_cases heq : replay rs5 = hapL (replay rs) m
        · have hsm := fun k => sameputs_d W A7 A9 xs.length n9 c7 k (replay rs5) (hapL (replay rs) m) HCX.out HCN.out (fun p hp => (HF5.out.1 p hp).2.2) (fun p hp => (HFN.out.1 p hp).2.2) true (by rw [heq]; simp)
          have HSM := Aside0.mk hsm
          clear hsm heq
          go_wp2_with (first
            | (go_at_call 36; (with_reducible refine (HSM.out _).mono ?_); rintro e wf ⟨rfl, hb⟩; have HBF := Aside0.mk hb; clear hb))
          have hm7 := (HBF.out.block _ HDW.out).trans HMK.out
          exact leave_one hm7 (results_tmp rfl _ _ _) ⟨rfl, below_shut (HLW.out.trans (HBF.out.mono HLW.out.size)) (Nat.le_refl _) (Nat.le_trans HB1.out.size HWD.out)⟩
        · have hq : code ≠ 0 ∧ replay rs5 = replay rs := HRES.out.resolve_left heq
          have hcd : (code == 0) = false := by simpa using hq.1
          have hcd2 : (code != 0) = true := by simpa using hq.1
          have HSM := Aside0.mk (fun k => sameputs_d W A7 A9 xs.length n9 c7 k (replay rs5) (hapL (replay rs) m) HCX.out HCN.out (fun p hp => (HF5.out.1 p hp).2.2) (fun p hp => (HFN.out.1 p hp).2.2) false (by simp [heq]))
          have HSM2 := Aside0.mk (fun (W' : World) (hb : Below W.heap.size W W') k => sameputs_d W' A7 A xs.length n c7 k (replay rs5) (replay rs) (Kd.C_below HCX.out hb) (Kd.C_below HCO.out hb) (fun p hp => (HF5.out.1 p hp).2.2) (fun p hp => (HFO.out.1 p hp).2.2) true (by rw [hq.2]; simp))
          have HBXC := Aside0.mk hc3
          clear heq hq
          go_wp2_with (first
            | (go_at_call 36; (with_reducible refine (HSM.out _).mono ?_); rintro e wf ⟨rfl, hb⟩; have HBF := Aside0.mk hb; have hc5 := (hb.cell (World.block_lt_of_cell? W _ HBXC.out)).trans HBXC.out; clear hb)
            | (go_at_call 36; (with_reducible refine (HSM2.out wf HBF.out _).mono ?_); rintro e wg ⟨rfl, hb⟩; have HBG := Aside0.mk (HBF.out.trans (hb.mono HBF.out.size)); clear hb))
          have hm7 := (HBG.out.block _ HDW.out).trans HMK.out
          exact leave_one hm7 (results_tmp rfl _ _ _) ⟨rfl, below_shut (HLW.out.trans (HBG.out.mono HLW.out.size)) (Nat.le_refl _) (Nat.le_trans HB1.out.size HWD.out)⟩
      case hstop => exact fun D c pre W _ _ h _ => h.elim
end Go.Proofs.YtlepcmljmibdnaaGreat
namespace Go.Proofs.YtlepcmljmibdnaaGreat
open Go.RowKit Go.Proofs.YtlepcmljmibdnaaGreatW.PrintWords Go.Proofs.YtlepcmljmibdnaaGreatW.PrintLast Go.Proofs.YtlepcmljmibdnaaGreatW.PrintMore PWalOpens
open PStoreRecords (S66 k66 rd_T66 at_T66 z66)
set_option linter.unusedVariables false
set_option linter.unusedSimpArgs false
attribute [local go_sem] Oper.semAt_some
set_option maxRecDepth 100000 in
set_option maxHeartbeats 4000000 in
theorem keeps_out (A0 : Option Addr) (n0 c0 : Nat) (A1 : Option Addr) (c1 : Nat) (m : List S66) (compact : Bool) (arm : Int) (A4 : Option Addr) (n4 c4 : Nat) (w : World) (r : Bool) (hn0 : n0 ≤ 9223372036854775807) (hn4 : n4 ≤ 9223372036854775807) (hC1 : k66.C w A1 m.length m) (hc1 : m.length ≤ c1) (hfm : PStoreRecords.factotumlaw08_Few.f (m.length + 1) m = some r) (h : (10 : Int) < (n0 : Int) ∨ r = false ∨ (60 : Int) < (n4 : Int)) :
    Calls Tryz.prog 6 #[.slice A0 n0 c0, .slice A1 m.length c1, .bool compact, .int .i64 arm, .slice A4 n4 c4] w fun e w' => e = .returned (.bool true) ∧ Below w.heap.size w w' := by
  refine (callsIn_wide (n := 9)).1 ?_
  obtain ⟨g1, h1⟩ : ∃ g1, decide ((10 : Int) < (n0 : Int)) = g1 := ⟨_, rfl⟩
  obtain ⟨g3, h3⟩ : ∃ g3, decide ((60 : Int) < (n4 : Int)) = g3 := ⟨_, rfl⟩
  have hg : (g1 || !r || g3) = true := by
    subst h1 h3
    rcases h with h | h | h <;> simp [h]
  have HFM := Aside0.mk (fun (W : World) (hb : Below w.heap.size w W) => few8_at A1 c1 m r hc1 hC1 hfm W hb)
  clear h hC1 hc1 hfm
  refine callsIn_of_wp_marks Tryz.func6 rfl trivial ?_ rfl
  simp only [Tryz.ntmps6, List.size_toArray, List.length_cons, List.length_nil, Nat.reduceAdd, Nat.reduceSub, Array.replicate_succ, Array.replicate_zero, List.push_toArray, List.append_toArray, List.nil_append, List.cons_append]
  refine wpIn_wide.2 ?_
  cases g1 with
  | true =>
    go_wp2_with (first
      | (go_at_call 30; (with_reducible refine (awake8 w).mono ?_); rintro e w0 ⟨rfl, hb⟩; have HB0 := Aside0.mk hb; clear hb))
    exact ⟨_, results_tmp rfl _ _ _, rfl, HB0.out⟩
  | false =>
    cases r with
    | false =>
      go_wp2_with (first
        | (go_at_call 30; (with_reducible refine (awake8 w).mono ?_); rintro e w0 ⟨rfl, hb⟩; have HB0 := Aside0.mk hb; clear hb)
        | (go_at_call 31; (with_reducible refine (HFM.out w0 HB0.out).mono ?_); rintro e w1 ⟨rfl, hb⟩; have HB1 := Aside0.mk (HB0.out.trans (hb.mono HB0.out.size)); clear hb))
      exact ⟨_, results_tmp rfl _ _ _, rfl, HB1.out⟩
    | true =>
      cases g3 with
      | true =>
        go_wp2_with (first
          | (go_at_call 30; (with_reducible refine (awake8 w).mono ?_); rintro e w0 ⟨rfl, hb⟩; have HB0 := Aside0.mk hb; clear hb)
          | (go_at_call 31; (with_reducible refine (HFM.out w0 HB0.out).mono ?_); rintro e w1 ⟨rfl, hb⟩; have HB1 := Aside0.mk (HB0.out.trans (hb.mono HB0.out.size)); clear hb))
        exact ⟨_, results_tmp rfl _ _ _, rfl, HB1.out⟩
      | false => simp at hg
theorem keeps_walk (A0 : Option Addr) (c0 : Nat) (l : List SDeed) (A1 : Option Addr) (c1 : Nat) (m : List S66) (compact : Bool) (arm : Int) (A4 : Option Addr) (c4 : Nat) (keep : List Bool) (w : World) (hC0 : kE.C w A0 l.length l) (hC1 : k66.C w A1 m.length m) (hC4 : Kd.bool.C w A4 keep.length keep) (hc1 : m.length ≤ c1)
    (hbl : ∀ x ∈ l, ∀ p ∈ x.l, isBytes p.f1) (hbm : ∀ p ∈ m, isBytes p.f1) (harm : -9223372036854775808 ≤ arm ∧ arm ≤ 9223372036854775807) :
    Calls Tryz.prog 6 #[.slice A0 l.length c0, .slice A1 m.length c1, .bool compact, .int .i64 arm, .slice A4 keep.length c4] w fun e w' => e = .returned (.bool true) ∧ Below w.heap.size w w' := by
  obtain ⟨r, hfm, hr⟩ := few8_f m hC1.2.1
  by_cases h : l.length ≤ 10 ∧ r = true ∧ keep.length ≤ 60
  · obtain ⟨h1, rfl, h3⟩ := h
    obtain ⟨f1, f2⟩ := hr rfl
    have hmf : ∀ p ∈ m, FewP p := fun p hp => ⟨(f2 p hp).1, (f2 p hp).2, hbm p hp⟩
    cases compact with
    | true => exact keeps_compact A0 c0 l A1 c1 m arm A4 c4 keep w hC0 hC1 hC4 hc1 hbl harm h1 h3 hfm f1 hmf
    | false => exact keeps_commit A0 c0 l A1 c1 m arm A4 c4 keep w hC0 hC1 hC4 hc1 hbl harm h1 h3 hfm f1 hmf
  · exact keeps_out A0 l.length c0 A1 c1 m compact arm A4 keep.length c4 w r hC0.2.1 hC4.2.1 hC1 hc1 hfm (by
      cases r with
      | false => exact .inr (.inl rfl)
      | true => simp at h; omega)
end Go.Proofs.YtlepcmljmibdnaaGreat
