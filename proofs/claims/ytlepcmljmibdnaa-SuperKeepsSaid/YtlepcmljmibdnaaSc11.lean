/- Parts of one proof, joined: Rj, Cr, Bt, Sr, Fo. Conditions: those of each statement. -/
import Derived.Test.YtlepcmljmibdnaaSc10
import Derived.Test.YtlepcmljmibdnaaSc9
namespace Go.Proofs.Ytlepcmljmibdnaa
open Go.RowKit Go.Proofs.YtlepcmljmibdnaaW.PrintWords Go.Proofs.YtlepcmljmibdnaaW.PrintLast Go.Proofs.YtlepcmljmibdnaaW.PrintMore PDiskArms
set_option linter.unusedVariables false
set_option linter.unusedSimpArgs false
theorem row_cells {w : World} {g t : Nat} {cs : Array Value} {fr : Nat × Nat} (h : w.heap[g]? = some (.cells cs t fr)) (j : Nat) (u : Value) (hu : cs.toList[j]? = some u) : w.cell? ((⟨g, 0, none⟩ : Addr).add j) = some u := by
  have e : (⟨g, 0, none⟩ : Addr).add j = ⟨g, j, none⟩ := by unfold Addr.add; split <;> simp_all
  rw [e]
  unfold World.cell?
  rw [h]
  simpa using hu
theorem only_setRow (w : World) (B : Nat) (cs : Array Value) : Only w (w.setRow B cs) B :=
  ⟨rfl, rfl, rfl, by rw [size_setRow]; exact Nat.le_refl _, fun k hk => setRow_other _ _ _ _ hk⟩
theorem wiped {w : World} {base b2 B B2 N : Nat} {vS vC vB vS2 vB2 : Value} {X : RX} (h : RM w base B vS vC vB X) (h2 : RM w b2 B2 vS2 (.slice none 0 0) vB2 (rnewX N)) (hb : base ≤ b2) :
    RM (w.setRow B #[vS2, .slice none 0 0, vB2, .int .i64 (-1), .bool false]) base B vS2 (.slice none 0 0) vB2 (rnewX N) ∧ TC base isRef w (w.setRow B #[vS2, .slice none 0 0, vB2, .int .i64 (-1), .bool false]) := by
  have ho := only_setRow w B #[vS2, .slice none 0 0, vB2, .int .i64 (-1), .bool false]
  have hc : Chg w (w.setRow B #[vS2, .slice none 0 0, vB2, .int .i64 (-1), .bool false]) (fun k => k = B) := ho.chg fun _ h => h
  have hs : ∀ k, k = B → k < w.heap.size → ∃ t cells, w.heap[k]? = some (.cells cells t (0, 0)) ∧ t = 53 := fun k hk _ => by subst hk; exact ⟨_, _, h.blk, rfl⟩
  refine ⟨⟨setRow_heap _ _ _ _ _ _ h.blk, Kd.R_lower (R_types_chg h2.S hc fun k hk hl => ?_) hb, Kd.R_nil _ _ _ _ _, Kd.R_lower (R_types_chg h2.bad hc fun k hk hl => ?_) hb, h.hB⟩, .of_chg hc h.base_le fun k hk _ => ?_⟩
  · obtain ⟨t, c, h1, rfl⟩ := hs k hk hl
    exact ⟨_, c, h1, fun q hq => by rcases q29 q hq with h | h <;> simp [h]⟩
  · obtain ⟨t, c, h1, rfl⟩ := hs k hk hl
    exact ⟨_, c, h1, fun q hq => by simp [q4 q hq]⟩
  · subst hk
    exact ⟨h.hB, _, h.blk, isRef53 _⟩
theorem newN_of (m : Nat) (h : m ≤ 4096) : rnewN (m : Int) = m := by unfold rnewN; omega
theorem rnew_at (w : World) (m : Nat) (hm : rnewN (m : Int) = m) : Calls Try.prog 25 #[.int .i64 (m : Int)] w fun e w' => ∃ B vS vB, e = .returned (.pointer (some ⟨B, 0, none⟩)) ∧ RM w' w.heap.size B vS (.slice none 0 0) vB (rnewX m) ∧ Below w.heap.size w w' := by
  have := rnew_calls w (m : Int)
  rw [hm] at this
  exact this
def rwipeX (X : RX) : RX := rnewX X.S.length
theorem rwipe_calls (w : World) (base B : Nat) (vS vC vB : Value) (X : RX) (h : RK w base B vS vC vB X) :
    Calls Try.prog 34 #[.pointer (some ⟨B, 0, none⟩)] w fun e w' => e = .returned (.tuple #[]) ∧ TC base isRef w w' ∧ ∃ vS' vB', RK w' base B vS' (.slice none 0 0) vB' (rwipeX X) := by
  have HR := Aside0.mk h
  have q0 := (cells5 h.blk).1.1
  obtain ⟨A, c, hv⟩ := Kd.R_slice h.S
  subst hv
  have HN := Aside0.mk (newN_of X.S.length h.ok.hn)
  clear h
  go_enter Try.func34, Try.ntmps34
  go_wp2_with (first
    | (go_at_call 25; with_reducible refine (rnew_at w X.S.length HN.out).mono ?_; rintro e w1 ⟨B2, vS2, vB2, rfl, hr, hb⟩; obtain ⟨A2, c2, hv2⟩ := Kd.R_slice hr.S; obtain ⟨A3, c3, hv3⟩ := Kd.R_slice hr.bad; generalize (rnewX X.S.length).S.length = n2 at hv2; generalize (rnewX X.S.length).bad.length = n3 at hv3; subst hv2; subst hv3; have HR2 := Aside0.mk hr; have HB2 := Aside0.mk hb; have HR1 := Aside0.mk (HR.out.fresh hb); clear hr hb)
    | ((with_reducible refine gate_ (.load 53 (.tmp 9)) rfl ?_); refine Kd.event_run rfl (Arr.ex_load rfl (ad := ⟨B2, 0, none⟩) rfl (by kernel_rfl) (seg := [.slice A2 n2 c2, .slice none 0 0, .slice A3 n3 c3, .int .i64 (-1), .bool false]) (by kernel_rfl) (row_cells HR2.out.blk)) ?_; simp only [Act.put, List.setIfInBounds_toArray, List.set_cons_succ, List.set_cons_zero])
    | ((with_reducible refine gate_ (.store 53 (.tmp 11) (.tmp 10)) rfl ?_); refine Arr.skip_run rfl (Arr.ex_store rfl rfl rfl (seg := [.slice A2 n2 c2, .slice none 0 0, .slice A3 n3 c3, .int .i64 (-1), .bool false]) rfl (by kernel_rfl) HR1.out.blk (by simp) (by simp [Value.oneCell'])) ?_; simp only [Act.put, List.setIfInBounds_toArray, List.set_cons_succ, List.set_cons_zero]))
  go_end0
  obtain ⟨k1, k2⟩ := wiped HR1.out.toRM HR2.out (Nat.le_trans HR.out.base_le (Nat.le_refl _))
  exact ⟨rfl, (TC.of_below HB2.out HR.out.base_le).trans k2, _, _, k1, rnew_ok _ HR.out.ok.hn⟩
def rcloneX (X : RX) : RX := { rnewX X.S.length with S := X.S }
def RCloneP (w : World) (X : RX) (e : Ending) (w' : World) : Prop := ∃ B' vS' vB', e = .returned (.pointer (some ⟨B', 0, none⟩)) ∧ RK w' w.heap.size B' vS' (.slice none 0 0) vB' (rcloneX X) ∧ Below w.heap.size w w'
def half (S : List (List Int)) (i : Nat) : List (List Int) := S.take i ++ List.replicate (S.length - i) zsec
theorem half_len (S : List (List Int)) (i : Nat) (h : i ≤ S.length) : (half S i).length = S.length := by simp [half]; omega
theorem half_succ (S : List (List Int)) (i : Nat) (s : List Int) (h : S[i]? = some s) : (half S i).set i s = half S (i + 1) := by
  have hl : i < S.length := (List.getElem?_eq_some_iff.1 h).1
  unfold half
  rw [List.take_add_one, h]
  have e : S.length - i = (S.length - (i + 1)) + 1 := by omega
  have hli : (S.take i).length = i := by rw [List.length_take]; omega
  rw [e, List.replicate_succ, List.set_append_right (h := by omega), hli, Nat.sub_self]
  simp
theorem half_all (S : List (List Int)) : half S S.length = S := by simp [half]
theorem half_none (S : List (List Int)) : half S 0 = (rnewX S.length).S := by simp [half, rnewX]
set_option maxHeartbeats 2000000 in
theorem rclone_calls (w : World) (base B : Nat) (vS vC vB : Value) (X : RX) (h : RK w base B vS vC vB X) :
    Calls Try.prog 35 #[.pointer (some ⟨B, 0, none⟩)] w (RCloneP w X) := by
  have HR := Aside0.mk h
  have q0 := (cells5 h.blk).1.1
  obtain ⟨A, c, hv⟩ := Kd.R_slice h.S
  subst hv
  have HN := Aside0.mk (newN_of X.S.length h.ok.hn)
  have hm4 := h.ok.hn
  clear h
  go_enter Try.func35, Try.ntmps35
  go_wp2_with (first | (go_at_call 25; with_reducible refine (rnew_at w X.S.length HN.out).mono ?_; rintro e w1 ⟨B2, vS2, vB2, rfl, hr, hb⟩; have HR2 := Aside0.mk hr; have HB2 := Aside0.mk hb; have q1 := (cells5 (HR.out.fresh hb).blk).1.1; clear hr hb))
  clear q0 q1
  go_loopg [16] X.S.length (fun kq v16 w' => ∃ (i : Nat), v16 = .int .i64 (i : Int) ∧ Aside0 (i + kq = X.S.length) ∧ Aside0 (RM w' w.heap.size B2 vS2 (.slice none 0 0) vB2 { rnewX X.S.length with S := half X.S i }) ∧ Aside0 (Below w.heap.size w w'))
  case atStart => exact ⟨0, rfl, ⟨by omega⟩, ⟨by rw [half_none]; exact HR2.out⟩, HB2⟩
  case round =>
    obtain ⟨i, rfl, HI, HRi, HBi⟩ := hrel
    by_cases hi : i < X.S.length
    · obtain ⟨s, hs⟩ : ∃ s, X.S[i]? = some s := ⟨_, List.getElem?_eq_getElem hi⟩
      have HO := HR.out.fresh HBi.out
      obtain ⟨gs, cs, As, cis, hvs, z0, _, hM0⟩ := rs_at HO.toRM i s hs
      injection hvs with hv1 hv2 hv3
      subst hv1
      subst hv3
      have HC0 : Aside0 ((Kd.int .u8).C wr As s.length s) := ⟨by obtain ⟨v, hv, hR⟩ := hM0; obtain rfl := List.head_eq_of_cons_eq hv; exact (Kd.R_reads' hR).2.2⟩
      have hh : i < (half X.S i).length := by rw [half_len _ _ (by omega)]; exact hi
      obtain ⟨s2, hs2⟩ : ∃ s2, (half X.S i)[i]? = some s2 := ⟨_, List.getElem?_eq_getElem hh⟩
      obtain ⟨g2, c2, A2, ci2, hvs2, y0, yf, _⟩ := rs_at HRi.out i s2 hs2
      subst hvs2
      have HHL := Aside0.mk (half_len X.S i (by omega))
      have hil : (i : Int) < ((half X.S i).length : Int) := by omega
      have hil2 : (i : Int) < (X.S.length : Int) := by omega
      have HS := Aside0.mk hs
      have HHI := Aside0.mk hh
      have H64 := Aside0.mk (HR.out.ok.s64 s (List.mem_of_getElem? hs))
      have p0 : wr.drew.cell? ⟨B, 0, none⟩ = some (.slice (some ⟨gs, 0, none⟩) X.S.length c) := (cells5 HO.blk).1.1
      have p1 : wr.drew.cell? ⟨B2, 0, none⟩ = some (.slice (some ⟨g2, 0, none⟩) (half X.S i).length c2) := (cells5 HRi.out.blk).1.1
      have z0' : wr.drew.cell? ⟨gs, i, none⟩ = some (.slice As s.length cis) := z0
      clear hv2 hM0 hs hs2 hh HO z0
      go_wp2
      refine Fork.wp_fork (Fork.Lo.rel 0) [14] [] (.one 0 0 (.one 1 0 (.one 2 0 (.one 4 0 (.one 5 0 (.one 6 0 (.one 7 0 (.one 9 0 (.one 3 1 (.one 8 1 (.one 10 0 (.one 11 1 (.one 12 2 (.one 13 0 (.one 14 2 .nil))))))))))))))) (by kernel_rfl) (by kernel_rfl) ?_
      generalize hops : List.toArray (_ : List Oper) = ops
      have HO := Aside0.mk hops
      clear hops
      iterate 8 ((refine Fork.plain (Fork.at_ HO.out rfl) _ rfl (fun W => by go_simp; exact rfl) ?_); simp only [Act.put, List.setIfInBounds_toArray, List.set_cons_succ, List.set_cons_zero])
      refine Fork.reads (Fork.at_ HO.out rfl) _ rfl (fun W hW => Arr.ex_load1 rfl rfl (by kernel_rfl) (Fork.bel_cell hW (by assumption))) ?_
      simp only [Act.put, List.setIfInBounds_toArray, List.set_cons_succ, List.set_cons_zero]
      refine Fork.reads (Fork.at_ HO.out rfl) _ rfl (fun W hW => Arr.ex_load1 rfl rfl (by kernel_rfl) (Fork.bel_cell hW (by assumption))) ?_
      simp only [Act.put, List.setIfInBounds_toArray, List.set_cons_succ, List.set_cons_zero]
      ((refine Fork.plain (Fork.at_ HO.out rfl) _ rfl (fun W => by go_simp; exact rfl) ?_); simp only [Act.put, List.setIfInBounds_toArray, List.set_cons_succ, List.set_cons_zero])
      refine Fork.reads (Fork.at_ HO.out rfl) _ rfl (fun W hW => Arr.ex_load1 rfl rfl (by kernel_rfl) (Fork.bel_cell hW (by assumption))) ?_
      simp only [Act.put, List.setIfInBounds_toArray, List.set_cons_succ, List.set_cons_zero]
      refine Fork.step (Fork.at_ HO.out rfl) (fun K hK => ?_)
      refine Kd.R_append_rows_step (Kd.int .u8) (w0 := wr.drew) wr.drew.heap.size rfl (.const (.slice none 0 0)) (.tmp 30) 29 5 (.int .u8 0) 1 rfl Try.underlying29 info5e rfl (by decide) (by decide) (.slice none 0 0) [] s As s.length cis (fun _ => True) (fun _ => False) rfl rfl (Kd.R_nil _ _ _ _ _) HC0.out (fun _ _ h => h) (fun _ h => h.elim) (fun _ _ => trivial) (Below.refl _ _) (Nat.le_refl _) (by rw [H64.out]; decide) ?_
      intro v1 w10 ho hb hg hat
      refine hK _ _ (.of_new hb (Nat.zero_le _)) ?_
      clear hK K
      rw [List.nil_append] at ho
      have HR10 := Aside0.mk ho
      have HB10 := Aside0.mk hb
      obtain ⟨A10, c10, hv10⟩ := Kd.R_slice ho
      subst hv10
      have y0' := Fork.bel_cell hb (show wr.drew.cell? ⟨g2, i, none⟩ = _ from y0)
      have yf' := (hb.frozen (p := ⟨g2, i, none⟩) (block_lt_of_cell (show wr.drew.cell? ⟨g2, i, none⟩ = _ from y0))).trans (show wr.drew.frozen? ⟨g2, i, none⟩ = _ from yf)
      clear ho hb hg hat y0 yf
      try simp only [Act.put, List.setIfInBounds_toArray, List.set_cons_succ, List.set_cons_zero]
      ((refine Fork.plain (Fork.at_ HO.out rfl) _ rfl (fun W => by go_simp; exact rfl) ?_); simp only [Act.put, List.setIfInBounds_toArray, List.set_cons_succ, List.set_cons_zero])
      refine Fork.step (Fork.at_ HO.out rfl) (fun K hK => ?_)
      go_simp
      refine hK _ _ (.of_old (.zero rfl rfl rfl) rfl) ?_
      clear hK K
      try simp only [Act.put, List.setIfInBounds_toArray, List.set_cons_succ, List.set_cons_zero]
      refine Fork.done ?_
      have hr2 := (HRi.out.fresh (Below.refl wr.heap.size wr).drew).fresh HB10.out
      obtain ⟨_, cells, hcl⟩ := own_cells hr2.S g2 rfl
      have hM1 : bytesK.M w10 w.heap.size (fun _ => True) s [.slice A10 s.length c10] := ⟨_, rfl, Kd.R_lower HR10.out HBi.out.size⟩
      have hM2 := bytesK.M_mono (ok' := fun k => k ≠ g2) (fun k hk => hk.2) (Kd.M_types hM1 hcl (fun q hq => by rw [show bytesK.E = [5] from rfl] at hq; simp at hq; simp [hq]))
      obtain ⟨k1, k2⟩ := hr2.putS i HHI.out s _ hM2
      have hk1 := HI.out
      obtain ⟨gq, rfl⟩ : ∃ gq, gk = gq + 1 := ⟨gk - 1, by omega⟩
      go_wp2
      go_roundg gq
      case rel => exact ⟨i + 1, by go_num, ⟨by omega⟩, ⟨by rw [half_succ X.S i s HS.out] at k1; exact k1⟩, ⟨HBi.out.trans (((Below.refl wr.heap.size wr).drew.trans HB10.out).mono HBi.out.size |>.trans k2.low)⟩⟩
      case measure => omega
    · have hi0 := HI.out
      obtain rfl : gk = 0 := by omega
      obtain rfl : i = X.S.length := by omega
      clear hi0
      have hm : ¬ ((X.S.length : Int) < (X.S.length : Int)) := by omega
      go_wp2
      go_ret
      have := HRi.out
      rw [half_all] at this
      exact ⟨_, _, _, rfl, ⟨this, ⟨HR.out.ok.s64, fun p hp => (by cases hp), by show (List.replicate _ _).length = _; simp; rfl, ⟨by show (-1 : Int) ≤ -1; omega, by show (-1 : Int) ≤ _; omega⟩, HR.out.ok.hn⟩⟩, HBi.out⟩
end Go.Proofs.Ytlepcmljmibdnaa
namespace Go.Proofs.Ytlepcmljmibdnaa
open Go.RowKit Go.Proofs.YtlepcmljmibdnaaW.PrintWords Go.Proofs.YtlepcmljmibdnaaW.PrintLast Go.Proofs.YtlepcmljmibdnaaW.PrintMore PDiskArms
set_option linter.unusedVariables false
set_option linter.unusedSimpArgs false
structure Corr (D : PD) (X : RX) : Prop where
  n : D.n = X.S.length
  cache : D.cache = X.cache
  dead : D.dead = X.dead
  armed : D.armed = decide (0 ≤ X.left)
  left : 0 ≤ X.left → D.left = X.left
  S : ∀ (i : Nat) s, X.S[i]? = some s → (D.kept i).getD zsec = s
  bad : ∀ (i : Nat) b, X.bad[i]? = some b → D.bad i = b
theorem corr_new (n : Int) : Corr (newP n) (rnewX (rnewN n)) := by
  refine ⟨?_, rfl, rfl, rfl, fun h => ?_, fun i s hs => ?_, fun i b hb => ?_⟩
  · simp only [newP, rnewX, List.length_replicate, rnewN]; omega
  · simp [rnewX] at h
  · simp only [rnewX, List.getElem?_replicate] at hs
    split at hs
    · exact Option.some.inj hs
    · cases hs
  · simp only [rnewX, List.getElem?_replicate] at hb
    split at hb
    · exact Option.some.inj hb
    · cases hb
theorem corr_act {D : PD} {X : RX} (h : Corr D X) : (actP D).2 = (ractX X).2 ∧ Corr (actP D).1 (ractX X).1 := by
  obtain ⟨n, kept, cache, bad, armed, left, dead⟩ := D
  obtain ⟨S, c, b, l, d⟩ := X
  obtain ⟨h1, h2, h3, h4, h5, h6, h7⟩ := h
  simp only at h1 h2 h3 h4 h5 h6 h7
  subst h3
  cases dead with
  | true => simp only [actP, ractX, Bool.true_or, if_true]; exact ⟨by simp, ⟨h1, h2, rfl, h4, h5, h6, h7⟩⟩
  | false =>
    by_cases hl : 0 ≤ l
    · have ha : armed = true := by rw [h4]; simpa using hl
      have := h5 hl
      subst this
      subst ha
      by_cases hz : left = 0
      · subst hz
        simp only [actP, ractX]
        exact ⟨by simp, ⟨h1, h2, rfl, rfl, h5, h6, h7⟩⟩
      · have e1 : actP { n := n, kept := kept, cache := cache, bad := bad, armed := true, left := left, dead := false } = ({ n := n, kept := kept, cache := cache, bad := bad, armed := true, left := left - 1, dead := false }, 0) := by simp [actP, hz]
        have e2 : ractX { S := S, cache := c, bad := b, left := left, dead := false } = ({ S := S, cache := c, bad := b, left := left - 1, dead := false }, 0) := by simp [ractX, hz]; omega
        rw [e1, e2]
        exact ⟨rfl, ⟨h1, h2, rfl, by simp; omega, fun _ => rfl, h6, h7⟩⟩
    · have ha : armed = false := by rw [h4]; simpa using hl
      subst ha
      have e1 : actP { n := n, kept := kept, cache := cache, bad := bad, armed := false, left := left, dead := false } = ({ n := n, kept := kept, cache := cache, bad := bad, armed := false, left := left, dead := false }, 0) := by simp [actP]
      have e2 : ractX { S := S, cache := c, bad := b, left := l, dead := false } = ({ S := S, cache := c, bad := b, left := l, dead := false }, 0) := by
        have : ¬ 0 < l := by omega
        have h0 : ¬ l = 0 := by omega
        simp [ractX, this, h0]
      rw [e1, e2]
      exact ⟨rfl, ⟨h1, h2, rfl, h4, h5, h6, h7⟩⟩
theorem corr_write {D : PD} {X : RX} (h : Corr D X) (at_ : Int) (b : List Int) : (writeP D at_ b).2 = (rwriteX X at_ b).2 ∧ Corr (writeP D at_ b).1 (rwriteX X at_ b).1 := by
  unfold writeP rwriteX
  rw [h.dead, h.n]
  by_cases h1 : X.dead = true
  · rw [if_pos h1, if_pos h1]; exact ⟨rfl, h⟩
  rw [if_neg h1, if_neg h1]
  by_cases h2 : inB at_ X.S.length = false
  · rw [if_pos h2, if_pos h2]; exact ⟨rfl, h⟩
  rw [if_neg h2, if_neg h2]
  by_cases h3 : 64 < b.length
  · rw [if_pos h3, if_pos h3]; exact ⟨rfl, h⟩
  rw [if_neg h3, if_neg h3]
  obtain ⟨k1, k2⟩ := corr_act h
  rw [k1]
  by_cases h4 : (ractX X).2 ≠ 0
  · rw [if_pos h4, if_pos h4]; exact ⟨k1, k2⟩
  · rw [if_neg h4, if_neg h4]
    exact ⟨rfl, ⟨k2.n, by simp only []; rw [k2.cache], k2.dead, k2.armed, k2.left, k2.S, k2.bad⟩⟩
theorem corr_put {D : PD} {S : List (List Int)} (h : ∀ (i : Nat) s, S[i]? = some s → (D.kept i).getD zsec = s) (p : Int × List Int) (hp : 0 ≤ p.1) :
    ∀ (i : Nat) s, (S.set p.1.toNat p.2)[i]? = some s → ((keepP D p).kept i).getD zsec = s := by
  intro i s hs
  rw [keepP_at]
  rw [List.getElem?_set] at hs
  by_cases hi : p.1.toNat = i
  · rw [if_pos hi] at hs
    rw [if_pos (by omega)]
    split at hs
    · exact Option.some.inj hs
    · cases hs
  · rw [if_neg hi] at hs
    rw [if_neg (by omega)]
    exact h i s hs
theorem corr_puts {D : PD} {S : List (List Int)} (l : List (Int × List Int)) (h : ∀ (i : Nat) s, S[i]? = some s → (D.kept i).getD zsec = s) (hl : ∀ p ∈ l, 0 ≤ p.1) :
    ∀ (i : Nat) s, (rputs S l)[i]? = some s → ((keepAll D l).kept i).getD zsec = s := by
  induction l generalizing D S with
  | nil => exact h
  | cons p l ih => exact ih (corr_put h p (hl p (by simp))) (fun q hq => hl q (by simp [hq]))
theorem corr_flush {D : PD} {X : RX} (h : Corr D X) (hx : XOk X) : (flushP D).2 = (rflushX X).2 ∧ Corr (flushP D).1 (rflushX X).1 := by
  unfold flushP rflushX
  obtain ⟨k1, k2⟩ := corr_act h
  rw [k1]
  by_cases h4 : (ractX X).2 ≠ 0
  · rw [if_pos h4, if_pos h4]; exact ⟨k1, k2⟩
  · rw [if_neg h4, if_neg h4]
    have hs := ract_same X
    refine ⟨rfl, ⟨?_, rfl, ?_, ?_, ?_, ?_, ?_⟩⟩
    · simp only []; rw [(keepAll_more _ _).1, k2.n, rputs_len, hs.1]
    · simp only []; rw [(keepAll_same _ _).1]; exact k2.dead
    · simp only []; rw [(keepAll_same _ _).2.1]; exact k2.armed
    · simp only []; rw [(keepAll_same _ _).2.2]; exact k2.left
    · simp only []
      rw [k2.cache, hs.2.1]
      refine corr_puts X.cache (fun i s hs' => k2.S i s (by rw [hs.1]; exact hs')) (fun p hp => (hx.c64 p hp).2.1)
    · simp only []; rw [(keepAll_more _ _).2]; exact k2.bad
theorem corr_arm {D : PD} {X : RX} (h : Corr D X) (n : Int) : Corr (armP D n) (rarmX X n) := by
  refine ⟨h.n, h.cache, h.dead, ?_, fun hl => ?_, h.S, h.bad⟩
  · unfold armP rarmX
    simp only []
    by_cases hn : 0 ≤ n
    · simp [hn]
    · simp [hn]
  · unfold armP rarmX at *
    simp only [] at hl ⊢
    by_cases hn : 0 ≤ n
    · rw [if_pos hn]; omega
    · rw [if_neg hn] at hl; omega
theorem corr_sel {D : PD} {S : List (List Int)} (l : List (Int × List Int)) (ks : List Bool) (h : ∀ (i : Nat) s, S[i]? = some s → (D.kept i).getD zsec = s) (hl : ∀ p ∈ l, 0 ≤ p.1) :
    ∀ k, k ≤ l.length → ∀ (i : Nat) s, (rsel S l ks k)[i]? = some s → ((sel D l ks k).kept i).getD zsec = s
  | 0, _ => h
  | k + 1, hk => by
    unfold rsel sel
    split
    · refine corr_put (corr_sel l ks h hl k (by omega)) _ ?_
      rw [show l.getD k (0, []) = l[k] by simp [List.getD, List.getElem?_eq_getElem (show k < l.length by omega)]]
      exact hl _ (List.getElem_mem _)
    · exact corr_sel l ks h hl k (by omega)
theorem corr_crash {D : PD} {X : RX} (h : Corr D X) (hx : XOk X) (ks : List Bool) : Corr (crashP D ks) (rcrashX X ks) := by
  refine ⟨?_, rfl, rfl, rfl, fun hl => ?_, ?_, ?_⟩
  · show (sel D D.cache ks _).n = _
    rw [(sel_same _ _ _ _).1, h.n]
    show _ = ((rsel X.S X.cache ks _).length : Int)
    rw [rsel_len]
  · simp [rcrashX] at hl
  · intro i s hs
    show ((sel D D.cache ks D.cache.length).kept i).getD zsec = s
    rw [h.cache]
    exact corr_sel X.cache ks h.S (fun p hp => (hx.c64 p hp).2.1) _ (Nat.le_refl _) i s hs
  · show ∀ (i : Nat) b, X.bad[i]? = some b → (sel D D.cache ks _).bad i = b
    rw [(sel_same _ _ _ _).2]
    exact h.bad
theorem corr_fault {D : PD} {X : RX} (h : Corr D X) (at_ : Int) (on : Bool) : Corr (faultP D at_ on) (rfaultX X at_ on) := by
  unfold faultP rfaultX
  rw [h.n]
  by_cases h2 : inB at_ X.S.length = false
  · rw [if_pos h2, if_pos h2]; exact h
  rw [if_neg h2, if_neg h2]
  have hr : 0 ≤ at_ ∧ at_ < X.S.length := by
    have : inB at_ X.S.length = true := by simpa using h2
    exact of_decide_eq_true this
  refine ⟨rfl, h.cache, h.dead, h.armed, h.left, h.S, fun i b hb => ?_⟩
  simp only [] at hb ⊢
  rw [List.getElem?_set] at hb
  by_cases hi : at_.toNat = i
  · rw [if_pos hi] at hb
    rw [if_pos (by omega)]
    split at hb
    · exact Option.some.inj hb
    · cases hb
  · rw [if_neg hi] at hb
    rw [if_neg (by omega)]
    exact h.bad i b hb
theorem corr_wipe {D : PD} {X : RX} (h : Corr D X) : Corr (wipeP D) (rwipeX X) := by
  refine ⟨?_, rfl, rfl, rfl, fun hl => ?_, fun i s hs => ?_, fun i b hb => ?_⟩
  · simp only [wipeP, restP, rwipeX, rnewX, List.length_replicate]; exact h.n
  · simp [rwipeX, rnewX] at hl
  · simp only [rwipeX, rnewX, List.getElem?_replicate] at hs
    split at hs
    · exact Option.some.inj hs
    · cases hs
  · simp only [rwipeX, rnewX, List.getElem?_replicate] at hb
    split at hb
    · exact Option.some.inj hb
    · cases hb
theorem corr_clone {D : PD} {X : RX} (h : Corr D X) : Corr (cloneP D) (rcloneX X) := by
  refine ⟨h.n, rfl, rfl, rfl, fun hl => ?_, h.S, fun i b hb => ?_⟩
  · simp [rcloneX, rnewX] at hl
  · simp only [rcloneX, rnewX, List.getElem?_replicate] at hb
    split at hb
    · exact Option.some.inj hb
    · cases hb
theorem corr_read {D : PD} {X : RX} (h : Corr D X) (hx : XOk X) (at_ : Int) : readP D at_ = rreadX X at_ := by
  unfold readP rreadX
  rw [h.dead, h.n]
  by_cases h1 : X.dead = true
  · rw [if_pos h1, if_pos h1]
  rw [if_neg h1, if_neg h1]
  by_cases h2 : inB at_ X.S.length = false
  · rw [if_pos h2, if_pos h2]
  rw [if_neg h2, if_neg h2]
  have hr : 0 ≤ at_ ∧ at_ < X.S.length := by
    have : inB at_ X.S.length = true := by simpa using h2
    exact of_decide_eq_true this
  obtain ⟨a, rfl⟩ : ∃ a : Nat, at_ = (a : Int) := ⟨at_.toNat, by omega⟩
  have hb : X.bad[a]? = some (X.bad.getD a false) := by
    have : a < X.bad.length := by rw [hx.hb]; omega
    simp [List.getD, List.getElem?_eq_getElem this]
  have hs : X.S[a]? = some (X.S.getD a []) := by
    have : a < X.S.length := by omega
    simp [List.getD, List.getElem?_eq_getElem this]
  rw [Int.toNat_natCast, h.bad a _ hb, h.cache, h.S a _ hs]
end Go.Proofs.Ytlepcmljmibdnaa
namespace Go.Proofs.Ytlepcmljmibdnaa
open Go.RowKit Go.Proofs.YtlepcmljmibdnaaW.PrintWords Go.Proofs.YtlepcmljmibdnaaW.PrintLast Go.Proofs.YtlepcmljmibdnaaW.PrintMore PDiskArms
set_option linter.unusedVariables false
set_option linter.unusedSimpArgs false
def isDR (o : Obj) : Prop := isDisk o ∨ isRef o
structure Both (w0 w : World) (B M Bd : Nat) (vc : Value) (D : PD) (R : Nat) (vS vC vB : Value) (X : RX) : Prop where
  dk : DK w w0.heap.size B M Bd vc D
  rk : RK w w0.heap.size R vS vC vB X
  low : Below w0.heap.size w0 w
section
variable {w0 w w' : World} {B M Bd R : Nat} {vc vS vC vB : Value} {D D' : PD} {X X' : RX}
theorem Both.fresh (h : Both w0 w B M Bd vc D R vS vC vB X) (hb : Below w.heap.size w w') : Both w0 w' B M Bd vc D R vS vC vB X :=
  ⟨h.dk.chg (.of_below hb), h.rk.fresh hb, h.low.trans (hb.mono h.low.size)⟩
theorem Both.disk {vc' : Value} {D' : PD} (h : Both w0 w B M Bd vc D R vS vC vB X) (hd : DK w' w0.heap.size B M Bd vc' D') (hc : Chg w w' (FP B M Bd vc)) : Both w0 w' B M Bd vc' D' R vS vC vB X ∧ TC w0.heap.size isDR w w' := by
  have ht := h.dk.tc hc
  exact ⟨⟨hd, h.rk.disk ht, h.low.trans ht.low⟩, ht.mono fun _ h => .inl h⟩
theorem Both.ref {vS' vC' vB' : Value} {X' : RX} (h : Both w0 w B M Bd vc D R vS vC vB X) (hr : RK w' w0.heap.size R vS' vC' vB' X') (ht : TC w0.heap.size isRef w w') : Both w0 w' B M Bd vc D R vS' vC' vB' X' ∧ TC w0.heap.size isDR w w' :=
  ⟨⟨h.dk.ref ht, hr, h.low.trans ht.low⟩, ht.mono fun _ h => .inr h⟩
theorem bo_write (at_ e : Int) (A : Option Addr) (c : Nat) (b : List Int) (hw : writeP D at_ b = (D', e)) (hl : D.cache.length ≤ 1000) (hb : (Kd.int .u8).C w0 A b.length b) (h : Both w0 w B M Bd vc D R vS vC vB X) :
    Calls Try.prog 17 #[.pointer (some ⟨B, 0, none⟩), .int .i64 at_, .slice A b.length c] w fun r w' => r = .returned (.int .i64 e) ∧ TC w0.heap.size isDR w w' ∧ ∃ vc', Both w0 w' B M Bd vc' D' R vS vC vB X := by
  refine (write_calls w w0.heap.size B M Bd vc D at_ A c b hl h.dk.base_le h.dk (fun w' hc => Kd.C_below hb (h.low.trans (h.dk.tc hc).low))).mono ?_
  rw [hw]
  rintro r w' ⟨rfl, vc', hd, _, hc⟩
  obtain ⟨k1, k2⟩ := h.disk hd hc
  exact ⟨rfl, k2, vc', k1⟩
theorem bo_rwrite (at_ e : Int) (A : Option Addr) (c : Nat) (b : List Int) (hw : rwriteX X at_ b = (X', e)) (hl : X.cache.length ≤ 1000) (hb : (Kd.int .u8).C w0 A b.length b) (h : Both w0 w B M Bd vc D R vS vC vB X) :
    Calls Try.prog 26 #[.pointer (some ⟨R, 0, none⟩), .int .i64 at_, .slice A b.length c] w fun r w' => r = .returned (.int .i64 e) ∧ TC w0.heap.size isDR w w' ∧ ∃ vC', Both w0 w' B M Bd vc D R vS vC' vB X' := by
  refine (rwrite_calls w w0.heap.size R vS vC vB X X' at_ e A c b hw h.rk hl (fun w' hc => Kd.C_below hb (h.low.trans hc.low))).mono ?_
  rintro r w' ⟨rfl, ht, vC', hr⟩
  obtain ⟨k1, k2⟩ := h.ref hr ht
  exact ⟨rfl, k2, vC', k1⟩
theorem bo_flush (e : Int) (hw : flushP D = (D', e)) (hl : D.cache.length ≤ 1000) (h : Both w0 w B M Bd vc D R vS vC vB X) :
    Calls Try.prog 18 #[.pointer (some ⟨B, 0, none⟩)] w fun r w' => r = .returned (.int .i64 e) ∧ TC w0.heap.size isDR w w' ∧ ∃ vc', Both w0 w' B M Bd vc' D' R vS vC vB X := by
  refine (flush_calls w w0.heap.size B M Bd vc D hl h.dk.base_le h.dk).mono ?_
  rw [hw]
  rintro r w' ⟨rfl, vc', hd, _, hc⟩
  obtain ⟨k1, k2⟩ := h.disk hd (hc.mono fun k hk => hk.elim .inl fun h => .inr (.inl h))
  exact ⟨rfl, k2, vc', k1⟩
theorem bo_rflush (e : Int) (hw : rflushX X = (X', e)) (hl : X.cache.length ≤ 1000) (h : Both w0 w B M Bd vc D R vS vC vB X) :
    Calls Try.prog 28 #[.pointer (some ⟨R, 0, none⟩)] w fun r w' => r = .returned (.int .i64 e) ∧ TC w0.heap.size isDR w w' ∧ ∃ vC', Both w0 w' B M Bd vc D R vS vC' vB X' := by
  refine (rflush_calls w w0.heap.size R vS vC vB X X' e hw h.rk hl).mono ?_
  rintro r w' ⟨rfl, ht, vC', hr⟩
  obtain ⟨k1, k2⟩ := h.ref hr ht
  exact ⟨rfl, k2, vC', k1⟩
theorem bo_arm (n : Int) (hn : -9223372036854775808 ≤ n ∧ n ≤ 9223372036854775807) (hw : armP D n = D') (h : Both w0 w B M Bd vc D R vS vC vB X) :
    Calls Try.prog 16 #[.pointer (some ⟨B, 0, none⟩), .int .i64 n] w fun r w' => r = .returned (.tuple #[]) ∧ TC w0.heap.size isDR w w' ∧ Both w0 w' B M Bd vc D' R vS vC vB X := by
  subst hw
  refine (arm_calls w w0.heap.size B M Bd vc D n hn h.dk).mono ?_
  rintro r w' ⟨rfl, hd, ho⟩
  obtain ⟨k1, k2⟩ := h.disk hd (ho.chg fun k hk => .inl hk)
  exact ⟨rfl, k2, k1⟩
theorem bo_rarm (n : Int) (hn : -9223372036854775808 ≤ n ∧ n ≤ 9223372036854775807) (hw : rarmX X n = X') (h : Both w0 w B M Bd vc D R vS vC vB X) :
    Calls Try.prog 29 #[.pointer (some ⟨R, 0, none⟩), .int .i64 n] w fun r w' => r = .returned (.tuple #[]) ∧ TC w0.heap.size isDR w w' ∧ Both w0 w' B M Bd vc D R vS vC vB X' := by
  subst hw
  refine (rarm_calls w w0.heap.size R vS vC vB X n hn h.rk).mono ?_
  rintro r w' ⟨rfl, hr, ht⟩
  obtain ⟨k1, k2⟩ := h.ref hr ht
  exact ⟨rfl, k2, k1⟩
theorem bo_crash (A : Option Addr) (c : Nat) (ks : List Bool) (hw : crashP D ks = D') (hl : D.cache.length ≤ 1000) (hb : Kd.bool.C w0 A ks.length ks) (h : Both w0 w B M Bd vc D R vS vC vB X) :
    Calls Try.prog 20 #[.pointer (some ⟨B, 0, none⟩), .slice A ks.length c] w fun r w' => r = .returned (.tuple #[]) ∧ TC w0.heap.size isDR w w' ∧ Both w0 w' B M Bd (.slice none 0 0) D' R vS vC vB X := by
  subst hw
  have hm : ∀ w', Chg w w' (fun k => k = B ∨ k = M) → Chg w w' (FP B M Bd vc) := fun w' hc => hc.mono fun k hk => hk.elim .inl (fun h => .inr (.inl h))
  refine (crash_calls w w0.heap.size B M Bd vc D A c ks hl h.dk.base_le h.dk (fun w' hc => Kd.C_below hb (h.low.trans (h.dk.tc (hm w' hc)).low))).mono ?_
  rintro r w' ⟨rfl, hd, hc⟩
  obtain ⟨k1, k2⟩ := h.disk hd (hm w' hc)
  exact ⟨rfl, k2, k1⟩
theorem bo_rcrash (A : Option Addr) (c : Nat) (ks : List Bool) (hw : rcrashX X ks = X') (hl : X.cache.length ≤ 1000) (hb : Kd.bool.C w0 A ks.length ks) (h : Both w0 w B M Bd vc D R vS vC vB X) :
    Calls Try.prog 30 #[.pointer (some ⟨R, 0, none⟩), .slice A ks.length c] w fun r w' => r = .returned (.tuple #[]) ∧ TC w0.heap.size isDR w w' ∧ Both w0 w' B M Bd vc D R vS (.slice none 0 0) vB X' := by
  subst hw
  refine (rcrash_calls w w0.heap.size R vS vC vB X A c ks h.rk hl (fun w' hc => Kd.C_below hb (h.low.trans hc.low))).mono ?_
  rintro r w' ⟨rfl, hr, ht⟩
  obtain ⟨k1, k2⟩ := h.ref hr ht
  exact ⟨rfl, k2, k1⟩
theorem bo_fault (at_ : Int) (on : Bool) (hw : faultP D at_ on = D') (h : Both w0 w B M Bd vc D R vS vC vB X) :
    Calls Try.prog 31 #[.pointer (some ⟨B, 0, none⟩), .int .i64 at_, .bool on] w fun r w' => r = .returned (.tuple #[]) ∧ TC w0.heap.size isDR w w' ∧ Both w0 w' B M Bd vc D' R vS vC vB X := by
  subst hw
  refine (fault_calls w w0.heap.size B M Bd vc D at_ on h.dk).mono ?_
  rintro r w' ⟨rfl, hd, hc⟩
  obtain ⟨k1, k2⟩ := h.disk hd (hc.mono fun k hk => .inr (.inr (.inl hk)))
  exact ⟨rfl, k2, k1⟩
theorem bo_rfault (at_ : Int) (on : Bool) (hw : rfaultX X at_ on = X') (h : Both w0 w B M Bd vc D R vS vC vB X) :
    Calls Try.prog 32 #[.pointer (some ⟨R, 0, none⟩), .int .i64 at_, .bool on] w fun r w' => r = .returned (.tuple #[]) ∧ TC w0.heap.size isDR w w' ∧ Both w0 w' B M Bd vc D R vS vC vB X' := by
  subst hw
  refine (rfault_calls w w0.heap.size R vS vC vB X at_ on h.rk).mono ?_
  rintro r w' ⟨rfl, hr, ht⟩
  obtain ⟨k1, k2⟩ := h.ref hr ht
  exact ⟨rfl, k2, k1⟩
theorem bo_wipe (hw : wipeP D = D') (h : Both w0 w B M Bd vc D R vS vC vB X) :
    Calls Try.prog 33 #[.pointer (some ⟨B, 0, none⟩)] w fun r w' => r = .returned (.tuple #[]) ∧ TC w0.heap.size isDR w w' ∧ Both w0 w' B M Bd (.slice none 0 0) D' R vS vC vB X := by
  subst hw
  refine (wipe_calls w w0.heap.size B M Bd vc D h.dk).mono ?_
  rintro r w' ⟨rfl, hd, hc⟩
  obtain ⟨k1, k2⟩ := h.disk hd (hc.mono fun k hk => hk.elim .inl fun h => .inr (h.elim .inl fun h => .inr (.inl h)))
  exact ⟨rfl, k2, k1⟩
theorem bo_rwipe (hw : rwipeX X = X') (h : Both w0 w B M Bd vc D R vS vC vB X) :
    Calls Try.prog 34 #[.pointer (some ⟨R, 0, none⟩)] w fun r w' => r = .returned (.tuple #[]) ∧ TC w0.heap.size isDR w w' ∧ ∃ vS' vB', Both w0 w' B M Bd vc D R vS' (.slice none 0 0) vB' X' := by
  subst hw
  refine (rwipe_calls w w0.heap.size R vS vC vB X h.rk).mono ?_
  rintro r w' ⟨rfl, ht, vS', vB', hr⟩
  obtain ⟨k1, k2⟩ := h.ref hr ht
  exact ⟨rfl, k2, vS', vB', k1⟩
theorem bo_clone (hw : cloneP D = D') (h : Both w0 w B M Bd vc D R vS vC vB X) :
    Calls Try.prog 21 #[.pointer (some ⟨B, 0, none⟩)] w fun r w' => ∃ B' M' Bd', r = .returned (.pointer (some ⟨B', 0, none⟩)) ∧ Below w.heap.size w w' ∧ Both w0 w' B' M' Bd' (.slice none 0 0) D' R vS vC vB X := by
  subst hw
  refine (dclone_calls w w0.heap.size w0.heap.size B M Bd vc D h.dk.base_le h.dk).mono ?_
  rintro r w' ⟨B', M', Bd', rfl, hd, hb, _⟩
  exact ⟨B', M', Bd', rfl, hb, hd, (h.fresh hb).rk, (h.fresh hb).low⟩
theorem bo_rclone (hw : rcloneX X = X') (h : Both w0 w B M Bd vc D R vS vC vB X) :
    Calls Try.prog 35 #[.pointer (some ⟨R, 0, none⟩)] w fun r w' => ∃ R' vS' vB', r = .returned (.pointer (some ⟨R', 0, none⟩)) ∧ Below w.heap.size w w' ∧ Both w0 w' B M Bd vc D R' vS' (.slice none 0 0) vB' X' := by
  subst hw
  refine (rclone_calls w w0.heap.size R vS vC vB X h.rk).mono ?_
  rintro r w' ⟨R', vS', vB', rfl, hr, hb⟩
  exact ⟨R', vS', vB', rfl, hb, (h.fresh hb).dk, ⟨hr.toRM.low h.rk.toRM.base_le, hr.ok⟩, (h.fresh hb).low⟩
theorem bo_read (at_ r : Int) (s : List Int) (hr : readP D at_ = (s, r)) (hl : D.cache.length ≤ 1000) (h : Both w0 w B M Bd vc D R vS vC vB X) :
    Calls Try.prog 23 #[.pointer (some ⟨B, 0, none⟩), .int .i64 at_] w fun e w' => ∃ A c, e = .returned (.tuple #[.slice A s.length c, .int .i64 r]) ∧ Kd.R (Kd.int .u8) 5 w' w.heap.size (fun k => w.heap.size ≤ k) (.slice A s.length c) s ∧ Both w0 w' B M Bd vc D R vS vC vB X ∧ Below w.heap.size w w' := by
  refine (read_calls w w0.heap.size B M Bd vc D at_ hl h.dk).mono ?_
  rw [hr]
  rintro e w' ⟨v, rfl, hR, hb⟩
  obtain ⟨A, c, rfl⟩ := Kd.R_slice hR
  exact ⟨A, c, rfl, Kd.R_mono (Kd.R_bound hR) (fun k hk => hk.2.1), h.fresh hb, hb⟩
theorem bo_rread (at_ r : Int) (s : List Int) (hr : rreadX X at_ = (s, r)) (hl : X.cache.length ≤ 1000) (h : Both w0 w B M Bd vc D R vS vC vB X) :
    Calls Try.prog 27 #[.pointer (some ⟨R, 0, none⟩), .int .i64 at_] w fun e w' => ∃ A c, e = .returned (.tuple #[.slice A s.length c, .int .i64 r]) ∧ Kd.R (Kd.int .u8) 5 w' w.heap.size (fun k => w.heap.size ≤ k) (.slice A s.length c) s ∧ Both w0 w' B M Bd vc D R vS vC vB X ∧ Below w.heap.size w w' := by
  refine (rread_calls w w0.heap.size R vS vC vB X at_ r s hr h.rk hl).mono ?_
  rintro e w' ⟨A, c, rfl, hR, hb⟩
  exact ⟨A, c, rfl, hR, h.fresh hb, hb⟩
theorem bo_dead (d : Bool) (hd : D.dead = d) (h : Both w0 w B M Bd vc D R vS vC vB X) : Calls Try.prog 19 #[.pointer (some ⟨B, 0, none⟩)] w fun e w' => e = .returned (.bool d) ∧ w = w' := dead_at w _ B M Bd vc D d hd h.dk
theorem bo_size (n : Int) (hn : D.n = n) (h : Both w0 w B M Bd vc D R vS vC vB X) :
    Calls Try.prog 22 #[.pointer (some ⟨B, 0, none⟩)] w fun e w' => e = .returned (.int .i64 n) ∧ w = w' := by
  obtain ⟨⟨g0, g1, _⟩, _⟩ := cells7 h.dk.blk
  rw [hn] at g0
  exact size_calls w B M n g0 g1
theorem bo_cached (m : Nat) (hm : D.cache.length = m) (h : Both w0 w B M Bd vc D R vS vC vB X) :
    Calls Try.prog 24 #[.pointer (some ⟨B, 0, none⟩)] w fun e w' => e = .returned (.int .i64 m) ∧ w = w' := by
  have := cached_calls w _ B M Bd vc D h.dk
  rw [hm] at this
  exact this
theorem bo_new (n : Int) (hb : Below w0.heap.size w0 w) :
    Calls Try.prog 15 #[.int .i64 n] w fun e w' => ∃ B M Bd, e = .returned (.pointer (some ⟨B, 0, none⟩)) ∧ DK w' w0.heap.size B M Bd (.slice none 0 0) (newP n) ∧ Below w0.heap.size w0 w' := by
  refine (new_calls w w0.heap.size hb.size n).mono ?_
  rintro e w' ⟨B, M, Bd, rfl, hd, hb'⟩
  exact ⟨B, M, Bd, rfl, hd, hb.trans hb'⟩
theorem bo_rnew (n : Int) (hb : Below w0.heap.size w0 w) (hd : DK w w0.heap.size B M Bd vc D) :
    Calls Try.prog 25 #[.int .i64 n] w fun e w' => ∃ R vS vB, e = .returned (.pointer (some ⟨R, 0, none⟩)) ∧ Both w0 w' B M Bd vc D R vS (.slice none 0 0) vB (rnewX (rnewN n)) := by
  refine (rnew_calls w n).mono ?_
  rintro e w' ⟨R, vS, vB, rfl, hr, hb'⟩
  exact ⟨R, vS, vB, rfl, hd.chg (.of_below hb'), ⟨hr.low hb.size, rnew_ok _ (by unfold rnewN; omega)⟩, hb.trans (hb'.mono hb.size)⟩
end
end Go.Proofs.Ytlepcmljmibdnaa
namespace Go.Proofs.Ytlepcmljmibdnaa
open Go.RowKit Go.Proofs.YtlepcmljmibdnaaW.PrintWords Go.Proofs.YtlepcmljmibdnaaW.PrintLast Go.Proofs.YtlepcmljmibdnaaW.PrintMore PWalOpens
set_option linter.unusedVariables false
set_option linter.unusedSimpArgs false
theorem rwriteX_cache (X : RX) (at_ : Int) (b : List Int) : (rwriteX X at_ b).1.cache.length ≤ X.cache.length + 1 := by
  have h : (ractX X).1.cache = X.cache := (ract_same X).2.1
  unfold rwriteX
  repeat' split
  all_goals simp only [h, List.length_append, List.length_cons, List.length_nil]; omega
theorem rflushX_cache (X : RX) : (rflushX X).1.cache.length ≤ X.cache.length := by
  have h : (ractX X).1.cache = X.cache := (ract_same X).2.1
  unfold rflushX
  split
  · rw [h]; omega
  · simp
def rsaveX (X : RX) (g : Int) (l : List Int) : RX × Int :=
  if 4 < l.length then (X, 2) else if (rflushX X).2 ≠ 0 then rflushX X else
    if (rwriteX (rflushX X).1 (g % 2) (slotB g l)).2 ≠ 0 then rwriteX (rflushX X).1 (g % 2) (slotB g l) else rflushX (rwriteX (rflushX X).1 (g % 2) (slotB g l)).1
def RvQ (w : World) (base R : Nat) (vS vB : Value) (X' : RX) (e : Int) (r : Ending) (w' : World) : Prop := r = .returned (.int .i64 e) ∧ TC base isRef w w' ∧ ∃ vC', RK w' base R vS vC' vB X'
theorem OwnB.tc {w w' : World} {base base' : Nat} {v : Value} {xs : List Int} (h : OwnB w base v xs) (hc : TC base' isRef w w') : OwnB w' base v xs :=
  Kd.R_mono (Kd.R_bound (R_tc h hc (fun q hq cells ht => by
    have e : (5 : Nat) :: (Kd.int .u8).E = [5] := rfl
    rw [e] at hq
    have : q = 5 := by simpa using hq
    subst this
    rcases ht with h | h | h <;> cases h))) (fun k hk => hk.2.1)
theorem OwnB.C {w : World} {b n c : Nat} {A : Option Addr} {xs : List Int} (h : OwnB w b (.slice A n c) xs) : (Kd.int .u8).C w A xs.length xs := (Kd.R_reads' h).2.2
section
variable {w : World} {base R : Nat} {vS vC vB : Value} {X X1 X2 X3 : RX} {g : Int} {l : List Int} {A : Option Addr} {c : Nat} {e : Int}
theorem rsave_long (hl : 4 < l.length) (h : RK w base R vS vC vB X) : Calls Try.prog 43 #[.pointer (some ⟨R, 0, none⟩), .int .u64 g, .slice A l.length c] w (RvQ w base R vS vB X 2) := by
  have HD := Aside0.mk h
  have HS := Aside0.mk (rslot_long w g l A c hl)
  clear h hl
  go_enter Try.func43, Try.ntmps43
  go_wp2_with (first
    | (go_at_call 38; (with_reducible refine HS.out.mono ?_); rintro e w2 ⟨rfl, rfl⟩))
  go_ret
  exact ⟨rfl, TC.refl _ _ _, vC, HD.out⟩
theorem rsave_f1 (he : e ≠ 0) (hf : rflushX X = (X1, e)) (hg : 0 ≤ g ∧ g < 18446744073709551616) (hn : ∀ n ∈ l, 0 ≤ n ∧ n < 18446744073709551616) (hl : l.length ≤ 4) (hC : (Kd.int .u64).C w A l.length l) (hc : X.cache.length ≤ 1000) (h : RK w base R vS vC vB X) : Calls Try.prog 43 #[.pointer (some ⟨R, 0, none⟩), .int .u64 g, .slice A l.length c] w (RvQ w base R vS vB X1 e) := by
  have HD := Aside0.mk h
  have HBB := Aside0.mk h.base_le
  have HS := Aside0.mk (rslot_calls w g l A c hg hn hl hC)
  have HC := Aside0.mk hc
  have HF := Aside0.mk hf
  have hb : (e != 0) = true := by simpa using he
  clear h hl hg hn hC hc hf
  go_enter Try.func43, Try.ntmps43
  go_wp2_with (first
    | (go_at_call 38; (with_reducible refine HS.out.mono ?_); rintro e w2 ⟨A2, c2, rfl, hr, hb⟩; have HR2 := Aside0.mk hr; have HD2 := Aside0.mk (HD.out.fresh hb); have HT2 := Aside0.mk (TC.of_below (T := isRef) hb HBB.out); clear hr hb)
    | (go_at_call 28; (with_reducible refine (rflush_calls w2 base R vS vC vB X X1 e HF.out HD2.out HC.out).mono ?_); rintro e w3 ⟨rfl, ht, vc3, hd⟩; have HD3 := Aside0.mk hd; have HT3 := Aside0.mk (HT2.out.trans ht); clear hd ht))
  go_ret
  exact ⟨rfl, HT3.out, vc3, HD3.out⟩
theorem rsave_go (hf : rflushX X = (X1, 0)) (hw : rwriteX X1 (g % 2) (slotB g l) = (X2, 0)) (hf3 : rflushX X2 = (X3, e)) (hg : 0 ≤ g ∧ g < 18446744073709551616) (hn : ∀ n ∈ l, 0 ≤ n ∧ n < 18446744073709551616) (hl : l.length ≤ 4) (hC : (Kd.int .u64).C w A l.length l) (hc : X.cache.length ≤ 1000) (hc3 : X1.cache.length ≤ 1000 ∧ X2.cache.length ≤ 1000) (h : RK w base R vS vC vB X) : Calls Try.prog 43 #[.pointer (some ⟨R, 0, none⟩), .int .u64 g, .slice A l.length c] w (RvQ w base R vS vB X3 e) := by
  have HD := Aside0.mk h
  have HBB := Aside0.mk h.base_le
  have HS := Aside0.mk (rslot_calls w g l A c hg hn hl hC)
  have HC := Aside0.mk hc
  have HF := Aside0.mk hf
  have HC3 := Aside0.mk hc3
  have HW := Aside0.mk hw
  have HF3 := Aside0.mk hf3
  obtain ⟨want, hwant⟩ : ∃ want, slotB g l = want := ⟨_, rfl⟩
  rw [hwant] at HS HW
  obtain ⟨hg0, hg1⟩ := hg
  clear h hl hn hC hc hf hc3 hw hf3 hwant
  go_enter Try.func43, Try.ntmps43
  go_wp2_with (first
    | (go_at_call 38; (with_reducible refine HS.out.mono ?_); rintro e w2 ⟨A2, c2, rfl, hr, hb⟩; have HR2 := Aside0.mk hr; have HD2 := Aside0.mk (HD.out.fresh hb); have HT2 := Aside0.mk (TC.of_below (T := isRef) hb HBB.out); clear hr hb)
    | (go_at_call 28; (with_reducible refine (rflush_calls w2 base R vS vC vB X X1 0 HF.out HD2.out HC.out).mono ?_); rintro e w3 ⟨rfl, ht, vc3, hd⟩; have HD3 := Aside0.mk hd; have HT3 := Aside0.mk (HT2.out.trans ht); have HR3 := Aside0.mk (HR2.out.tc ht); clear hd ht)
    | (go_at_call 26; (with_reducible refine (rwrite_calls w3 base R vS vc3 vB X1 X2 (g % 2) 0 A2 c2 want HW.out HD3.out HC3.out.1 (fun w' hc => (HR3.out.tc hc).C)).mono ?_); rintro e w4 ⟨rfl, ht, vc4, hd⟩; have HD4 := Aside0.mk hd; have HT4 := Aside0.mk (HT3.out.trans ht); clear hd ht)
    | (go_at_call 28; (with_reducible refine (rflush_calls w4 base R vS vc4 vB X2 X3 e HF3.out HD4.out HC3.out.2).mono ?_); rintro e w5 ⟨rfl, ht, vc5, hd⟩; have HD5 := Aside0.mk hd; have HT5 := Aside0.mk (HT4.out.trans ht); clear hd ht))
  go_ret
  exact ⟨rfl, HT5.out, vc5, HD5.out⟩
theorem rsave_w (he : e ≠ 0) (hf : rflushX X = (X1, 0)) (hw : rwriteX X1 (g % 2) (slotB g l) = (X2, e)) (hg : 0 ≤ g ∧ g < 18446744073709551616) (hn : ∀ n ∈ l, 0 ≤ n ∧ n < 18446744073709551616) (hl : l.length ≤ 4) (hC : (Kd.int .u64).C w A l.length l) (hc : X.cache.length ≤ 1000) (hc3 : X1.cache.length ≤ 1000) (h : RK w base R vS vC vB X) : Calls Try.prog 43 #[.pointer (some ⟨R, 0, none⟩), .int .u64 g, .slice A l.length c] w (RvQ w base R vS vB X2 e) := by
  have HD := Aside0.mk h
  have HBB := Aside0.mk h.base_le
  have HS := Aside0.mk (rslot_calls w g l A c hg hn hl hC)
  have HC := Aside0.mk hc
  have HF := Aside0.mk hf
  have HC3 := Aside0.mk hc3
  have HW := Aside0.mk hw
  have hbe : (e != 0) = true := by simpa using he
  obtain ⟨want, hwant⟩ : ∃ want, slotB g l = want := ⟨_, rfl⟩
  rw [hwant] at HS HW
  obtain ⟨hg0, hg1⟩ := hg
  clear h hl hn hC hc hf hc3 hw hwant
  go_enter Try.func43, Try.ntmps43
  go_wp2_with (first
    | (go_at_call 38; (with_reducible refine HS.out.mono ?_); rintro e w2 ⟨A2, c2, rfl, hr, hb⟩; have HR2 := Aside0.mk hr; have HD2 := Aside0.mk (HD.out.fresh hb); have HT2 := Aside0.mk (TC.of_below (T := isRef) hb HBB.out); clear hr hb)
    | (go_at_call 28; (with_reducible refine (rflush_calls w2 base R vS vC vB X X1 0 HF.out HD2.out HC.out).mono ?_); rintro e w3 ⟨rfl, ht, vc3, hd⟩; have HD3 := Aside0.mk hd; have HT3 := Aside0.mk (HT2.out.trans ht); have HR3 := Aside0.mk (HR2.out.tc ht); clear hd ht)
    | (go_at_call 26; (with_reducible refine (rwrite_calls w3 base R vS vc3 vB X1 X2 (g % 2) e A2 c2 want HW.out HD3.out HC3.out (fun w' hc => (HR3.out.tc hc).C)).mono ?_); rintro e w4 ⟨rfl, ht, vc4, hd⟩; have HD4 := Aside0.mk hd; have HT4 := Aside0.mk (HT3.out.trans ht); clear hd ht))
  go_ret
  exact ⟨rfl, HT4.out, vc4, HD4.out⟩
theorem rsave_calls (hsv : rsaveX X g l = (X1, e)) (hg : 0 ≤ g ∧ g < 18446744073709551616) (hn : ∀ n ∈ l, 0 ≤ n ∧ n < 18446744073709551616) (hC : (Kd.int .u64).C w A l.length l) (hc : X.cache.length ≤ 900) (h : RK w base R vS vC vB X) :
    Calls Try.prog 43 #[.pointer (some ⟨R, 0, none⟩), .int .u64 g, .slice A l.length c] w (RvQ w base R vS vB X1 e) := by
  unfold rsaveX at hsv
  split at hsv
  · cases hsv
    exact rsave_long (by assumption) h
  · rename_i hl
    have q1 := rflushX_cache X
    have q2 := rwriteX_cache (rflushX X).1 (g % 2) (slotB g l)
    obtain ⟨Da, ea, hf⟩ : ∃ Da ea, rflushX X = (Da, ea) := ⟨_, _, rfl⟩
    rw [hf] at hsv q1 q2
    simp only at hsv q1 q2
    obtain ⟨Db, eb, hw⟩ : ∃ Db eb, rwriteX Da (g % 2) (slotB g l) = (Db, eb) := ⟨_, _, rfl⟩
    rw [hw] at hsv q2
    simp only at hsv q2
    split at hsv
    · cases hsv
      exact rsave_f1 (by assumption) hf hg hn (by omega) hC (by omega) h
    · rename_i he
      obtain rfl : ea = 0 := by simpa using he
      split at hsv
      · cases hsv
        exact rsave_w (by assumption) hf hw hg hn (by omega) hC (by omega) (by omega) h
      · rename_i he
        obtain rfl : eb = 0 := by simpa using he
        exact rsave_go hf hw hsv hg hn (by omega) hC (by omega) ⟨by omega, by omega⟩ h
end
end Go.Proofs.Ytlepcmljmibdnaa
namespace Go.Proofs.Ytlepcmljmibdnaa
open Go.RowKit Go.Proofs.YtlepcmljmibdnaaW.PrintWords Go.Proofs.YtlepcmljmibdnaaW.PrintLast Go.Proofs.YtlepcmljmibdnaaW.PrintMore PWalOpens
set_option linter.unusedVariables false
set_option linter.unusedSimpArgs false
noncomputable def formatP (D : PD) (l : List Int) : PD × Int :=
  if (writeP D 0 []).2 ≠ 0 then writeP D 0 [] else if (writeP (writeP D 0 []).1 1 []).2 ≠ 0 then writeP (writeP D 0 []).1 1 [] else saveP (writeP (writeP D 0 []).1 1 []).1 0 l
def rformatX (X : RX) (l : List Int) : RX × Int :=
  if (rwriteX X 0 []).2 ≠ 0 then rwriteX X 0 [] else if (rwriteX (rwriteX X 0 []).1 1 []).2 ≠ 0 then rwriteX (rwriteX X 0 []).1 1 [] else rsaveX (rwriteX (rwriteX X 0 []).1 1 []).1 0 l
section
variable {w : World} {base B M Bd : Nat} {vc : Value} {D D' : PD} {l : List Int} {A : Option Addr} {c : Nat} {e : Int}
theorem format_go (Df : Nat → PD) (Er : Nat → Int) (h0 : Df 0 = D) (hs : ∀ i, i < 2 → writeP (Df i) (i : Int) [] = (Df (i + 1), Er i)) (hcl : ∀ i, i ≤ 2 → (Df i).cache.length ≤ 900)
    (hE : ∀ i, i < 2 → (∀ j, j < i → Er j = 0) → Er i ≠ 0 → D' = Df (i + 1) ∧ e = Er i) (hO : (∀ j, j < 2 → Er j = 0) → saveP (Df 2) 0 l = (D', e))
    (hn : ∀ n ∈ l, 0 ≤ n ∧ n < 18446744073709551616) (hC : ∀ w', Chg w w' (FP B M Bd vc) → (Kd.int .u64).C w' A l.length l) (h : DK w base B M Bd vc D) :
    Calls Try.prog 46 #[.pointer (some ⟨B, 0, none⟩), .slice A l.length c] w (SvQ w B M Bd vc D' e) := by
  have HD := Aside0.mk (At.refl h)
  have HC := Aside0.mk hC
  have HN := Aside0.mk hn
  have HS := Aside0.mk hs
  have HL := Aside0.mk hcl
  have HE := Aside0.mk hE
  have HO := Aside0.mk hO
  have H0 := Aside0.mk h0
  clear h hn hC hs hcl hE hO h0
  go_enter Try.func46, Try.ntmps46
  go_wp2
  go_loopg [7] 2 (fun kq v7 w' => ∃ (i : Nat) (vc' : Value), v7 = .int .i64 (i : Int) ∧ Aside0 (i + kq = 2) ∧ Aside0 (∀ j, j < i → Er j = 0) ∧ Aside0 (At w (FP B M Bd vc) w' B M Bd vc' (Df i)))
  case atStart => exact ⟨0, vc, rfl, ⟨by omega⟩, ⟨fun j hj => by omega⟩, ⟨by rw [H0.out]; exact HD.out⟩⟩
  case round =>
    obtain ⟨i, vc', rfl, HI, HZ, HA⟩ := hrel
    by_cases hi : i < 2
    · have hi' : (i : Int) < 2 := by omega
      obtain ⟨er, her⟩ : ∃ er, Er i = er := ⟨_, rfl⟩
      have HW := Aside0.mk (HS.out i hi)
      have HLi := Aside0.mk (HL.out i (by omega))
      have HEi := Aside0.mk (HE.out i hi HZ.out)
      rw [her] at HW HEi
      by_cases hz : er = 0
      · subst hz
        have HER := Aside0.mk her
        clear her
        go_wp2_with (go_at_call 17; go_loud (refine (at_write (i : Int) 0 none 0 [] HW.out (Nat.le_trans HLi.out (by omega)) (fun w' hc => Kd.C_nil _ _) (At.refl HA.out.dk)).mono ?_); rintro e w5 ⟨rfl, vc5, hd⟩; have HD5 := Aside0.mk (HA.out.then_ hd); clear hd)
        have hk1 := HI.out
        obtain ⟨gq, rfl⟩ : ∃ gq, gk = gq + 1 := ⟨gk - 1, by omega⟩
        go_roundg gq
        case rel => exact ⟨i + 1, vc5, by go_num, ⟨by omega⟩, ⟨fun j hj => by
          by_cases hji : j = i
          · subst hji; exact HER.out
          · exact HZ.out j (by omega)⟩, HD5⟩
        case measure => omega
      · have hzb : (er != 0) = true := by simpa using hz
        obtain ⟨hD, he⟩ := HEi.out hz
        have HQ := Aside0.mk (And.intro hD he)
        clear her hz hD he
        go_wp2_with (go_at_call 17; go_loud (refine (at_write (i : Int) er none 0 [] HW.out (Nat.le_trans HLi.out (by omega)) (fun w' hc => Kd.C_nil _ _) (At.refl HA.out.dk)).mono ?_); rintro e w5 ⟨rfl, vc5, hd⟩; have HD5 := Aside0.mk (HA.out.then_ hd); clear hd)
        go_ret
        obtain ⟨rfl, rfl⟩ := HQ.out
        exact ⟨rfl, vc5, HD5.out⟩
    · have hi0 := HI.out
      obtain rfl : gk = 0 := by omega
      obtain rfl : i = 2 := by omega
      clear hi0 hi
      have HSV := Aside0.mk (save_calls (HO.out HZ.out) (by omega) HN.out (HC.out wr HA.out.chg) (HL.out 2 (by omega)) HA.out.dk (c := c))
      go_wp2_with (go_at_call 42; (with_reducible refine HSV.out.mono ?_); rintro e w6 ⟨rfl, vc6, hd⟩; have HD6 := Aside0.mk (HA.out.then_ hd); clear hd)
      go_ret
      exact ⟨rfl, vc6, HD6.out⟩
theorem format_calls (hf : formatP D l = (D', e)) (hc : D.cache.length ≤ 800) (hn : ∀ n ∈ l, 0 ≤ n ∧ n < 18446744073709551616) (hC : ∀ w', Chg w w' (FP B M Bd vc) → (Kd.int .u64).C w' A l.length l) (h : DK w base B M Bd vc D) :
    Calls Try.prog 46 #[.pointer (some ⟨B, 0, none⟩), .slice A l.length c] w (SvQ w B M Bd vc D' e) := by
  have q1 := writeP_cache D 0 []
  have q2 := writeP_cache (writeP D 0 []).1 1 []
  unfold formatP at hf
  refine format_go (D := D) (fun i => match i with | 0 => D | 1 => (writeP D 0 []).1 | _ => (writeP (writeP D 0 []).1 1 []).1) (fun i => match i with | 0 => (writeP D 0 []).2 | _ => (writeP (writeP D 0 []).1 1 []).2) rfl (fun i hi => ?_) (fun i hi => ?_) (fun i hi hz hne => ?_) (fun hz => ?_) hn hC h
  · have : i = 0 ∨ i = 1 := by omega
    rcases this with rfl | rfl <;> rfl
  · have : i = 0 ∨ i = 1 ∨ i = 2 := by omega
    rcases this with rfl | rfl | rfl <;> simp only <;> omega
  · have : i = 0 ∨ i = 1 := by omega
    rcases this with rfl | rfl
    · have hne' : (writeP D 0 []).2 ≠ 0 := hne
      rw [if_pos hne'] at hf
      exact ⟨(congrArg Prod.fst hf).symm, (congrArg Prod.snd hf).symm⟩
    · have h0 : (writeP D 0 []).2 = 0 := hz 0 (by omega)
      have hne' : (writeP (writeP D 0 []).1 1 []).2 ≠ 0 := hne
      rw [if_neg (fun hh => hh h0), if_pos hne'] at hf
      exact ⟨(congrArg Prod.fst hf).symm, (congrArg Prod.snd hf).symm⟩
  · have h0 : (writeP D 0 []).2 = 0 := hz 0 (by omega)
    have h1 : (writeP (writeP D 0 []).1 1 []).2 = 0 := hz 1 (by omega)
    rw [if_neg (fun hh => hh h0), if_neg (fun hh => hh h1)] at hf
    exact hf
end
section
variable {w : World} {base R : Nat} {vS vC vB : Value} {X X1 X2 X' : RX} {l : List Int} {A : Option Addr} {c : Nat} {e : Int}
theorem rwrite_nil (w : World) (base B : Nat) (vS vC vB : Value) (X X' : RX) (at_ r : Int) (hx : rwriteX X at_ [] = (X', r)) (h : RK w base B vS vC vB X) (hl : X.cache.length ≤ 1000) :
    Calls Try.prog 26 #[.pointer (some ⟨B, 0, none⟩), .int .i64 at_, .slice none 0 0] w fun e w' => e = .returned (.int .i64 r) ∧ TC base isRef w w' ∧ ∃ vC', RK w' base B vS vC' vB X' :=
  rwrite_calls w base B vS vC vB X X' at_ r none 0 [] hx h hl (fun w' hc => Kd.C_nil _ _)
theorem rformat_calls (hf : rformatX X l = (X', e)) (hc : X.cache.length ≤ 800) (hn : ∀ n ∈ l, 0 ≤ n ∧ n < 18446744073709551616) (hC : ∀ w', TC base isRef w w' → (Kd.int .u64).C w' A l.length l) (h : RK w base R vS vC vB X) :
    Calls Try.prog 86 #[.pointer (some ⟨R, 0, none⟩), .slice A l.length c] w (RvQ w base R vS vB X' e) := by
  have q1 := rwriteX_cache X 0 []
  have q2 := rwriteX_cache (rwriteX X 0 []).1 1 []
  have HD := Aside0.mk h
  have HC := Aside0.mk hC
  have HN := Aside0.mk hn
  have HL := Aside0.mk (show X.cache.length ≤ 1000 by omega)
  obtain ⟨Xa, ea, hw⟩ : ∃ Xa ea, rwriteX X 0 [] = (Xa, ea) := ⟨_, _, rfl⟩
  unfold rformatX at hf
  rw [hw] at hf q1 q2
  simp only at hf q1 q2
  have HW := Aside0.mk hw
  have HLa := Aside0.mk (show Xa.cache.length ≤ 1000 by omega)
  obtain ⟨Xb, eb, hw2⟩ : ∃ Xb eb, rwriteX Xa 1 [] = (Xb, eb) := ⟨_, _, rfl⟩
  rw [hw2] at hf q2
  simp only at hf q2
  have HW2 := Aside0.mk hw2
  have HLb := Aside0.mk (show Xb.cache.length ≤ 900 by omega)
  clear h hC hn hw hw2 q1 q2 hc
  by_cases h0 : ea = 0
  · rw [if_neg (fun hh => hh h0)] at hf
    subst h0
    by_cases h1 : eb = 0
    · rw [if_neg (fun hh => hh h1)] at hf
      subst h1
      have HF := Aside0.mk hf
      clear hf
      go_enter Try.func86, Try.ntmps86
      go_wp2_with (first
        | (go_at_call 26; (with_reducible refine (rwrite_nil w base R vS vC vB X Xa 0 0 HW.out HD.out HL.out).mono ?_); rintro e w4 ⟨rfl, ht, vc4, hd⟩; have HD4 := Aside0.mk hd; have HT4 := Aside0.mk ht; clear hd ht)
        | (go_at_call 26; (with_reducible refine (rwrite_nil w4 base R vS vc4 vB Xa Xb 1 0 HW2.out HD4.out HLa.out).mono ?_); rintro e w5 ⟨rfl, ht, vc5, hd⟩; have HD5 := Aside0.mk hd; have HT5 := Aside0.mk (HT4.out.trans ht); clear hd ht)
        | (go_at_call 43; (with_reducible refine (rsave_calls HF.out (by decide) HN.out (HC.out w5 HT5.out) HLb.out HD5.out).mono ?_); rintro e w6 ⟨rfl, ht, vc6, hd⟩; have HD6 := Aside0.mk hd; have HT6 := Aside0.mk (HT5.out.trans ht); clear hd ht))
      go_ret
      exact ⟨rfl, HT6.out, vc6, HD6.out⟩
    · rw [if_pos h1] at hf
      cases hf
      have hb : (e != 0) = true := by simpa using h1
      clear h1
      go_enter Try.func86, Try.ntmps86
      go_wp2_with (first
        | (go_at_call 26; (with_reducible refine (rwrite_nil w base R vS vC vB X Xa 0 0 HW.out HD.out HL.out).mono ?_); rintro e w4 ⟨rfl, ht, vc4, hd⟩; have HD4 := Aside0.mk hd; have HT4 := Aside0.mk ht; clear hd ht)
        | (go_at_call 26; (with_reducible refine (rwrite_nil w4 base R vS vc4 vB Xa X' 1 e HW2.out HD4.out HLa.out).mono ?_); rintro e w5 ⟨rfl, ht, vc5, hd⟩; have HD5 := Aside0.mk hd; have HT5 := Aside0.mk (HT4.out.trans ht); clear hd ht))
      go_ret
      exact ⟨rfl, HT5.out, vc5, HD5.out⟩
  · rw [if_pos h0] at hf
    cases hf
    have hb : (e != 0) = true := by simpa using h0
    clear h0
    go_enter Try.func86, Try.ntmps86
    go_wp2_with (first
      | (go_at_call 26; (with_reducible refine (rwrite_nil w base R vS vC vB X X' 0 e HW.out HD.out HL.out).mono ?_); rintro e w4 ⟨rfl, ht, vc4, hd⟩; have HD4 := Aside0.mk hd; have HT4 := Aside0.mk ht; clear hd ht))
    go_ret
    exact ⟨rfl, HT4.out, vc4, HD4.out⟩
end
end Go.Proofs.Ytlepcmljmibdnaa
