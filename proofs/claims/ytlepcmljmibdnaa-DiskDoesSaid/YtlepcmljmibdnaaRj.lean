/- The reference's disk: Wipe, Clone. Conditions: those of each statement. -/
import Derived.Test.YtlepcmljmibdnaaRi
namespace Go.Proofs.Ytlepcmljmibdnaa
open Go.RowKit Go.Proofs.YtlepcmljmibdnaaW.PrintWords Go.Proofs.YtlepcmljmibdnaaW.PrintLast Go.Proofs.YtlepcmljmibdnaaW.PrintMore PDiskArms
set_option linter.unusedVariables false
set_option linter.unusedSimpArgs false
theorem row_cells {w : World} {g t : Nat} {cs : Array Value} {fr : Nat × Nat} (h : w.heap[g]? = some (.cells cs t fr)) (j : Nat) (u : Value) (hu : cs.toList[j]? = some u) : w.cell? ((⟨g, 0, none⟩ : Addr).add j) = some u := by
  have e : (⟨g, 0, none⟩ : Addr).add j = ⟨g, j, none⟩ := by unfold Addr.add; split <;> simp_all
  rw [e]
  unfold World.cell?
  rw [h]
  simpa using hu
theorem only_setRow (w : World) (B : Nat) (cs : Array Value) : Only w (w.setRow B cs) B :=
  ⟨rfl, rfl, rfl, by rw [size_setRow]; exact Nat.le_refl _, fun k hk => setRow_other _ _ _ _ hk⟩
theorem wiped {w : World} {base b2 B B2 N : Nat} {vS vC vB vS2 vB2 : Value} {X : RX} (h : RM w base B vS vC vB X) (h2 : RM w b2 B2 vS2 (.slice none 0 0) vB2 (rnewX N)) (hb : base ≤ b2) :
    RM (w.setRow B #[vS2, .slice none 0 0, vB2, .int .i64 (-1), .bool false]) base B vS2 (.slice none 0 0) vB2 (rnewX N) ∧ TC base isRef w (w.setRow B #[vS2, .slice none 0 0, vB2, .int .i64 (-1), .bool false]) := by
  have ho := only_setRow w B #[vS2, .slice none 0 0, vB2, .int .i64 (-1), .bool false]
  have hc : Chg w (w.setRow B #[vS2, .slice none 0 0, vB2, .int .i64 (-1), .bool false]) (fun k => k = B) := ho.chg fun _ h => h
  have hs : ∀ k, k = B → k < w.heap.size → ∃ t cells, w.heap[k]? = some (.cells cells t (0, 0)) ∧ t = 53 := fun k hk _ => by subst hk; exact ⟨_, _, h.blk, rfl⟩
  refine ⟨⟨setRow_heap _ _ _ _ _ _ h.blk, Kd.R_lower (R_types_chg h2.S hc fun k hk hl => ?_) hb, Kd.R_nil _ _ _ _ _, Kd.R_lower (R_types_chg h2.bad hc fun k hk hl => ?_) hb, h.hB⟩, .of_chg hc h.base_le fun k hk _ => ?_⟩
  · obtain ⟨t, c, h1, rfl⟩ := hs k hk hl
    exact ⟨_, c, h1, fun q hq => by rcases q29 q hq with h | h <;> simp [h]⟩
  · obtain ⟨t, c, h1, rfl⟩ := hs k hk hl
    exact ⟨_, c, h1, fun q hq => by simp [q4 q hq]⟩
  · subst hk
    exact ⟨h.hB, _, h.blk, isRef53 _⟩
theorem newN_of (m : Nat) (h : m ≤ 4096) : rnewN (m : Int) = m := by unfold rnewN; omega
theorem rnew_at (w : World) (m : Nat) (hm : rnewN (m : Int) = m) : Calls Try.prog 25 #[.int .i64 (m : Int)] w fun e w' => ∃ B vS vB, e = .returned (.pointer (some ⟨B, 0, none⟩)) ∧ RM w' w.heap.size B vS (.slice none 0 0) vB (rnewX m) ∧ Below w.heap.size w w' := by
  have := rnew_calls w (m : Int)
  rw [hm] at this
  exact this
def rwipeX (X : RX) : RX := rnewX X.S.length
theorem rwipe_calls (w : World) (base B : Nat) (vS vC vB : Value) (X : RX) (h : RK w base B vS vC vB X) :
    Calls Try.prog 34 #[.pointer (some ⟨B, 0, none⟩)] w fun e w' => e = .returned (.tuple #[]) ∧ TC base isRef w w' ∧ ∃ vS' vB', RK w' base B vS' (.slice none 0 0) vB' (rwipeX X) := by
  have HR := Aside0.mk h
  have q0 := (cells5 h.blk).1.1
  obtain ⟨A, c, hv⟩ := Kd.R_slice h.S
  subst hv
  have HN := Aside0.mk (newN_of X.S.length h.ok.hn)
  clear h
  go_enter Try.func34, Try.ntmps34
  go_wp2_with (first
    | (go_at_call 25; with_reducible refine (rnew_at w X.S.length HN.out).mono ?_; rintro e w1 ⟨B2, vS2, vB2, rfl, hr, hb⟩; obtain ⟨A2, c2, hv2⟩ := Kd.R_slice hr.S; obtain ⟨A3, c3, hv3⟩ := Kd.R_slice hr.bad; generalize (rnewX X.S.length).S.length = n2 at hv2; generalize (rnewX X.S.length).bad.length = n3 at hv3; subst hv2; subst hv3; have HR2 := Aside0.mk hr; have HB2 := Aside0.mk hb; have HR1 := Aside0.mk (HR.out.fresh hb); clear hr hb)
    | ((with_reducible refine gate_ (.load 53 (.tmp 9)) rfl ?_); refine Kd.event_run rfl (Arr.ex_load rfl (ad := ⟨B2, 0, none⟩) rfl (by kernel_rfl) (seg := [.slice A2 n2 c2, .slice none 0 0, .slice A3 n3 c3, .int .i64 (-1), .bool false]) (by kernel_rfl) (row_cells HR2.out.blk)) ?_; simp only [Act.put, List.setIfInBounds_toArray, List.set_cons_succ, List.set_cons_zero])
    | ((with_reducible refine gate_ (.store 53 (.tmp 11) (.tmp 10)) rfl ?_); refine Arr.skip_run rfl (Arr.ex_store rfl rfl rfl (seg := [.slice A2 n2 c2, .slice none 0 0, .slice A3 n3 c3, .int .i64 (-1), .bool false]) rfl (by kernel_rfl) HR1.out.blk (by simp) (by simp [Value.oneCell'])) ?_; simp only [Act.put, List.setIfInBounds_toArray, List.set_cons_succ, List.set_cons_zero]))
  go_end0
  obtain ⟨k1, k2⟩ := wiped HR1.out.toRM HR2.out (Nat.le_trans HR.out.base_le (Nat.le_refl _))
  exact ⟨rfl, (TC.of_below HB2.out HR.out.base_le).trans k2, _, _, k1, rnew_ok _ HR.out.ok.hn⟩
def rcloneX (X : RX) : RX := { rnewX X.S.length with S := X.S }
def RCloneP (w : World) (X : RX) (e : Ending) (w' : World) : Prop := ∃ B' vS' vB', e = .returned (.pointer (some ⟨B', 0, none⟩)) ∧ RK w' w.heap.size B' vS' (.slice none 0 0) vB' (rcloneX X) ∧ Below w.heap.size w w'
def half (S : List (List Int)) (i : Nat) : List (List Int) := S.take i ++ List.replicate (S.length - i) zsec
theorem half_len (S : List (List Int)) (i : Nat) (h : i ≤ S.length) : (half S i).length = S.length := by simp [half]; omega
theorem half_succ (S : List (List Int)) (i : Nat) (s : List Int) (h : S[i]? = some s) : (half S i).set i s = half S (i + 1) := by
  have hl : i < S.length := (List.getElem?_eq_some_iff.1 h).1
  unfold half
  rw [List.take_add_one, h]
  have e : S.length - i = (S.length - (i + 1)) + 1 := by omega
  have hli : (S.take i).length = i := by rw [List.length_take]; omega
  rw [e, List.replicate_succ, List.set_append_right (h := by omega), hli, Nat.sub_self]
  simp
theorem half_all (S : List (List Int)) : half S S.length = S := by simp [half]
theorem half_none (S : List (List Int)) : half S 0 = (rnewX S.length).S := by simp [half, rnewX]
set_option maxHeartbeats 2000000 in
theorem rclone_calls (w : World) (base B : Nat) (vS vC vB : Value) (X : RX) (h : RK w base B vS vC vB X) :
    Calls Try.prog 35 #[.pointer (some ⟨B, 0, none⟩)] w (RCloneP w X) := by
  have HR := Aside0.mk h
  have q0 := (cells5 h.blk).1.1
  obtain ⟨A, c, hv⟩ := Kd.R_slice h.S
  subst hv
  have HN := Aside0.mk (newN_of X.S.length h.ok.hn)
  have hm4 := h.ok.hn
  clear h
  go_enter Try.func35, Try.ntmps35
  go_wp2_with (first | (go_at_call 25; with_reducible refine (rnew_at w X.S.length HN.out).mono ?_; rintro e w1 ⟨B2, vS2, vB2, rfl, hr, hb⟩; have HR2 := Aside0.mk hr; have HB2 := Aside0.mk hb; have q1 := (cells5 (HR.out.fresh hb).blk).1.1; clear hr hb))
  clear q0 q1
  go_loopg [16] X.S.length (fun kq v16 w' => ∃ (i : Nat), v16 = .int .i64 (i : Int) ∧ Aside0 (i + kq = X.S.length) ∧ Aside0 (RM w' w.heap.size B2 vS2 (.slice none 0 0) vB2 { rnewX X.S.length with S := half X.S i }) ∧ Aside0 (Below w.heap.size w w'))
  case atStart => exact ⟨0, rfl, ⟨by omega⟩, ⟨by rw [half_none]; exact HR2.out⟩, HB2⟩
  case round =>
    obtain ⟨i, rfl, HI, HRi, HBi⟩ := hrel
    by_cases hi : i < X.S.length
    · obtain ⟨s, hs⟩ : ∃ s, X.S[i]? = some s := ⟨_, List.getElem?_eq_getElem hi⟩
      have HO := HR.out.fresh HBi.out
      obtain ⟨gs, cs, As, cis, hvs, z0, _, hM0⟩ := rs_at HO.toRM i s hs
      injection hvs with hv1 hv2 hv3
      subst hv1
      subst hv3
      have HC0 : Aside0 ((Kd.int .u8).C wr As s.length s) := ⟨by obtain ⟨v, hv, hR⟩ := hM0; obtain rfl := List.head_eq_of_cons_eq hv; exact (Kd.R_reads' hR).2.2⟩
      have hh : i < (half X.S i).length := by rw [half_len _ _ (by omega)]; exact hi
      obtain ⟨s2, hs2⟩ : ∃ s2, (half X.S i)[i]? = some s2 := ⟨_, List.getElem?_eq_getElem hh⟩
      obtain ⟨g2, c2, A2, ci2, hvs2, y0, yf, _⟩ := rs_at HRi.out i s2 hs2
      subst hvs2
      have HHL := Aside0.mk (half_len X.S i (by omega))
      have hil : (i : Int) < ((half X.S i).length : Int) := by omega
      have hil2 : (i : Int) < (X.S.length : Int) := by omega
      have HS := Aside0.mk hs
      have HHI := Aside0.mk hh
      have H64 := Aside0.mk (HR.out.ok.s64 s (List.mem_of_getElem? hs))
      have p0 : wr.drew.cell? ⟨B, 0, none⟩ = some (.slice (some ⟨gs, 0, none⟩) X.S.length c) := (cells5 HO.blk).1.1
      have p1 : wr.drew.cell? ⟨B2, 0, none⟩ = some (.slice (some ⟨g2, 0, none⟩) (half X.S i).length c2) := (cells5 HRi.out.blk).1.1
      have z0' : wr.drew.cell? ⟨gs, i, none⟩ = some (.slice As s.length cis) := z0
      clear hv2 hM0 hs hs2 hh HO z0
      go_wp2
      refine Fork.wp_fork (Fork.Lo.rel 0) [14] [] (.one 0 0 (.one 1 0 (.one 2 0 (.one 4 0 (.one 5 0 (.one 6 0 (.one 7 0 (.one 9 0 (.one 3 1 (.one 8 1 (.one 10 0 (.one 11 1 (.one 12 2 (.one 13 0 (.one 14 2 .nil))))))))))))))) (by kernel_rfl) (by kernel_rfl) ?_
      generalize hops : List.toArray (_ : List Oper) = ops
      have HO := Aside0.mk hops
      clear hops
      iterate 8 ((refine Fork.plain (Fork.at_ HO.out rfl) _ rfl (fun W => by go_simp; exact rfl) ?_); simp only [Act.put, List.setIfInBounds_toArray, List.set_cons_succ, List.set_cons_zero])
      refine Fork.reads (Fork.at_ HO.out rfl) _ rfl (fun W hW => Arr.ex_load1 rfl rfl (by kernel_rfl) (Fork.bel_cell hW (by assumption))) ?_
      simp only [Act.put, List.setIfInBounds_toArray, List.set_cons_succ, List.set_cons_zero]
      refine Fork.reads (Fork.at_ HO.out rfl) _ rfl (fun W hW => Arr.ex_load1 rfl rfl (by kernel_rfl) (Fork.bel_cell hW (by assumption))) ?_
      simp only [Act.put, List.setIfInBounds_toArray, List.set_cons_succ, List.set_cons_zero]
      ((refine Fork.plain (Fork.at_ HO.out rfl) _ rfl (fun W => by go_simp; exact rfl) ?_); simp only [Act.put, List.setIfInBounds_toArray, List.set_cons_succ, List.set_cons_zero])
      refine Fork.reads (Fork.at_ HO.out rfl) _ rfl (fun W hW => Arr.ex_load1 rfl rfl (by kernel_rfl) (Fork.bel_cell hW (by assumption))) ?_
      simp only [Act.put, List.setIfInBounds_toArray, List.set_cons_succ, List.set_cons_zero]
      refine Fork.step (Fork.at_ HO.out rfl) (fun K hK => ?_)
      refine Kd.R_append_rows_step (Kd.int .u8) (w0 := wr.drew) wr.drew.heap.size rfl (.const (.slice none 0 0)) (.tmp 30) 29 5 (.int .u8 0) 1 rfl Try.underlying29 info5e rfl (by decide) (by decide) (.slice none 0 0) [] s As s.length cis (fun _ => True) (fun _ => False) rfl rfl (Kd.R_nil _ _ _ _ _) HC0.out (fun _ _ h => h) (fun _ h => h.elim) (fun _ _ => trivial) (Below.refl _ _) (Nat.le_refl _) (by rw [H64.out]; decide) ?_
      intro v1 w10 ho hb hg hat
      refine hK _ _ (.of_new hb (Nat.zero_le _)) ?_
      clear hK K
      rw [List.nil_append] at ho
      have HR10 := Aside0.mk ho
      have HB10 := Aside0.mk hb
      obtain ⟨A10, c10, hv10⟩ := Kd.R_slice ho
      subst hv10
      have y0' := Fork.bel_cell hb (show wr.drew.cell? ⟨g2, i, none⟩ = _ from y0)
      have yf' := (hb.frozen (p := ⟨g2, i, none⟩) (block_lt_of_cell (show wr.drew.cell? ⟨g2, i, none⟩ = _ from y0))).trans (show wr.drew.frozen? ⟨g2, i, none⟩ = _ from yf)
      clear ho hb hg hat y0 yf
      try simp only [Act.put, List.setIfInBounds_toArray, List.set_cons_succ, List.set_cons_zero]
      ((refine Fork.plain (Fork.at_ HO.out rfl) _ rfl (fun W => by go_simp; exact rfl) ?_); simp only [Act.put, List.setIfInBounds_toArray, List.set_cons_succ, List.set_cons_zero])
      refine Fork.step (Fork.at_ HO.out rfl) (fun K hK => ?_)
      go_simp
      refine hK _ _ (.of_old (.zero rfl rfl rfl) rfl) ?_
      clear hK K
      try simp only [Act.put, List.setIfInBounds_toArray, List.set_cons_succ, List.set_cons_zero]
      refine Fork.done ?_
      have hr2 := (HRi.out.fresh (Below.refl wr.heap.size wr).drew).fresh HB10.out
      obtain ⟨_, cells, hcl⟩ := own_cells hr2.S g2 rfl
      have hM1 : bytesK.M w10 w.heap.size (fun _ => True) s [.slice A10 s.length c10] := ⟨_, rfl, Kd.R_lower HR10.out HBi.out.size⟩
      have hM2 := bytesK.M_mono (ok' := fun k => k ≠ g2) (fun k hk => hk.2) (Kd.M_types hM1 hcl (fun q hq => by rw [show bytesK.E = [5] from rfl] at hq; simp at hq; simp [hq]))
      obtain ⟨k1, k2⟩ := hr2.putS i HHI.out s _ hM2
      have hk1 := HI.out
      obtain ⟨gq, rfl⟩ : ∃ gq, gk = gq + 1 := ⟨gk - 1, by omega⟩
      go_wp2
      go_roundg gq
      case rel => exact ⟨i + 1, by go_num, ⟨by omega⟩, ⟨by rw [half_succ X.S i s HS.out] at k1; exact k1⟩, ⟨HBi.out.trans (((Below.refl wr.heap.size wr).drew.trans HB10.out).mono HBi.out.size |>.trans k2.low)⟩⟩
      case measure => omega
    · have hi0 := HI.out
      obtain rfl : gk = 0 := by omega
      obtain rfl : i = X.S.length := by omega
      clear hi0
      have hm : ¬ ((X.S.length : Int) < (X.S.length : Int)) := by omega
      go_wp2
      go_ret
      have := HRi.out
      rw [half_all] at this
      exact ⟨_, _, _, rfl, ⟨this, ⟨HR.out.ok.s64, fun p hp => (by cases hp), by show (List.replicate _ _).length = _; simp; rfl, ⟨by show (-1 : Int) ≤ -1; omega, by show (-1 : Int) ≤ _; omega⟩, HR.out.ok.hn⟩⟩, HBi.out⟩
end Go.Proofs.Ytlepcmljmibdnaa
