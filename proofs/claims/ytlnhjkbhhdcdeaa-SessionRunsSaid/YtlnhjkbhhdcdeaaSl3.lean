/- The walk of the pair's send, end 0. -/
import Derived.Test.YtlnhjkbhhdcdeaaMf
namespace Go.Proofs.Ytlnhjkbhhdcdeaa
open Go Go.RowKit Go.Proofs.YtlnhjkbhhdcdeaaW.PrintWords Go.Proofs.YtlnhjkbhhdcdeaaW.PrintLast Go.Proofs.YtlnhjkbhhdcdeaaW.PrintMore
open Go.Proofs.Ytlnhjkbhhdcdeaa.PSessionRuns (S27 k27 z27 S116 k116 z116)
set_option linter.unusedVariables false
set_option maxRecDepth 100000
set_option maxHeartbeats 4000000
attribute [local go_sem] max2_mx min2_mn max_two min_two
section
variable {p : Nat} {lab : Nat → Nat} {st : Pa} {g m : Nat → Nat} {pv vt vs vg : Nat → Value} {w : World} {n : Int}
theorem psend0 (A : PA 2 p lab st g m pv vt vs vg w) (ok : Pok n st) (hn : n + 70000 ≤ 1099511627776) (b : List Int) (A5 : Option Addr) (c5 : Nat) (okp : Nat → Prop) (hV : Kd.V KB 5 w 0 okp (.slice A5 b.length c5) b) (hokp : ∀ k, okp k → lab k ≤ 1) (hbl : b.length ≤ 140737488351232) :
    Calls Try.prog 33 #[.pointer (some ⟨p, 0, none⟩), .int .i64 0, .slice A5 b.length c5] w (PQ p lab w (st.send 0 b)) := by
  have hq : ∃ okq : Nat → Prop, Kd.V KB 5 w 0 okq (.slice A5 b.length c5) b ∧ ∀ k, okq k → lab k ≤ 1 ∧ k < w.heap.size := ⟨_, Kd.V_bound hV, fun k hk => ⟨hokp k hk.1, hk.2⟩⟩
  clear hV hokp okp
  obtain ⟨okp, hV, hokp⟩ := hq
  have hs := A.ses 0 (by omega)
  have hok := ok.ok 0 (by omega)
  have d6 := blk_cell A.blk 6 (.pointer (some ⟨g 0, 0, none⟩)) (by rw [← hs.1]; rfl)
  have HP := Lib.hid (peer_ses hs.2)
  have HA := Lib.hid A
  have OK := Lib.hid ok
  have OKI := Lib.hid hok
  have HV := Lib.hid hV
  have HOKP := Lib.hid hokp
  have HN := Lib.hid hn
  obtain ⟨gi, hgi⟩ : ∃ gi, gi = g 0 := ⟨_, rfl⟩
  obtain ⟨pe, hpe⟩ : ∃ pe, pe = (st.s 0).peer := ⟨_, rfl⟩
  obtain ⟨bl, hbe⟩ : ∃ bl, bl = b.length := ⟨_, rfl⟩
  have EQ := Lib.hid (And.intro hgi (And.intro hpe hbe))
  rw [← hgi] at d6 HP
  rw [← hpe] at HP
  rw [← hbe] at hbl ⊢
  clear hs hok A ok hV hokp hgi hpe hbe hn
  go_enter Try.func33, Try.ntmps33
  go_wp2_with fail
  refine HP.out.mono ?_
  rintro e w1 ⟨rfl, d, hd⟩
  clear HP
  have HA1 : Hid (PA 2 p lab st g m pv vt vs vg w1) := by rw [hd]; exact Lib.hid (HA.out.drewN d)
  have HV1 : Hid (Kd.V KB 5 w1 0 okp (.slice A5 b.length c5) b) := by rw [hd]; exact Lib.hid (Kd.V_drewN HV.out d)
  have HL1 : Hid (Ls lab lab w w1) := by rw [hd]; exact Lib.hid (Ls.below (pw_below_drewN (Below.refl _ _) d))
  clear d6 hd d HA HV
  go_upto_region 1 with fail
  have hs := HA1.out.ses 0 (by omega)
  have p6 := blk_cell HA1.out.blk 6 (.pointer (some ⟨gi, 0, none⟩)) (by rw [EQ.out.1, ← hs.1]; rfl)
  have p14 := blk_cell HA1.out.blk 14 (.int .i64 st.now) rfl
  have hb2 : Below w1.heap.size w1 (w1.alloc (.cells #[.slice A5 b.length c5] 25)) := below_alloc (Below.refl _ _) _
  have hA2 := HA1.out.below hb2
  have hrow : Kd.V (Kd.slice 5 KB) 25 (w1.alloc (.cells #[.slice A5 b.length c5] 25)) 0 (fun k => okp k ∨ k = w1.heap.size) (.slice (some ⟨w1.heap.size, 0, none⟩) 1 1) [b] :=
    V_block (cs := [.slice A5 b.length c5]) (heap_alloc_new w1 _) ⟨rfl, fun j x hj => by
      match j with
      | 0 =>
        simp at hj
        subst hj
        exact FK_slice (Kd.V_alloc HV1.out _)
      | j + 1 => simp at hj⟩ rfl (Nat.le_refl _) (by decide)
  have hlab0 : lab w1.heap.size = 0 := by
    rcases Nat.eq_zero_or_pos (lab w1.heap.size) with h | h
    · exact h
    · exact absurd (HA1.out.lim _ (by omega)) (Nat.lt_irrefl _)
  have hcl : Hid (∀ d, Calls Try.prog 14 #[.pointer (some ⟨gi, 0, none⟩), .int .i64 st.now, .slice (some ⟨w1.heap.size, 0, none⟩) 1 1] ((w1.alloc (.cells #[.slice A5 bl c5] 25)).drewN d) (FrP (w1.alloc (.cells #[.slice A5 bl c5] 25)) (fun k => lab k = 2 + 0) (fun k => lab k = 1) gi (m 0) ((st.s 0).sendF st.now [b]))) := by
    rw [EQ.out.1, EQ.out.2.2]
    refine Lib.hid (fun d => (send_ses ((hA2.ses 0 (by omega)).2.drewN d) OKI.out (by have := HN.out; omega) st.now [b] _ _ 1 (Kd.V_drewN hrow d) (fun k hk => ?_) (by simp)).mono ?_)
    · rcases hk with h | h
      · have := (HOKP.out k h).1
        omega
      · rw [h, hlab0]
        omega
    · rintro e w' ⟨M', B', A9, c9, e1, e2, e3, e4⟩
      exact ⟨M', B', A9, c9, e1, e2, ⟨e3.mm, e3.mn, e3.bb, e3.bn, ⟨e3.chg.os, e3.chg.tape, e3.chg.output, e3.chg.size, e3.chg.block⟩⟩, e4⟩
  have q1 := fun o => Lib.cell?_alloc_some o p6
  have q2 := fun o => Lib.cell?_alloc_some o p14
  have HA2 : Hid (PA 2 p lab st g m pv vt vs vg (w1.alloc (.cells #[.slice A5 bl c5] 25))) := by rw [EQ.out.2.2]; exact Lib.hid hA2
  have HB2 : Hid (Below w1.heap.size w1 (w1.alloc (.cells #[.slice A5 bl c5] 25))) := Lib.hid (below_alloc (Below.refl _ _) _)
  have HV2 : Hid (Kd.V KB 5 (w1.alloc (.cells #[.slice A5 bl c5] 25)) 0 okp (.slice A5 bl c5) b) := by rw [EQ.out.2.2]; exact Lib.hid (Kd.V_alloc HV1.out _)
  obtain ⟨nw, hnw⟩ : ∃ nw, nw = st.now := ⟨_, rfl⟩
  have HNW := Lib.hid hnw
  rw [← hnw] at p14 q2 hcl
  clear hs hb2 hA2 hrow hlab0 hnw
  have k1 := Lib.hid (And.intro p6 p14)
  have k2 : Hid (w1.drew.cell? ⟨p, 6, none⟩ = some (.pointer (some ⟨gi, 0, none⟩)) ∧ w1.drew.cell? ⟨p, 14, none⟩ = some (.int .i64 nw)) := Lib.hid ⟨p6, p14⟩
  have k3 : Hid ((w1.drewN 1).cell? ⟨p, 6, none⟩ = some (.pointer (some ⟨gi, 0, none⟩)) ∧ (w1.drewN 1).cell? ⟨p, 14, none⟩ = some (.int .i64 nw)) := Lib.hid ⟨p6, p14⟩
  have k4 : Hid (∀ o d, ((w1.alloc o).drewN d).cell? ⟨p, 6, none⟩ = some (.pointer (some ⟨gi, 0, none⟩)) ∧ ((w1.alloc o).drewN d).cell? ⟨p, 14, none⟩ = some (.int .i64 nw)) := Lib.hid (fun o d => ⟨q1 o, q2 o⟩)
  clear q1 q2
  go_region_held3 (fun W => W.cell? ⟨p, 6, none⟩ = some (.pointer (some ⟨gi, 0, none⟩)) ∧ W.cell? ⟨p, 14, none⟩ = some (.int .i64 nw)) (first | with_reducible exact k1.out | with_reducible exact k2.out | with_reducible exact k3.out | exact k4.out _ _ | exact kS.out)
    (first | (go_simp; go_at_call 14; refine (hcl.out _).mono ?_; rintro e w2 ⟨M', B', A9, c9, rfl, e2, e3, e4⟩; have E2 := Lib.hid e2; have E3 := Lib.hid e3; have E4 := Lib.hid e4; have kS : Hid (w2.cell? ⟨p, 6, none⟩ = some (.pointer (some ⟨gi, 0, none⟩)) ∧ w2.cell? ⟨p, 14, none⟩ = some (.int .i64 nw)) := Lib.hid (KS_ HA2.out 0 e3 (by omega) (by rw [EQ.out.1]) HNW.out); clear e2 e3 e4))
  obtain ⟨r, hr⟩ : ∃ r, r = (st.s 0).sendF nw [b] := ⟨_, rfl⟩
  rw [← hr] at E2 E4 ⊢
  obtain ⟨lab1, L1, A3, hM, hnew, hold⟩ := HA2.out.session 0 (by omega) (by rw [← EQ.out.1]; exact E2.out) E3.out
  have LS : Hid (Ls lab lab1 w w2) := Lib.hid ((HL1.out.trans (Ls.below HB2.out)).trans (L1.ls (by omega)))
  have hVf : Kd.V k27 27 w2 0 (fun k => lab1 k = 1) (.slice A9 r.2.1.length c9) r.2.1 := Kd.V_mono E4.out (fun k hk => hnew k hk.1 hk.2.1 hk.2.2)
  have hVb : Kd.V KB 5 w2 0 okp (.slice A5 bl c5) b := Kd.V_step HV2.out (fun k hk hl => L1.same k hl (by have := (HOKP.out k hk).1; omega))
  have HOK1 : Hid (∀ k, okp k → lab1 k ≤ 1) := Lib.hid (fun k hk => by rw [LS.out.lab_ k (HOKP.out k hk).2 (HOKP.out k hk).1]; exact (HOKP.out k hk).1)
  obtain ⟨er, her⟩ : ∃ er, er = r.1 := ⟨_, rfl⟩
  obtain ⟨fs, hfs⟩ : ∃ fs, fs = r.2.1 := ⟨_, rfl⟩
  obtain ⟨zf, hzf⟩ : ∃ zf, zf = fs.length := ⟨_, rfl⟩
  have HR := Lib.hid (And.intro hr (And.intro her (And.intro hfs hzf)))
  rw [← hfs] at hVf
  rw [← hzf] at hVf
  rw [← her, ← hfs, ← hzf]
  have A4 := Lib.hid A3
  have VF := Lib.hid hVf
  have VB := Lib.hid hVb
  have HSE := Lib.hid (show Ok (n + 65536) r.2.2 by rw [hr]; exact OKI.out.sendF (by have := HN.out; omega) _ _)
  clear hr her hfs hzf A3 hVf hVb L1 hM hnew hold E2 E3 E4 kS k1 k2 k3 k4 hcl p6 p14 HA2 HB2 HV2 HA1 HV1 HL1
  by_cases h0 : er = 0
  · have HST : Hid (st.send 0 b = { st with s := upd st.s 0 r.2.2, to_ := upd st.to_ 1 (st.to_ 1 ++ fs), sent := if pe = 0 then st.sent else upd st.sent 0 (st.sent 0 ++ [⟨st.boot 0, pe, b⟩]) }) := by
      refine Lib.hid ?_
      have h := HR.out
      rw [HNW.out] at h
      unfold Pa.send
      simp only [← h.1, ← h.2.1, h0, if_pos, ← h.2.2.1, EQ.out.2.1]
    have e1 : (er == 0) = true := by rw [h0]; rfl
    have e2 : (er != 0) = false := by rw [h0]; rfl
    have hfl : fs.length ≤ 64 := by
      have h := HR.out
      rw [h.2.2.1, h.1]
      exact sendF_len OKI.out (by have := HN.out; omega) _ _
    have HFL : Hid ((st.to_ 1).length ≤ 1099511627776 ∧ zf ≤ 64 ∧ (st.sent 0).length ≤ 1099511627776) := Lib.hid (by
      have h1 := OK.out.to_ 1 (by omega)
      have h2 := OK.out.sent 0 (by omega)
      have h3 := HR.out.2.2.2
      have := HN.out
      omega)
    clear hfl
    go_upto_region 4 with fail
    clear h0 e1 e2
    have q8 := blk_cell A4.out.blk 9 (vt 1) rfl
    have HT9 := Lib.hid (A4.out.to_ 1 (by omega))
    have hw1 : IntKind.i64.wrap (1 - 0) = 1 := by decide
    have hw2 : IntKind.i64.wrap 1 = 1 := by decide
    go_cut [] (fun wx => ∃ lab2 vt', Hid (PA 2 p lab2 { st with s := upd st.s 0 r.2.2, to_ := upd st.to_ 1 (st.to_ 1 ++ fs) } g m pv vt' vs vg wx) ∧ Hid (Ls lab1 lab2 w2 wx) ∧ Hid (Kd.V KB 5 wx 0 okp (.slice A5 bl c5) b))
    case first =>
      go_region_law (first
        | (refine Kd.N_append_rows_step k27 (w0 := w2.drew) 0 (by rfl) (.tmp 69) (.tmp 70) 42 27 (.agg #[.int .u8 0, .int .u32 0, .int .u32 0, .int .u64 0, .int .u64 0, .slice none 0 0]) 56 (by rfl) Try.underlying42 Try.info27 rfl (by decide) (by omega) (vt 1) (st.to_ 1) fs A9 zf c9 (fun k => lab1 k = 1 ∨ some k = (vt 1).ownBlock ∨ w2.heap.size ≤ k) (fun k => lab1 k = 1) (by rfl) (by rfl) (HT9.out.wide (by rfl) (fun _ => by rfl)) (Kd.F_step (Kd.V_F VF.out) (fun _ _ _ => by rfl)) (fun k hk => ⟨.inl hk, fun he => by have := HT9.out.2 k he.symm; omega⟩) (fun k hk => .inr (.inr hk)) (Below.refl _ _) (Nat.zero_le _) (by have := HFL.out; omega) ?_; intro v3 w3 hn3 hb3 hg3 hat3; obtain ⟨A8, c8, e8⟩ := Kd.N_slice hn3; subst e8; obtain ⟨lab2, LS2, hbk, A5'⟩ := A4.out.toSet (j := 1) (by omega) hn3 ⟨hg3.os, hg3.tape, hg3.output, hg3.size, hg3.block⟩ hat3; have u8 := blk_cell hbk 9 (vt 1) rfl; have u9 := blk_free hbk 9; have LS2 := Lib.hid LS2; have A5' := Lib.hid A5'; have HG3 := Lib.hid (show Chg (fun k => some k = (vt 1).ownBlock) w2 w3 from ⟨hg3.os, hg3.tape, hg3.output, hg3.size, fun k hk hn => hg3.block k hk hn⟩); clear hn3 hb3 hg3 hat3 hbk))
      all_goals
        go_wp2_with fail
        go_meet
        rw [← List.length_append]
        exact ⟨lab2, _, A5', LS2, Lib.hid (Kd.V_step VB.out (fun k hk hl => LS2.out.same k hl (HOK1.out k hk)))⟩
    case rest =>
      obtain ⟨lab2, vt2, A6, LS2, VB2⟩ := hcut
      clear HT9 q8 hw1 hw2 A4 VB VF
      by_cases hp0 : pe = 0
      · have HS0 : Hid (st.send 0 b = { st with s := upd st.s 0 r.2.2, to_ := upd st.to_ 1 (st.to_ 1 ++ fs), sent := st.sent }) := Lib.hid (by rw [HST.out, if_pos hp0])
        have e1 : (pe == 0) = true := by rw [hp0]; rfl
        have e2 : (pe != 0) = false := by rw [hp0]; rfl
        clear hp0
        go_wp2_with fail
        go_end0
        refine ⟨rfl, lab2, g, m, pv, vt2, vs, vg, ?_, LS.out.trans LS2.out⟩
        rw [HS0.out]
        exact A6.out
      · have HS0 : Hid (st.send 0 b = { st with s := upd st.s 0 r.2.2, to_ := upd st.to_ 1 (st.to_ 1 ++ fs), sent := upd st.sent 0 (st.sent 0 ++ [⟨st.boot 0, pe, b⟩]) }) := Lib.hid (by rw [HST.out, if_neg hp0])
        have e1 : (pe == 0) = false := by simpa using hp0
        have e2 : (pe != 0) = true := by simp [hp0]
        go_upto_region 6 with fail
        clear hp0 e1 e2
        obtain ⟨bo, hbo⟩ : ∃ bo, bo = st.boot 0 := ⟨_, rfl⟩
        have HBO := Lib.hid hbo
        have q10 := blk_cell A6.out.blk 10 (vs 0) rfl
        have qb := blk_cell A6.out.blk 0 (.int .u32 bo) (by rw [hbo]; rfl)
        have qA := fun o => Lib.cell?_alloc_some o q10
        have qB := fun o => Lib.cell?_alloc_some o qb
        have HO : Hid (∀ d, KB.R 5 ((wc.alloc (.cells #[] 5)).drewN d) wc.heap.size (fun k => wc.heap.size ≤ k) (.slice (some ⟨wc.heap.size, 0, none⟩) 0 0) []) := Lib.hid (fun d => R_new_int wc .u8 5 [] [] rfl (by simp) 0 rfl _ rfl)
        have HRD : Hid (∀ d, KB.C ((wc.alloc (.cells #[] 5)).drewN d) A5 bl b) := by
          rw [EQ.out.2.2]
          exact Lib.hid (fun d => Kd.C_alloc (Kd.V_reads' VB2.out).2.2 _)
        have HBW : Hid (∀ d, Below wc.heap.size wc ((wc.alloc (.cells #[] 5)).drewN d)) := Lib.hid (fun d => pw_below_drewN (below_alloc (Below.refl _ _) _) d)
        have FIN : Hid (∀ (w6 w7 : World) (lab3 lab4 : Nat → Nat) (v : Value), Ls lab2 lab3 wc w6 → PA 2 p lab4 { st with s := upd st.s 0 r.2.2, to_ := upd st.to_ 1 (st.to_ 1 ++ fs), sent := upd st.sent 0 (st.sent 0 ++ [⟨bo, pe, b⟩]) } g m pv vt2 (upd vs 0 v) vg (w7.setCell ⟨p, 10 + 0, none⟩ v) → Ls lab3 lab4 w6 (w7.setCell ⟨p, 10 + 0, none⟩ v) → ∀ u, u = v → PQ p lab w (st.send 0 b) (.returned (.tuple #[])) (w7.setCell ⟨p, 10, none⟩ u)) := by
          refine Lib.hid ?_
          intro w6 w7 lab3 lab4 v h1 h2 h3 u hu
          rw [hu]
          refine ⟨rfl, lab4, g, m, pv, vt2, upd vs 0 v, vg, ?_, ((LS.out.trans LS2.out).trans h1).trans h3⟩
          rw [HS0.out, ← hbo]
          exact h2
        clear hbo
        go_region_law (first
          | (refine Kd.R_append_rows_step KB (w0 := wc) wc.heap.size (by rfl) (.tmp 93) (.tmp 94) 25 5 (.int .u8 0) 1 (by rfl) Try.underlying25 Try.info5 rfl (by decide) (by omega) (.slice (some ⟨wc.heap.size, 0, none⟩) 0 0) [] b A5 bl c5 (fun k => wc.heap.size ≤ k) (fun _ => False) (by rfl) (by rfl) (HO.out _) (HRD.out _) (fun _ _ h => h) (fun _ h => h.elim) (fun k hk => Nat.le_trans (HBW.out 0).size hk) (HBW.out _) (HBW.out 0).size (by simp; omega) ?_; intro v1 w6 hr6 hb6 hg6 hat6; obtain ⟨A7, c7, e7⟩ := Kd.R_slice hr6; subst e7; obtain ⟨lab3, L3, A8, hold3, hnew3⟩ := A6.out.made hb6; have V7 : Kd.V KB 5 w6 0 (fun k => lab3 k = 1) (.slice A7 b.length c7) b := Kd.V_mono (Kd.V_bound (Kd.R_V hr6)) (fun k hk => hnew3 k hk.1 hk.2); have u10 := blk_cell A8.blk 10 (vs 0) rfl; have ub := blk_cell A8.blk 0 (.int .u32 bo) (by rw [HBO.out]; rfl); have uA := (fun o => Lib.cell?_alloc_some o u10); have uB := (fun o => Lib.cell?_alloc_some o ub); have V7 := Lib.hid V7; have A8 := Lib.hid A8; have L3 := Lib.hid (L3.ls (by omega)); have R8 := Lib.hid (A8.out.sent 0 (by omega)); clear hr6 hb6 hg6 hat6 hold3 hnew3)
          | (refine Kd.N_append_step k89 (w0 := w6) 0 (by rfl) (.tmp 84) (.tmp 97) 84 89 (.agg #[.int .u32 0, .int .u32 0, .slice none 0 0]) 32 (by rfl) Try.underlying84 Try.info89 rfl (by decide) (by omega) (vs 0) (st.sent 0) ⟨bo, pe, b⟩ [.int .u32 bo, .int .u32 pe, .slice A7 b.length c7] (fun k => lab3 k = 1 ∨ some k = (vs 0).ownBlock ∨ w6.heap.size ≤ k) (fun k => lab3 k = 1) (by rfl) (by rfl) (FK_mail V7.out) (fun k hk => ⟨.inl hk, fun he => by have := R8.out.2 k he.symm; omega⟩) (fun k hk => .inr (.inr hk)) (R8.out.wide (by rfl) (fun _ => by rfl)) (Below.refl _ _) (Nat.zero_le _) (by have := HFL.out; omega) ?_; intro v3 w7 hn7 hb7 hg7 hat7; obtain ⟨A9', c9', e9⟩ := Kd.N_slice hn7; subst e9; obtain ⟨lab4, LS4, hbk, A10⟩ := A8.out.sentSet (j := 0) (by omega) hn7 hg7 hat7; have u11 := blk_cell hbk 10 (vs 0) rfl; have u12 := blk_free hbk 10; have LS4 := Lib.hid LS4; have A10 := Lib.hid A10; clear hn7 hb7 hg7 hat7 hbk))
        all_goals
          go_wp2_with fail
          go_end0
          exact FIN.out w6 w7 lab3 lab4 _ L3.out A10.out LS4.out _ (by simp)
  · have HST : Hid (st.send 0 b = { st with s := upd st.s 0 r.2.2, bad := st.bad || decide (bl ≤ 65536) && decide (r.2.2.L.length < 65536) }) := by
      refine Lib.hid ?_
      have h := HR.out
      rw [HNW.out] at h
      unfold Pa.send
      simp only [← h.1, ← h.2.1, if_neg h0, EQ.out.2.2]
    have e1 : (er == 0) = false := by simpa using h0
    have e2 : (er != 0) = true := by simp [h0]
    go_upto_region 3 with fail
    obtain ⟨bb, hbb⟩ : ∃ bb, bb = st.bad := ⟨_, rfl⟩
    obtain ⟨lo, hlo⟩ : ∃ lo, decide ((bl : Int) ≤ 65536) = lo := ⟨_, rfl⟩
    obtain ⟨wl, hwl⟩ : ∃ wl, decide ((r.2.2.L.length : Int) < 65536) = wl := ⟨_, rfl⟩
    have HB : Hid (st.send 0 b = { st with s := upd st.s 0 r.2.2, bad := bb || lo && wl }) := by
      refine Lib.hid ?_
      have g1 : decide (bl ≤ 65536) = decide ((bl : Int) ≤ 65536) := by rw [decide_eq_decide]; omega
      have g2 : decide (r.2.2.L.length < 65536) = decide ((r.2.2.L.length : Int) < 65536) := by rw [decide_eq_decide]; omega
      rw [HST.out, hbb, ← hlo, ← hwl, g1, g2]
    have q6 := blk_cell A4.out.blk 6 (.pointer (some ⟨gi, 0, none⟩)) (by rw [EQ.out.1, ← (A4.out.ses 0 (by omega)).1]; rfl)
    have q15 := blk_cell A4.out.blk 15 (.bool bb) (by rw [hbb]; rfl)
    have f15 := blk_free A4.out.blk 15
    have hwt : Hid (Calls Try.prog 18 #[.pointer (some ⟨gi, 0, none⟩)] w2 fun e w' => e = .returned (.int .i64 r.2.2.L.length) ∧ ∃ d, w' = w2.drewN d) := by
      have := (A4.out.ses 0 (by omega)).2
      have : Ses (fun k => lab1 k = 2 + 0) (fun k => lab1 k = 1) (g 0) (m 0) (upd st.s 0 r.2.2 0) w2 := this
      rw [upd_at] at this
      rw [EQ.out.1]
      exact Lib.hid (waiting_ses this)
    obtain ⟨ll, hll⟩ : ∃ ll, ll = r.2.2.L.length := ⟨_, rfl⟩
    rw [← hll] at hwt hwl
    have FIN : Hid (∀ (d : Nat) (x : Bool), x = (bb || lo && wl) → PQ p lab w (st.send 0 b) (.returned (.tuple #[])) ((w2.drewN d).setCell ⟨p, 15, none⟩ (.bool x))) := by
      refine Lib.hid ?_
      rintro d x rfl
      have A6 := A4.out.drewN d
      refine ⟨rfl, lab1, g, m, pv, vt, vs, vg, ?_, (LS.out.trans (Ls.below (pw_below_drewN (Below.refl _ _) d))).trans ((Lb.put lab1 _ ⟨p, 15, none⟩ _ A6.lim A6.at_).ls (by omega))⟩
      rw [HB.out]
      exact A6.badSet _
    clear hbb hll h0
    cases bb with
    | true =>
      go_wp2_with fail
      refine bodyPost_ret (results_none rfl _ _ _) rfl ?_
      exact FIN.out 0 true rfl
    | false =>
      cases lo with
      | false =>
        go_wp2_with fail
        refine bodyPost_ret (results_none rfl _ _ _) rfl ?_
        exact FIN.out 0 false rfl
      | true =>
        go_wp2_with fail
        refine hwt.out.mono ?_
        rintro e w3 ⟨rfl, d, hd⟩
        have r15 : w3.cell? ⟨p, 15, none⟩ = some (.bool false) := by rw [hd]; exact q15
        have g15 : w3.frozen? ⟨p, 15, none⟩ = false := by rw [hd]; exact f15
        have HD := Lib.hid hd
        clear hd q15 f15 q6
        go_wp2_with fail
        refine bodyPost_ret (results_none rfl _ _ _) rfl ?_
        rw [HD.out]
        exact FIN.out d wl rfl
end
end Go.Proofs.Ytlnhjkbhhdcdeaa
