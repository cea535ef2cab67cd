/- The walk of the pair's tick. -/
import Derived.Test.YtlnhjkbhhdcdeaaOa
namespace Go.Proofs.Ytlnhjkbhhdcdeaa
open Go Go.RowKit Go.Proofs.YtlnhjkbhhdcdeaaW.PrintWords Go.Proofs.YtlnhjkbhhdcdeaaW.PrintLast Go.Proofs.YtlnhjkbhhdcdeaaW.PrintMore
open Go.Proofs.Ytlnhjkbhhdcdeaa.PSessionRuns (S27 k27 z27 S116 k116 z116)
set_option linter.unusedVariables false
set_option maxRecDepth 100000
set_option maxHeartbeats 4000000
attribute [local go_sem] max2_mx min2_mn max_two min_two
section
variable {p : Nat} {lab : Nat → Nat} {st : Pa} {g m : Nat → Nat} {pv vt vs vg : Nat → Value} {w : World} {n : Int}
def TQ (p : Nat) (lab : Nat → Nat) (w : World) (st : Pa) (g m : Nat → Nat) (pv vs vg : Nat → Value) (i : Nat) (wr : World) : Prop :=
  ∃ lab' vt', PA 2 p lab' (st.tickN i) g m pv vt' vs vg wr ∧ Ls lab lab' w wr
theorem Pk.tickN {n : Int} {st : Pa} (h : Pk n st) (i : Nat) (hi : i < 3) (hn : n + 140000 ≤ 1099511627776 := by omega) : Pk (n + 140000) (st.tickN i) := by
  have : i = 0 ∨ i = 1 ∨ i = 2 := by omega
  rcases this with rfl | rfl | rfl
  · exact h.more (by omega) hn
  · exact (h.tick1 0 (by omega) (by omega)).more (by omega) hn
  · have := (h.tick1 0 (by omega) (by omega)).tick1 1 (by omega) (by omega)
    exact this.more (by omega) hn
theorem ptick (A : PA 2 p lab st g m pv vt vs vg w) (pn : Pn n st) (hn : n + 140000 ≤ 1099511627776) (d : Int) (hd0 : 0 ≤ d) (hd1 : d ≤ 255) :
    Calls Try.prog 65 #[.pointer (some ⟨p, 0, none⟩), .int .i64 d] w (PQ p lab w (st.tick d)) := by
  have HN := Lib.hid hn
  have hn0 := pn.now0
  have hn1 := pn.now1
  have HPK : Hid (Pk n (st.later d)) := Lib.hid (pn.later d hd0).pk
  have q14 := blk_cell A.blk 14 (.int .i64 st.now) rfl
  have f14 := blk_free A.blk 14
  obtain ⟨nw0, hnw0⟩ : ∃ nw, nw = st.now := ⟨_, rfl⟩
  have HA := Lib.hid A
  rw [← hnw0] at q14 hn0 hn1
  have hw : IntKind.i64.wrap (nw0 + d) = nw0 + d := IntWalk.i64_in _ (by omega)
  have HST : Hid (st.tick d = (st.later d).tickN 2) := Lib.hid rfl
  have HNW : Hid (mn (nw0 + d) 1099511627776 = (st.later d).now) := Lib.hid (by rw [hnw0]; rfl)
  have HLT : Hid (st.later d = { st with now := (st.later d).now }) := Lib.hid rfl
  obtain ⟨st0, hst0⟩ : ∃ st0, st0 = st.later d := ⟨_, rfl⟩
  rw [← hst0] at HPK HST HNW HLT
  clear hn A pn hn0 hn1 hd0 hd1 hst0 hnw0
  have HFI : Hid (∀ x, x = st0.now → PA 2 p lab st0 g m pv vt vs vg (w.setCell ⟨p, 14, none⟩ (.int .i64 x)) ∧ Ls lab lab w (w.setCell ⟨p, 14, none⟩ (.int .i64 x))) := Lib.hid (fun x hx => by
    subst hx
    have h := HA.out.nowSet st0.now
    rw [← HLT.out] at h
    exact ⟨h, (Lb.put lab w ⟨p, 14, none⟩ _ HA.out.lim HA.out.at_).ls (by omega)⟩)
  go_enter Try.func65, Try.ntmps65
  go_upto_region 1 with fail
  clear q14 f14 hw
  obtain ⟨hA0, hL0⟩ := HFI.out _ HNW.out
  have HT0 : Hid (TQ p lab w st0 g m pv vs vg 0 (w.setCell ⟨p, 14, none⟩ (.int .i64 (mn (nw0 + d) 1099511627776)))) := Lib.hid ⟨lab, vt, hA0, hL0⟩
  clear hA0 hL0 HFI
  generalize w.setCell ⟨p, 14, none⟩ (.int .i64 (mn (nw0 + d) 1099511627776)) = W0 at *
  clear HNW HLT HA
  go_wp2_with fail
  go_loopw [4] (fun v wr => ∃ i : Nat, v = .int .i64 i ∧ i ≤ 2 ∧ Hid (TQ p lab w st0 g m pv vs vg i wr)) (fun v _ => 2 - (intOf v).toNat)
  case atStart => exact ⟨0, rfl, Nat.zero_le _, HT0⟩
  case round =>
    obtain ⟨i, rfl, hi, htq⟩ := hrel
    have h3 : i = 0 ∨ i = 1 ∨ i = 2 := by omega
    have hnn := HN.out
    rcases h3 with rfl | rfl | rfl
    · obtain ⟨lab1, vt1, A, L⟩ := htq.out
      have hs := A.ses 0 (by omega)
      have hpk := HPK.out.tickN 0 (by omega)
      obtain ⟨st1, hst1⟩ : ∃ st1, st1 = st0.tickN 0 := ⟨_, rfl⟩
      rw [← hst1] at A hs hpk
      have hok := hpk.ok.ok 0 (by omega)
      have p6 := blk_cell A.blk 6 (.pointer (some ⟨g 0, 0, none⟩)) (by rw [← hs.1]; rfl)
      have p14 := blk_cell A.blk 14 (.int .i64 st1.now) rfl
      obtain ⟨gi, hgi⟩ : ∃ gi, gi = g 0 := ⟨_, rfl⟩
      obtain ⟨nw, hnw⟩ : ∃ nw, nw = st1.now := ⟨_, rfl⟩
      obtain ⟨r, hr⟩ : ∃ r, r = (st1.s 0).tickF nw := ⟨_, rfl⟩
      have hcl : Hid (∀ d, Calls Try.prog 16 #[.pointer (some ⟨gi, 0, none⟩), .int .i64 nw] (wr.drewN d) (FrP wr (fun k => lab1 k = 2 + 0) (fun k => lab1 k = 1) gi (m 0) r)) := by
        rw [hgi, hr, hnw]
        refine Lib.hid (fun d => (tick_ses (hs.2.drewN d) hok st1.now).mono ?_)
        rintro e w' ⟨M', B', A9, c9, e1, e2, e3, e4⟩
        exact ⟨M', B', A9, c9, e1, e2, ⟨e3.mm, e3.mn, e3.bb, e3.bn, ⟨e3.chg.os, e3.chg.tape, e3.chg.output, e3.chg.size, e3.chg.block⟩⟩, e4⟩
      have EQ := Lib.hid (And.intro hgi (And.intro hnw (And.intro hr hst1)))
      rw [← hgi] at p6
      rw [← hnw] at p14
      have HA := Lib.hid A
      have HL := Lib.hid L
      have HPK1 := Lib.hid hpk
      have HFS : Hid (r.2.1.length ≤ 65) := Lib.hid (by rw [hr]; exact tickF_len hok _)
      clear hs hok hgi hnw hr A L hpk htq hst1 HPK
      go_upto_region 4 with fail
      have k1 := Lib.hid (And.intro p6 p14)
      have k2 : Hid (wr.drew.cell? ⟨p, 6, none⟩ = some (.pointer (some ⟨gi, 0, none⟩)) ∧ wr.drew.cell? ⟨p, 14, none⟩ = some (.int .i64 nw)) := Lib.hid ⟨p6, p14⟩
      have k3 : Hid ((wr.drewN 1).cell? ⟨p, 6, none⟩ = some (.pointer (some ⟨gi, 0, none⟩)) ∧ (wr.drewN 1).cell? ⟨p, 14, none⟩ = some (.int .i64 nw)) := Lib.hid ⟨p6, p14⟩
      clear p6 p14
      go_region_held3 (fun W => W.cell? ⟨p, 6, none⟩ = some (.pointer (some ⟨gi, 0, none⟩)) ∧ W.cell? ⟨p, 14, none⟩ = some (.int .i64 nw)) (first | with_reducible exact k1.out | with_reducible exact k2.out | with_reducible exact k3.out | exact kS.out)
        (first | (go_simp; go_at_call 16; refine (hcl.out _).mono ?_; rintro e w2 ⟨M', B', A9, c9, rfl, e2, e3, e4⟩; have E2 := Lib.hid e2; have E3 := Lib.hid e3; have E4 := Lib.hid e4; have kS : Hid (w2.cell? ⟨p, 6, none⟩ = some (.pointer (some ⟨gi, 0, none⟩)) ∧ w2.cell? ⟨p, 14, none⟩ = some (.int .i64 nw)) := Lib.hid (KS_ HA.out 0 e3 (by omega) EQ.out.1 EQ.out.2.1); clear e2 e3 e4))
      obtain ⟨lab2, L1, A3, hM, hnew, hold⟩ := HA.out.session 0 (by omega) (by rw [← EQ.out.1]; exact E2.out) E3.out
      have LS : Hid (Ls lab lab2 w w2) := Lib.hid (HL.out.trans (L1.ls (by omega)))
      have hVf : Kd.V k27 27 w2 0 (fun k => lab2 k = 1) (.slice A9 r.2.1.length c9) r.2.1 := Kd.V_mono E4.out (fun k hk => hnew k hk.1 hk.2.1 hk.2.2)
      obtain ⟨er, her⟩ : ∃ er, er = r.1 := ⟨_, rfl⟩
      obtain ⟨fs, hfs⟩ : ∃ fs, fs = r.2.1 := ⟨_, rfl⟩
      obtain ⟨zf, hzf⟩ : ∃ zf, zf = fs.length := ⟨_, rfl⟩
      obtain ⟨ne, hne⟩ : ∃ ne, (er != 0) = ne := ⟨_, rfl⟩
      obtain ⟨bb, hbb⟩ : ∃ bb, bb = st1.bad := ⟨_, rfl⟩
      have HT : Hid (st0.tickN (0 + 1) = { st1 with s := upd st1.s 0 r.2.2, bad := bb || ne, to_ := upd st1.to_ 1 (st1.to_ 1 ++ fs) }) := by
        refine Lib.hid ?_
        show (st0.tickN 0).tick1 0 = _
        rw [← EQ.out.2.2.2]
        unfold Pa.tick1
        have h1 := EQ.out.2.2.1
        have h2 := EQ.out.2.1
        rw [h2] at h1
        simp only [← h1, ← hfs, hbb, ← hne, ← her, bne_dec]
      rw [← hfs] at hVf HFS
      rw [← hzf] at hVf HFS
      rw [← her, ← hfs, ← hzf]
      have q15 := blk_cell A3.blk 15 (.bool bb) (by rw [hbb]; rfl)
      have f15 := blk_free A3.blk 15
      have A4 := Lib.hid A3
      have VF := Lib.hid hVf
      have HZ := Lib.hid hzf
      clear her hfs hzf A3 hVf L1 hM hnew hold E2 E3 E4 kS k1 k2 k3 hcl HL HA hbb
      go_upto_region 5 with fail
      go_cut [] (fun wx => Hid (PA 2 p lab2 { st1 with s := upd st1.s 0 r.2.2, bad := bb || ne } g m pv vt1 vs vg wx) ∧ Hid (Ls lab lab2 w wx) ∧ Hid (Kd.V k27 27 wx 0 (fun k => lab2 k = 1) (.slice A9 zf c9) fs))
      case first =>
        have FIN : Hid (∀ (d : Nat) (x : Bool), x = (bb || ne) → Hid (PA 2 p lab2 { st1 with s := upd st1.s 0 r.2.2, bad := bb || ne } g m pv vt1 vs vg ((w2.drewN d).setCell ⟨p, 15, none⟩ (.bool x))) ∧ Hid (Ls lab lab2 w ((w2.drewN d).setCell ⟨p, 15, none⟩ (.bool x))) ∧ Hid (Kd.V k27 27 ((w2.drewN d).setCell ⟨p, 15, none⟩ (.bool x)) 0 (fun k => lab2 k = 1) (.slice A9 zf c9) fs)) := by
          refine Lib.hid ?_
          rintro d x rfl
          have A6 := A4.out.drewN d
          refine ⟨Lib.hid (A6.badSet _), Lib.hid ((LS.out.trans (Ls.below (pw_below_drewN (Below.refl _ _) d))).trans ((Lb.put lab2 _ ⟨p, 15, none⟩ _ A6.lim A6.at_).ls (by omega))), Lib.hid (Kd.V_far (Kd.V_drewN VF.out d) (fun k hk => ?_) _)⟩
          show k ≠ p
          rintro rfl
          have h5 : lab2 k = 1 := hk
          have := A4.out.at_
          omega
        cases bb with
        | true =>
          go_wp2_with fail
          go_meet
          exact FIN.out 0 true rfl
        | false =>
          go_wp2_with fail
          go_meet
          exact FIN.out 0 ne rfl
      case rest =>
        obtain ⟨A5, LS5, VF5⟩ := hcut
        clear A4 LS VF q15 f15 hne
        go_upto_region 6 with fail
        have q8 := blk_cell A5.out.blk 9 (vt1 1) rfl
        have HT9 := Lib.hid (A5.out.to_ 1 (by omega))
        have HFL : Hid ((st1.to_ 1).length ≤ 1099511627776 ∧ zf ≤ 65) := Lib.hid (by
          have h1 := HPK1.out.ok.to_ 1 (by omega)
          have h2 := HFS.out
          have := HN.out
          omega)
        have hw1 : IntKind.i64.wrap (1 - 0) = 1 := by decide
        have hw2 : IntKind.i64.wrap 1 = 1 := by decide
        have hw3 : IntKind.i64.wrap ((1 : Int) - ((0 : Nat) : Int)) = 1 := by decide
        go_region_law (first
          | (refine Kd.N_append_rows_step k27 (w0 := wc.drew) 0 (by rfl) (.tmp 55) (.tmp 56) 42 27 (.agg #[.int .u8 0, .int .u32 0, .int .u32 0, .int .u64 0, .int .u64 0, .slice none 0 0]) 56 (by rfl) Try.underlying42 Try.info27 rfl (by decide) (by omega) (vt1 1) (st1.to_ 1) fs A9 zf c9 (fun k => lab2 k = 1 ∨ some k = (vt1 1).ownBlock ∨ wc.heap.size ≤ k) (fun k => lab2 k = 1) (by rfl) (by rfl) (HT9.out.wide (by rfl) (fun _ => by rfl)) (Kd.F_step (Kd.V_F VF5.out) (fun _ _ _ => by rfl)) (fun k hk => ⟨.inl hk, fun he => by have h7 := HT9.out.2 k he.symm; have h8 : lab2 k = 1 := hk; omega⟩) (fun k hk => .inr (.inr hk)) (Below.refl _ _) (Nat.zero_le _) (by have := HFL.out; omega) ?_; intro v3 w3 hn3 hb3 hg3 hat3; obtain ⟨A8, c8, e8⟩ := Kd.N_slice hn3; obtain ⟨z8, hz8⟩ : ∃ z8, z8 = (st1.to_ 1 ++ fs).length := ⟨_, rfl⟩; rw [← hz8] at e8; subst e8; obtain ⟨lab4, LS4, hbk, A6'⟩ := A5.out.toSet (j := 1) (by omega) hn3 ⟨hg3.os, hg3.tape, hg3.output, hg3.size, hg3.block⟩ hat3; have u8 := blk_cell hbk 9 (vt1 1) rfl; have u9 := blk_free hbk 9; have HTQ : Hid (TQ p lab w st0 g m pv vs vg (0 + 1) (w3.setCell ⟨p, 9, none⟩ (.slice A8 z8 c8))) := Lib.hid ⟨lab4, _, (by rw [HT.out]; exact A6'), LS5.out.trans LS4⟩; clear hn3 hb3 hg3 hat3 hbk hz8 LS4 A6'))
        all_goals
          go_wp2_with fail
          go_roundw
          case rel => exact ⟨0 + 1, by go_num, by omega, HTQ⟩
          case measure => simp [intOf]
    · obtain ⟨lab1, vt1, A, L⟩ := htq.out
      have hs := A.ses 1 (by omega)
      have hpk := HPK.out.tickN 1 (by omega)
      obtain ⟨st1, hst1⟩ : ∃ st1, st1 = st0.tickN 1 := ⟨_, rfl⟩
      rw [← hst1] at A hs hpk
      have hok := hpk.ok.ok 1 (by omega)
      have p6 := blk_cell A.blk 7 (.pointer (some ⟨g 1, 0, none⟩)) (by rw [← hs.1]; rfl)
      have p14 := blk_cell A.blk 14 (.int .i64 st1.now) rfl
      obtain ⟨gi, hgi⟩ : ∃ gi, gi = g 1 := ⟨_, rfl⟩
      obtain ⟨nw, hnw⟩ : ∃ nw, nw = st1.now := ⟨_, rfl⟩
      obtain ⟨r, hr⟩ : ∃ r, r = (st1.s 1).tickF nw := ⟨_, rfl⟩
      have hcl : Hid (∀ d, Calls Try.prog 16 #[.pointer (some ⟨gi, 0, none⟩), .int .i64 nw] (wr.drewN d) (FrP wr (fun k => lab1 k = 2 + 1) (fun k => lab1 k = 1) gi (m 1) r)) := by
        rw [hgi, hr, hnw]
        refine Lib.hid (fun d => (tick_ses (hs.2.drewN d) hok st1.now).mono ?_)
        rintro e w' ⟨M', B', A9, c9, e1, e2, e3, e4⟩
        exact ⟨M', B', A9, c9, e1, e2, ⟨e3.mm, e3.mn, e3.bb, e3.bn, ⟨e3.chg.os, e3.chg.tape, e3.chg.output, e3.chg.size, e3.chg.block⟩⟩, e4⟩
      have EQ := Lib.hid (And.intro hgi (And.intro hnw (And.intro hr hst1)))
      rw [← hgi] at p6
      rw [← hnw] at p14
      have HA := Lib.hid A
      have HL := Lib.hid L
      have HPK1 := Lib.hid hpk
      have HFS : Hid (r.2.1.length ≤ 65) := Lib.hid (by rw [hr]; exact tickF_len hok _)
      clear hs hok hgi hnw hr A L hpk htq hst1 HPK
      go_upto_region 4 with fail
      have k1 := Lib.hid (And.intro p6 p14)
      have k2 : Hid (wr.drew.cell? ⟨p, 7, none⟩ = some (.pointer (some ⟨gi, 0, none⟩)) ∧ wr.drew.cell? ⟨p, 14, none⟩ = some (.int .i64 nw)) := Lib.hid ⟨p6, p14⟩
      have k3 : Hid ((wr.drewN 1).cell? ⟨p, 7, none⟩ = some (.pointer (some ⟨gi, 0, none⟩)) ∧ (wr.drewN 1).cell? ⟨p, 14, none⟩ = some (.int .i64 nw)) := Lib.hid ⟨p6, p14⟩
      clear p6 p14
      go_region_held3 (fun W => W.cell? ⟨p, 7, none⟩ = some (.pointer (some ⟨gi, 0, none⟩)) ∧ W.cell? ⟨p, 14, none⟩ = some (.int .i64 nw)) (first | with_reducible exact k1.out | with_reducible exact k2.out | with_reducible exact k3.out | exact kS.out)
        (first | (go_simp; go_at_call 16; refine (hcl.out _).mono ?_; rintro e w2 ⟨M', B', A9, c9, rfl, e2, e3, e4⟩; have E2 := Lib.hid e2; have E3 := Lib.hid e3; have E4 := Lib.hid e4; have kS : Hid (w2.cell? ⟨p, 7, none⟩ = some (.pointer (some ⟨gi, 0, none⟩)) ∧ w2.cell? ⟨p, 14, none⟩ = some (.int .i64 nw)) := Lib.hid (KS_ HA.out 1 e3 (by omega) EQ.out.1 EQ.out.2.1); clear e2 e3 e4))
      obtain ⟨lab2, L1, A3, hM, hnew, hold⟩ := HA.out.session 1 (by omega) (by rw [← EQ.out.1]; exact E2.out) E3.out
      have LS : Hid (Ls lab lab2 w w2) := Lib.hid (HL.out.trans (L1.ls (by omega)))
      have hVf : Kd.V k27 27 w2 0 (fun k => lab2 k = 1) (.slice A9 r.2.1.length c9) r.2.1 := Kd.V_mono E4.out (fun k hk => hnew k hk.1 hk.2.1 hk.2.2)
      obtain ⟨er, her⟩ : ∃ er, er = r.1 := ⟨_, rfl⟩
      obtain ⟨fs, hfs⟩ : ∃ fs, fs = r.2.1 := ⟨_, rfl⟩
      obtain ⟨zf, hzf⟩ : ∃ zf, zf = fs.length := ⟨_, rfl⟩
      obtain ⟨ne, hne⟩ : ∃ ne, (er != 0) = ne := ⟨_, rfl⟩
      obtain ⟨bb, hbb⟩ : ∃ bb, bb = st1.bad := ⟨_, rfl⟩
      have HT : Hid (st0.tickN (1 + 1) = { st1 with s := upd st1.s 1 r.2.2, bad := bb || ne, to_ := upd st1.to_ 0 (st1.to_ 0 ++ fs) }) := by
        refine Lib.hid ?_
        show (st0.tickN 1).tick1 1 = _
        rw [← EQ.out.2.2.2]
        unfold Pa.tick1
        have h1 := EQ.out.2.2.1
        have h2 := EQ.out.2.1
        rw [h2] at h1
        simp only [← h1, ← hfs, hbb, ← hne, ← her, bne_dec]
      rw [← hfs] at hVf HFS
      rw [← hzf] at hVf HFS
      rw [← her, ← hfs, ← hzf]
      have q15 := blk_cell A3.blk 15 (.bool bb) (by rw [hbb]; rfl)
      have f15 := blk_free A3.blk 15
      have A4 := Lib.hid A3
      have VF := Lib.hid hVf
      have HZ := Lib.hid hzf
      clear her hfs hzf A3 hVf L1 hM hnew hold E2 E3 E4 kS k1 k2 k3 hcl HL HA hbb
      go_upto_region 5 with fail
      go_cut [] (fun wx => Hid (PA 2 p lab2 { st1 with s := upd st1.s 1 r.2.2, bad := bb || ne } g m pv vt1 vs vg wx) ∧ Hid (Ls lab lab2 w wx) ∧ Hid (Kd.V k27 27 wx 0 (fun k => lab2 k = 1) (.slice A9 zf c9) fs))
      case first =>
        have FIN : Hid (∀ (d : Nat) (x : Bool), x = (bb || ne) → Hid (PA 2 p lab2 { st1 with s := upd st1.s 1 r.2.2, bad := bb || ne } g m pv vt1 vs vg ((w2.drewN d).setCell ⟨p, 15, none⟩ (.bool x))) ∧ Hid (Ls lab lab2 w ((w2.drewN d).setCell ⟨p, 15, none⟩ (.bool x))) ∧ Hid (Kd.V k27 27 ((w2.drewN d).setCell ⟨p, 15, none⟩ (.bool x)) 0 (fun k => lab2 k = 1) (.slice A9 zf c9) fs)) := by
          refine Lib.hid ?_
          rintro d x rfl
          have A6 := A4.out.drewN d
          refine ⟨Lib.hid (A6.badSet _), Lib.hid ((LS.out.trans (Ls.below (pw_below_drewN (Below.refl _ _) d))).trans ((Lb.put lab2 _ ⟨p, 15, none⟩ _ A6.lim A6.at_).ls (by omega))), Lib.hid (Kd.V_far (Kd.V_drewN VF.out d) (fun k hk => ?_) _)⟩
          show k ≠ p
          rintro rfl
          have h5 : lab2 k = 1 := hk
          have := A4.out.at_
          omega
        cases bb with
        | true =>
          go_wp2_with fail
          go_meet
          exact FIN.out 0 true rfl
        | false =>
          go_wp2_with fail
          go_meet
          exact FIN.out 0 ne rfl
      case rest =>
        obtain ⟨A5, LS5, VF5⟩ := hcut
        clear A4 LS VF q15 f15 hne
        go_upto_region 6 with fail
        have q8 := blk_cell A5.out.blk 8 (vt1 0) rfl
        have HT9 := Lib.hid (A5.out.to_ 0 (by omega))
        have HFL : Hid ((st1.to_ 0).length ≤ 1099511627776 ∧ zf ≤ 65) := Lib.hid (by
          have h1 := HPK1.out.ok.to_ 0 (by omega)
          have h2 := HFS.out
          have := HN.out
          omega)
        have hw1 : IntKind.i64.wrap (1 - 1) = 0 := by decide
        have hw2 : IntKind.i64.wrap 0 = 0 := by decide
        have hw3 : IntKind.i64.wrap ((1 : Int) - ((1 : Nat) : Int)) = 0 := by decide
        go_region_law (first
          | (refine Kd.N_append_rows_step k27 (w0 := wc.drew) 0 (by rfl) (.tmp 55) (.tmp 56) 42 27 (.agg #[.int .u8 0, .int .u32 0, .int .u32 0, .int .u64 0, .int .u64 0, .slice none 0 0]) 56 (by rfl) Try.underlying42 Try.info27 rfl (by decide) (by omega) (vt1 0) (st1.to_ 0) fs A9 zf c9 (fun k => lab2 k = 1 ∨ some k = (vt1 0).ownBlock ∨ wc.heap.size ≤ k) (fun k => lab2 k = 1) (by rfl) (by rfl) (HT9.out.wide (by rfl) (fun _ => by rfl)) (Kd.F_step (Kd.V_F VF5.out) (fun _ _ _ => by rfl)) (fun k hk => ⟨.inl hk, fun he => by have h7 := HT9.out.2 k he.symm; have h8 : lab2 k = 1 := hk; omega⟩) (fun k hk => .inr (.inr hk)) (Below.refl _ _) (Nat.zero_le _) (by have := HFL.out; omega) ?_; intro v3 w3 hn3 hb3 hg3 hat3; obtain ⟨A8, c8, e8⟩ := Kd.N_slice hn3; obtain ⟨z8, hz8⟩ : ∃ z8, z8 = (st1.to_ 0 ++ fs).length := ⟨_, rfl⟩; rw [← hz8] at e8; subst e8; obtain ⟨lab4, LS4, hbk, A6'⟩ := A5.out.toSet (j := 0) (by omega) hn3 ⟨hg3.os, hg3.tape, hg3.output, hg3.size, hg3.block⟩ hat3; have u8 := blk_cell hbk 8 (vt1 0) rfl; have u9 := blk_free hbk 8; have HTQ : Hid (TQ p lab w st0 g m pv vs vg (1 + 1) (w3.setCell ⟨p, 8, none⟩ (.slice A8 z8 c8))) := Lib.hid ⟨lab4, _, (by rw [HT.out]; exact A6'), LS5.out.trans LS4⟩; clear hn3 hb3 hg3 hat3 hbk hz8 LS4 A6'))
        all_goals
          go_wp2_with fail
          go_roundw
          case rel => exact ⟨1 + 1, by go_num, by omega, HTQ⟩
          case measure => simp [intOf]
    · have HF : Hid (PQ p lab w (st.tick d) (.returned (.tuple #[])) wr) := by
        obtain ⟨lab', vt', A, L⟩ := htq.out
        exact Lib.hid ⟨rfl, lab', g, m, pv, vt', vs, vg, by rw [HST.out]; exact A, L⟩
      clear htq
      go_wp2_with fail
      go_end0
      exact HF.out
end
end Go.Proofs.Ytlnhjkbhhdcdeaa
