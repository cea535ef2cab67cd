/- The walk of the pair's restart, end 1. -/
import Derived.Test.YtlnhjkbhhdcdeaaOa
namespace Go.Proofs.Ytlnhjkbhhdcdeaa
open Go Go.RowKit Go.Proofs.YtlnhjkbhhdcdeaaW.PrintWords Go.Proofs.YtlnhjkbhhdcdeaaW.PrintLast Go.Proofs.YtlnhjkbhhdcdeaaW.PrintMore
open Go.Proofs.Ytlnhjkbhhdcdeaa.PSessionRuns (S27 k27 z27 S116 k116 z116)
set_option linter.unusedVariables false
set_option maxRecDepth 100000
set_option maxHeartbeats 4000000
attribute [local go_sem] max2_mx min2_mn max_two min_two
section
variable {p : Nat} {lab : Nat → Nat} {st : Pa} {g m : Nat → Nat} {pv vt vs vg : Nat → Value} {w : World} {n : Int}
theorem prestart1 (A : PA 2 p lab st g m pv vt vs vg w) (pn : Pn n st) (hn : n + 140000 ≤ 4294967295) :
    Calls Try.prog 66 #[.pointer (some ⟨p, 0, none⟩), .int .i64 1] w (PQ p lab w (st.restart 1)) := by
  have hb0 := pn.b0 1 (by omega)
  have hb1 := pn.b1 1 (by omega)
  have hbc := pn.badc 1 (by omega)
  have htk : tok st.now = true := by
    have := pn.now0
    have := pn.now1
    unfold tok
    simp
    omega
  have q0 := blk_cell A.blk 3 (.int .u32 (st.boot 1)) rfl
  have q1 := blk_cell A.blk 4 (.int .i64 (st.win 1)) rfl
  have q2 := blk_cell A.blk 5 (.int .i64 (st.tmr 1)) rfl
  have q14 := blk_cell A.blk 14 (.int .i64 st.now) rfl
  have q15 := blk_cell A.blk 15 (.bool st.bad) rfl
  have HFL : Hid ((st.to_ 0).length ≤ 1099511627776) := Lib.hid (by
    have := pn.pk.ok.to_ 0 (by omega)
    omega)
  obtain ⟨bo, hbo⟩ : ∃ x, x = st.boot 1 := ⟨_, rfl⟩
  obtain ⟨wi, hwi⟩ : ∃ x, x = st.win 1 := ⟨_, rfl⟩
  obtain ⟨tm, htm⟩ : ∃ x, x = st.tmr 1 := ⟨_, rfl⟩
  obtain ⟨nw, hnw⟩ : ∃ x, x = st.now := ⟨_, rfl⟩
  obtain ⟨bb, hbb⟩ : ∃ x, x = st.bad := ⟨_, rfl⟩
  have HA := Lib.hid A
  have EQ := Lib.hid (And.intro hbo (And.intro hwi (And.intro htm (And.intro hnw hbb))))
  rw [← hbo] at q0 hb0 hb1 hbc
  rw [← hwi] at q1 hbc
  rw [← htm] at q2 hbc
  rw [← hnw] at q14 htk
  rw [← hbb] at q15
  have hz : (bo + 1 == 0) = false := by
    simp
    omega
  have HNEW : Hid (∀ W, Calls Try.prog 13 #[.agg #[.int .u32 (bo + 1), .int .i64 wi, .int .i64 tm], .int .i64 nw] W (NewP W (se0 (bo + 1) wi tm nw))) := Lib.hid (fun W => new_ok (bo + 1) wi tm nw hbc htk)
  obtain ⟨b1, hbn⟩ : ∃ b1, b1 = bo + 1 := ⟨_, rfl⟩
  rw [← hbn] at hz HNEW
  have hw : (bo + 1) % 4294967296 = b1 := by omega
  have HBN := Lib.hid hbn
  clear hbn hb0 hb1 hbc htk hbo hwi htm hnw hbb A pn
  go_enter Try.func66, Try.ntmps66
  go_upto_region 2 with fail
  rw [hw]
  go_upto_region 3 with fail
  clear hw hz q0 q1 q2
  obtain ⟨bx, hbx⟩ : ∃ bx, bx = w.heap.size := ⟨_, rfl⟩
  have HPB : Hid (bx ≠ p) := Lib.hid (by
    have := HA.out.lim p (by rw [HA.out.at_]; omega)
    omega)
  have hbk := heap_alloc_new w (.cells #[.int .u32 b1, .int .i64 wi, .int .i64 tm] 39)
  have hbw : Below w.heap.size w (w.alloc (.cells #[.int .u32 b1, .int .i64 wi, .int .i64 tm] 39)) := below_alloc (Below.refl _ _) _
  have hA2 := HA.out.below hbw
  have L2 := Lib.hid (Ls.below (lab := lab) hbw)
  rw [← hbx] at hbk ⊢
  have r14 := blk_cell hA2.blk 14 (.int .i64 nw) (by rw [EQ.out.2.2.2.1]; rfl)
  clear hbw hbx q14
  generalize w.alloc (.cells #[.int .u32 b1, .int .i64 wi, .int .i64 tm] 39) = W2 at *
  have HA2 := Lib.hid hA2
  have c0 := blk_cell hbk 0 (.int .u32 b1) rfl
  have c1 := blk_cell hbk 1 (.int .i64 wi) rfl
  have c2 := blk_cell hbk 2 (.int .i64 tm) rfl
  have kW : Hid (∀ W : World, Below W2.heap.size W2 W → W.cell? ⟨bx, 0, none⟩ = some (.int .u32 b1) ∧ W.cell? ⟨bx, 1, none⟩ = some (.int .i64 wi) ∧ W.cell? ⟨bx, 2, none⟩ = some (.int .i64 tm) ∧ W.cell? ⟨p, 14, none⟩ = some (.int .i64 nw)) :=
    Lib.hid (fun W hW => ⟨pw_cell_below hW c0, pw_cell_below hW c1, pw_cell_below hW c2, pw_cell_below hW r14⟩)
  have D0 := Lib.hid (fun d => pw_below_drewN (Below.refl W2.heap.size W2) d)
  have k1 := Lib.hid (kW.out W2 (Below.refl _ _))
  have k2 := Lib.hid (kW.out W2.drew (D0.out 1))
  have k3 := Lib.hid (kW.out (W2.drewN 1) (D0.out 1))
  obtain ⟨s1, hs1⟩ : ∃ s1, s1 = (se0 b1 wi tm nw).start := ⟨_, rfl⟩
  have HC : Hid (∀ d, Calls Try.prog 13 #[.agg #[.int .u32 b1, .int .i64 wi, .int .i64 tm], .int .i64 nw] (W2.drewN d) fun e w' => ∃ (M : Nat → Prop) (g' m' : Nat) (A9 : Option Addr), e = .returned (.tuple #[.pointer (some ⟨g', 0, none⟩), .slice A9 1 1, .int .i64 0]) ∧ Ses M (fun _ => False) g' m' s1 w' ∧ Below W2.heap.size W2 w' ∧ (∀ k, M k → W2.heap.size ≤ k) ∧ Kd.V k27 27 w' 0 (fun k => W2.heap.size ≤ k ∧ k < w'.heap.size ∧ ¬ M k) (.slice A9 1 1) [s1.helloF]) := by
    rw [hs1]
    refine Lib.hid (fun d => (HNEW.out (W2.drewN d)).mono ?_)
    rintro e w' ⟨M, g', m', A9, e1, e2, e3, e4, e5⟩
    exact ⟨M, g', m', A9, e1, e2, below_then (D0.out d) (D0.out d).size e3, e4, e5⟩
  have HS1 := Lib.hid hs1
  have HBK := Lib.hid hbk
  clear hs1 hbk hA2 c0 c1 c2 r14 HNEW q15 HA
  go_region_held3 (fun W => W.cell? ⟨bx, 0, none⟩ = some (.int .u32 b1) ∧ W.cell? ⟨bx, 1, none⟩ = some (.int .i64 wi) ∧ W.cell? ⟨bx, 2, none⟩ = some (.int .i64 tm) ∧ W.cell? ⟨p, 14, none⟩ = some (.int .i64 nw)) (first | with_reducible exact kN.out | with_reducible exact k1.out | with_reducible exact k2.out | with_reducible exact k3.out)
    (first | (go_simp; go_at_call 13; refine (HC.out _).mono ?_; rintro e w3 ⟨M, g', m', A9, rfl, e2, e3, e4, e5⟩; have kN := Lib.hid (kW.out w3 e3); have E2 := Lib.hid e2; have E3 := Lib.hid e3; have E4 := Lib.hid e4; have E5 := Lib.hid e5; clear e2 e3 e4 e5))
  obtain ⟨x0, x1, x2, _⟩ := kN.out
  obtain ⟨lab2, LS2, hblk, hnew, A3⟩ := HA2.out.newSes 1 (by omega) 2 (fun j hj => .inl hj) (by omega) E2.out E3.out E4.out
  have hVf : Kd.V k27 27 w3 0 (fun k => lab2 k = 1) (.slice A9 1 1) [s1.helloF] := Kd.V_mono E5.out (fun k hk => hnew k hk.1 hk.2.1 hk.2.2)
  have q15 := blk_cell hblk 15 (.bool bb) (by rw [EQ.out.2.2.2.2]; rfl)
  have f15 := blk_free hblk 15
  have HBLK := Lib.hid hblk
  have VF := Lib.hid hVf
  have LS2' := Lib.hid LS2
  have A3' := Lib.hid A3
  have hblk4 : (w3.setCell ⟨p, 15, none⟩ (.bool bb)).heap[p]? = some (.cells (pac st pv vt vs vg) 87 (0, 0)) := by
    rw [blk_set hblk 15, EQ.out.2.2.2.2]
    rfl
  have hbk3 : w3.heap[bx]? = some (.cells #[.int .u32 b1, .int .i64 wi, .int .i64 tm] 39 (0, 0)) := (E3.out.block bx (blk_lt HBK.out)).trans HBK.out
  have HSM : Hid (∀ k, k ≠ p → (w3.setCell ⟨p, 15, none⟩ (.bool bb)).heap[k]? = w3.heap[k]?) := Lib.hid (fun k hk => Below.heap_setCell _ _ _ _ hk)
  have hbk4 := (HSM.out bx HPB.out).trans hbk3
  clear LS2 hblk hnew A3 hVf kN k1 k2 k3 kW D0 E2 E3 E4 E5 HC hbk3 x0 x1 x2
  go_upto_region 4 with fail
  go_cut [] (fun wx => wx = w3.setCell ⟨p, 15, none⟩ (.bool bb))
  case first =>
    cases bb with
    | true =>
      go_wp2_with fail
      go_meet
      rfl
    | false =>
      go_wp2_with fail
      go_meet
      rfl
  case rest =>
    subst hcut
    have y0 := blk_cell hbk4 0 (.int .u32 b1) rfl
    have y1 := blk_cell hbk4 1 (.int .i64 wi) rfl
    have y2 := blk_cell hbk4 2 (.int .i64 tm) rfl
    have v0 := blk_free hblk4 3
    have v1 := blk_free hblk4 4
    have v2 := blk_free hblk4 5
    have v3 := blk_free hblk4 7
    have w0 := blk_cell hblk4 3 _ rfl
    have w1 := blk_cell hblk4 4 _ rfl
    have w2 := blk_cell hblk4 5 _ rfl
    have w4 := blk_cell hblk4 7 _ rfl
    have HB4 := Lib.hid hblk4
    have HZ : Hid ((w3.setCell ⟨p, 15, none⟩ (.bool bb)).heap.size = w3.heap.size ∧ (w3.setCell ⟨p, 15, none⟩ (.bool bb)).os = w3.os ∧ (w3.setCell ⟨p, 15, none⟩ (.bool bb)).tape = w3.tape ∧ (w3.setCell ⟨p, 15, none⟩ (.bool bb)).output = w3.output) := Lib.hid ⟨by simp [World.setCell], rfl, rfl, rfl⟩
    clear q15 f15 hblk4 hbk4 HBLK
    generalize w3.setCell ⟨p, 15, none⟩ (.bool bb) = W4 at *
    go_upto_region 6 with fail
    have HFI : Hid (∃ vt', PA 2 p lab2 { st with boot := upd st.boot 1 b1, s := upd st.s 1 s1 } (upd g 1 g') (upd m 1 m') (upd pv 1 (.pointer (some ⟨g', 0, none⟩))) vt' vs vg ((((W4.setCell ⟨p, 3, none⟩ (.int .u32 b1)).setCell ⟨p, 4, none⟩ (.int .i64 wi)).setCell ⟨p, 5, none⟩ (.int .i64 tm)).setCell ⟨p, 7, none⟩ (.pointer (some ⟨g', 0, none⟩))).drew ∧ vt' = vt ∧ Ls lab lab2 w ((((W4.setCell ⟨p, 3, none⟩ (.int .u32 b1)).setCell ⟨p, 4, none⟩ (.int .i64 wi)).setCell ⟨p, 5, none⟩ (.int .i64 tm)).setCell ⟨p, 7, none⟩ (.pointer (some ⟨g', 0, none⟩))).drew) := by
      refine Lib.hid ?_
      have hsame : ∀ k, k ≠ p → ((((W4.setCell ⟨p, 3, none⟩ (.int .u32 b1)).setCell ⟨p, 4, none⟩ (.int .i64 wi)).setCell ⟨p, 5, none⟩ (.int .i64 tm)).setCell ⟨p, 7, none⟩ (.pointer (some ⟨g', 0, none⟩))).drew.heap[k]? = (w3.setCell ⟨p, 6 + 1, none⟩ (.pointer (some ⟨g', 0, none⟩))).heap[k]? := fun k hk => by
        have hk' := hk
        show ((((W4.setCell ⟨p, 3, none⟩ (.int .u32 b1)).setCell ⟨p, 4, none⟩ (.int .i64 wi)).setCell ⟨p, 5, none⟩ (.int .i64 tm)).setCell ⟨p, 7, none⟩ (.pointer (some ⟨g', 0, none⟩))).heap[k]? = _
        rw [Below.heap_setCell _ _ _ _ hk, Below.heap_setCell _ _ _ _ hk, Below.heap_setCell _ _ _ _ hk, Below.heap_setCell _ _ _ _ hk, Below.heap_setCell _ _ _ _ hk]
        exact HSM.out k hk
      have hz : ((((W4.setCell ⟨p, 3, none⟩ (.int .u32 b1)).setCell ⟨p, 4, none⟩ (.int .i64 wi)).setCell ⟨p, 5, none⟩ (.int .i64 tm)).setCell ⟨p, 7, none⟩ (.pointer (some ⟨g', 0, none⟩))).drew.heap.size = (w3.setCell ⟨p, 6 + 1, none⟩ (.pointer (some ⟨g', 0, none⟩))).heap.size := by
        have := HZ.out.1
        simp [World.setCell, World.drew] at this ⊢
        exact this
      have hblk : ((((W4.setCell ⟨p, 3, none⟩ (.int .u32 b1)).setCell ⟨p, 4, none⟩ (.int .i64 wi)).setCell ⟨p, 5, none⟩ (.int .i64 tm)).setCell ⟨p, 7, none⟩ (.pointer (some ⟨g', 0, none⟩))).drew.heap[p]? = some (.cells (pac { st with boot := upd st.boot 1 b1, s := upd st.s 1 s1 } (upd pv 1 (.pointer (some ⟨g', 0, none⟩))) vt vs vg) 87 (0, 0)) := by
        show ((((W4.setCell ⟨p, 3, none⟩ (.int .u32 b1)).setCell ⟨p, 4, none⟩ (.int .i64 wi)).setCell ⟨p, 5, none⟩ (.int .i64 tm)).setCell ⟨p, 7, none⟩ (.pointer (some ⟨g', 0, none⟩))).heap[p]? = _
        rw [blk_set (blk_set (blk_set (blk_set HB4.out 3 _) 4 _) 5 _) 7 _, EQ.out.2.1, EQ.out.2.2.1]
        simp [pac, upd]
      obtain ⟨a1, a2⟩ := A3'.out.turnp (st' := { st with boot := upd st.boot 1 b1, s := upd st.s 1 s1 }) hz HZ.out.2.1 HZ.out.2.2.1 HZ.out.2.2.2 hsame hblk rfl rfl rfl rfl
      exact ⟨vt, a1, rfl, (L2.out.trans LS2'.out).trans a2⟩
    have HVF2 : Hid (Kd.V k27 27 ((((W4.setCell ⟨p, 3, none⟩ (.int .u32 b1)).setCell ⟨p, 4, none⟩ (.int .i64 wi)).setCell ⟨p, 5, none⟩ (.int .i64 tm)).setCell ⟨p, 7, none⟩ (.pointer (some ⟨g', 0, none⟩))).drew 0 (fun k => lab2 k = 1) (.slice A9 1 1) [s1.helloF]) := by
      refine Lib.hid (Kd.V_step VF.out (fun k hk hl => ?_))
      have hkp : k ≠ p := by
        rintro rfl
        have := A3'.out.at_
        have h5 : lab2 k = 1 := hk
        omega
      show ((((W4.setCell ⟨p, 3, none⟩ (.int .u32 b1)).setCell ⟨p, 4, none⟩ (.int .i64 wi)).setCell ⟨p, 5, none⟩ (.int .i64 tm)).setCell ⟨p, 7, none⟩ (.pointer (some ⟨g', 0, none⟩))).heap[k]? = _
      rw [Below.heap_setCell _ _ _ _ hkp, Below.heap_setCell _ _ _ _ hkp, Below.heap_setCell _ _ _ _ hkp, Below.heap_setCell _ _ _ _ hkp]
      exact HSM.out k hkp
    go_region
    obtain ⟨vt', a1, rfl, a2⟩ := HFI.out
    have A5 := Lib.hid a1
    have LS5 := Lib.hid a2
    clear a1 a2 HFI A3' LS2' VF HSM HZ HB4 v0 v1 v2 v3 w0 w1 w2 w4 y0 y1 y2
    generalize ((((W4.setCell ⟨p, 3, none⟩ (.int .u32 b1)).setCell ⟨p, 4, none⟩ (.int .i64 wi)).setCell ⟨p, 5, none⟩ (.int .i64 tm)).setCell ⟨p, 7, none⟩ (.pointer (some ⟨g', 0, none⟩))).drew = wc at *
    go_upto_region 7 with fail
    have HST : Hid (st.restart 1 = { st with boot := upd st.boot 1 b1, s := upd st.s 1 s1, to_ := upd st.to_ 0 (st.to_ 0 ++ [s1.helloF]) }) := by
      have h := EQ.out
      rw [HS1.out, HBN.out, h.1, h.2.1, h.2.2.1, h.2.2.2.1]
      exact Lib.hid rfl
    have q8 := blk_cell A5.out.blk 8 (vt' 0) rfl
    have HT9 := Lib.hid (A5.out.to_ 0 (by omega))
    have hw1 : IntKind.i64.wrap (1 - 1) = 0 := by decide
    have hw2 : IntKind.i64.wrap 0 = 0 := by decide
    have FIN : Hid (∀ (w7 : World) (lab4 : Nat → Nat) (v : Value), PA 2 p lab4 { st with boot := upd st.boot 1 b1, s := upd st.s 1 s1, to_ := upd st.to_ 0 (st.to_ 0 ++ [s1.helloF]) } (upd g 1 g') (upd m 1 m') (upd pv 1 (.pointer (some ⟨g', 0, none⟩))) (upd vt' 0 v) vs vg w7 → Ls lab2 lab4 wc w7 → PQ p lab w (st.restart 1) (.returned (.tuple #[])) w7) := by
      refine Lib.hid ?_
      intro w7 lab4 v h1 h2
      exact ⟨rfl, lab4, _, _, _, _, vs, vg, (by rw [HST.out]; exact h1), LS5.out.trans h2⟩
    go_region_law (first
      | (refine Kd.N_append_rows_step k27 (w0 := wc.drew) 0 (by rfl) (.tmp 69) (.tmp 70) 42 27 (.agg #[.int .u8 0, .int .u32 0, .int .u32 0, .int .u64 0, .int .u64 0, .slice none 0 0]) 56 (by rfl) Try.underlying42 Try.info27 rfl (by decide) (by omega) (vt' 0) (st.to_ 0) [s1.helloF] A9 1 1 (fun k => lab2 k = 1 ∨ some k = (vt' 0).ownBlock ∨ wc.heap.size ≤ k) (fun k => lab2 k = 1) (by rfl) (by rfl) (HT9.out.wide (by rfl) (fun _ => by rfl)) (Kd.F_step (Kd.V_F HVF2.out) (fun _ _ _ => by rfl)) (fun k hk => ⟨.inl hk, fun he => by have h7 := HT9.out.2 k he.symm; have h8 : lab2 k = 1 := hk; omega⟩) (fun k hk => .inr (.inr hk)) (Below.refl _ _) (Nat.zero_le _) (by have := HFL.out; simp; omega) ?_; intro v3 w7 hn3 hb3 hg3 hat3; obtain ⟨A8, c8, e8⟩ := Kd.N_slice hn3; obtain ⟨z8, hz8⟩ : ∃ z8, z8 = (st.to_ 0 ++ [s1.helloF]).length := ⟨_, rfl⟩; rw [← hz8] at e8; subst e8; obtain ⟨lab4, LS4, hbk, A6'⟩ := A5.out.toSet (j := 0) (by omega) hn3 ⟨hg3.os, hg3.tape, hg3.output, hg3.size, hg3.block⟩ hat3; have u8 := blk_cell hbk 8 (vt' 0) rfl; have u9 := blk_free hbk 8; have HPQ := Lib.hid (FIN.out _ _ _ A6' LS4); clear hn3 hb3 hg3 hat3 hbk hz8 LS4 A6'))
    all_goals
      go_wp2_with fail
      go_end0
      exact HPQ.out
end
end Go.Proofs.Ytlnhjkbhhdcdeaa

