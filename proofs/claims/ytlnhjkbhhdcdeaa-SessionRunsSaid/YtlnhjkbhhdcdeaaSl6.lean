/- The walk of the pair's take, end 0. -/
import Derived.Test.YtlnhjkbhhdcdeaaMf
namespace Go.Proofs.Ytlnhjkbhhdcdeaa
open Go Go.RowKit Go.Proofs.YtlnhjkbhhdcdeaaW.PrintWords Go.Proofs.YtlnhjkbhhdcdeaaW.PrintLast Go.Proofs.YtlnhjkbhhdcdeaaW.PrintMore
open Go.Proofs.Ytlnhjkbhhdcdeaa.PSessionRuns (S27 k27 z27 S116 k116 z116)
set_option linter.unusedVariables false
set_option maxRecDepth 100000
set_option maxHeartbeats 4000000
attribute [local go_sem] max2_mx min2_mn max_two min_two
section
variable {p : Nat} {lab : Nat → Nat} {st : Pa} {g m : Nat → Nat} {pv vt vs vg : Nat → Value} {w : World} {n : Int}
theorem ptake0_no (A : PA 2 p lab st g m pv vt vs vg w) (ok : Pok n st) (k : Nat) (hk : k ≤ 1099511627776) (stays : Bool) (hno : (st.to_ 0).length ≤ k) :
    Calls Try.prog 64 #[.pointer (some ⟨p, 0, none⟩), .int .i64 0, .int .i64 k, .bool stays] w (PQ p lab w (st.take 0 k stays)) := by
  obtain ⟨At, ct, hvt⟩ := (A.to_ 0 (by omega)).slice
  have q8 := blk_cell A.blk 8 (.slice At (st.to_ 0).length ct) (by rw [← hvt]; rfl)
  have HF : Hid (st.take 0 k stays = st) := Lib.hid (by unfold Pa.take; rw [if_neg (by omega)])
  have HA := Lib.hid A
  obtain ⟨l, hl⟩ : ∃ l, l = (st.to_ 0).length := ⟨_, rfl⟩
  rw [← hl] at q8 hno
  have h1 : (l : Int) ≤ (k : Int) := by omega
  have h2 : (k : Int) ≤ 1099511627776 := by omega
  clear A ok hvt hl hno hk
  go_enter Try.func64, Try.ntmps64
  go_wp2_with fail
  refine bodyPost_ret (results_none rfl _ _ _) rfl ?_
  refine ⟨rfl, lab, g, m, pv, vt, vs, vg, ?_, Ls.refl _ _⟩
  rw [HF.out]
  exact HA.out
theorem ptake0_yes (A : PA 2 p lab st g m pv vt vs vg w) (ok : Pok n st) (hn : n + 70000 ≤ 1099511627776) (k : Nat) (stays : Bool) (hk : k < (st.to_ 0).length) :
    Calls Try.prog 64 #[.pointer (some ⟨p, 0, none⟩), .int .i64 0, .int .i64 k, .bool stays] w (PQ p lab w (st.take 0 k stays)) := by
  have hto := ok.to_ 0 (by omega)
  obtain ⟨At, ct, hvt⟩ := (A.to_ 0 (by omega)).slice
  have hrow := A.to_ 0 (by omega)
  rw [hvt] at hrow
  have hVr := Kd.N_V (base' := 0) hrow.1
  obtain ⟨ad, A5, c5, f, rfl, hsix, hVb, hf⟩ := hrow.fr_at k hk
  have hlc := (Kd.V_at hVr).2.1
  have q8 := blk_cell A.blk 8 (.slice (some ad) (st.to_ 0).length ct) (by rw [← hvt]; rfl)
  have hfok : FOk f := by
    rw [hf.out, List.getD_eq_getElem?_getD, List.getElem?_eq_getElem hk]
    exact ok.fr 0 (by omega) _ (List.getElem_mem _)
  obtain ⟨x0, e0⟩ : ∃ x, x = f.f0 := ⟨_, rfl⟩
  obtain ⟨x1, e1⟩ : ∃ x, x = f.f1 := ⟨_, rfl⟩
  obtain ⟨x2, e2⟩ : ∃ x, x = f.f2 := ⟨_, rfl⟩
  obtain ⟨x3, e3⟩ : ∃ x, x = f.f3 := ⟨_, rfl⟩
  obtain ⟨x4, e4⟩ : ∃ x, x = f.f4 := ⟨_, rfl⟩
  obtain ⟨l5, e5⟩ : ∃ x, x = f.f5.length := ⟨_, rfl⟩
  have EF := Lib.hid (And.intro e0 (And.intro e1 (And.intro e2 (And.intro e3 (And.intro e4 e5)))))
  unfold Six at hsix
  rw [← e0, ← e1, ← e2, ← e3, ← e4, ← e5] at hsix
  obtain ⟨c0, c1, c2, c3, c4, c5'⟩ := hsix
  have HA := Lib.hid A
  have OK := Lib.hid ok
  have HN := Lib.hid hn
  have HFO := Lib.hid hfok
  have HF := Lib.hid hf.out
  have HKL := Lib.hid hk
  have HVT := Lib.hid hvt
  have HVB := Lib.hid hVb
  have HVR := Lib.hid hVr
  have HRO := Lib.hid hrow
  obtain ⟨l, hl⟩ : ∃ l, l = (st.to_ 0).length := ⟨_, rfl⟩
  have HL := Lib.hid hl
  rw [← hl] at q8 hlc hk hto
  have hk1 : (k : Int) < (l : Int) := by omega
  have hk2 : (l : Int) ≤ 1099511627776 := by omega
  have hkk : k ≤ 1099511627776 := by omega
  clear A ok hvt hn hrow hVr hVb hf hfok e0 e1 e2 e3 e4 e5 hl
  go_enter Try.func64, Try.ntmps64
  go_upto_region 2 with fail
  have hb1 : Below w.heap.size w (w.alloc (.cells #[.int .u8 x0, .int .u32 x1, .int .u32 x2, .int .u64 x3, .int .u64 x4, .slice A5 l5 c5] 27)) := below_alloc (Below.refl _ _) _
  obtain ⟨lab1, L1, A1, hold1, hnew1⟩ := HA.out.made hb1
  have hfb := heap_alloc_new w (.cells #[.int .u8 x0, .int .u32 x1, .int .u32 x2, .int .u64 x3, .int .u64 x4, .slice A5 l5 c5] 27)
  have hV1 : Kd.V KB 5 (w.alloc (.cells #[.int .u8 x0, .int .u32 x1, .int .u32 x2, .int .u64 x3, .int .u64 x4, .slice A5 l5 c5] 27)) 0 (fun k => lab1 k = 1) (.slice A5 f.f5.length c5) f.f5 :=
    Kd.V_mono (Kd.V_alloc HVB.out _) (fun q hq => (hold1 q (HA.out.lim q (by omega))).trans hq)
  have hl1 := hnew1 w.heap.size (Nat.le_refl _) (by rw [World.size_alloc]; omega)
  obtain ⟨fb, hfbe⟩ : ∃ fb, fb = w.heap.size := ⟨_, rfl⟩
  rw [← hfbe] at hfb hl1 ⊢
  have A1 := Lib.hid A1
  have L1 := Lib.hid (L1.ls (by omega))
  have HFB := Lib.hid hfb
  have HV1 := Lib.hid hV1
  have HL1 := Lib.hid hl1
  clear hb1 hold1 hnew1 hfb hV1 hl1 hfbe c0 c1 c2 c3 c4 c5' q8 HVB
  generalize w.alloc (.cells #[.int .u8 x0, .int .u32 x1, .int .u32 x2, .int .u64 x3, .int .u64 x4, .slice A5 l5 c5] 27) = W1 at *
  obtain ⟨st0, hst0⟩ : ∃ st0 : Pa, st0 = if stays then st else { st with to_ := upd st.to_ 0 ((st.to_ 0).eraseIdx k) } := ⟨_, rfl⟩
  have HST0 := Lib.hid hst0
  clear hst0
  go_upto_if 37 with fail
  go_cut [] (fun wx => ∃ lab2 vt2, Hid (PA 2 p lab2 st0 g m pv vt2 vs vg wx) ∧ Hid (Ls lab1 lab2 W1 wx))
  case first =>
    cases stays with
    | true =>
      go_wp2_with fail
      go_meet
      refine ⟨lab1, vt, ?_, Lib.hid (Ls.refl _ _)⟩
      rw [HST0.out]
      exact A1
    | false =>
      have hR1 := A1.out.to_ 0 (by omega)
      rw [HVT.out] at hR1
      have q8 := blk_cell A1.out.blk 8 (.slice (some ad) l ct) (by rw [HL.out, ← HVT.out]; rfl)
      have qA := fun o => Lib.cell?_alloc_some o q8
      obtain ⟨i27, hi27, _, hs27, _⟩ := info_parts Try.info27
      have cut1 := cut_to (P := Try.prog) 42 27 .i64 Try.underlying42 hi27 (some ad) l ct (k : Int) (by omega) (by omega) hlc
      have cut2 := cut_from (P := Try.prog) 42 27 .i64 Try.underlying42 hi27 6 hs27 (some ad) l ct ((k : Int) + 1) (by omega) (by omega)
      rw [Int.toNat_natCast] at cut1
      rw [show ((k : Int) + 1).toNat = k + 1 by omega] at cut2
      obtain ⟨A2, hA2⟩ : ∃ A2, A2 = (if ct = k + 1 then some ad else (some ad).map (·.add ((k + 1) * 6))) := ⟨_, rfl⟩
      rw [← hA2] at cut2
      have hFr := (Kd.V_at (Kd.N_V (base' := 0) hR1.1)).2.2
      have hown : ∀ q, lab1 q = 1 ∨ some q = (vt 0).ownBlock → q < W1.heap.size := fun q hq => hq.elim (fun h => A1.out.lim q (by omega)) (fun h => Kd.N_lt (A1.out.to_ 0 (by omega)).1 q h.symm)
      have HF1 : Hid (∀ W' : World, (∀ q, q < W1.heap.size → W'.heap[q]? = W1.heap[q]?) → Kd.F k27 W' (fun q => lab1 q = 1 ∨ some q = (vt 0).ownBlock) (some ad) k ((st.to_ 0).take k)) := by
        refine Lib.hid (fun W' hW => ?_)
        have := Kd.F_step (Kd.F_take hFr (m := k) (by have := HKL.out; omega)) (W1 := W') (fun q hq hl => hW q hl)
        rw [List.length_take, Nat.min_eq_left (by have := HKL.out; omega)] at this
        exact Kd.F_mono this (fun q hq => by rw [HVT.out]; exact hq)
      have HF2 : Hid (∀ W' : World, (∀ q, q < W1.heap.size → W'.heap[q]? = W1.heap[q]?) → Kd.F k27 W' (fun q => lab1 q = 1 ∨ some q = (vt 0).ownBlock) A2 (l - (k + 1)) ((st.to_ 0).drop (k + 1))) := by
        refine Lib.hid (fun W' hW => ?_)
        have := Kd.F_step (Kd.F_cut (c := ct) hFr (m := k + 1) (by have := HKL.out; omega) (by rw [← HL.out]; exact hlc)) (W1 := W') (fun q hq hl => hW q hl)
        rw [List.length_drop, ← HL.out] at this
        rw [hA2]
        exact Kd.F_mono this (fun q hq => by rw [HVT.out]; exact hq)
      have HN0 : Hid (∀ d, Kd.N k27 27 ((W1.alloc (.cells #[] 27)).drewN d) W1.heap.size (fun q => lab1 q = 1 ∨ some q = (vt 0).ownBlock ∨ W1.heap.size ≤ q) (.slice (some ⟨W1.heap.size, 0, none⟩) 0 0) []) := Lib.hid (fun d => N_empty k27 27 W1 W1.heap.size (Nat.le_refl _) _ (.inr (.inr (Nat.le_refl _))) d)
      have HBW : Hid (∀ d, Below W1.heap.size W1 ((W1.alloc (.cells #[] 27)).drewN d)) := Lib.hid (fun d => pw_below_drewN (below_alloc (Below.refl _ _) _) d)
      have HOW : Hid (∀ q, lab1 q = 1 ∨ some q = (vt 0).ownBlock → (lab1 q = 1 ∨ some q = (vt 0).ownBlock ∨ W1.heap.size ≤ q) ∧ q < W1.heap.size) := Lib.hid (fun q hq => ⟨hq.imp id .inl, hown q hq⟩)
      have hwk : IntKind.i64.wrap ((k : Int) + 1) = (k : Int) + 1 := IntWalk.i64_in _ (by omega)
      have hk0 : (0 : Int) ≤ (k : Int) := by omega
      have HS0 : st0 = { st with to_ := upd st.to_ 0 ((st.to_ 0).eraseIdx k) } := HST0.out
      subst HS0
      have HER : Hid ((st.to_ 0).take k ++ (st.to_ 0).drop (k + 1) = (st.to_ 0).eraseIdx k) := Lib.hid (List.eraseIdx_eq_take_drop_succ ..).symm
      clear hR1 hi27 hs27 hA2 hFr hown
      go_wp2_with fail
      go_region_law (first
        | (refine Kd.N_append_rows_step k27 (w0 := W1) W1.heap.size (by rfl) (.tmp 40) (.tmp 48) 42 27 (.agg #[.int .u8 0, .int .u32 0, .int .u32 0, .int .u64 0, .int .u64 0, .slice none 0 0]) 56 (by rfl) Try.underlying42 Try.info27 rfl (by decide) (by omega) (.slice (some ⟨W1.heap.size, 0, none⟩) 0 0) [] ((st.to_ 0).take k) (some ad) k ct (fun q => lab1 q = 1 ∨ some q = (vt 0).ownBlock ∨ W1.heap.size ≤ q) (fun q => lab1 q = 1 ∨ some q = (vt 0).ownBlock) (by rfl) (by rfl) (HN0.out _) (HF1.out _ (fun q hq => (HBW.out 0).block q hq)) (fun q hq => ⟨(HOW.out q hq).1, fun he => by have h8 := (HOW.out q hq).2; have h9 : q = W1.heap.size := (by simpa [Value.ownBlock] using he); omega⟩) (fun q hq => .inr (.inr (Nat.le_trans (HBW.out 0).size hq))) (HBW.out _) (HBW.out 0).size (by rw [List.length_nil]; omega) ?_; intro v1 w2 hn2 hb2 hg2 hat2; rw [List.nil_append] at hn2; obtain ⟨A7, c7, e7⟩ := Kd.N_slice hn2; replace e7 : v1 = .slice A7 k c7 := (by rw [e7, List.length_take, Nat.min_eq_left (Nat.le_of_lt HKL.out)]); subst e7; have u8 := pw_cell_below hb2 q8; have HN2 := Lib.hid hn2; have HB2 := Lib.hid hb2; clear hn2 hb2 hg2 hat2)
        | (refine Kd.N_append_rows_step k27 (w0 := W1) W1.heap.size (by rfl) (.tmp 49) (.tmp 58) 42 27 (.agg #[.int .u8 0, .int .u32 0, .int .u32 0, .int .u64 0, .int .u64 0, .slice none 0 0]) 56 (by rfl) Try.underlying42 Try.info27 rfl (by decide) (by omega) (.slice A7 k c7) ((st.to_ 0).take k) ((st.to_ 0).drop (k + 1)) A2 (l - (k + 1)) (ct - (k + 1)) (fun q => lab1 q = 1 ∨ some q = (vt 0).ownBlock ∨ W1.heap.size ≤ q) (fun q => lab1 q = 1 ∨ some q = (vt 0).ownBlock) (by rfl) (by rfl) HN2.out (HF2.out _ (fun q hq => HB2.out.block q hq)) (fun q hq => ⟨(HOW.out q hq).1, fun he => by have := (HOW.out q hq).2; have := Kd.N_base HN2.out q he.symm; omega⟩) (fun q hq => .inr (.inr (Nat.le_trans HB2.out.size hq))) HB2.out HB2.out.size (by rw [List.length_take]; omega) ?_; intro v3 w3 hn3 hb3 hg3 hat3; rw [HER.out] at hn3; obtain ⟨A8, c8, e8⟩ := Kd.N_slice hn3; subst e8; obtain ⟨lab2, LS2, hbk, A3⟩ := A1.out.toNew (j := 0) (by omega) hn3 hb3; have v8 := blk_cell hbk 8 (.slice (some ad) l ct) (by rw [HL.out, ← HVT.out]; rfl); have v9 := blk_free hbk 8; have LS2 := Lib.hid LS2; have A3 := Lib.hid A3; clear hn3 hb3 hg3 hat3 hbk))
      all_goals
        go_wp2_with fail
        go_meet
        exact ⟨lab2, _, A3, LS2⟩
  case rest =>
    obtain ⟨lab2, vt2, A2, L2⟩ := hcut
    have hst : st0.s = st.s ∧ st0.now = st.now ∧ st0.boot = st.boot ∧ st0.bad = st.bad ∧ st0.got = st.got ∧ st0.to_ 1 = st.to_ 1 := by
      rw [HST0.out]
      split
      · exact ⟨rfl, rfl, rfl, rfl, rfl, rfl⟩
      · exact ⟨rfl, rfl, rfl, rfl, rfl, upd_ne st.to_ ((st.to_ 0).eraseIdx k) (show 1 ≠ 0 by omega)⟩
    have HSTE := Lib.hid hst
    have hf2 : lab2 fb = 1 := (L2.out.lab_ fb (blk_lt HFB.out) (by rw [HL1.out]; omega)).trans HL1.out
    have hfb2 := (L2.out.same fb (blk_lt HFB.out) (by rw [HL1.out]; omega)).trans HFB.out
    have hV2 : Kd.V KB 5 wc 0 (fun k => lab2 k = 1) (.slice A5 f.f5.length c5) f.f5 :=
      Kd.V_mono (Kd.V_step HV1.out (fun q hq hl => L2.out.same q hl (by omega))) (fun q hq => (L2.out.lab_ q (A1.out.lim q (by omega)) (by omega)).trans hq)
    have hs := A2.out.ses 0 (by omega)
    have p6 := blk_cell A2.out.blk 6 (.pointer (some ⟨g 0, 0, none⟩)) (by rw [← hs.1]; rfl)
    have p14 := blk_cell A2.out.blk 14 (.int .i64 st0.now) rfl
    have f0 := blk_cell hfb2 0 _ rfl
    have f1 := blk_cell hfb2 1 _ rfl
    have f2 := blk_cell hfb2 2 _ rfl
    have f3 := blk_cell hfb2 3 _ rfl
    have f4 := blk_cell hfb2 4 _ rfl
    have f5 := blk_cell hfb2 5 _ rfl
    obtain ⟨r, hr⟩ : ∃ r, r = (st.s 0).takeF st.now f := ⟨_, rfl⟩
    have hcl : Hid (∀ d, Calls Try.prog 15 #[.pointer (some ⟨g 0, 0, none⟩), .int .i64 st0.now, .agg #[.int .u8 x0, .int .u32 x1, .int .u32 x2, .int .u64 x3, .int .u64 x4, .slice A5 l5 c5]] (wc.drewN d) (TkP wc (fun k => lab2 k = 2 + 0) (fun k => lab2 k = 1) (g 0) (m 0) r)) := by
      refine Lib.hid (fun d => ?_)
      have h := EF.out
      rw [h.1, h.2.1, h.2.2.1, h.2.2.2.1, h.2.2.2.2.1, h.2.2.2.2.2, hr, ← hst.1, ← hst.2.1]
      refine (take_ses (hs.2.drewN d) (by rw [hst.1]; exact OK.out.ok 0 (by omega)) (by have := HN.out; omega) st0.now f _ A5 c5 (Kd.V_drewN hV2 d) (fun q hq => by omega) HFO.out).mono ?_
      rintro e w' ⟨B', A9, Ag, c9, cg, e1, e2, e3, e4, e5⟩
      exact ⟨B', A9, Ag, c9, cg, e1, e2, ⟨e3.mm, e3.mn, e3.bb, e3.bn, ⟨e3.chg.os, e3.chg.tape, e3.chg.output, e3.chg.size, e3.chg.block⟩⟩, e4, e5⟩
    have HR := Lib.hid hr
    obtain ⟨gi, hgi⟩ : ∃ gi, gi = g 0 := ⟨_, rfl⟩
    obtain ⟨nw, hnw⟩ : ∃ nw, nw = st0.now := ⟨_, rfl⟩
    have EG := Lib.hid (And.intro hgi hnw)
    rw [← hgi] at p6 hcl
    rw [← hnw] at p14 hcl
    have HF2 := Lib.hid hf2
    have HFB2 := Lib.hid hfb2
    have HV2 := Lib.hid hV2
    have HLL := Lib.hid (L1.out.trans L2.out)
    clear hst hf2 hfb2 hV2 hs hr hgi hnw
    go_upto_region 4 with fail
    have k1 := Lib.hid (And.intro p6 (And.intro p14 (And.intro f0 (And.intro f1 (And.intro f2 (And.intro f3 (And.intro f4 f5)))))))
    have kS : Hid (∀ W : World, (∀ q, q < wc.heap.size → lab2 q ≠ 2 + 0 → W.heap[q]? = wc.heap[q]?) → W.cell? ⟨p, 6, none⟩ = some (.pointer (some ⟨gi, 0, none⟩)) ∧ W.cell? ⟨p, 14, none⟩ = some (.int .i64 nw) ∧ W.cell? ⟨fb, 0, none⟩ = some (.int .u8 x0) ∧ W.cell? ⟨fb, 1, none⟩ = some (.int .u32 x1) ∧ W.cell? ⟨fb, 2, none⟩ = some (.int .u32 x2) ∧ W.cell? ⟨fb, 3, none⟩ = some (.int .u64 x3) ∧ W.cell? ⟨fb, 4, none⟩ = some (.int .u64 x4) ∧ W.cell? ⟨fb, 5, none⟩ = some (.slice A5 l5 c5)) := by
      refine Lib.hid (fun W hW => ?_)
      have hp := hW p (A2.out.lim p (by rw [A2.out.at_]; omega)) (by rw [A2.out.at_]; omega)
      have hq := hW fb (blk_lt HFB2.out) (by rw [HF2.out]; omega)
      exact ⟨(World.cell?_of_block hp).trans p6, (World.cell?_of_block hp).trans p14, (World.cell?_of_block hq).trans f0, (World.cell?_of_block hq).trans f1, (World.cell?_of_block hq).trans f2, (World.cell?_of_block hq).trans f3, (World.cell?_of_block hq).trans f4, (World.cell?_of_block hq).trans f5⟩
    go_region_held3 (fun W => W.cell? ⟨p, 6, none⟩ = some (.pointer (some ⟨gi, 0, none⟩)) ∧ W.cell? ⟨p, 14, none⟩ = some (.int .i64 nw) ∧ W.cell? ⟨fb, 0, none⟩ = some (.int .u8 x0) ∧ W.cell? ⟨fb, 1, none⟩ = some (.int .u32 x1) ∧ W.cell? ⟨fb, 2, none⟩ = some (.int .u32 x2) ∧ W.cell? ⟨fb, 3, none⟩ = some (.int .u64 x3) ∧ W.cell? ⟨fb, 4, none⟩ = some (.int .u64 x4) ∧ W.cell? ⟨fb, 5, none⟩ = some (.slice A5 l5 c5)) (first | with_reducible exact k1.out | with_reducible exact k2.out | exact kS.out _ (fun _ _ _ => by rfl))
      (first | (go_simp; go_at_call 15; refine (hcl.out _).mono ?_; rintro e w3 ⟨B', A9, Ag, c9, cg, rfl, e2, e3, e4, e5⟩; have E2 := Lib.hid e2; have E3 := Lib.hid e3; have E4 := Lib.hid e4; have E5 := Lib.hid e5; have k2 := Lib.hid (kS.out w3 (fun q hq hn => e3.chg.block q hq hn)); clear e2 e3 e4 e5))
    obtain ⟨lab3, L3, A3, hM, hnew, hold⟩ := A2.out.session 0 (by omega) (σ' := r.σ) (by rw [← EG.out.1]; exact E2.out) E3.out
    have hVf : Kd.V k27 27 w3 0 (fun k => lab3 k = 1) (.slice A9 r.fs.length c9) r.fs := Kd.V_mono E4.out (fun q hq => hnew q hq.1 hq.2.1 hq.2.2)
    have hVg : Kd.V (Kd.slice 5 KB) 25 w3 0 (fun k => lab3 k = 1) (.slice Ag r.got.length cg) r.got := Kd.V_mono E5.out (fun q hq => by
      rcases Nat.lt_or_ge q wc.heap.size with h | h
      · rw [hold q h]
        exact hq.1.elim id (fun h2 => by omega)
      · exact hnew q h hq.2.1 hq.2.2)
    have L3' := L3.ls (by omega)
    have hf3 : lab3 fb = 1 := (L3'.lab_ fb (blk_lt HFB2.out) (by rw [HF2.out]; omega)).trans HF2.out
    have hfb3 := (L3'.same fb (blk_lt HFB2.out) (by rw [HF2.out]; omega)).trans HFB2.out
    have hln := takeF_len (OK.out.ok 0 (by omega)) (by have := HN.out; omega) st.now f HFO.out.1 HFO.out.2.1
    rw [← HR.out] at hln
    have HLN := Lib.hid hln
    have A3 := Lib.hid A3
    have L3 := Lib.hid L3'
    have VF := Lib.hid hVf
    have VG := Lib.hid hVg
    have HF3 := Lib.hid hf3
    have HFB3 := Lib.hid hfb3
    obtain ⟨er, her⟩ : ∃ er, er = r.err := ⟨_, rfl⟩
    obtain ⟨fs, hfs⟩ : ∃ fs, fs = r.fs := ⟨_, rfl⟩
    obtain ⟨gs, hgs⟩ : ∃ gs, gs = r.got := ⟨_, rfl⟩
    obtain ⟨zf, hzf⟩ : ∃ zf, zf = fs.length := ⟨_, rfl⟩
    obtain ⟨zg, hzg⟩ : ∃ zg, zg = gs.length := ⟨_, rfl⟩
    have HQ := Lib.hid (And.intro her (And.intro hfs (And.intro hgs (And.intro hzf hzg))))
    rw [← hfs] at VF HLN
    rw [← hgs] at VG HLN
    rw [← hzf] at VF
    rw [← hzg] at VG
    rw [← her, ← hfs, ← hgs, ← hzf, ← hzg]
    clear hM hnew hold L3' hVf hVg hf3 hfb3 hln her hfs hgs hzf hzg k1 k2 kS p6 p14 f0 f1 f2 f3 f4 f5 hcl E2 E3 E4 E5
    obtain ⟨bb, hbb⟩ : ∃ bb, bb = st.bad := ⟨_, rfl⟩
    obtain ⟨bd, hbd⟩ : ∃ bd, bd = (bb || decide (er ≠ 0)) := ⟨_, rfl⟩
    have HBD := Lib.hid (And.intro hbb hbd)
    go_upto_region 5 with fail
    go_cut [] (fun wx => Hid (PA 2 p lab3 { st0 with s := upd st0.s 0 r.σ, bad := bd } g m pv vt2 vs vg wx) ∧ Hid (Ls lab3 lab3 w3 wx))
    case first =>
      have q15 := blk_cell A3.out.blk 15 (.bool bb) (by rw [HBD.out.1, ← HSTE.out.2.2.2.1]; rfl)
      have f15 := blk_free A3.out.blk 15
      have FIN : Hid (∀ x : Bool, x = bd → PA 2 p lab3 { st0 with s := upd st0.s 0 r.σ, bad := bd } g m pv vt2 vs vg (w3.setCell ⟨p, 15, none⟩ (.bool x)) ∧ Ls lab3 lab3 w3 (w3.setCell ⟨p, 15, none⟩ (.bool x))) := by
        refine Lib.hid ?_
        rintro x rfl
        exact ⟨A3.out.badSet _, (Lb.put lab3 _ ⟨p, 15, none⟩ _ A3.out.lim A3.out.at_).ls (by omega)⟩
      clear hbb
      obtain ⟨qe, hqe⟩ : ∃ qe, (er != 0) = qe := ⟨_, rfl⟩
      have hbd2 : bd = (bb || qe) := by
        rw [hbd, ← hqe, bne_dec]
      have HBD2 := Lib.hid hbd2
      clear hbd hbd2
      cases bb with
      | true =>
        go_wp2_with fail
        go_meet
        obtain ⟨g1, g2⟩ := FIN.out true (by rw [HBD2.out]; rfl)
        exact ⟨Lib.hid g1, Lib.hid g2⟩
      | false =>
        go_wp2_with fail
        go_meet
        obtain ⟨g1, g2⟩ := FIN.out qe (by rw [HBD2.out]; rfl)
        exact ⟨Lib.hid g1, Lib.hid g2⟩
    case rest =>
      obtain ⟨A4, L4⟩ := hcut
      clear A3 hbb hbd
      have HFL : Hid ((st0.to_ 1).length ≤ 1099511627776 ∧ zf ≤ 65 ∧ zg ≤ 1099511627776 ∧ (st.got 0).length ≤ 1099511627776) := Lib.hid (by
        have h1 := OK.out.to_ 1 (by omega)
        have h2 := OK.out.got 0 (by omega)
        have h3 := HQ.out.2.2.2
        have h4 := HLN.out
        have := HN.out
        rw [HSTE.out.2.2.2.2.2]
        omega)
      go_upto_region 6 with fail
      have q8 := blk_cell A4.out.blk 9 (vt2 1) rfl
      have HT9 := Lib.hid (A4.out.to_ 1 (by omega))
      have hw1 : IntKind.i64.wrap (1 - 0) = 1 := by decide
      have hw2 : IntKind.i64.wrap 1 = 1 := by decide
      have hVf4 : Kd.V k27 27 wc 0 (fun k => lab3 k = 1) (.slice A9 zf c9) fs := Kd.V_step VF.out (fun q hq hl => L4.out.same q hl (by have h : lab3 q = 1 := hq; omega))
      have VF4 := Lib.hid hVf4
      have hVg4 : Kd.V (Kd.slice 5 KB) 25 wc 0 (fun k => lab3 k = 1) (.slice Ag zg cg) gs := Kd.V_step VG.out (fun q hq hl => L4.out.same q hl (by have h : lab3 q = 1 := hq; omega))
      have VG4 := Lib.hid hVg4
      have hfb4 := (L4.out.same fb (blk_lt HFB3.out) (by rw [HF3.out]; omega)).trans HFB3.out
      have HFB4 := Lib.hid hfb4
      have hmmm : st0.to_ = st0.to_ := rfl
      clear hVf4 hVg4 hfb4 VF VG HFB3 hmmm
      go_cut [] (fun wx => ∃ lab4 vt3, Hid (PA 2 p lab4 { st0 with s := upd st0.s 0 r.σ, bad := bd, to_ := upd st0.to_ 1 (st0.to_ 1 ++ fs) } g m pv vt3 vs vg wx) ∧ Hid (Ls lab3 lab4 wc wx))
      case first =>
        go_region_law (first
          | (refine Kd.N_append_rows_step k27 (w0 := wc.drew) 0 (by rfl) (.tmp 100) (.tmp 101) 42 27 (.agg #[.int .u8 0, .int .u32 0, .int .u32 0, .int .u64 0, .int .u64 0, .slice none 0 0]) 56 (by rfl) Try.underlying42 Try.info27 rfl (by decide) (by omega) (vt2 1) (st0.to_ 1) fs A9 zf c9 (fun k => lab3 k = 1 ∨ some k = (vt2 1).ownBlock ∨ wc.heap.size ≤ k) (fun k => lab3 k = 1) (by rfl) (by rfl) (HT9.out.wide (by rfl) (fun _ => by rfl)) (Kd.F_step (Kd.V_F VF4.out) (fun _ _ _ => by rfl)) (fun k hk => ⟨.inl hk, fun he => by have h7 := HT9.out.2 k he.symm; have h8 : lab3 k = 1 := hk; omega⟩) (fun k hk => .inr (.inr hk)) (Below.refl _ _) (Nat.zero_le _) (by have := HFL.out; omega) ?_; intro v3 w4 hn3 hb3 hg3 hat3; obtain ⟨A8, c8, e8⟩ := Kd.N_slice hn3; subst e8; obtain ⟨lab4, LS4, hbk, A5'⟩ := A4.out.toSet (j := 1) (by omega) hn3 ⟨hg3.os, hg3.tape, hg3.output, hg3.size, hg3.block⟩ hat3; have u8 := blk_cell hbk 9 (vt2 1) rfl; have u9 := blk_free hbk 9; have LS4 := Lib.hid LS4; have A5' := Lib.hid A5'; clear hn3 hb3 hg3 hat3 hbk))
        all_goals
          go_wp2_with fail
          go_meet
          rw [← List.length_append]
          exact ⟨lab4, _, A5', LS4⟩
      case rest =>
        obtain ⟨lab4, vt3, A5', L5⟩ := hcut
        clear q8 HT9 hw1 hw2
        obtain ⟨bo, hbo⟩ : ∃ bo, bo = st.boot 0 := ⟨_, rfl⟩
        obtain ⟨st4, hst4⟩ : ∃ st4 : Pa, st4 = { st0 with s := upd st0.s 0 r.σ, bad := bd, to_ := upd st0.to_ 1 (st0.to_ 1 ++ fs) } := ⟨_, rfl⟩
        rw [← hst4] at A5'
        have hb4 : st4.boot 0 = bo ∧ st4.got = st.got := by rw [hst4, hbo]; exact ⟨by rw [← HSTE.out.2.2.1], HSTE.out.2.2.2.2.1⟩
        have HB4 := Lib.hid hb4
        have HBO := Lib.hid hbo
        have HST4 := Lib.hid hst4
        have L45 := Lib.hid (L4.out.trans L5.out)
        have hVg5 : Kd.V (Kd.slice 5 KB) 25 wc 0 (fun k => lab4 k = 1) (.slice Ag zg cg) gs :=
          Kd.V_mono (Kd.V_step (Kd.V_bound VG4.out) (fun q hq hl => L5.out.same q hl (by have h : lab3 q = 1 := hq.1; omega))) (fun q hq => (L5.out.lab_ q hq.2 (by have h : lab3 q = 1 := hq.1; omega)).trans hq.1)
        have hfz := blk_lt HFB4.out
        have hf5 : lab4 fb = 1 := (L5.out.lab_ fb hfz (by rw [HF3.out]; omega)).trans HF3.out
        have hfb5 := (L5.out.same fb hfz (by rw [HF3.out]; omega)).trans HFB4.out
        have VG5 := Lib.hid hVg5
        have HF5 := Lib.hid hf5
        have HFB5 := Lib.hid hfb5
        obtain ⟨mail, hmail⟩ : ∃ mail : List Int → Ma, mail = fun b => ⟨x1, bo, b⟩ := ⟨_, rfl⟩
        have HML := Lib.hid hmail
        have HTQ : Hid (∃ lab5 vg5, PA 2 p lab5 { st4 with got := upd st4.got 0 (st4.got 0 ++ (gs.take 0).map mail) } g m pv vt3 vs vg5 wc ∧ Ls lab4 lab5 wc wc) := by
          refine Lib.hid ⟨lab4, vg, ?_, Ls.refl _ _⟩
          have h2 : upd st4.got 0 (st4.got 0 ++ (gs.take 0).map mail) = st4.got := by
            funext q
            by_cases hq : q = 0
            · subst hq
              rw [upd_at]
              simp
            · rw [upd_ne _ _ hq]
          rw [h2]
          exact A5'.out
        clear hbo hst4 hb4 hVg5 hf5 hfb5 hfz hmail VG4 HFB4
        have HLM := Lib.hid A5'.out.lim
        have HFIN : Hid (st.take 0 k stays = { st4 with got := upd st4.got 0 (st4.got 0 ++ gs.map mail) }) := by
          refine Lib.hid ?_
          have e : st.take 0 k stays = { (if stays then st else { st with to_ := upd st.to_ 0 ((st.to_ 0).eraseIdx k) } : Pa) with s := upd st.s 0 ((st.s 0).takeF st.now ((st.to_ 0).getD k z27)).σ, bad := st.bad || decide (((st.s 0).takeF st.now ((st.to_ 0).getD k z27)).err ≠ 0), to_ := upd (if stays then st else { st with to_ := upd st.to_ 0 ((st.to_ 0).eraseIdx k) } : Pa).to_ 1 ((if stays then st else { st with to_ := upd st.to_ 0 ((st.to_ 0).eraseIdx k) } : Pa).to_ 1 ++ ((st.s 0).takeF st.now ((st.to_ 0).getD k z27)).fs), got := upd st.got 0 (st.got 0 ++ ((st.s 0).takeF st.now ((st.to_ 0).getD k z27)).got.map (fun b => ⟨((st.to_ 0).getD k z27).f1, st.boot 0, b⟩)) } := by
            unfold Pa.take
            rw [if_pos HKL.out]
          rw [e, ← HF.out, ← HR.out, ← HST0.out, HST4.out, HML.out, EF.out.2.1, HBO.out, HQ.out.2.2.1, HBD.out.2, HBD.out.1, HQ.out.1, HQ.out.2.1, HSTE.out.1, HSTE.out.2.2.2.2.1]
        obtain ⟨W5, hW5⟩ : ∃ W5, W5 = wc := ⟨_, rfl⟩
        rw [← hW5] at HTQ VG5 HFB5 L45 HLM ⊢
        clear hW5
        go_wp2_with fail
        go_loopw [13] (fun v wr => ∃ j : Nat, v = .int .i64 j ∧ j ≤ zg ∧ Hid (∃ lab5 vg5, PA 2 p lab5 { st4 with got := upd st4.got 0 (st4.got 0 ++ (gs.take j).map mail) } g m pv vt3 vs vg5 wr ∧ Ls lab4 lab5 W5 wr)) (fun v _ => zg - (intOf v).toNat)
        case atStart => exact ⟨0, rfl, Nat.zero_le _, HTQ⟩
        case round =>
          obtain ⟨j, rfl, hj, htq⟩ := hrel
          rcases Nat.lt_or_ge j zg with hlt | hge
          · obtain ⟨lab5, vg5, A6, L6⟩ := htq.out
            have hVr := Kd.V_step VG5.out (fun q hq hl => L6.same q hl (by have h : lab4 q = 1 := hq; omega))
            obtain ⟨adg, A0, c0, x, rfl, hcx, hVx, hx⟩ := V_row_at hVr j (by rw [← HQ.out.2.2.2.2]; exact hlt)
            have hVx5 : Kd.V KB 5 wr 0 (fun k => lab5 k = 1) (.slice A0 x.length c0) x := Kd.V_mono hVx (fun q hq => (L6.lab_ q (HLM.out q (by have h : lab4 q = 1 := hq; omega)) (by have h : lab4 q = 1 := hq; omega)).trans hq)
            have q12 := blk_cell A6.blk 12 (vg5 0) rfl
            have qc := blk_cell A6.blk 0 (.int .u32 bo) (by rw [← HB4.out.1]; rfl)
            have hfb6 := (L6.same fb (blk_lt HFB5.out) (by rw [HF5.out]; omega)).trans HFB5.out
            have f1 := blk_cell hfb6 1 (.int .u32 x1) rfl
            obtain ⟨U, hU⟩ : ∃ U, U = st4.got 0 ++ (gs.take j).map mail := ⟨_, rfl⟩
            have HR6 : Hid (Row k89 89 wr lab5 (9 + 0) (vg5 0) U) := by
              have h1 := A6.got 0 (by omega)
              have h2 : Row k89 89 wr lab5 (9 + 0) (vg5 0) (upd st4.got 0 (st4.got 0 ++ (gs.take j).map mail) 0) := h1
              rw [upd_at, ← hU] at h2
              exact Lib.hid h2
            obtain ⟨zu, hzu⟩ : ∃ zu, zu = U.length := ⟨_, rfl⟩
            have HZU := Lib.hid hzu
            have HUL : Hid ((zu + 1) * 32 ≤ 140737488355328) := by
              rw [hzu, hU, List.length_append, List.length_map, List.length_take, HB4.out.2]
              exact Lib.hid (by have h9 := HFL.out; omega)
            have A6' := Lib.hid A6
            have L6' := Lib.hid L6
            have VX := Lib.hid hVx5
            have HX := Lib.hid hx.out
            have hjz : (j : Int) < (zg : Int) := by omega
            have hzb : (zg : Int) ≤ 1099511627776 := by have := HFL.out; omega
            have qA := fun o => Lib.cell?_alloc_some o q12
            have HLT := Lib.hid hlt
            have FIN : Hid (∀ (lab6 : Nat → Nat) (v : Value) (w' : World), PA 2 p lab6 { ({ st4 with got := upd st4.got 0 (st4.got 0 ++ (gs.take j).map mail) } : Pa) with got := upd (upd st4.got 0 (st4.got 0 ++ (gs.take j).map mail)) 0 (U ++ [⟨x1, bo, x⟩]) } g m pv vt3 vs (upd vg5 0 v) w' → Ls lab5 lab6 wr w' → ∃ lab5 vg5, PA 2 p lab5 { st4 with got := upd st4.got 0 (st4.got 0 ++ (gs.take (j + 1)).map mail) } g m pv vt3 vs vg5 w' ∧ Ls lab4 lab5 W5 w') := by
              refine Lib.hid ?_
              intro lab6 v w' h1 h2
              refine ⟨lab6, upd vg5 0 v, ?_, L6.trans h2⟩
              have h3 : upd st4.got 0 (st4.got 0 ++ (gs.take (j + 1)).map mail) = upd (upd st4.got 0 (st4.got 0 ++ (gs.take j).map mail)) 0 (U ++ [⟨x1, bo, x⟩]) := by
                funext q
                by_cases hq : q = 0
                · subst hq
                  rw [upd_at, upd_at, hU, List.take_succ_eq_append_getElem (by rw [← HQ.out.2.2.2.2]; exact hlt), List.map_append, List.append_assoc, List.map_singleton, hx.out, List.getD_eq_getElem?_getD, List.getElem?_eq_getElem (by rw [← HQ.out.2.2.2.2]; exact hlt), HML.out]
                  rfl
                · rw [upd_ne _ _ hq, upd_ne _ _ hq, upd_ne _ _ hq]
              rw [h3]
              exact h1
            clear htq A6 L6 hVr hVx hVx5 hfb6 hx hlt hj hU hzu
            go_upto_region 10 with fail
            go_region_law (first
              | (refine Kd.N_append_step k89 (W := wr.drew) (w0 := wr.drew) 0 (by rfl) (.tmp 119) (.tmp 134) 84 89 (.agg #[.int .u32 0, .int .u32 0, .slice none 0 0]) 32 (by rfl) Try.underlying84 Try.info89 rfl (by decide) (by omega) (vg5 0) U ⟨x1, bo, x⟩ [.int .u32 x1, .int .u32 bo, .slice A0 x.length c0] (fun k => lab5 k = 1 ∨ some k = (vg5 0).ownBlock ∨ wr.heap.size ≤ k) (fun k => lab5 k = 1) (by rfl) (by rfl) (FK_mail (Kd.V_drewN VX.out 1)) (fun k hk => ⟨.inl hk, fun he => by have h7 := HR6.out.2 k he.symm; have h8 : lab5 k = 1 := hk; omega⟩) (fun k hk => .inr (.inr hk)) (HR6.out.wide (by rfl) (fun _ => by rfl)) (Below.refl _ _) (Nat.zero_le _) (by rw [← HZU.out]; exact HUL.out) ?_; intro v3 w7 hn7 hb7 hg7 hat7; obtain ⟨A9', c9', e9⟩ := Kd.N_slice hn7; replace e9 : v3 = .slice A9' (zu + 1) c9' := (by rw [e9, List.length_append, List.length_singleton, HZU.out]); subst e9; obtain ⟨lab6, LS6, hbk, A10⟩ := A6'.out.gotSet (j := 0) (by omega) hn7 ⟨hg7.os, hg7.tape, hg7.output, hg7.size, hg7.block⟩ hat7; have u11 := blk_cell hbk 12 (vg5 0) rfl; have u12 := blk_free hbk 12; have LS6 := Lib.hid LS6; have A10 := Lib.hid A10; clear hn7 hb7 hg7 hat7 hbk))
            all_goals
              have hlt := HLT.out
              have htq := FIN.out _ _ _ A10.out LS6.out
              have HTQ2 := Lib.hid htq
              clear htq A10 LS6
              go_wp2_with fail
              go_roundw
              case rel =>
                refine ⟨j + 1, ?_, by omega, ?_⟩
                · go_num
                · exact HTQ2
              case measure => simp [intOf]; omega
          · have hi64 : decide ((j : Int) < (zg : Int)) = false := by simp; omega
            have hjz : j = zg := by omega
            obtain ⟨lab5, vg5, A6, L6⟩ := htq.out
            rw [List.take_of_length_le (by rw [← HQ.out.2.2.2.2]; omega), ← HFIN.out] at A6
            have A6' := Lib.hid A6
            have L6' := Lib.hid L6
            clear htq A6 L6 hjz
            go_wp2_with fail
            go_end0
            exact ⟨rfl, lab5, g, m, pv, vt3, vs, vg5, A6'.out, ((HLL.out.trans L3.out).trans L45.out).trans L6'.out⟩
end
end Go.Proofs.Ytlnhjkbhhdcdeaa
