/- The walk of the pair's do, end 0. -/
import Derived.Test.YtlnhjkbhhdcdeaaOa
import Derived.Test.YtlnhjkbhhdcdeaaOb
import Derived.Test.YtlnhjkbhhdcdeaaOc
namespace Go.Proofs.Ytlnhjkbhhdcdeaa
open Go Go.RowKit Go.Proofs.YtlnhjkbhhdcdeaaW.PrintWords Go.Proofs.YtlnhjkbhhdcdeaaW.PrintLast Go.Proofs.YtlnhjkbhhdcdeaaW.PrintMore
open Go.Proofs.Ytlnhjkbhhdcdeaa.PSessionRuns (S27 k27 z27 S116 k116 z116)
set_option linter.unusedVariables false
set_option maxRecDepth 100000
set_option maxHeartbeats 4000000
attribute [local go_sem] max2_mx min2_mn max_two min_two
section
variable {p : Nat} {lab : Nat → Nat} {st : Pa} {g m : Nat → Nat} {pv vt vs vg : Nat → Value} {w : World} {n : Int}
theorem pdo0 (A : PA 2 p lab st g m pv vt vs vg w) (pn : Pn n st) (hn : n + 140000 ≤ 4294967295) (t : Tu) (hte : t.end_ = false) (ht0 : 0 ≤ t.n) (ht1 : t.n ≤ 255) (A5 : Option Addr) (c5 : Nat) (okp : Nat → Prop) (hV : Kd.V KB 5 w 0 okp (.slice A5 t.body.length c5) t.body) (hokp : ∀ k, okp k → lab k ≤ 1) (hbl : t.body.length ≤ 140737488351232) :
    Calls Try.prog 34 #[.pointer (some ⟨p, 0, none⟩), .agg #[.int .u8 t.kind, .bool false, .int .u8 t.n, .slice A5 t.body.length c5]] w (PQ p lab w (st.turn t)) := by
  have hi : t.i = 0 := by
    unfold Tu.i
    rw [hte]
    rfl
  obtain ⟨k, hk⟩ : ∃ k, k = st.nth t := ⟨_, rfl⟩
  obtain ⟨At, ct, hvt⟩ := (A.to_ 0 (by omega)).slice
  have hto := pn.pk.ok.to_ 0 (by omega)
  obtain ⟨l, hl⟩ : ∃ l, l = (st.to_ 0).length := ⟨_, rfl⟩
  have hkk : (0 < l ∧ t.n.tmod (l : Int) = (k : Int) ∧ k < l) ∨ l = 0 ∧ k = 0 := by
    unfold Pa.nth at hk
    rw [hi, ← hl] at hk
    by_cases h : 0 < l
    · rw [if_pos h] at hk
      refine .inl ⟨h, ?_, ?_⟩
      · rw [Int.tmod_eq_emod_of_nonneg ht0, hk, Int.natCast_emod, Int.toNat_of_nonneg ht0]
      · rw [hk]
        exact Nat.mod_lt _ h
    · rw [if_neg h] at hk
      exact .inr ⟨by omega, hk⟩
  obtain ⟨kd, hkd⟩ : ∃ x, x = t.kind := ⟨_, rfl⟩
  obtain ⟨tn, htn⟩ : ∃ x, x = t.n := ⟨_, rfl⟩
  obtain ⟨bl, hble⟩ : ∃ x, x = t.body.length := ⟨_, rfl⟩
  have HTU : Hid (st.turn t = if kd = 1 then st.send 0 t.body else if kd = 2 then st.take 0 k false else if kd = 3 then st.take 0 k true else if kd = 4 then (if 0 < l then st.lose 0 k else st) else if kd = 5 then st.tick tn else if kd = 6 then st.restart 0 else st) := by
    unfold Pa.turn
    rw [hi, ← hk, ← hl, ← hkd, ← htn]
    exact Lib.hid rfl
  have hb1 : Below w.heap.size w (w.alloc (.cells #[.int .u8 kd, .bool false, .int .u8 tn, .slice A5 bl c5] 92)) := below_alloc (Below.refl _ _) _
  have hA1 := A.below hb1
  have hbk := heap_alloc_new w (.cells #[.int .u8 kd, .bool false, .int .u8 tn, .slice A5 bl c5] 92)
  have q8 := blk_cell hA1.blk 8 (.slice At l ct) (by rw [hl, ← hvt]; rfl)
  have HV1 := Lib.hid (Kd.V_below hV hb1)
  have HOKP := Lib.hid hokp
  have HPN := Lib.hid pn
  have HN := Lib.hid hn
  have HL1 := Lib.hid (Ls.below (lab := lab) hb1)
  have EQ := Lib.hid (And.intro hl (And.intro hvt hble))
  have HBL := Lib.hid hbl
  rw [← htn] at ht0 ht1 hkk
  rw [← hkd, ← htn, ← hble]
  have HTN := Lib.hid (And.intro ht0 ht1)
  have HKK := Lib.hid hkk
  have HLL : Hid (l ≤ 4294967295) := Lib.hid (by omega)
  clear hn hl hvt hble hbl hokp pn hV hb1 A hkd htn hk hi hte hto hkk
  go_enter Try.func34, Try.ntmps34
  go_upto_region 1 with fail
  obtain ⟨bx, hbx⟩ : ∃ bx, bx = w.heap.size := ⟨_, rfl⟩
  rw [← hbx] at hbk ⊢
  clear hbx
  generalize w.alloc (.cells #[.int .u8 kd, .bool false, .int .u8 tn, .slice A5 bl c5] 92) = W1 at *
  have HA1 := Lib.hid hA1
  have c0 := blk_cell hbk 0 (.int .u8 kd) rfl
  have c1 := blk_cell hbk 1 (.bool false) rfl
  have c2 := blk_cell hbk 2 (.int .u8 tn) rfl
  have c3 := blk_cell hbk 3 (.slice A5 bl c5) rfl
  clear hA1 hbk
  go_upto_if 15 with fail
  go_cut [5] (fun v wx => v = .int .i64 k ∧ ∃ d, wx = W1.drewN d)
  case first =>
    rcases HKK.out with ⟨h1, h2, h3⟩ | ⟨rfl, rfl⟩
    · have e1 : decide ((0 : Int) < (l : Int)) = true := by simp; omega
      have e2 : ((l : Int) == 0) = false := by simp; omega
      have hll := HLL.out
      go_wp2_with fail
      go_quiet (fail)
      go_wp2_with fail
      go_meet
      exact ⟨rfl, _, rfl⟩
    · go_wp2_with fail
      go_meet
      exact ⟨rfl, 0, rfl⟩
  case rest =>
    obtain ⟨rfl, d, rfl⟩ := hcut
    have HA2 := Lib.hid (HA1.out.drewN d)
    have HV2 := Lib.hid (Kd.V_drewN HV1.out d)
    have HL2 : Hid (Ls lab lab w (W1.drewN d)) := Lib.hid (HL1.out.trans (Ls.below (pw_below_drewN (Below.refl _ _) d)))
    have d0 : (W1.drewN d).cell? ⟨bx, 0, none⟩ = some (.int .u8 kd) := c0
    have d2 : (W1.drewN d).cell? ⟨bx, 2, none⟩ = some (.int .u8 tn) := c2
    have d3 : (W1.drewN d).cell? ⟨bx, 3, none⟩ = some (.slice A5 bl c5) := c3
    have d8 : (W1.drewN d).cell? ⟨p, 8, none⟩ = some (.slice At l ct) := q8
    clear c0 c1 c2 c3 q8 HA1 HV1 HL1
    generalize W1.drewN d = W2 at *
    have FIN : Hid (∀ w3, PQ p lab W2 (st.turn t) (.returned (.tuple #[])) w3 → PQ p lab w (st.turn t) (.returned (.tuple #[])) w3) := by
      refine Lib.hid ?_
      rintro w3 ⟨_, lab', g', m', pv', vt', vs', vg', A', L'⟩
      exact ⟨rfl, lab', g', m', pv', vt', vs', vg', A', HL2.out.trans L'⟩
    by_cases h1 : kd = 1
    · have HT : Hid (st.turn t = st.send 0 t.body) := Lib.hid (by rw [HTU.out, if_pos h1])
      have q1 : (kd == 1) = true := by rw [h1]; rfl
      have HCL : Hid (Calls Try.prog 33 #[.pointer (some ⟨p, 0, none⟩), .int .i64 0, .slice A5 bl c5] W2 (PQ p lab W2 (st.turn t))) := by
        rw [HT.out, EQ.out.2.2]
        exact Lib.hid (psend0 HA2.out HPN.out.pk.ok (by have := HN.out; omega) t.body A5 c5 okp HV2.out HOKP.out HBL.out)
      clear h1 HTU
      go_wp2_with fail
      refine HCL.out.mono ?_
      rintro e w3 hpq
      obtain rfl := hpq.1
      have HP := Lib.hid (FIN.out _ hpq)
      clear hpq HCL
      go_wp2_with fail
      go_end0
      exact HP.out
    · have q1 : (kd == 1) = false := by simpa using h1
      by_cases h2 : kd = 2
      · have HT : Hid (st.turn t = st.take 0 k false) := Lib.hid (by rw [HTU.out, if_neg h1, if_pos h2])
        have q2 : (kd == 2) = true := by rw [h2]; rfl
        have HCL : Hid (Calls Try.prog 64 #[.pointer (some ⟨p, 0, none⟩), .int .i64 0, .int .i64 k, .bool false] W2 (PQ p lab W2 (st.turn t))) := by
          rw [HT.out]
          exact Lib.hid (ptake HA2.out HPN.out.pk.ok (by have := HN.out; omega) 0 (by omega) k (by have h1 := HKK.out; have h2 := HLL.out; omega) false)
        clear h1 h2 HTU
        go_wp2_with fail
        refine HCL.out.mono ?_
        rintro e w3 hpq
        obtain rfl := hpq.1
        have HP := Lib.hid (FIN.out _ hpq)
        clear hpq HCL
        go_wp2_with fail
        go_end0
        exact HP.out
      · have q2 : (kd == 2) = false := by simpa using h2
        by_cases h3 : kd = 3
        · have HT : Hid (st.turn t = st.take 0 k true) := Lib.hid (by rw [HTU.out, if_neg h1, if_neg h2, if_pos h3])
          have q3 : (kd == 3) = true := by rw [h3]; rfl
          have HCL : Hid (Calls Try.prog 64 #[.pointer (some ⟨p, 0, none⟩), .int .i64 0, .int .i64 k, .bool true] W2 (PQ p lab W2 (st.turn t))) := by
            rw [HT.out]
            exact Lib.hid (ptake HA2.out HPN.out.pk.ok (by have := HN.out; omega) 0 (by omega) k (by have h1 := HKK.out; have h2 := HLL.out; omega) true)
          clear h1 h2 h3 HTU
          go_wp2_with fail
          refine HCL.out.mono ?_
          rintro e w3 hpq
          obtain rfl := hpq.1
          have HP := Lib.hid (FIN.out _ hpq)
          clear hpq HCL
          go_wp2_with fail
          go_end0
          exact HP.out
        · have q3 : (kd == 3) = false := by simpa using h3
          by_cases h4 : kd = 4
          · have q4 : (kd == 4) = true := by rw [h4]; rfl
            by_cases hl0 : 0 < l
            · have HT : Hid (st.turn t = st.lose 0 k) := Lib.hid (by rw [HTU.out, if_neg h1, if_neg h2, if_neg h3, if_pos h4, if_pos hl0])
              have e1 : decide ((0 : Int) < (l : Int)) = true := by simp; omega
              have hkl : k < l := by have := HKK.out; omega
              have HKL := Lib.hid hkl
              have HR0 := HA2.out.to_ 0 (by omega)
              rw [EQ.out.2.1, ← EQ.out.1] at HR0
              have hlc := (Kd.V_at (Kd.N_V (base' := 0) HR0.1)).2.1
              have hll := HLL.out
              have qA := fun o => Lib.cell?_alloc_some o d8
              obtain ⟨i27, hi27, _, hs27, _⟩ := info_parts Try.info27
              have cut1 := cut_to (P := Try.prog) 42 27 .i64 Try.underlying42 hi27 At l ct (k : Int) (by omega) (by omega) hlc
              have cut2 := cut_from (P := Try.prog) 42 27 .i64 Try.underlying42 hi27 6 hs27 At l ct ((k : Int) + 1) (by omega) (by omega)
              rw [Int.toNat_natCast] at cut1
              rw [show ((k : Int) + 1).toNat = k + 1 by omega] at cut2
              obtain ⟨A2, hA2⟩ : ∃ A2, A2 = (if ct = k + 1 then At else At.map (·.add ((k + 1) * 6))) := ⟨_, rfl⟩
              rw [← hA2] at cut2
              have hFr := (Kd.V_at (Kd.N_V (base' := 0) HR0.1)).2.2
              have hown : ∀ q, lab q = 1 ∨ some q = (vt 0).ownBlock → q < W2.heap.size := fun q hq => hq.elim (fun h => HA2.out.lim q (by omega)) (fun h => Kd.N_lt (HA2.out.to_ 0 (by omega)).1 q h.symm)
              have HF1 : Hid (∀ W' : World, (∀ q, q < W2.heap.size → W'.heap[q]? = W2.heap[q]?) → Kd.F k27 W' (fun q => lab q = 1 ∨ some q = (vt 0).ownBlock) At k ((st.to_ 0).take k)) := by
                refine Lib.hid (fun W' hW => ?_)
                have := Kd.F_step (Kd.F_take hFr (m := k) (by have := HKL.out; have := EQ.out.1; omega)) (W1 := W') (fun q hq hl => hW q hl)
                rw [List.length_take, Nat.min_eq_left (by have := HKL.out; have := EQ.out.1; omega)] at this
                exact Kd.F_mono this (fun q hq => by rw [EQ.out.2.1, ← EQ.out.1]; exact hq)
              have HF2 : Hid (∀ W' : World, (∀ q, q < W2.heap.size → W'.heap[q]? = W2.heap[q]?) → Kd.F k27 W' (fun q => lab q = 1 ∨ some q = (vt 0).ownBlock) A2 (l - (k + 1)) ((st.to_ 0).drop (k + 1))) := by
                refine Lib.hid (fun W' hW => ?_)
                have := Kd.F_step (Kd.F_cut (c := ct) hFr (m := k + 1) (by have := HKL.out; have := EQ.out.1; omega) (by rw [← EQ.out.1]; exact hlc)) (W1 := W') (fun q hq hl => hW q hl)
                rw [List.length_drop, ← EQ.out.1] at this
                rw [hA2]
                exact Kd.F_mono this (fun q hq => by rw [EQ.out.2.1, ← EQ.out.1]; exact hq)
              have HN0 : Hid (∀ d, Kd.N k27 27 ((W2.alloc (.cells #[] 27)).drewN d) W2.heap.size (fun q => lab q = 1 ∨ some q = (vt 0).ownBlock ∨ W2.heap.size ≤ q) (.slice (some ⟨W2.heap.size, 0, none⟩) 0 0) []) := Lib.hid (fun d => N_empty k27 27 W2 W2.heap.size (Nat.le_refl _) _ (.inr (.inr (Nat.le_refl _))) d)
              have HBW : Hid (∀ d, Below W2.heap.size W2 ((W2.alloc (.cells #[] 27)).drewN d)) := Lib.hid (fun d => pw_below_drewN (below_alloc (Below.refl _ _) _) d)
              have HOW : Hid (∀ q, lab q = 1 ∨ some q = (vt 0).ownBlock → (lab q = 1 ∨ some q = (vt 0).ownBlock ∨ W2.heap.size ≤ q) ∧ q < W2.heap.size) := Lib.hid (fun q hq => ⟨hq.imp id .inl, hown q hq⟩)
              have hwk : IntKind.i64.wrap ((k : Int) + 1) = (k : Int) + 1 := IntWalk.i64_in _ (by omega)
              have hk0 : (0 : Int) ≤ (k : Int) := by omega
              have HER : Hid ((st.to_ 0).take k ++ (st.to_ 0).drop (k + 1) = (st.to_ 0).eraseIdx k) := Lib.hid (List.eraseIdx_eq_take_drop_succ ..).symm
              have HLN : Hid ((st.to_ 0).length = l) := Lib.hid EQ.out.1.symm
              have HFN : Hid (∀ (lab2 : Nat → Nat) (v3 : Value) (w3 : World), Ls lab lab2 W2 (w3.setCell ⟨p, 8, none⟩ v3) → PA 2 p lab2 { st with to_ := upd st.to_ 0 ((st.to_ 0).eraseIdx k) } g m pv (upd vt 0 v3) vs vg (w3.setCell ⟨p, 8, none⟩ v3) → PQ p lab w (st.turn t) (.returned (.tuple #[])) (w3.setCell ⟨p, 8, none⟩ v3)) := by
                refine Lib.hid ?_
                intro lab2 v3 w3 h1 h2
                refine FIN.out _ ⟨rfl, lab2, g, m, pv, upd vt 0 v3, vs, vg, ?_, h1⟩
                rw [HT.out]
                exact h2
              clear HR0 hi27 hs27 hA2 hFr hown h1 h2 h3 h4 HTU
              go_upto_region 16 with fail
              go_region_law (first
                | (refine Kd.N_append_rows_step k27 (w0 := W2) W2.heap.size (by rfl) (.tmp 60) (.tmp 68) 42 27 (.agg #[.int .u8 0, .int .u32 0, .int .u32 0, .int .u64 0, .int .u64 0, .slice none 0 0]) 56 (by rfl) Try.underlying42 Try.info27 rfl (by decide) (by omega) (.slice (some ⟨W2.heap.size, 0, none⟩) 0 0) [] ((st.to_ 0).take k) At k ct (fun q => lab q = 1 ∨ some q = (vt 0).ownBlock ∨ W2.heap.size ≤ q) (fun q => lab q = 1 ∨ some q = (vt 0).ownBlock) (by rfl) (by rfl) (HN0.out _) (HF1.out _ (fun q hq => (HBW.out 0).block q hq)) (fun q hq => ⟨(HOW.out q hq).1, fun he => by have h8 := (HOW.out q hq).2; have h9 : q = W2.heap.size := (by simpa [Value.ownBlock] using he); omega⟩) (fun q hq => .inr (.inr (Nat.le_trans (HBW.out 0).size hq))) (HBW.out _) (HBW.out 0).size (by rw [List.length_nil]; omega) ?_; intro v1 w2 hn2 hb2 hg2 hat2; rw [List.nil_append] at hn2; obtain ⟨A7, c7, e7⟩ := Kd.N_slice hn2; replace e7 : v1 = .slice A7 k c7 := (by rw [e7, List.length_take, Nat.min_eq_left (by have := HKL.out; have := HLN.out; omega)]); subst e7; have u8 := pw_cell_below hb2 d8; have HN2 := Lib.hid hn2; have HB2 := Lib.hid hb2; clear hn2 hb2 hg2 hat2)
                | (refine Kd.N_append_rows_step k27 (w0 := W2) W2.heap.size (by rfl) (.tmp 69) (.tmp 78) 42 27 (.agg #[.int .u8 0, .int .u32 0, .int .u32 0, .int .u64 0, .int .u64 0, .slice none 0 0]) 56 (by rfl) Try.underlying42 Try.info27 rfl (by decide) (by omega) (.slice A7 k c7) ((st.to_ 0).take k) ((st.to_ 0).drop (k + 1)) A2 (l - (k + 1)) (ct - (k + 1)) (fun q => lab q = 1 ∨ some q = (vt 0).ownBlock ∨ W2.heap.size ≤ q) (fun q => lab q = 1 ∨ some q = (vt 0).ownBlock) (by rfl) (by rfl) HN2.out (HF2.out _ (fun q hq => HB2.out.block q hq)) (fun q hq => ⟨(HOW.out q hq).1, fun he => by have := (HOW.out q hq).2; have := Kd.N_base HN2.out q he.symm; omega⟩) (fun q hq => .inr (.inr (Nat.le_trans HB2.out.size hq))) HB2.out HB2.out.size (by rw [List.length_take]; omega) ?_; intro v3 w3 hn3 hb3 hg3 hat3; rw [HER.out] at hn3; obtain ⟨A8, c8, e8⟩ := Kd.N_slice hn3; subst e8; obtain ⟨lab2, LS2, hbk, A3⟩ := HA2.out.toNew (j := 0) (by omega) hn3 hb3; have v8 := blk_cell hbk 8 (.slice At l ct) (by rw [EQ.out.1, ← EQ.out.2.1]; rfl); have v9 := blk_free hbk 8; have HP := Lib.hid (HFN.out lab2 _ w3 LS2 A3); clear hn3 hb3 hg3 hat3 hbk LS2 A3))
              all_goals
                go_wp2_with fail
                go_end0
                exact HP.out
            · have HT : Hid (st.turn t = st) := Lib.hid (by rw [HTU.out, if_neg h1, if_neg h2, if_neg h3, if_pos h4, if_neg hl0])
              have e1 : decide ((0 : Int) < (l : Int)) = false := by simp; omega
              clear h1 h2 h3 h4 HTU
              have HP : Hid (PQ p lab w (st.turn t) (.returned (.tuple #[])) W2) := Lib.hid (FIN.out _ ⟨rfl, lab, g, m, pv, vt, vs, vg, by rw [HT.out]; exact HA2.out, Ls.refl _ _⟩)
              go_wp2_with fail
              go_end0
              exact HP.out
          · have q4 : (kd == 4) = false := by simpa using h4
            by_cases h5 : kd = 5
            · have HT : Hid (st.turn t = st.tick tn) := Lib.hid (by rw [HTU.out, if_neg h1, if_neg h2, if_neg h3, if_neg h4, if_pos h5])
              have q5 : (kd == 5) = true := by rw [h5]; rfl
              have HCL : Hid (Calls Try.prog 65 #[.pointer (some ⟨p, 0, none⟩), .int .i64 tn] W2 (PQ p lab W2 (st.turn t))) := by
                rw [HT.out]
                exact Lib.hid (ptick HA2.out HPN.out (by have := HN.out; omega) tn HTN.out.1 HTN.out.2)
              clear h1 h2 h3 h4 h5 HTU
              go_wp2_with fail
              refine HCL.out.mono ?_
              rintro e w3 hpq
              obtain rfl := hpq.1
              have HP := Lib.hid (FIN.out _ hpq)
              clear hpq HCL
              go_wp2_with fail
              go_end0
              exact HP.out
            · have q5 : (kd == 5) = false := by simpa using h5
              by_cases h6 : kd = 6
              · have HT : Hid (st.turn t = st.restart 0) := Lib.hid (by rw [HTU.out, if_neg h1, if_neg h2, if_neg h3, if_neg h4, if_neg h5, if_pos h6])
                have q6 : (kd == 6) = true := by rw [h6]; rfl
                have HCL : Hid (Calls Try.prog 66 #[.pointer (some ⟨p, 0, none⟩), .int .i64 0] W2 (PQ p lab W2 (st.turn t))) := by
                  rw [HT.out]
                  exact Lib.hid (prestart0 HA2.out HPN.out HN.out)
                clear h1 h2 h3 h4 h5 h6 HTU
                go_wp2_with fail
                refine HCL.out.mono ?_
                rintro e w3 hpq
                obtain rfl := hpq.1
                have HP := Lib.hid (FIN.out _ hpq)
                clear hpq HCL
                go_wp2_with fail
                go_end0
                exact HP.out
              · have HT : Hid (st.turn t = st) := Lib.hid (by rw [HTU.out, if_neg h1, if_neg h2, if_neg h3, if_neg h4, if_neg h5, if_neg h6])
                have q6 : (kd == 6) = false := by simpa using h6
                clear h1 h2 h3 h4 h5 h6 HTU
                have HP : Hid (PQ p lab w (st.turn t) (.returned (.tuple #[])) W2) := Lib.hid (FIN.out _ ⟨rfl, lab, g, m, pv, vt, vs, vg, by rw [HT.out]; exact HA2.out, Ls.refl _ _⟩)
                go_wp2_with fail
                go_end0
                exact HP.out
end
end Go.Proofs.Ytlnhjkbhhdcdeaa
