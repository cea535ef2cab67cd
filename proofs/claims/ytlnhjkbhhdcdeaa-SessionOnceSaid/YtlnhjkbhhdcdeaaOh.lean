/- The walk of the pair's once, end 0. -/
import Derived.Test.YtlnhjkbhhdcdeaaOg
namespace Go.Proofs.Ytlnhjkbhhdcdeaa
open Go Go.RowKit Go.Proofs.YtlnhjkbhhdcdeaaW.PrintWords Go.Proofs.YtlnhjkbhhdcdeaaW.PrintLast Go.Proofs.YtlnhjkbhhdcdeaaW.PrintMore
open Go.Proofs.Ytlnhjkbhhdcdeaa.PSessionRuns (S27 k27 z27 S116 k116 z116)
set_option linter.unusedVariables false
set_option maxRecDepth 100000
set_option maxHeartbeats 4000000
attribute [local go_sem] max2_mx min2_mn max_two min_two
section
variable {p : Nat} {lab : Nat → Nat} {st : Pa} {g m : Nat → Nat} {pv vt vs vg : Nat → Value} {w : World} {n : Int}
theorem ponce0 (A : PA 2 p lab st g m pv vt vs vg w) (ok : Pok n st) (hn : n ≤ 1099511627776) (hpre : ∀ x y, btw (st.got 0) x y <+: btw (st.sent 1) x y) :
    Calls Try.prog 12 #[.pointer (some ⟨p, 0, none⟩), .int .i64 0] w fun e w' => e = .returned (.bool true) ∧ Below w.heap.size w w' := by
  have hg := A.got 0 (by omega)
  have hs := A.sent 1 (by omega)
  obtain ⟨Ag, cg, hvg⟩ := hg.slice
  obtain ⟨As, cs, hvs⟩ := hs.slice
  have hlg := ok.got 0 (by omega)
  have hls := ok.sent 1 (by omega)
  rw [hvg] at hg
  rw [hvs] at hs
  obtain ⟨gs, hgs⟩ : ∃ gs, gs = st.got 0 := ⟨_, rfl⟩
  obtain ⟨ss, hss⟩ : ∃ ss, ss = st.sent 1 := ⟨_, rfl⟩
  rw [← hgs] at hg hlg hpre
  rw [← hss] at hs hls hpre
  obtain ⟨l, hl⟩ : ∃ l, l = gs.length := ⟨_, rfl⟩
  obtain ⟨ls, hlse⟩ : ∃ ls, ls = ss.length := ⟨_, rfl⟩
  have q0 := blk_cell A.blk 12 (.slice Ag l cg) (by rw [hl, hgs, ← hvg]; rfl)
  have q1 := blk_cell A.blk 11 (.slice As ls cs) (by rw [hlse, hss, ← hvs]; rfl)
  have HG : Hid (∀ W, Below w.heap.size w W → Kd.V k89 89 W 0 (fun k => k < w.heap.size) (.slice Ag l cg) gs) := Lib.hid (fun W hW => by
    rw [hl]
    exact Kd.V_mono (Kd.V_below (Kd.V_bound (Kd.N_V (base' := 0) hg.1)) hW) (fun k hk => hk.2))
  have HS : Hid (∀ W, Below w.heap.size w W → Kd.V k89 89 W 0 (fun k => k < w.heap.size) (.slice As ls cs) ss) := Lib.hid (fun W hW => by
    rw [hlse]
    exact Kd.V_mono (Kd.V_below (Kd.V_bound (Kd.N_V (base' := 0) hs.1)) hW) (fun k hk => hk.2))
  have HPRE := Lib.hid hpre
  have HL := Lib.hid hl
  have HLS := Lib.hid hlse
  have hll : (l : Int) ≤ 1099511627776 := by omega
  have hl2 : (ls : Int) ≤ 1099511627776 := by omega
  have HLL := Lib.hid (And.intro hll hl2)
  have kP : Hid (∀ W : World, Below w.heap.size w W → W.cell? ⟨p, 12, none⟩ = some (.slice Ag l cg) ∧ W.cell? ⟨p, 11, none⟩ = some (.slice As ls cs)) := Lib.hid (fun W hW => ⟨pw_cell_below hW q0, pw_cell_below hW q1⟩)
  clear hg hs hvg hvs hlg hls hgs hss hl hlse q0 q1 ok hn hpre A hll hl2
  go_enter Try.func12, Try.ntmps12
  go_wp2_with fail
  go_loopw [5, 6] (fun vm v wr => ∃ (k : Nat) (ms : List Ma), v = .int .i64 k ∧ k ≤ l ∧ ms.length ≤ k ∧ Hid (Kd.N k89 89 wr w.heap.size (fun _ => True) vm ms) ∧ Hid (Below w.heap.size w wr)) (fun _ v _ => l - (intOf v).toNat)
  case atStart => exact ⟨0, [], rfl, Nat.zero_le _, Nat.le_refl _, Lib.hid (Kd.N_nil _ _ _ _ _), Lib.hid (Below.refl _ _)⟩
  case round =>
    obtain ⟨k, ms, rfl, hk, hmk, HN, HB⟩ := hrel
    obtain ⟨c0, c1⟩ := kP.out _ HB.out
    rcases Nat.lt_or_ge k l with hlt | hge
    · obtain ⟨ad, A5, c5, x, rfl, hx, x0, x1, x2, V5⟩ := V_mail_at (HG.out _ HB.out) k (by rw [← HL.out]; exact hlt)
      have hki : (k : Int) < (l : Int) := by omega
      obtain ⟨gf, hgf⟩ : ∃ gf, gf = x.fr := ⟨_, rfl⟩
      obtain ⟨gt, hgt⟩ : ∃ gt, gt = x.to_ := ⟨_, rfl⟩
      obtain ⟨xb, hxb⟩ : ∃ xb, xb = x.body := ⟨_, rfl⟩
      rw [← hgf] at x0
      rw [← hgt] at x1
      rw [← hxb] at x2 V5
      obtain ⟨bl, hbl⟩ : ∃ bl, bl = xb.length := ⟨_, rfl⟩
      have HBL := Lib.hid hbl
      have HV5 := Lib.hid V5
      rw [← hbl] at x2
      obtain ⟨Am, cm, hvm⟩ := Kd.N_slice HN.out
      subst hvm
      obtain ⟨lm, hlm⟩ : ∃ lm, lm = ms.length := ⟨_, rfl⟩
      have HLM := Lib.hid hlm
      rw [← hlm] at hmk HN ⊢
      have HKL := Lib.hid (And.intro hlt hmk)
      clear hx hgf hgt hxb hbl V5 hlm
      go_upto_region 6 with fail
      have hbb : Below wr.heap.size wr (wr.alloc (.cells #[.int .u32 gf, .int .u32 gt, .slice A5 bl c5] 89)) := below_alloc (Below.refl _ _) _
      have HB1 := Lib.hid (below_then HB.out HB.out.size hbb)
      have hbk := heap_alloc_new wr (.cells #[.int .u32 gf, .int .u32 gt, .slice A5 bl c5] 89)
      have HN1 := Lib.hid (Kd.N_below HN.out hbb)
      have HOW : Hid (∀ q, (Value.slice Am lm cm).ownBlock = some q → q < wr.heap.size) := Lib.hid (fun q hq => Kd.N_lt HN.out q hq)
      have HV6 := Lib.hid (Kd.V_below HV5.out hbb)
      obtain ⟨bx, hbx⟩ : ∃ bx, bx = wr.heap.size := ⟨_, rfl⟩
      rw [← hbx] at hbk HOW ⊢
      clear hbb hbx c0 c1 x0 x1 x2 HN HV5
      generalize wr.alloc (.cells #[.int .u32 gf, .int .u32 gt, .slice A5 bl c5] 89) = W1 at *
      have HBK := Lib.hid hbk
      have y0 := blk_cell hbk 0 (.int .u32 gf) rfl
      have y1 := blk_cell hbk 1 (.int .u32 gt) rfl
      have y2 := blk_cell hbk 2 (.slice A5 bl c5) rfl
      have kB : Hid (∀ W : World, Below W1.heap.size W1 W → W.cell? ⟨bx, 0, none⟩ = some (.int .u32 gf) ∧ W.cell? ⟨bx, 1, none⟩ = some (.int .u32 gt) ∧ W.cell? ⟨bx, 2, none⟩ = some (.slice A5 bl c5)) := Lib.hid (fun W hW => ⟨pw_cell_below hW y0, pw_cell_below hW y1, pw_cell_below hW y2⟩)
      clear hbk hmk hk hlt
      go_wp2_with fail
      go_loopw [8, 9] (fun vk v wq => ∃ (j : Nat) (b : Bool), vk = .bool b ∧ v = .int .i64 j ∧ j ≤ lm ∧ ∃ d, wq = W1.drewN d) (fun _ v _ => lm - (intOf v).toNat)
      case atStart => exact ⟨0, false, rfl, rfl, Nat.zero_le _, 0, rfl⟩
      case round =>
        obtain ⟨j, b, rfl, rfl, hj, d, rfl⟩ := hrel
        rcases Nat.lt_or_ge j lm with hjl | hjg
        · obtain ⟨ad2, A6, c6, z, rfl, hz, z0, z1, z2, V6⟩ := V_mail_at (Kd.N_V (base' := 0) HN1.out) j (by rw [← HLM.out]; exact hjl)
          obtain ⟨mf, hmf⟩ : ∃ mf, mf = z.fr := ⟨_, rfl⟩
          obtain ⟨mt, hmt⟩ : ∃ mt, mt = z.to_ := ⟨_, rfl⟩
          rw [← hmf] at z0
          rw [← hmt] at z1
          clear hz z2 V6 hmf hmt
          have hji : (j : Int) < (lm : Int) := by omega
          have hj0 : (0 : Int) ≤ (j : Int) := by omega
          have hkl := HKL.out
          have hll := HLL.out
          obtain ⟨e1, he1⟩ : ∃ e1, (mf == gf) = e1 := ⟨_, rfl⟩
          obtain ⟨e2, he2⟩ : ∃ e2, (mt == gt) = e2 := ⟨_, rfl⟩
          cases b with
          | true =>
            go_wp2_with fail
            go_quiet (fail)
            go_wp2_with fail
            go_roundw
            case rel => exact ⟨j + 1, _, rfl, by go_num, by omega, _, rfl⟩
            case measure => simp [intOf]; omega
          | false =>
            cases e1 with
            | true =>
              go_wp2_with fail
              go_quiet (fail)
              go_wp2_with fail
              go_roundw
              case rel => exact ⟨j + 1, _, rfl, by go_num, by omega, _, rfl⟩
              case measure => simp [intOf]; omega
            | false =>
              go_wp2_with fail
              go_quiet (fail)
              go_wp2_with fail
              go_roundw
              case rel => exact ⟨j + 1, _, rfl, by go_num, by omega, _, rfl⟩
              case measure => simp [intOf]; omega
        · have hkl := HKL.out
          have hll := HLL.out
          cases b with
          | true =>
            go_wp2_with fail
            go_roundw
            case rel => exact ⟨k + 1, ms, by go_num, by omega, by have := HLM.out; omega, Lib.hid (by have := Kd.N_drewN HN1.out d; exact this), Lib.hid (pw_below_drewN HB1.out d)⟩
            case measure => simp [intOf]; omega
          | false =>
            go_upto_region 12 with fail
            have HFK : Hid (Kd.FK k89 (W1.drewN d) (fun q => q < w.heap.size) ⟨gf, gt, xb⟩ [.int .u32 gf, .int .u32 gt, .slice A5 bl c5]) := Lib.hid (by
              rw [HBL.out]
              have h := Kd.V_drewN HV6.out d
              exact FK_mail (x := ⟨gf, gt, xb⟩) h)
            have HN2 := Lib.hid (Kd.N_drewN HN1.out d)
            have HB2 := Lib.hid (pw_below_drewN HB1.out d)
            have HBK2 : Hid ((W1.drewN d).heap[bx]? = some (.cells #[.int .u32 gf, .int .u32 gt, .slice A5 bl c5] 89 (0, 0))) := HBK
            have w0' : (W1.drewN d).cell? ⟨bx, 0, none⟩ = some (.int .u32 gf) := y0
            have w1' : (W1.drewN d).cell? ⟨bx, 1, none⟩ = some (.int .u32 gt) := y1
            have w2' : (W1.drewN d).cell? ⟨bx, 2, none⟩ = some (.slice A5 bl c5) := y2
            clear HN1 HB1 HBK y0 y1 y2 HV6 kB hj hjg
            generalize W1.drewN d = W2 at *
            have HMB : Hid ((ms.length + 1) * 32 ≤ 140737488355328) := Lib.hid (by
              have := HLM.out
              omega)
            go_upto_region 13 with (first
              | ((with_reducible refine gate_builtin (b := .append) (xs := #[.tmp 60, .tmp 62]) rfl ?_); at_builtin; refine Kd.N_append k89 (w0 := w) w.heap.size rfl (.tmp 60) (.tmp 62) 84 89 (.agg #[.int .u32 0, .int .u32 0, .slice none 0 0]) 32 rfl Try.underlying84 Try.info89 rfl (by decide) (by omega) (.slice Am lm cm) ms ⟨gf, gt, xb⟩ [.int .u32 gf, .int .u32 gt, .slice A5 bl c5] (fun _ => True) (fun q => q < w.heap.size) rfl rfl ?bP ?bK ?bF ?bO ?bB ?bS ?bL ?_; (case bP => exact HFK.out); (case bK => intro q hq; exact ⟨trivial, fun he => by have := Kd.N_base HN2.out q he.symm; have h9 : q < w.heap.size := hq; omega⟩); (case bF => intro q hq; trivial); (case bO => exact HN2.out); (case bB => exact HB2.out); (case bS => exact HB2.out.size); (case bL => exact HMB.out); intro v3 w4 hr4 hb4 hg4 hat4; have HR4 := Lib.hid hr4; have HB4 := Lib.hid hb4; have HBK4 := Lib.hid ((hg4.block bx (blk_lt HBK2.out) (fun he => Nat.lt_irrefl _ (HOW.out bx he.symm))).trans HBK2.out); clear hr4 hb4 hg4 hat4))
            clear HFK HN2 HB2 HBK2 w0' w1' w2' HOW HMB
            have y0 := blk_cell HBK4.out 0 (.int .u32 gf) rfl
            have y1 := blk_cell HBK4.out 1 (.int .u32 gt) rfl
            obtain ⟨x, hx⟩ : ∃ x, x = btw gs gf gt := ⟨_, rfl⟩
            obtain ⟨y, hy⟩ : ∃ y, y = btw ss gf gt := ⟨_, rfl⟩
            obtain ⟨l1, hl1⟩ : ∃ l1, l1 = x.length := ⟨_, rfl⟩
            obtain ⟨l2, hl2⟩ : ∃ l2, l2 = y.length := ⟨_, rfl⟩
            have HXY : Hid (x = y.take l1 ∧ l1 ≤ l2 ∧ (l1 : Int) ≤ 1099511627776) := Lib.hid (by
              have h := HPRE.out gf gt
              rw [← hx, ← hy] at h
              refine ⟨by rw [hl1]; exact (List.prefix_iff_eq_take.1 h), by rw [hl1, hl2]; exact h.length_le, ?_⟩
              have h1 := btw_len gs gf gt
              rw [← hx, ← hl1, ← HL.out] at h1
              omega)
            have HCG : Hid (∀ W, Below w.heap.size w W → Calls Try.prog 35 #[.slice (some ad) l cg, .int .u32 gf, .int .u32 gt] W fun e w' => ∃ A' c', e = .returned (.slice A' l1 c') ∧ Kd.V (Kd.slice 5 KB) 25 w' 0 (fun _ => True) (.slice A' l1 c') x ∧ Below W.heap.size W w') := by
              refine Lib.hid (fun W hW => ?_)
              have h := between_w (by rw [← HL.out]; exact HG.out W hW) (fun k hk => Nat.lt_of_lt_of_le hk hW.size) gf gt (by have := HLL.out; have := HL.out; omega)
              rw [← HL.out, ← hx, ← hl1] at h
              exact h
            have HCS : Hid (∀ W, Below w.heap.size w W → Calls Try.prog 35 #[.slice As ls cs, .int .u32 gf, .int .u32 gt] W fun e w' => ∃ A' c', e = .returned (.slice A' l2 c') ∧ Kd.V (Kd.slice 5 KB) 25 w' 0 (fun _ => True) (.slice A' l2 c') y ∧ Below W.heap.size W w') := by
              refine Lib.hid (fun W hW => ?_)
              have h := between_w (by rw [← HLS.out]; exact HS.out W hW) (fun k hk => Nat.lt_of_lt_of_le hk hW.size) gf gt (by have := HLL.out; have := HLS.out; omega)
              rw [← HLS.out, ← hy, ← hl2] at h
              exact h
            have kW : Hid (∀ W : World, Below w4.heap.size w4 W → W.cell? ⟨p, 12, none⟩ = some (.slice (some ad) l cg) ∧ W.cell? ⟨p, 11, none⟩ = some (.slice As ls cs) ∧ W.cell? ⟨bx, 0, none⟩ = some (.int .u32 gf) ∧ W.cell? ⟨bx, 1, none⟩ = some (.int .u32 gt)) := Lib.hid (fun W hW => ⟨(kP.out _ (below_then HB4.out HB4.out.size hW)).1, (kP.out _ (below_then HB4.out HB4.out.size hW)).2, pw_cell_below hW y0, pw_cell_below hW y1⟩)
            have D0 := Lib.hid (fun d => pw_below_drewN (Below.refl w4.heap.size w4) d)
            have B0 := Lib.hid (fun d => pw_below_drewN HB4.out d)
            have k1 := Lib.hid (kW.out w4 (Below.refl _ _))
            have k2 := Lib.hid (kW.out w4.drew (D0.out 1))
            have k3 := Lib.hid (kW.out (w4.drewN 1) (D0.out 1))
            have HY2 := Lib.hid hl2
            have HX1 := Lib.hid hl1
            clear y0 y1 hx hy hl1 hl2
            have hw1 : IntKind.i64.wrap (1 - 0) = 1 := by decide
            have hw2 : IntKind.i64.wrap 1 = 1 := by decide
            go_region_held3 (fun W => W.cell? ⟨p, 12, none⟩ = some (.slice (some ad) l cg) ∧ W.cell? ⟨p, 11, none⟩ = some (.slice As ls cs) ∧ W.cell? ⟨bx, 0, none⟩ = some (.int .u32 gf) ∧ W.cell? ⟨bx, 1, none⟩ = some (.int .u32 gt)) (first | with_reducible exact kN.out | with_reducible exact k1.out | with_reducible exact k2.out | with_reducible exact k3.out)
              (first
                | (go_simp; go_at_call 35; (with_reducible refine (HCG.out _ ?hBG).mono ?_); (case hBG => first | with_reducible exact BN.out | exact B0.out _); rintro e w5 ⟨Aa, ca, rfl, va, hc⟩; (try (have VB := Lib.hid (Kd.V_below VB.out hc))); have VA := Lib.hid va; have DN := Lib.hid (below_then (by first | exact DN.out | exact D0.out _) (by first | exact DN.out.size | exact (D0.out 0).size) hc : Below w4.heap.size w4 w5); have BN := Lib.hid (below_then HB4.out HB4.out.size DN.out); have kN := Lib.hid (kW.out w5 DN.out); clear va hc)
                | (go_simp; go_at_call 35; (with_reducible refine (HCS.out _ ?hBS).mono ?_); (case hBS => first | with_reducible exact BN.out | exact B0.out _); rintro e w5 ⟨Ab, cb, rfl, vb, hc⟩; (try (have VA := Lib.hid (Kd.V_below VA.out hc))); have VB := Lib.hid vb; have DN := Lib.hid (below_then (by first | exact DN.out | exact D0.out _) (by first | exact DN.out.size | exact (D0.out 0).size) hc : Below w4.heap.size w4 w5); have BN := Lib.hid (below_then HB4.out HB4.out.size DN.out); have kN := Lib.hid (kW.out w5 DN.out); clear vb hc))
            all_goals
              have HR5 := Lib.hid (Kd.N_below HR4.out DN.out)
              have HB5 := Lib.hid BN.out
              have hx12 : (l1 : Int) ≤ (l2 : Int) := by have := HXY.out; omega
              have hl1b := HXY.out.2.2
              obtain ⟨i25, hi25, _, hs25, _⟩ := info_parts Try.info25
              have cut1 := cut_to (P := Try.prog) 45 25 .i64 Try.underlying45 hi25 Ab l2 cb (l1 : Int) (by omega) (by omega) (Kd.V_at VB.out).2.1
              rw [Int.toNat_natCast] at cut1
              have HBO : Hid (Calls Try.prog 23 #[.slice Aa l1 ca, .slice Ab l1 cb] w5 fun e w' => e = .returned (.bool true) ∧ ∃ n, w' = w5.drewN n) := by
                refine Lib.hid ?_
                have va := VA.out
                have hvb := Kd.V_at VB.out
                have hF := Kd.F_take hvb.2.2 (m := l1) (by have := HXY.out; have := HY2.out; omega)
                rw [← HXY.out.1] at hF
                have vb : Kd.V (Kd.slice 5 KB) 25 w5 0 (fun _ => True) (.slice Ab x.length cb) x := ⟨Ab, cb, rfl, by have := hvb.2.1; have := HXY.out.2.1; have := HX1.out; omega, hF⟩
                rw [HX1.out] at va ⊢
                exact bodies_w va vb (by have := HXY.out.2.2; have := HX1.out; omega)
              have hlt1 := HKL.out.1
              have hll := HLL.out
              clear VA VB BN DN kN k1 k2 k3 kW D0 B0 HCG HCS hi25 hs25 HXY HX1 HY2
              go_wp2_with fail
              refine HBO.out.mono ?_
              rintro e w6 ⟨rfl, d6, rfl⟩
              have HR6 := Lib.hid (Kd.N_drewN HR5.out d6)
              have HB6 := Lib.hid (pw_below_drewN HB5.out d6)
              go_wp2_with fail
              go_roundw
              case rel => exact ⟨k + 1, _, by go_num, by omega, by rw [List.length_append, List.length_singleton]; have := HLM.out; have := HKL.out; omega, HR6, HB6⟩
              case measure => simp [intOf]; omega
    · go_wp2_with fail
      go_ret
      exact ⟨rfl, HB.out⟩
end
end Go.Proofs.Ytlnhjkbhhdcdeaa
