/- The walk of SessionBounds where the settings may be. -/
import Derived.Test.YtlnhjkbhhdcdeaaSq4
namespace Go.Proofs.Ytlnhjkbhhdcdeaa
open Go Go.RowKit Go.ChangeShapes Go.WideShapes Go.Proofs.YtlnhjkbhhdcdeaaW.PrintWords Go.Proofs.YtlnhjkbhhdcdeaaW.PrintLast Go.Proofs.YtlnhjkbhhdcdeaaW.PrintMore
open Go.Proofs.Ytlnhjkbhhdcdeaa.PSessionRuns (S27 k27 z27 S116 k116 z116)
set_option linter.unusedVariables false
set_option maxRecDepth 100000
set_option maxHeartbeats 4000000
attribute [local go_sem] max2_mx min2_mn max_two min_two
theorem bounds_ok (bo wi tm : Int) (v1 : Value) (xs1 : List TOp) (w : World) (hb : badc bo wi tm = false) (h0 : 0 ≤ bo) (h1 : bo < 4294967296)
    (hV : Kd.V kop 47 w 0 (fun k => k < w.heap.size) v1 xs1) (hok : ∀ o ∈ xs1, okO o) :
    Calls Try.prog 5 #[.agg #[.int .u32 bo, .int .i64 wi, .int .i64 tm], v1] w fun e w' => e = .returned (.bool true) ∧ Below w.heap.size w w' := by
  have HW : Hid (1 ≤ wi ∧ wi ≤ 64) := by
    unfold badc at hb
    simp at hb
    exact Lib.hid (by omega)
  obtain ⟨A1, c1, rfl, hc1, hF1⟩ := hV
  obtain ⟨n1, hn1⟩ : ∃ n1, n1 = xs1.length := ⟨_, rfl⟩
  have HV : Hid (Kd.V kop 47 w 0 (fun k => k < w.heap.size) (.slice A1 n1 c1) xs1) := Lib.hid (by rw [hn1]; exact ⟨A1, c1, rfl, hc1, hF1⟩)
  rw [← hn1]
  have HN1 := Lib.hid hn1
  have HOK := Lib.hid hok
  have HN : Hid (∀ W, Calls Try.prog 13 #[.agg #[.int .u32 bo, .int .i64 wi, .int .i64 tm], .int .i64 0] W fun e w' => ∃ g m v, e = .returned (.tuple #[.pointer (some ⟨g, 0, none⟩), v, .int .i64 0]) ∧ BQ W bo wi 2 g m w') := Lib.hid (fun W => bq_new hb h0 h1)
  clear hb h0 h1 hc1 hF1 hn1 hok
  go_enter Try.func5, Try.ntmps5
  go_wp2_with fail
  refine (HN.out _).mono ?_
  rintro e w1 ⟨g, m, v, rfl, hq⟩
  have hbk := heap_alloc_new w (.cells #[.int .u32 bo, .int .i64 wi, .int .i64 tm] 39)
  have hbw : Below w.heap.size w (w.alloc (.cells #[.int .u32 bo, .int .i64 wi, .int .i64 tm] 39)) := below_alloc (Below.refl _ _) _
  have hV0 := Kd.V_below HV.out hbw
  have hsz : w.heap.size ≤ (w.alloc (.cells #[.int .u32 bo, .int .i64 wi, .int .i64 tm] 39)).heap.size := hbw.size
  have HV0 := Lib.hid (Kd.V_mono hV0 (fun k (hk : k < w.heap.size) => (Nat.lt_of_lt_of_le hk hsz : k < (w.alloc (.cells #[.int .u32 bo, .int .i64 wi, .int .i64 tm] 39)).heap.size)))
  have HBW := Lib.hid hbw
  have HSZ := Lib.hid hsz
  have HQ := Lib.hid hq
  obtain ⟨bx, hbx⟩ : ∃ bx, bx = w.heap.size := ⟨_, rfl⟩
  rw [← hbx] at hbk ⊢
  clear HV hq hbw hV0 hsz HN
  obtain ⟨W0, hW0⟩ : ∃ W0, W0 = w.alloc (.cells #[.int .u32 bo, .int .i64 wi, .int .i64 tm] 39) := ⟨_, rfl⟩
  rw [← hW0] at hbk HV0 HBW HSZ HQ
  have f0 := blk_cell hbk 0 (.int .u32 bo) rfl
  have f1 := blk_cell hbk 1 (.int .i64 wi) rfl
  have HBX : Hid (∀ W : World, Below W0.heap.size W0 W → W.cell? ⟨bx, 0, none⟩ = some (.int .u32 bo) ∧ W.cell? ⟨bx, 1, none⟩ = some (.int .i64 wi)) := Lib.hid (fun W hW => ⟨pw_cell_below hW f0, pw_cell_below hW f1⟩)
  clear hbk f0 f1 hW0 hbx
  go_wp2_with fail
  refine (alive _).mono ?_
  rintro e w2 ⟨rfl, hb2⟩
  have HST : Hid (BQ W0 bo wi 2 g m w2) := Lib.hid (HQ.out.below hb2)
  clear hb2 HQ
  go_wp2_with fail
  go_loopw [8, 9] (fun vn v wr => ∃ (now : Int) (i : Nat), vn = .int .i64 now ∧ v = .int .i64 i ∧ 0 ≤ now ∧ now ≤ 1099511627776 ∧ i ≤ n1 ∧ i ≤ 100 ∧ Hid (BQ W0 bo wi (2 + 70000 * (i : Int)) g m wr)) (fun _ v _ => n1 - (intOf v).toNat)
  case atStart => exact ⟨0, 0, rfl, rfl, by omega, by omega, Nat.zero_le _, Nat.zero_le _, by simpa using HST⟩
  case round =>
    obtain ⟨now, i, rfl, rfl, hnow0, hnow1, hi, hi100, HB⟩ := hrel
    have HOLD := Lib.hid HB.out.old
    have HNW : Hid (0 ≤ now ∧ now ≤ 1099511627776) := Lib.hid ⟨hnow0, hnow1⟩
    have HI : Hid (i ≤ n1 ∧ i ≤ 100) := Lib.hid ⟨hi, hi100⟩
    by_cases hlt : i < n1 ∧ i < 100
    · have t1 : decide ((i : Int) < (n1 : Int)) = true := by simp; omega
      have t2 : decide ((i : Int) < 100) = true := by simp; omega
      have HLT := Lib.hid hlt
      obtain ⟨ad, AL, cL, A5, c5, o, rfl, HO, q0, q1, q2, hVL, hsix, hV5⟩ := V_op_at (Kd.V_step HV0.out (fun k hk _ => HOLD.out.block k hk)) i (by rw [← HN1.out]; exact hlt.1)
      rw [add_field _ _ 1 (by omega)] at q1
      rw [add_field _ _ 2 (by omega)] at q2
      rw [add_field _ _ 3 (by omega)] at hsix
      obtain ⟨hlt1, hlt2⟩ := hlt
      clear hi hi100 hnow0 hnow1
      have HOO : Hid (okO o) := Lib.hid (by
        rw [HO.out, List.getD_eq_getElem?_getD, List.getElem?_eq_getElem (by rw [← HN1.out]; exact HLT.out.1)]
        exact HOK.out _ (List.getElem_mem _))
      obtain ⟨k0, hk0⟩ : ∃ k0, k0 = o.1 := ⟨_, rfl⟩
      obtain ⟨at0, hat0⟩ : ∃ at0, at0 = o.2.1 := ⟨_, rfl⟩
      obtain ⟨ll, hll⟩ : ∃ ll, ll = o.2.2.1.length := ⟨_, rfl⟩
      rw [← hk0] at q0
      rw [← hat0] at q1
      rw [← hll] at q2
      have HAT : Hid (at0 ≤ 9223372036854775807) := Lib.hid (by
        have := HOO.out.2.1
        rw [hat0]
        simp [Lit.wf, IntKind.min, IntKind.max, IntKind.signed, IntKind.bits] at this
        omega)
      have HVL := Lib.hid hVL
      have HV5 := Lib.hid hV5
      have HSIX := Lib.hid hsix
      have HLL := Lib.hid hll
      have Q0 := Lib.hid q0
      have Q2 := Lib.hid q2
      clear hVL hV5 hsix hk0 hat0 hll q0 q2
      go_upto_region 10 with fail
      clear hlt2 t1 t2
      obtain ⟨b1, hb1⟩ : ∃ b1, decide ((0 : Int) < at0) = b1 := ⟨_, rfl⟩
      obtain ⟨b2, hb2⟩ : ∃ b2, decide (at0 ≤ (1099511627776 : Int) - now) = b2 := ⟨_, rfl⟩
      have hw1 : IntKind.i64.wrap ((1099511627776 : Int) - now) = (1099511627776 : Int) - now := by
        have := HNW.out
        exact IntWalk.i64_in _ (by omega)
      go_cut [55] (fun v wx => v = .bool (b1 && b2) ∧ wx = wr)
      case first =>
        cases b1 with
        | false =>
          go_wp2_with fail
          go_meet
          exact ⟨rfl, rfl⟩
        | true =>
          go_wp2_with fail
          go_meet
          exact ⟨rfl, rfl⟩
      case rest =>
        obtain ⟨rfl, rfl⟩ := hcut
        have HB1 := Lib.hid hb1
        have HB2 := Lib.hid hb2
        clear hb1 hb2 hw1
        go_upto_if 55 with fail
        go_cut [8] (fun v wy => ∃ now2 : Int, v = .int .i64 now2 ∧ 0 ≤ now2 ∧ now2 ≤ 1099511627776 ∧ wy = wc)
        case first =>
          cases hbb : (b1 && b2) with
          | false =>
            go_wp2_with fail
            go_meet
            exact ⟨now, rfl, HNW.out.1, HNW.out.2, rfl⟩
          | true =>
            have hat : 0 < at0 ∧ at0 ≤ 1099511627776 - now := by
              simp at hbb
              have h3 := HB1.out
              have h4 := HB2.out
              rw [hbb.1] at h3
              rw [hbb.2] at h4
              simp at h3 h4
              exact ⟨h3, h4⟩
            have HSUM : Hid (0 ≤ now + at0 ∧ now + at0 ≤ 1099511627776) := Lib.hid (by have := HNW.out; omega)
            have hw2 : IntKind.i64.wrap (now + at0) = now + at0 := by
              have := HSUM.out
              exact IntWalk.i64_in _ (by omega)
            clear hat
            go_wp2_with fail
            go_meet
            exact ⟨now + at0, rfl, HSUM.out.1, HSUM.out.2, rfl⟩
        case rest =>
          obtain ⟨now2, rfl, hn0, hn1, rfl⟩ := hcut
          have HN2 : Hid (0 ≤ now2 ∧ now2 ≤ 1099511627776) := Lib.hid ⟨hn0, hn1⟩
          clear hn0 hn1 q1 HB1 HB2
          have q0 := Q0.out
          obtain ⟨e1, he1⟩ : ∃ e1, (k0 == 1) = e1 := ⟨_, rfl⟩
          obtain ⟨e2, he2⟩ : ∃ e2, (k0 == 2) = e2 := ⟨_, rfl⟩
          obtain ⟨e3, he3⟩ : ∃ e3, (k0 == 3) = e3 := ⟨_, rfl⟩
          have HNN : Hid (2 + 70000 * (i : Int) + 70000 = 2 + 70000 * ((i + 1 : Nat) : Int) ∧ 2 + 70000 * (i : Int) + 70000 ≤ 1099511627776) := Lib.hid (by
            have := HLT.out
            omega)
          obtain ⟨N2, hN2⟩ : ∃ N2 : Int, N2 = 2 + 70000 * ((i + 1 : Nat) : Int) := ⟨_, rfl⟩
          have HCS : Hid (Calls Try.prog 14 #[.pointer (some ⟨g, 0, none⟩), .int .i64 now2, .slice AL ll cL] wc fun e w' => ∃ v x, e = .returned (.tuple #[v, .int .i64 x]) ∧ BP W0 bo wi N2 g m v w') := Lib.hid (by
            rw [hN2, ← HNN.out.1, HLL.out]
            exact bq_send HB.out HNN.out.2 now2 _ HVL.out (by have := HOO.out.2.2.1.2; omega))
          have HCT : Hid (Calls Try.prog 16 #[.pointer (some ⟨g, 0, none⟩), .int .i64 now2] wc fun e w' => ∃ v x, e = .returned (.tuple #[v, .int .i64 x]) ∧ BP W0 bo wi N2 g m v w') := Lib.hid (by
            rw [hN2, ← HNN.out.1]
            exact bq_tick HB.out HNN.out.2 now2)
          obtain ⟨ff, hff⟩ : ∃ ff, ff = frof o.2.2.2 := ⟨_, rfl⟩
          have HCK : Hid (Calls Try.prog 15 #[.pointer (some ⟨g, 0, none⟩), .int .i64 now2, .agg #[.int .u8 ff.f0, .int .u32 ff.f1, .int .u32 ff.f2, .int .u64 ff.f3, .int .u64 ff.f4, .slice A5 ff.f5.length c5]] wc fun e w' => ∃ v v2 b x, e = .returned (.tuple #[v, v2, .bool b, .int .i64 x]) ∧ BP W0 bo wi N2 g m v w') := Lib.hid (by
            rw [hN2, ← HNN.out.1, hff]
            exact bq_take HB.out HNN.out.2 now2 _ HV5.out (okF_fok HOO.out.2.2.2))
          have HS6 : Hid (Six wc ⟨(ad.add (i * 9)).block, (ad.add (i * 9)).off + 3, none⟩ ff (.slice A5 ff.f5.length c5)) := by
            rw [hff]
            exact HSIX
          have HB0 : Hid (BP W0 bo wi N2 g m (.slice none 0 0) wc) := Lib.hid (by
            rw [hN2, ← HNN.out.1]
            exact ⟨none, 0, [], rfl, BO.none_ (HB.out.more (by omega) HNN.out.2) HW.out.1⟩)
          have HNN2 := Lib.hid hN2
          clear hff hN2
          obtain ⟨y0, hy0⟩ : ∃ y, y = ff.f0 := ⟨_, rfl⟩
          obtain ⟨y1, hy1⟩ : ∃ y, y = ff.f1 := ⟨_, rfl⟩
          obtain ⟨y2, hy2⟩ : ∃ y, y = ff.f2 := ⟨_, rfl⟩
          obtain ⟨y3, hy3⟩ : ∃ y, y = ff.f3 := ⟨_, rfl⟩
          obtain ⟨y4, hy4⟩ : ∃ y, y = ff.f4 := ⟨_, rfl⟩
          obtain ⟨l5, hl5⟩ : ∃ y, y = ff.f5.length := ⟨_, rfl⟩
          have HS7 : Hid (wc.cell? ⟨(ad.add (i * 9)).block, (ad.add (i * 9)).off + 3, none⟩ = some (.int .u8 y0) ∧ wc.cell? ⟨(ad.add (i * 9)).block, (ad.add (i * 9)).off + 3 + 1, none⟩ = some (.int .u32 y1) ∧ wc.cell? ⟨(ad.add (i * 9)).block, (ad.add (i * 9)).off + 3 + 2, none⟩ = some (.int .u32 y2) ∧ wc.cell? ⟨(ad.add (i * 9)).block, (ad.add (i * 9)).off + 3 + 3, none⟩ = some (.int .u64 y3) ∧ wc.cell? ⟨(ad.add (i * 9)).block, (ad.add (i * 9)).off + 3 + 4, none⟩ = some (.int .u64 y4) ∧ wc.cell? ⟨(ad.add (i * 9)).block, (ad.add (i * 9)).off + 3 + 5, none⟩ = some (.slice A5 l5 c5)) := by
            rw [hy0, hy1, hy2, hy3, hy4, hl5]
            exact HS6
          rw [← hy0, ← hy1, ← hy2, ← hy3, ← hy4, ← hl5] at HCK
          clear hy0 hy1 hy2 hy3 hy4 hl5 HS6 HV5 HVL HSIX HLL
          go_upto_region 12 with fail
          iterate 8 go_step
          go_cut [10] (fun v wy => Hid (BP W0 bo wi N2 g m v wy))
          case first =>
            cases e1 with
            | true =>
              have q2 := Q2.out
              go_wp2_with fail
              refine HCS.out.mono ?_
              rintro e w3 ⟨vv, x, rfl, hbp⟩
              have HBP := Lib.hid hbp
              clear hbp
              go_wp2_with fail
              go_meet
              exact HBP
            | false =>
              cases e2 with
              | true =>
                obtain ⟨s0, s1, s2, s3, s4, s5⟩ := HS7.out
                go_wp2_with fail
                refine HCK.out.mono ?_
                rintro e w3 ⟨vv, v2, b, x, rfl, hbp⟩
                have HBP := Lib.hid hbp
                clear hbp
                go_wp2_with fail
                go_meet
                exact HBP
              | false =>
                cases e3 with
                | true =>
                  go_wp2_with fail
                  refine HCT.out.mono ?_
                  rintro e w3 ⟨vv, x, rfl, hbp⟩
                  have HBP := Lib.hid hbp
                  clear hbp
                  go_wp2_with fail
                  go_meet
                  exact HBP
                | false =>
                  go_wp2_with fail
                  go_meet
                  exact HB0
          case rest =>
            obtain ⟨A, c, fs, rfl, hbo⟩ := hcut.out
            have HBO := Lib.hid hbo
            clear hbo HCS HCT HCK HS7 HB0 he1 he2 he3 q0 Q0 Q2 HOO HO HB HAT
            obtain ⟨lf, hlf⟩ : ∃ lf, lf = fs.length := ⟨_, rfl⟩
            rw [← hlf]
            have HLF := Lib.hid hlf
            clear hlf hcut
            have HL65 : Hid (lf ≤ 65) := Lib.hid (by rw [HLF.out]; exact HBO.out.2.2.2.2)
            go_wp2_with fail
            go_loopw [11, 12] (fun vd v wq => ∃ k dd : Nat, vd = .int .i64 dd ∧ v = .int .i64 k ∧ k ≤ lf ∧ dd ≤ k ∧ Hid (dd = dcount (fs.take k)) ∧ Hid (BO W0 bo wi N2 g m A c fs wq)) (fun _ v _ => lf - (intOf v).toNat)
            case atStart => exact ⟨0, 0, rfl, rfl, Nat.zero_le _, Nat.le_refl _, Lib.hid rfl, HBO⟩
            case round =>
              obtain ⟨k, dd, rfl, rfl, hk, hdk, HDD, HBK⟩ := hrel
              have HKD : Hid (k ≤ lf ∧ dd ≤ k) := Lib.hid ⟨hk, hdk⟩
              by_cases hlt : k < lf
              · have t1 : decide ((k : Int) < (lf : Int)) = true := by simp; omega
                have HKL := Lib.hid hlt
                obtain ⟨ad2, A6, c6, x, rfl, hsx, _, hx⟩ := V_fr_at HBK.out.2.1 k (by rw [← HLF.out]; exact hlt)
                clear hk hdk
                have HFK : Hid (Fok bo x) := Lib.hid (by
                  rw [hx.out, List.getD_eq_getElem?_getD, List.getElem?_eq_getElem (by rw [← HLF.out]; exact HKL.out)]
                  exact HBK.out.2.2.1 _ (List.getElem_mem _))
                have HD1 : Hid (dcount (fs.take (k + 1)) = dd + (if x.f0 == 2 then 1 else 0)) := Lib.hid (by
                  rw [dcount_take fs k (by rw [← HLF.out]; exact HKL.out), ← HDD.out, ← hx.out])
                obtain ⟨y0, hy0⟩ : ∃ y, y = x.f0 := ⟨_, rfl⟩
                obtain ⟨y2, hy2⟩ : ∃ y, y = x.f2 := ⟨_, rfl⟩
                obtain ⟨y3, hy3⟩ : ∃ y, y = x.f3 := ⟨_, rfl⟩
                obtain ⟨y4, hy4⟩ : ∃ y, y = x.f4 := ⟨_, rfl⟩
                obtain ⟨l5, hl5⟩ : ∃ y, y = x.f5.length := ⟨_, rfl⟩
                have HC9 : Hid (∀ W, Below wr.heap.size wr W → Calls Try.prog 9 #[.agg #[.int .u8 y0, .int .u32 bo, .int .u32 y2, .int .u64 y3, .int .u64 y4, .slice A6 l5 c6]] W fun e w' => e = .returned (.int .i64 0) ∧ Below wr.heap.size wr w') := by
                  refine Lib.hid (fun W hW => (rcheck_w y0 bo y2 y3 y4 A6 l5 c6 W).mono ?_)
                  rintro e w' ⟨rfl, rfl⟩
                  refine ⟨?_, below_then hW hW.size (below_alloc (Below.refl _ _) _)⟩
                  have := HFK.out.1
                  rw [HFK.out.2, ← hy0, ← hy2, ← hy3, ← hy4, ← hl5] at this
                  rw [this]
                obtain ⟨s0, s1, s2, s3, s4, s5⟩ := hsx
                rw [HFK.out.2] at s1
                rw [← hy0] at s0 HD1
                rw [← hy2] at s2
                rw [← hy3] at s3
                rw [← hy4] at s4
                rw [← hl5] at s5
                obtain ⟨sb, _⟩ := HBX.out _ HBK.out.1.old
                clear hy0 hy2 hy3 hy4 hl5 hx HFK
                have kW : Hid (∀ W : World, Below wr.heap.size wr W → W.cell? (ad2.add (k * 6)) = some (.int .u8 y0) ∧ W.cell? ⟨(ad2.add (k * 6)).block, (ad2.add (k * 6)).off + 1, none⟩ = some (.int .u32 bo) ∧ W.cell? ⟨(ad2.add (k * 6)).block, (ad2.add (k * 6)).off + 2, none⟩ = some (.int .u32 y2) ∧ W.cell? ⟨(ad2.add (k * 6)).block, (ad2.add (k * 6)).off + 3, none⟩ = some (.int .u64 y3) ∧ W.cell? ⟨(ad2.add (k * 6)).block, (ad2.add (k * 6)).off + 4, none⟩ = some (.int .u64 y4) ∧ W.cell? ⟨(ad2.add (k * 6)).block, (ad2.add (k * 6)).off + 5, none⟩ = some (.slice A6 l5 c6) ∧ W.cell? ⟨bx, 0, none⟩ = some (.int .u32 bo)) :=
                  Lib.hid (fun W hW => ⟨pw_cell_below hW s0, pw_cell_below hW s1, pw_cell_below hW s2, pw_cell_below hW s3, pw_cell_below hW s4, pw_cell_below hW s5, pw_cell_below hW sb⟩)
                have D0 := Lib.hid (fun d => pw_below_drewN (Below.refl wr.heap.size wr) d)
                have k1 := Lib.hid (kW.out wr (Below.refl _ _))
                have k2 := Lib.hid (kW.out wr.drew (D0.out 1))
                have k3 := Lib.hid (kW.out (wr.drewN 1) (D0.out 1))
                have hbb : (bo != bo) = false := by simp
                clear s1 s2 s3 s4 s5 sb s0
                go_upto_region 24 with fail
                go_region_held3 (fun W => W.cell? (ad2.add (k * 6)) = some (.int .u8 y0) ∧ W.cell? ⟨(ad2.add (k * 6)).block, (ad2.add (k * 6)).off + 1, none⟩ = some (.int .u32 bo) ∧ W.cell? ⟨(ad2.add (k * 6)).block, (ad2.add (k * 6)).off + 2, none⟩ = some (.int .u32 y2) ∧ W.cell? ⟨(ad2.add (k * 6)).block, (ad2.add (k * 6)).off + 3, none⟩ = some (.int .u64 y3) ∧ W.cell? ⟨(ad2.add (k * 6)).block, (ad2.add (k * 6)).off + 4, none⟩ = some (.int .u64 y4) ∧ W.cell? ⟨(ad2.add (k * 6)).block, (ad2.add (k * 6)).off + 5, none⟩ = some (.slice A6 l5 c6) ∧ W.cell? ⟨bx, 0, none⟩ = some (.int .u32 bo)) (first | with_reducible exact kN.out | with_reducible exact k1.out | with_reducible exact k2.out | with_reducible exact k3.out)
                  (first | (go_simp; go_at_call 9; refine (HC9.out _ (D0.out _)).mono ?_; rintro e w3 ⟨rfl, hb⟩; have kN := Lib.hid (kW.out w3 hb); have BN := Lib.hid hb; clear hb))
                all_goals
                  have sN := kN.out.1
                  obtain ⟨eq, heq⟩ : ∃ eq, (y0 == 2) = eq := ⟨_, rfl⟩
                  have HBN : Hid (BO W0 bo wi N2 g m (some ad2) c fs w3) := Lib.hid (HBK.out.below BN.out)
                  have HD2 : Hid (dcount (fs.take (k + 1)) = dd + (if eq = true then 1 else 0)) := Lib.hid (by rw [HD1.out, heq])
                  clear HC9 kW D0 k1 k2 k3 kN HD1 BN HBK
                  have hq2 := HKD.out
                  have hq3 := HKL.out
                  have hq4 := HL65.out
                  cases eq with
                  | true =>
                    go_wp2_with fail
                    go_roundw
                    case rel =>
                      exact ⟨k + 1, dd + 1, by go_num, by go_num, by omega, by omega, Lib.hid (by rw [HD2.out]; rfl), HBN⟩
                    case measure => simp [intOf]; omega
                  | false =>
                    go_wp2_with fail
                    go_roundw
                    case rel =>
                      exact ⟨k + 1, dd, rfl, by go_num, by omega, by omega, Lib.hid (by rw [HD2.out]; rfl), HBN⟩
                    case measure => simp [intOf]; omega
              · have t1 : decide ((k : Int) < (lf : Int)) = false := by simp; omega
                have hk2 : k = lf := by omega
                have HDW : Hid ((dd : Int) ≤ wi) := Lib.hid (by
                  rw [HDD.out, hk2, HLF.out, List.take_length]
                  exact HBK.out.2.2.2.1)
                obtain ⟨fl, L, hfl1, hfl2, hL, hC17, hC18⟩ := HBK.out.1.fly
                obtain ⟨_, sb1⟩ := HBX.out _ HBK.out.1.old
                have d1 : decide (wi < fl) = false := by simp; omega
                have d2 : decide (wi < (dd : Int)) = false := by have := HDW.out; simp; omega
                have d3 : decide (L < fl) = false := by simp; omega
                have d4 : decide (65536 < L) = false := by simp; omega
                have HC17 := Lib.hid hC17
                have HC18 := Lib.hid hC18
                have hlt2 : lf ≤ k := by omega
                clear hdk hlt hk2 hfl1 hfl2 hL hC17 hC18 hk
                go_upto_region 28 with fail
                clear t1 hlt2
                go_quiet (first | (go_at_call 17; refine (HC17.out _).mono ?_; rintro e w' ⟨rfl, d', rfl⟩; exact ⟨rfl, _, rfl⟩) | (go_at_call 18; refine (HC18.out _).mono ?_; rintro e w' ⟨rfl, d', rfl⟩; exact ⟨rfl, _, rfl⟩))
                clear d1 d2 d3 d4 sb1
                have hq1 := HI.out
                have hq2 := HLT.out
                go_wp2_with fail
                go_roundw
                case rel =>
                  refine ⟨now2, i + 1, rfl, ?_, HN2.out.1, HN2.out.2, by omega, by omega, ?_⟩
                  · go_num
                  · rw [← HNN2.out]
                    exact Lib.hid (HBK.out.1.below (pw_below_drewN (Below.refl _ _) _))
                case measure => simp [intOf]; omega
    · have HBE : Hid (Below w.heap.size w wr) := Lib.hid (HBW.out.trans (HOLD.out.mono HSZ.out))
      by_cases hl : i < n1
      · have hl2 : ¬ i < 100 := by omega
        clear hlt
        go_wp2_with fail
        go_ret
        exact ⟨rfl, HBE.out⟩
      · clear hlt
        go_wp2_with fail
        go_ret
        exact ⟨rfl, HBE.out⟩
end Go.Proofs.Ytlnhjkbhhdcdeaa
