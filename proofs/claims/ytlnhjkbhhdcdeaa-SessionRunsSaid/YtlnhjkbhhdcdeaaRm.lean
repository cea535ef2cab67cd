/- The walk of the document's Take. -/
import Derived.Test.YtlnhjkbhhdcdeaaRv
namespace Go.Proofs.Ytlnhjkbhhdcdeaa
open Go Go.RowKit Go.Proofs.YtlnhjkbhhdcdeaaW.PrintWords Go.Proofs.YtlnhjkbhhdcdeaaW.PrintLast Go.Proofs.YtlnhjkbhhdcdeaaW.PrintMore
open Go.Proofs.Ytlnhjkbhhdcdeaa.PSessionRuns (S27 k27 z27 S116 k116 z116)
set_option linter.unusedVariables false
set_option maxRecDepth 100000
set_option maxHeartbeats 4000000
attribute [local go_sem] max2_mx min2_mn max_two min_two
section
variable {p : Nat} {lab : Nat → Nat} {σ : Se} {out : List S27} {got : List (List Int)} {vL vE vO vG : Value} {w : World} {n : Int}
theorem rtake (A : RS p lab σ [] got vL vE vO vG w) (ok : Ok n σ) (eo : Eok σ) (pd : Pd σ) (hn : n + 1 ≤ 1099511627776) (now : Int) (x0 x1 x2 x3 x4 : Int) (xb : List Int) (f : S27) (hfe : f = ⟨x0, x1, x2, x3, x4, xb⟩) (hf : FOk f) (A5 : Option Addr) (c5 : Nat)
    (hV : Kd.V KB 5 w 0 (fun k => lab k = 1) (.slice A5 xb.length c5) xb) :
    Calls Try.prog 22 #[.pointer (some ⟨p, 0, none⟩), .int .i64 now, .agg #[.int .u8 x0, .int .u32 x1, .int .u32 x2, .int .u64 x3, .int .u64 x4, .slice A5 xb.length c5]] w (RTk p lab w (σ.takeF now f)) := by
  have hb1 : Below w.heap.size w (w.alloc (.cells #[.int .u8 x0, .int .u32 x1, .int .u32 x2, .int .u64 x3, .int .u64 x4, .slice A5 xb.length c5] 27)) := below_alloc (Below.refl _ _) _
  obtain ⟨lab1, L1, A1, hold1, hnew1⟩ := A.made hb1
  have hbk := heap_alloc_new w (.cells #[.int .u8 x0, .int .u32 x1, .int .u32 x2, .int .u64 x3, .int .u64 x4, .slice A5 xb.length c5] 27)
  have hl1 := hnew1 w.heap.size (Nat.le_refl _) (by rw [World.size_alloc]; omega)
  have hV1 : Kd.V KB 5 (w.alloc (.cells #[.int .u8 x0, .int .u32 x1, .int .u32 x2, .int .u64 x3, .int .u64 x4, .slice A5 xb.length c5] 27)) 0 (fun k => lab1 k = 1) (.slice A5 xb.length c5) xb :=
    Kd.V_mono (Kd.V_below (Kd.V_bound hV) hb1) (fun k hk => (hold1 k hk.2).trans hk.1)
  have HL1 := Lib.hid (L1.ls (by omega))
  have OK := Lib.hid ok
  have EO := Lib.hid eo
  have PD := Lib.hid pd
  have HN := Lib.hid hn
  have HFE := Lib.hid hfe
  have HFO := Lib.hid hf
  obtain ⟨l5, hl5⟩ : ∃ l5, l5 = xb.length := ⟨_, rfl⟩
  have HL5 := Lib.hid hl5
  rw [← hl5] at hbk hV1 A1 HL1 ⊢
  have HV1 := Lib.hid hV1
  have HLB := Lib.hid hl1
  have HB := Lib.hid (rbegin A1 now)
  have HA1 := Lib.hid A1
  have HBK := Lib.hid hbk
  obtain ⟨er, her⟩ : ∃ er, er = σ.ask now := ⟨_, rfl⟩
  rw [← her] at HB
  have HER := Lib.hid her
  clear A hb1 L1 hold1 hnew1 hV hV1 A1 hbk hl1 ok eo pd hn hfe hf hl5 her
  go_enter Try.func22, Try.ntmps22
  go_upto_region 1 with fail
  have HLw : Hid (Ls lab lab1 w (w.alloc (.cells #[.int .u8 x0, .int .u32 x1, .int .u32 x2, .int .u64 x3, .int .u64 x4, .slice A5 l5 c5] 27))) := HL1
  obtain ⟨bx, hbx⟩ : ∃ bx, bx = w.heap.size := ⟨_, rfl⟩
  rw [← hbx] at HBK HLB ⊢
  clear hbx HL1
  generalize w.alloc (.cells #[.int .u8 x0, .int .u32 x1, .int .u32 x2, .int .u64 x3, .int .u64 x4, .slice A5 l5 c5] 27) = W1 at *
  have HRP : Hid (RP p lab1 W1 σ [] got W1) := Lib.hid ⟨lab1, _, _, _, _, HA1.out, Ls.refl _ _⟩
  have HRT : Hid (∀ r e w', RTk p lab1 W1 r e w' → RTk p lab w r e w') := by
    refine Lib.hid ?_
    rintro r e w' ⟨lab', got', vL', vE', vO', vG', A', Ag, c', cg, h1, h2, h3, h4, h5⟩
    exact ⟨lab', got', vL', vE', vO', vG', A', Ag, c', cg, h1, h2, HLw.out.trans h3, h4, h5⟩
  have kB : Hid (∀ (σ' : Se) (out' : List S27) (got' : List (List Int)) (wr : World), RP p lab1 W1 σ' out' got' wr → wr.cell? ⟨bx, 0, none⟩ = some (.int .u8 x0) ∧ wr.cell? ⟨bx, 1, none⟩ = some (.int .u32 x1) ∧ wr.cell? ⟨bx, 2, none⟩ = some (.int .u32 x2) ∧ wr.cell? ⟨bx, 3, none⟩ = some (.int .u64 x3) ∧ wr.cell? ⟨bx, 4, none⟩ = some (.int .u64 x4) ∧ wr.cell? ⟨bx, 5, none⟩ = some (.slice A5 l5 c5)) := by
    refine Lib.hid (fun σ' out' got' wr h => ?_)
    have hb := h.same (by rw [HLB.out]; omega) HBK.out
    exact ⟨blk_cell hb 0 _ rfl, blk_cell hb 1 _ rfl, blk_cell hb 2 _ rfl, blk_cell hb 3 _ rfl, blk_cell hb 4 _ rfl, blk_cell hb 5 _ rfl⟩
  clear HLw HBK HLB
  go_wp2_with fail
  refine HB.out.mono ?_
  rintro e w1 ⟨rfl, rfl⟩
  clear HB
  by_cases h0 : er = 0
  · have HASK : Hid (σ.ask now = 0) := Lib.hid (by rw [← HER.out, h0])
    subst h0
    obtain ⟨ck, hck⟩ : ∃ ck, ck = chk x0 x1 x2 x3 x4 l5 := ⟨_, rfl⟩
    have HCKW : Hid (∀ W, Calls Try.prog 9 #[.agg #[.int .u8 x0, .int .u32 x1, .int .u32 x2, .int .u64 x3, .int .u64 x4, .slice A5 l5 c5]] W fun e w' => e = .returned (.int .i64 ck) ∧ Below W.heap.size W w') := by
      rw [hck]
      refine Lib.hid (fun W => (rcheck_w x0 x1 x2 x3 x4 A5 l5 c5 W).mono ?_)
      rintro e w' ⟨rfl, rfl⟩
      exact ⟨rfl, below_alloc (Below.refl _ _) _⟩
    have HCK : Hid (chk f.f0 f.f1 f.f2 f.f3 f.f4 f.f5.length = ck) := Lib.hid (by rw [HFE.out, hck, HL5.out])
    clear hck
    obtain ⟨k0, k1, k2, k3, k4, k5⟩ := kB.out _ _ _ _ HRP.out
    go_wp2_with fail
    refine (HCKW.out _).mono ?_
    rintro e w2 ⟨rfl, hb2⟩
    have HRP2 := Lib.hid (HRP.out.below hb2)
    clear hb2 HCKW k0 k1 k2 k3 k4 k5 HRP HA1
    by_cases hc : ck = 0
    · subst hc
      obtain ⟨c0, c3, c4, c5', c7, c8, c9, c11, c12, fz⟩ := HRP2.out.cells
      obtain ⟨rL, rE, rG, d6, d10, d14⟩ := HRP2.out.rows
      have fz3 := fz 3
      have fz14 := fz 14
      have HRP3 : Hid (RP p lab1 w1 { σ with now := now } [] [] ((w2.setCell ⟨p, 3, none⟩ (.int .i64 now)).setCell ⟨p, 14, none⟩ (.slice none 0 0))) := Lib.hid ((HRP2.out.cell (σ' := { σ with now := now }) 3 (.int .i64 now) (fun _ _ _ _ => rfl) rfl rfl).gotNil)
      clear c0 c4 c5' c7 c8 c9 c11 c12 fz d6 d10 HRP2
      go_upto_region 8 with fail
      clear d14 c3 fz3 fz14
      generalize (w2.setCell ⟨p, 3, none⟩ (.int .i64 now)).setCell ⟨p, 14, none⟩ (.slice none 0 0) = W3 at *
      obtain ⟨σn, hσn⟩ : ∃ σn : Se, σn = { σ with now := now } := ⟨_, rfl⟩
      rw [← hσn] at HRP3
      have HSN := Lib.hid hσn
      have HSB : Hid (σn.boot = σ.boot ∧ σn.peer = σ.peer ∧ σn.now = now ∧ σn.tmr = σ.tmr) := Lib.hid (by rw [hσn]; exact ⟨rfl, rfl, rfl, rfl⟩)
      have OKN : Hid (Ok n σn) := Lib.hid (by rw [hσn]; exact OK.out.now_ HASK.out)
      clear hσn
      obtain ⟨mi, hmi⟩ : ∃ mi, mi = σ.mine f := ⟨_, rfl⟩
      obtain ⟨bt, hbt⟩ : ∃ bt, bt = σn.boot := ⟨_, rfl⟩
      obtain ⟨pe, hpe⟩ : ∃ pe, pe = σn.peer := ⟨_, rfl⟩
      have HMI : Hid (mi = ((x2 == 0) || (x2 == bt))) := Lib.hid (by rw [hmi, hbt, HSB.out.1, HFE.out]; rfl)
      have HMF := Lib.hid hmi
      have HBP := Lib.hid (And.intro hbt hpe)
      clear hmi hbt hpe
      go_cut [11] (fun v wx => v = .bool mi ∧ Hid (RP p lab1 w1 σn [] [] wx))
      case first =>
        obtain ⟨k0, k1, k2, k3, k4, k5⟩ := kB.out _ _ _ _ HRP3.out
        have c0 := HRP3.out.cells.1
        rw [← HBP.out.1] at c0
        obtain ⟨q1, hq1⟩ : ∃ q1, (x2 == 0) = q1 := ⟨_, rfl⟩
        obtain ⟨q2, hq2⟩ : ∃ q2, (x2 == bt) = q2 := ⟨_, rfl⟩
        have HE : Hid (mi = (q1 || q2)) := by rw [← hq1, ← hq2]; exact HMI
        cases q1 with
        | true =>
          go_quiet (fail)
          go_wp2_with fail
          go_meet
          exact ⟨by rw [HE.out]; rfl, Lib.hid (HRP3.out.drewN _)⟩
        | false =>
          go_quiet (fail)
          go_wp2_with fail
          go_meet
          exact ⟨by rw [HE.out]; rfl, Lib.hid (HRP3.out.drewN _)⟩
      case rest =>
        obtain ⟨rfl, HR4⟩ := hcut
        clear HRP3
        obtain ⟨lo, hlo⟩ : ∃ lo, decide (x1 < pe) = lo := ⟨_, rfl⟩
        go_upto_region 9 with fail
        go_cut [51] (fun v wx => v = .bool (mi && lo) ∧ Hid (RP p lab1 w1 σn [] [] wx))
        case first =>
          obtain ⟨k0, k1, k2, k3, k4, k5⟩ := kB.out _ _ _ _ HR4.out
          have c4 := HR4.out.cells.2.2.1
          rw [← HBP.out.2] at c4
          cases mi with
          | true =>
            go_quiet (fail)
            go_wp2_with fail
            go_meet
            exact ⟨rfl, Lib.hid (HR4.out.drewN _)⟩
          | false =>
            go_quiet (fail)
            go_wp2_with fail
            go_meet
            exact ⟨rfl, Lib.hid (HR4.out.drewN _)⟩
        case rest =>
          obtain ⟨rfl, HR5⟩ := hcut
          clear HR4
          have HLO : Hid (lo = decide (x1 < pe)) := Lib.hid hlo.symm
          clear hlo
          cases hml : (mi && lo) with
          | true =>
            have HT : Hid (σ.takeF now f = ⟨0, [], [], false, σn⟩) := Lib.hid (by
              have h1 : mi = true ∧ lo = true := by simpa using hml
              unfold Se.takeF
              rw [if_pos HASK.out, if_pos HCK.out, if_pos, HSN.out]
              refine ⟨by rw [← HMF.out]; exact h1.1, ?_⟩
              have h2 := HLO.out
              rw [h1.2, HBP.out.2, HSB.out.2.1] at h2
              have h3 : x1 < σ.peer := by simpa using h2.symm
              rw [HFE.out]
              exact h3)
            have HFIN : Hid (RTk p lab w (σ.takeF now f) (.returned (.tuple #[.slice none 0 0, .slice none 0 0, .bool false, .int .i64 0])) wc) := by
              rw [HT.out]
              exact Lib.hid (HRT.out _ _ _ (RTk.none_ HR5.out 0 false))
            clear hml
            go_wp2_with fail
            refine bodyPost_ret (v := .tuple #[.slice none 0 0, .slice none 0 0, .bool false, .int .i64 0]) (by simp [results, Try.results22, go_sem]) rfl ?_
            exact HFIN.out
          | false =>
            have HML : Hid (¬ (σ.mine f = true ∧ f.f1 < σ.peer)) := Lib.hid (by
              rintro ⟨h1, h2⟩
              rw [← HMF.out] at h1
              have h3 := HLO.out
              rw [HFE.out] at h2
              have h4 : lo = true := by rw [h3, HBP.out.2, HSB.out.2.1]; simpa using h2
              rw [h1, h4] at hml
              cases hml)
            clear hml
            obtain ⟨an, han⟩ : ∃ an, decide (pe < x1) = an := ⟨_, rfl⟩
            go_upto_region 11 with fail
            go_cut [12] (fun v wx => v = .bool an ∧ Hid (RP p lab1 w1 σn [] [] wx))
            case first =>
              obtain ⟨k0, k1, k2, k3, k4, k5⟩ := kB.out _ _ _ _ HR5.out
              have c4 := HR5.out.cells.2.2.1
              rw [← HBP.out.2] at c4
              go_quiet (fail)
              go_wp2_with fail
              go_meet
              exact ⟨rfl, Lib.hid (HR5.out.drewN _)⟩
            case rest =>
              obtain ⟨rfl, HR6⟩ := hcut
              clear HR5
              have HAN : Hid (an = decide (σ.peer < f.f1)) := Lib.hid (by rw [← han, HBP.out.2, HSB.out.2.1, HFE.out])
              clear han
              obtain ⟨σ2, hσ2⟩ : ∃ σ2 : Se, σ2 = if an = true then σn.anew x1 else σn := ⟨_, rfl⟩
              have HS2 := Lib.hid hσ2
              have HPK : Hid (Ok n σ2 ∧ Eok σ2 ∧ Pd σ2 ∧ σ2.boot = bt) := Lib.hid (by
                rw [hσ2]
                split
                · have h0 := HFO.out.1
                  have h1 := HFO.out.2.1
                  rw [HFE.out] at h0 h1
                  exact ⟨OKN.out.anew _ h0 h1, Eok.anew _ _, rfl, HBP.out.1.symm⟩
                · refine ⟨OKN.out, ?_, ?_, HBP.out.1.symm⟩
                  · rw [HSN.out]; exact ⟨EO.out.nodup, EO.out.lo, EO.out.hi⟩
                  · rw [HSN.out]; exact PD.out)
              have HE2 : Hid (σ2 = if σ.peer < f.f1 then ({ σ with now := now } : Se).anew f.f1 else { σ with now := now }) := Lib.hid (by
                have h := HAN.out
                rw [hσ2, ← HSN.out, h, HFE.out]
                simp only [decide_eq_true_eq])
              clear hσ2
              go_upto_if 59 with fail
              go_cut [] (fun wx => Hid (RP p lab1 w1 σ2 [] [] wx))
              case first =>
                cases an with
                | false =>
                  go_wp2_with fail
                  go_meet
                  rw [HS2.out]
                  exact HR6
                | true =>
                  obtain ⟨k0, k1, k2, k3, k4, k5⟩ := kB.out _ _ _ _ HR6.out
                  obtain ⟨c0, c3, c4, c5', c7, c8, c9, c11, c12, fz⟩ := HR6.out.cells
                  obtain ⟨rL, rE, rG, d6, d10, d14⟩ := HR6.out.rows
                  have fz6 := fz 6
                  have fz7 := fz 7
                  have fz8 := fz 8
                  have fz9 := fz 9
                  have fz10 := fz 10
                  have HR7 : Hid (RP p lab1 w1 { σn with L := [], base := 1, sent := 0, inn := 0, E := [] } [] [] (((((wc.setCell ⟨p, 6, none⟩ (.slice none 0 0)).setCell ⟨p, 7, none⟩ (.int .u64 0)).setCell ⟨p, 8, none⟩ (.int .i64 0)).setCell ⟨p, 9, none⟩ (.int .u64 0)).setCell ⟨p, 10, none⟩ (.slice none 0 0))) :=
                    Lib.hid (((((HR6.out.lNil).cell (σ' := { σn with L := [], base := 1 }) 7 (.int .u64 0) (fun _ _ _ _ => rfl) rfl rfl).cell (σ' := { σn with L := [], base := 1, sent := 0 }) 8 (.int .i64 0) (fun _ _ _ _ => rfl) rfl rfl).cell (σ' := { σn with L := [], base := 1, sent := 0, inn := 0 }) 9 (.int .u64 0) (fun _ _ _ _ => rfl) rfl rfl).eNil)
                  clear c0 c3 c4 c5' c11 c12 fz d14 HR6
                  go_upto_region 14 with fail
                  clear k0 k1 k2 k3 k4 k5 c7 c8 c9 d6 d10 fz6 fz7 fz8 fz9 fz10
                  generalize ((((wc.setCell ⟨p, 6, none⟩ (.slice none 0 0)).setCell ⟨p, 7, none⟩ (.int .u64 0)).setCell ⟨p, 8, none⟩ (.int .i64 0)).setCell ⟨p, 9, none⟩ (.int .u64 0)).setCell ⟨p, 10, none⟩ (.slice none 0 0) = W7 at *
                  obtain ⟨_, k1, _⟩ := kB.out _ _ _ _ HR7.out
                  obtain ⟨_, _, c4, c5', _, _, _, _, _, fz⟩ := HR7.out.cells
                  have fz4 := fz 4
                  have fz5 := fz 5
                  have HR8 : Hid (RP p lab1 w1 { σn with L := [], base := 1, sent := 0, inn := 0, E := [], up := false, peer := x1 } [] [] ((W7.setCell ⟨p, 5, none⟩ (.bool false)).setCell ⟨p, 4, none⟩ (.int .u32 x1)).drew) :=
                    Lib.hid (((HR7.out.cell (σ' := { σn with L := [], base := 1, sent := 0, inn := 0, E := [], up := false }) 5 (.bool false) (fun _ _ _ _ => rfl) rfl rfl).cell (σ' := { σn with L := [], base := 1, sent := 0, inn := 0, E := [], up := false, peer := x1 }) 4 (.int .u32 x1) (fun _ _ _ _ => rfl) rfl rfl).drewN 1)
                  clear fz
                  go_region
                  clear k1 c4 c5' fz4 fz5 HR7
                  generalize ((W7.setCell ⟨p, 5, none⟩ (.bool false)).setCell ⟨p, 4, none⟩ (.int .u32 x1)).drew = W8 at *
                  have HC := Lib.hid (rset_rp HR8.out (by show 0 ≤ σn.now; exact OKN.out.now0) (by show σn.now ≤ _; exact OKN.out.now1) (by show 0 ≤ σn.tmr; have := OKN.out.tmr0; omega) (by show σn.tmr ≤ _; exact OKN.out.tmr1))
                  go_wp2_with fail
                  refine HC.out.mono ?_
                  rintro e w9 ⟨rfl, h⟩
                  have H := Lib.hid h
                  clear h HC HR8
                  go_wp2_with fail
                  go_meet
                  rw [HS2.out]
                  exact H
              case rest =>
                have HR7 := hcut
                clear hcut HR6
                cases hm : mi with
                | false =>
                  have HT : Hid (σ.takeF now f = ⟨0, [] ++ [σ2.helloF], [], an, σ2⟩) := Lib.hid (by
                    have h1 : ¬ σ.mine f = true := by rw [← HMF.out, hm]; decide
                    unfold Se.takeF
                    rw [if_pos HASK.out, if_pos HCK.out, if_neg HML.out]
                    simp only
                    rw [← HE2.out, if_neg h1, ← HAN.out]
                    rfl)
                  have HC := Lib.hid (rhello_rp HR7.out (by simp))
                  clear hm
                  go_wp2_with fail
                  refine HC.out.mono ?_
                  rintro e w9 ⟨rfl, h⟩
                  have HC2 := Lib.hid (rframes_rp h)
                  clear h HC HR7
                  go_wp2_with fail
                  refine HC2.out.mono ?_
                  rintro e w10 ⟨lab', vL', vE', vO', vG', A', c', rfl, h1, h2, h3⟩
                  have HFIN : Hid (RTk p lab w (σ.takeF now f) (.returned (.tuple #[.slice A' ([] ++ [σ2.helloF]).length c', .slice none 0 0, .bool an, .int .i64 0])) w10) := by
                    rw [HT.out]
                    exact Lib.hid (HRT.out _ _ _ ⟨lab', [], vL', vE', vO', vG', A', none, c', 0, rfl, h1, h2, h3, Kd.V_nil _ _ _ _ _⟩)
                  clear h1 h2 h3 HC2
                  go_wp2_with fail
                  refine bodyPost_ret (v := .tuple #[.slice A' ([] ++ [σ2.helloF]).length c', .slice none 0 0, .bool an, .int .i64 0]) (by simp [results, Try.results22, go_sem]) rfl ?_
                  exact HFIN.out
                | true =>
                  have HMT : Hid (σ.mine f = true) := Lib.hid (by rw [← HMF.out, hm])
                  clear hm
                  obtain ⟨u2, hu2⟩ : ∃ u2, u2 = σ2.up := ⟨_, rfl⟩
                  have HU2 := Lib.hid hu2
                  obtain ⟨q2, hq2⟩ : ∃ q2, (x2 == bt) = q2 := ⟨_, rfl⟩
                  have HQ2 := Lib.hid hq2
                  obtain ⟨σ3, hσ3⟩ : ∃ σ3, σ3 = σ2.met f := ⟨_, rfl⟩
                  have HS3 : Hid (σ3 = if (q2 && !u2) = true then ({ σ2 with up := true } : Se).stop else σ2) := Lib.hid (by
                    rw [hσ3]
                    unfold Se.met
                    rw [← hq2, hu2, HFE.out, HPK.out.2.2.2]
                    by_cases h1 : x2 = bt
                    · cases hup : σ2.up with
                      | true => simp [h1]
                      | false => simp [h1]
                    · simp [h1])
                  have HM3 := Lib.hid hσ3
                  clear hu2 hσ3
                  go_upto_region 19 with fail
                  go_cut [106] (fun v wx => v = .bool (q2 && !u2) ∧ Hid (RP p lab1 w1 σ2 [] [] wx))
                  case first =>
                    obtain ⟨k0, k1, k2, k3, k4, k5⟩ := kB.out _ _ _ _ HR7.out
                    obtain ⟨c0, c3, c4, c5', c7, c8, c9, c11, c12, fz⟩ := HR7.out.cells
                    rw [HPK.out.2.2.2] at c0
                    rw [← HU2.out] at c5'
                    clear fz
                    cases q2 with
                    | true =>
                      go_quiet (fail)
                      go_wp2_with fail
                      go_meet
                      exact ⟨rfl, Lib.hid (HR7.out.drewN _)⟩
                    | false =>
                      go_quiet (fail)
                      go_wp2_with fail
                      go_meet
                      exact ⟨rfl, Lib.hid (HR7.out.drewN _)⟩
                  case rest =>
                    obtain ⟨rfl, HR8⟩ := hcut
                    clear HR7 hq2
                    go_upto_if 106 with fail
                    go_cut [] (fun wx => Hid (RP p lab1 w1 σ3 [] [] wx))
                    case first =>
                      cases hmt : (q2 && !u2) with
                      | false =>
                        have HE3 : Hid (σ3 = σ2) := Lib.hid (by rw [HS3.out, hmt]; rfl)
                        clear hmt
                        go_wp2_with fail
                        go_meet
                        rw [HE3.out]
                        exact HR8
                      | true =>
                        have HE3 : Hid (σ3 = ({ σ2 with up := true } : Se).stop) := Lib.hid (by rw [HS3.out, hmt]; rfl)
                        obtain ⟨c0, c3, c4, c5', c7, c8, c9, c11, c12, fz⟩ := HR8.out.cells
                        have fz5 := fz 5
                        have fz11 := fz 11
                        have fz12 := fz 12
                        have HR9 : Hid (RP p lab1 w1 σ3 [] [] (((wc.setCell ⟨p, 5, none⟩ (.bool true)).setCell ⟨p, 11, none⟩ (.bool false)).setCell ⟨p, 12, none⟩ (.int .i64 0))) := by
                          rw [HE3.out]
                          exact Lib.hid (((HR8.out.cell (σ' := { σ2 with up := true }) 5 (.bool true) (fun _ _ _ _ => rfl) rfl rfl).cell (σ' := { σ2 with up := true, set := false }) 11 (.bool false) (fun _ _ _ _ => rfl) rfl rfl).cell (σ' := ({ σ2 with up := true } : Se).stop) 12 (.int .i64 0) (fun _ _ _ _ => rfl) rfl rfl)
                        clear fz hmt c0 c3 c4 c7 c8 c9
                        go_wp2_with fail
                        go_meet
                        exact HR9
                    case rest =>
                      have HR9 := hcut
                      clear hcut HR8
                      have HP3 : Hid (Ok n σ3 ∧ Eok σ3 ∧ Pd σ3) := Lib.hid (by
                        rw [HM3.out]
                        refine ⟨HPK.out.1.met f, HPK.out.2.1.met f, ?_⟩
                        have h := HPK.out.2.2.1
                        unfold Pd at h ⊢
                        unfold Se.met
                        split
                        · exact h
                        · exact h)
                      obtain ⟨pre, hpre⟩ : ∃ pre : List S27, pre = if x0 = 1 then [if x2 = 0 then σ3.helloF else σ3.ackF] else [] := ⟨_, rfl⟩
                      obtain ⟨σk, hσk⟩ : ∃ σk : Se, σk = if x0 = 1 then σ3 else σ3.told x4 := ⟨_, rfl⟩
                      have HPRE := Lib.hid hpre
                      have HSK := Lib.hid hσk
                      clear hpre hσk
                      obtain ⟨k0, k1, k2, k3, k4, k5⟩ := kB.out _ _ _ _ HR9.out
                      go_upto_if 118 with fail
                      go_cut [] (fun wx => Hid (RP p lab1 w1 σk pre [] wx))
                      case first =>
                        by_cases h1 : x0 = 1
                        · have HK1 : Hid (σk = σ3) := Lib.hid (by rw [HSK.out, if_pos h1])
                          subst h1
                          by_cases h2 : x2 = 0
                          · have HPR : Hid (pre = [] ++ [σ3.helloF]) := Lib.hid (by rw [HPRE.out, if_pos rfl, if_pos h2]; rfl)
                            have e2 : (x2 == 0) = true := by simp [h2]
                            have HC := Lib.hid (rhello_rp HR9.out (by simp))
                            clear h2
                            go_wp2_with fail
                            refine HC.out.mono ?_
                            rintro e w9 ⟨rfl, h⟩
                            rw [← HPR.out, ← HK1.out] at h
                            have H := Lib.hid h
                            clear h HC
                            go_wp2_with fail
                            go_meet
                            exact H
                          · have HPR : Hid (pre = [] ++ [σ3.ackF]) := Lib.hid (by rw [HPRE.out, if_pos rfl, if_neg h2]; rfl)
                            have e2 : (x2 == 0) = false := by simpa using h2
                            have HC := Lib.hid (rack_rp HR9.out (by simp))
                            clear h2
                            go_wp2_with fail
                            refine HC.out.mono ?_
                            rintro e w9 ⟨rfl, h⟩
                            rw [← HPR.out, ← HK1.out] at h
                            have H := Lib.hid h
                            clear h HC
                            go_wp2_with fail
                            go_meet
                            exact H
                        · have HK1 : Hid (σk = σ3.told x4) := Lib.hid (by rw [HSK.out, if_neg h1])
                          have HPR : Hid (pre = []) := Lib.hid (by rw [HPRE.out, if_neg h1])
                          have e1 : (x0 == 1) = false := by simpa using h1
                          have HC := Lib.hid (acked_rp HR9.out HP3.out.1 x4 (by have := HFO.out.2.2.2.2.1; rw [HFE.out] at this; exact this) (by have := HFO.out.2.2.2.2.2; rw [HFE.out] at this; exact this))
                          clear h1
                          go_wp2_with fail
                          refine HC.out.mono ?_
                          rintro e w9 ⟨rfl, h⟩
                          rw [← HPR.out, ← HK1.out] at h
                          have H := Lib.hid h
                          clear h HC
                          go_wp2_with fail
                          go_meet
                          exact H
                      case rest =>
                        have HR10 := hcut
                        clear hcut HR9 k0 k1 k2 k3 k4 k5
                        obtain ⟨r, hr⟩ : ∃ r, r = σ3.kind f := ⟨_, rfl⟩
                        have HRK := Lib.hid hr
                        have HRL : Hid (Ok (n + 1) r.2.2 ∧ r.1.length ≤ 1) := Lib.hid (by
                          rw [hr]
                          refine ⟨HP3.out.1.kind HN.out f (fun h => ?_), ?_⟩
                          · have hc := HCK.out
                            unfold chk at hc
                            rw [h] at hc
                            simp at hc
                            omega
                          · unfold Se.kind
                            split
                            · exact Nat.le_refl _
                            · split
                              · exact Nat.le_refl _
                              · exact Nat.zero_le _)
                        clear hr
                        obtain ⟨k0, k1, k2, k3, k4, k5⟩ := kB.out _ _ _ _ HR10.out
                        go_upto_if 132 with fail
                        go_cut [] (fun wx => Hid (RP p lab1 w1 r.2.2 r.1 r.2.1 wx))
                        case first =>
                          by_cases h2 : x0 = 2
                          · have HPR : Hid (pre = []) := Lib.hid (by rw [HPRE.out, if_neg (by omega)])
                            have HK2 : Hid (σk = σ3.told x4) := Lib.hid (by rw [HSK.out, if_neg (by omega)])
                            have HR11 : Hid (r.1 = [] ++ [((σ3.told x4).put x3 xb).pop.2.ackF] ∧ r.2.1 = [] ++ ((σ3.told x4).put x3 xb).pop.1 ∧ r.2.2 = ((σ3.told x4).put x3 xb).pop.2) := Lib.hid (by
                              rw [HRK.out, HFE.out]
                              unfold Se.kind
                              simp only
                              rw [if_neg (by omega), if_pos h2]
                              exact ⟨rfl, rfl, rfl⟩)
                            have hcm : Hid (Calls Try.prog 61 #[.pointer (some ⟨p, 0, none⟩), .agg #[.int .u8 x0, .int .u32 x1, .int .u32 x2, .int .u64 x3, .int .u64 x4, .slice A5 l5 c5]] wc fun e w' => e = .returned (.tuple #[]) ∧ RP p lab1 w1 ((σ3.told x4).put x3 xb).pop.2 [] ([] ++ ((σ3.told x4).put x3 xb).pop.1) w') := by
                              have h := HR10.out
                              rw [HPR.out, HK2.out] at h
                              have hl : xb.length ≤ 65536 := by
                                have hc := HCK.out
                                unfold chk at hc
                                rw [HFE.out] at hc
                                rw [h2] at hc
                                simp at hc
                                omega
                              have hvv := HV1.out
                              rw [HL5.out] at hvv ⊢
                              have hpd : Pd (σ3.told x4) := by
                                obtain ⟨t1, t2, t3, t4⟩ := told_keep σ3 x4
                                unfold Pd
                                rw [t1, t3]
                                exact HP3.out.2.2
                              have hfo := HFO.out
                              rw [HFE.out] at hfo
                              exact Lib.hid (come_rp h (HP3.out.1.told x4) (HP3.out.2.1.told x4) hpd HN.out (by simp) ⟨x0, x1, x2, x3, x4, xb⟩ hfo A5 c5 hvv hl)
                            subst h2
                            go_wp2_with fail
                            refine hcm.out.mono ?_
                            rintro e w9 ⟨rfl, h⟩
                            have HC2 := Lib.hid (rack_rp h (by simp))
                            clear h hcm k0 k1 k2 k3 k4 k5
                            go_wp2_with fail
                            refine HC2.out.mono ?_
                            rintro e w10 ⟨rfl, h⟩
                            rw [← HR11.out.1, ← HR11.out.2.1, ← HR11.out.2.2] at h
                            have H := Lib.hid h
                            clear h HC2
                            go_wp2_with fail
                            go_meet
                            exact H
                          · have HR11 : Hid (r.1 = pre ∧ r.2.1 = [] ∧ r.2.2 = σk) := Lib.hid (by
                              rw [HRK.out, HPRE.out, HSK.out, HFE.out]
                              unfold Se.kind
                              simp only
                              by_cases h1 : x0 = 1
                              · rw [if_pos h1, if_pos h1, if_pos h1]
                                exact ⟨rfl, rfl, rfl⟩
                              · rw [if_neg h1, if_neg h2, if_neg h1, if_neg h1]
                                exact ⟨rfl, rfl, rfl⟩)
                            have e2 : (x0 == 2) = false := by simpa using h2
                            clear h2
                            go_wp2_with fail
                            go_meet
                            rw [HR11.out.1, HR11.out.2.1, HR11.out.2.2]
                            exact HR10
                        case rest =>
                          have HR11 := hcut
                          clear hcut HR10 k0 k1 k2 k3 k4 k5
                          have HT : Hid (σ.takeF now f = ⟨0, r.1 ++ r.2.2.freshL, r.2.1, an, r.2.2.fresh⟩) := Lib.hid (by
                            unfold Se.takeF
                            rw [if_pos HASK.out, if_pos HCK.out, if_neg HML.out]
                            simp only
                            rw [← HE2.out, if_pos HMT.out, ← HAN.out, ← HM3.out, ← HRK.out])
                          have c8 := HR11.out.cells.2.2.2.2.2.1
                          have HC := Lib.hid (fresh_rp HR11.out HRL.out.1 (by have := HRL.out.2; omega))
                          obtain ⟨sn, hsn⟩ : ∃ sn, sn = r.2.2.sent := ⟨_, rfl⟩
                          rw [← hsn] at c8 HC
                          clear hsn
                          go_wp2_with fail
                          refine HC.out.mono ?_
                          rintro e w9 ⟨rfl, lab4, vL4, vE4, vO4, vG4, A4, L4⟩
                          clear HC c8 HR11
                          obtain ⟨Ag, cg, hvg⟩ := A4.G.slice
                          subst hvg
                          obtain ⟨lg, hlg⟩ : ∃ lg, lg = r.2.1.length := ⟨_, rfl⟩
                          have d14 := blk_cell A4.blk 14 (.slice Ag lg cg) (by rw [hlg]; rfl)
                          obtain ⟨fs, hfs⟩ : ∃ fs, fs = r.1 ++ r.2.2.freshL := ⟨_, rfl⟩
                          rw [← hfs] at A4 HT
                          obtain ⟨lf, hlf⟩ : ∃ lf, lf = fs.length := ⟨_, rfl⟩
                          have HFN : Hid (∀ d, Calls Try.prog 55 #[.pointer (some ⟨p, 0, none⟩)] (w9.drewN d) fun e w' => ∃ A' c', e = .returned (.slice A' lf c') ∧ w'.cell? ⟨p, 14, none⟩ = some (.slice Ag lg cg) ∧ RTk p lab w (σ.takeF now f) (.returned (.tuple #[.slice A' lf c', .slice Ag lg cg, .bool an, .int .i64 0])) w') := by
                            refine Lib.hid (fun d => (rframes (A4.drewN d)).mono ?_)
                            rintro e w' ⟨lab', A', c', rfl, h1, h2, h3⟩
                            refine ⟨A', c', by rw [hlf], blk_cell h1.blk 14 _ (by rw [hlg]; rfl), ?_⟩
                            rw [HT.out, hlf, hlg]
                            refine HRT.out _ _ _ ⟨lab', r.2.1, _, _, _, _, A', Ag, c', cg, rfl, h1, (L4.trans (Ls.below (pw_below_drewN (Below.refl _ _) d))).trans h2, h3, ?_⟩
                            exact Kd.V_mono (Kd.N_V h1.G.1) (fun k hk => hk.imp id (fun he => h1.G.2 k he.symm))
                          have k1' : Hid (w9.cell? ⟨p, 14, none⟩ = some (.slice Ag lg cg)) := Lib.hid d14
                          have k2' : Hid (w9.drew.cell? ⟨p, 14, none⟩ = some (.slice Ag lg cg)) := Lib.hid d14
                          have k3' : Hid ((w9.drewN 1).cell? ⟨p, 14, none⟩ = some (.slice Ag lg cg)) := Lib.hid d14
                          clear A4 L4 hlg hfs hlf d14
                          go_upto_region 30 with fail
                          go_region_held3 (fun W => W.cell? ⟨p, 14, none⟩ = some (.slice Ag lg cg)) (first | with_reducible exact kN.out | with_reducible exact k1'.out | with_reducible exact k2'.out | with_reducible exact k3'.out)
                            (first | (go_simp; go_at_call 55; refine (HFN.out _).mono ?_; rintro e w10 ⟨A', c', rfl, hcell, hfin⟩; have kN := Lib.hid hcell; have HFIN := Lib.hid hfin; clear hcell hfin))
                          all_goals
                            go_wp2_with fail
                            refine bodyPost_ret (v := .tuple #[.slice A' lf c', .slice Ag lg cg, .bool an, .int .i64 0]) (by simp [results, Try.results22, go_sem]) rfl ?_
                            exact HFIN.out
    · have HT : Hid (σ.takeF now f = ⟨201, [], [], false, σ⟩) := Lib.hid (by
        unfold Se.takeF
        rw [if_pos HASK.out, if_neg (by rw [HCK.out]; exact hc)])
      have HFIN : Hid (RTk p lab w (σ.takeF now f) (.returned (.tuple #[.slice none 0 0, .slice none 0 0, .bool false, .int .i64 201])) w2) := by
        rw [HT.out]
        exact Lib.hid (HRT.out _ _ _ (RTk.none_ HRP2.out 201 false))
      have e1 : (ck != 0) = true := by simp [hc]
      clear hc
      go_wp2_with fail
      refine bodyPost_ret (v := .tuple #[.slice none 0 0, .slice none 0 0, .bool false, .int .i64 201]) (by simp [results, Try.results22, go_sem]) rfl ?_
      exact HFIN.out
  · have HT : Hid (σ.takeF now f = ⟨er, [], [], false, σ⟩) := by
      refine Lib.hid ?_
      have h1 := HER.out
      unfold Se.takeF
      rw [if_neg (by rw [← h1]; exact h0)]
      unfold Se.ask at h1
      split at h1
      · exact absurd h1 h0
      · rw [h1]
    have HFIN : Hid (RTk p lab w (σ.takeF now f) (.returned (.tuple #[.slice none 0 0, .slice none 0 0, .bool false, .int .i64 er])) w1) := by
      rw [HT.out]
      exact Lib.hid (HRT.out _ _ _ (RTk.none_ HRP.out er false))
    have e1 : (er != 0) = true := by simp [h0]
    clear h0
    go_wp2_with fail
    refine bodyPost_ret (v := .tuple #[.slice none 0 0, .slice none 0 0, .bool false, .int .i64 er]) (by simp [results, Try.results22, go_sem]) rfl ?_
    exact HFIN.out
end
end Go.Proofs.Ytlnhjkbhhdcdeaa
