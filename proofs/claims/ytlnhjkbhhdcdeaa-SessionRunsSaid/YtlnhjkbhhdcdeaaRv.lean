/- Runs: both sessions beside each other, the box, the steps; the document's calls. -/
import Derived.Test.YtlnhjkbhhdcdeaaRd
import Derived.Test.YtlnhjkbhhdcdeaaSq1
import Derived.Test.YtlnhjkbhhdcdeaaRg
namespace Go.Proofs.Ytlnhjkbhhdcdeaa
open Go Go.RowKit Go.Proofs.YtlnhjkbhhdcdeaaW.PrintWords Go.Proofs.YtlnhjkbhhdcdeaaW.PrintLast Go.Proofs.YtlnhjkbhhdcdeaaW.PrintMore
open Go.Proofs.Ytlnhjkbhhdcdeaa.PSessionRuns (S27 k27 z27 S116 k116 z116)
set_option linter.unusedVariables false
set_option maxRecDepth 100000
set_option maxHeartbeats 4000000
attribute [local go_sem] max2_mx min2_mn max_two min_two
section
variable {p : Nat} {lab : Nat → Nat} {σ : Se} {out : List S27} {got : List (List Int)} {vL vE vO vG : Value} {w w1 : World} {n : Int}
theorem fl_up (ok : Ok n σ) : σ.fl ≤ σ.L.length ∧ σ.fl ≤ 64 := by
  have h1 := ok.win0
  have h2 := ok.win1
  unfold Se.fl
  split <;> omega
theorem fl_down (h : σ.up = false) : σ.fl = 0 := by
  unfold Se.fl
  rw [if_neg (by rw [h]; decide)]
/-- Frames of the i-th and those behind it. -/
theorem rdatas (h : RP p lab w σ out got w1) (ok : Ok n σ) (i : Nat) (hi : i < σ.L.length) (hl : out.length ≤ 1000) (hi2 : i ≤ 1000000) :
    Calls Try.prog 62 #[.pointer (some ⟨p, 0, none⟩), .int .i64 i] w1 fun e w' => e = .returned (.tuple #[]) ∧ RP p lab w σ (out ++ [σ.frame i]) got w' := by
  obtain ⟨lab1, vL, vE, vO, vG, A, L⟩ := h
  have h1 := ok.base1
  have h2 := ok.big
  refine (rdata A hl i hi (by have := ok.at_ i; omega) ok.base0 (by omega) hi2).mono ?_
  rintro e w' ⟨rfl, lab2, vL', vE', vO', vG', h3, h4⟩
  exact ⟨rfl, lab2, vL', vE', vO', vG', h3, L.trans h4⟩
theorem rfresh (A : RS p lab σ out got vL vE vO vG w) (ok : Ok n σ) (hl : out.length ≤ 200) (was : Int) (hw : 0 < σ.fl → (was = 0 ↔ σ.sent = 0)) :
    Calls Try.prog 58 #[.pointer (some ⟨p, 0, none⟩), .int .i64 was] w fun e w' => e = .returned (.tuple #[]) ∧ RP p lab w σ.fresh (out ++ σ.freshL) got w' := by
  obtain ⟨f1, f2⟩ := fl_up ok
  have g1 := ok.sent0
  have g2 := ok.sent1
  obtain ⟨s, hs⟩ : ∃ s : Nat, s = σ.sent.toNat := ⟨_, rfl⟩
  obtain ⟨fl, hfl⟩ : ∃ fl, fl = σ.fl := ⟨_, rfl⟩
  have HFL := Lib.hid (rflying A ok)
  have d8 := fun d => blk_cell (A.drewN d).blk 8 (.int .i64 σ.sent) rfl
  have hss : σ.sent = (s : Int) := by omega
  rw [hss] at d8
  have HRP0 : Hid (∀ d, RP p lab w σ (out ++ σ.seg s s) got (w.drewN d)) := Lib.hid (fun d => ⟨lab, _, _, _, _, by rw [Se.seg_self, List.append_nil]; exact A.drewN d, Ls.below (pw_below_drewN (Below.refl _ _) d)⟩)
  -- what is left when all are sent
  have HEND : Hid (∀ (i : Nat), i = max s fl → (was = 0 ∧ 0 < fl) = (σ.sent = 0 ∧ 0 < σ.fl) ∧ σ.seg s i = σ.freshL) := by
    refine Lib.hid ?_
    intro i hi
    refine ⟨?_, ?_⟩
    · rw [hfl]
      by_cases h : 0 < σ.fl
      · have := hw h
        simp only [h, and_true]
        exact propext this
      · simp [h]
    · unfold Se.freshL
      cases hu : σ.up with
      | true =>
        rw [if_pos rfl, ← hs, hi, ← hfl]
        unfold Se.seg
        rcases Nat.le_total s fl with h | h
        · rw [Nat.max_eq_right h]
        · rw [Nat.max_eq_left h, Nat.sub_self, Nat.sub_eq_zero_of_le h]
      | false =>
        rw [if_neg (by decide), hi, hfl, fl_down hu, Nat.max_eq_left (Nat.zero_le _), Se.seg_self]
  have HFR : Hid (σ.fresh = if was = 0 ∧ 0 < fl then { σ.start with sent := (max s fl : Nat) } else { σ with sent := (max s fl : Nat) }) := by
    refine Lib.hid ?_
    have h1 := (HEND.out _ rfl).1
    simp only [h1]
    unfold Se.fresh
    have hmx : mx σ.sent σ.fl = ((max s fl : Nat) : Int) := by
      rw [hss, ← hfl]
      unfold mx
      split <;> omega
    by_cases hu : σ.up = true
    · rw [if_pos hu, hmx]
      split <;> rfl
    · have h0 := fl_down (by simpa using hu)
      rw [if_neg hu, if_neg (by rw [h0]; omega)]
      have : ((max s fl : Nat) : Int) = σ.sent := by
        rw [hfl, h0, hss]
        simp
      rw [this]
  have OK := Lib.hid ok
  have EQ := Lib.hid (And.intro hss hfl)
  have HB : Hid (fl ≤ σ.L.length ∧ fl ≤ 64 ∧ s ≤ 64 ∧ out.length ≤ 200) := Lib.hid (by omega)
  rw [← hfl] at HFL
  clear A ok hl f1 f2 g1 g2 hs hfl hss hw
  go_enter Try.func58, Try.ntmps58
  go_wp2_with fail
  refine HFL.out.mono ?_
  rintro e w1 ⟨rfl, d, rfl⟩
  have c8 := d8 d
  have HST := Lib.hid (HRP0.out d)
  clear HFL d8 HRP0
  go_wp2_with fail
  go_loopw [5] (fun v wr => ∃ i : Nat, v = .int .i64 i ∧ s ≤ i ∧ i ≤ max s fl ∧ Hid (RP p lab w σ (out ++ σ.seg s i) got wr)) (fun v _ => fl - (intOf v).toNat)
  case atStart => exact ⟨s, rfl, Nat.le_refl _, Nat.le_max_left _ _, HST⟩
  case round =>
    obtain ⟨i, rfl, hi1, hi2, HR⟩ := hrel
    have hb := HB.out
    rcases Nat.lt_or_ge i fl with hlt | hge
    · have HC := Lib.hid (rdatas HR.out OK.out i (by omega) (by rw [List.length_append, Se.seg_len]; omega) (by omega))
      have HN : Hid (out ++ σ.seg s i ++ [σ.frame i] = out ++ σ.seg s (i + 1)) := Lib.hid (by rw [Se.seg_succ σ hi1, List.append_assoc])
      have HI : Hid (s ≤ i ∧ i < fl) := Lib.hid ⟨hi1, hlt⟩
      clear hi2 c8
      go_wp2_with fail
      refine HC.out.mono ?_
      rintro e w2 ⟨rfl, h⟩
      rw [HN.out] at h
      have H := Lib.hid h
      clear h HC
      have hi := HI.out
      go_wp2_with fail
      go_roundw
      case rel => exact ⟨i + 1, by go_num, by omega, by omega, H⟩
      case measure => simp [intOf]; omega
    · have him : i = max s fl := by omega
      obtain ⟨e1, e2⟩ := HEND.out i him
      have HE2 := Lib.hid e2
      obtain ⟨lab1, vL1, vE1, vO1, vG1, A1, L1⟩ := HR.out
      rw [e2] at A1
      have HM := Lib.hid him
      have q8 := blk_cell A1.blk 8 (.int .i64 (s : Int)) (by rw [← EQ.out.1]; rfl)
      have f8 := blk_free A1.blk 8
      have hmx : mx (s : Int) (fl : Int) = (i : Int) := by
        unfold mx
        split <;> omega
      have HA1 := Lib.hid A1
      have HL1 := Lib.hid L1
      clear A1 L1 e1 e2 c8 HR him
      go_upto_region 6 with fail
      clear q8 f8 hmx
      obtain ⟨c1, c2⟩ := HA1.out.cell 8 (.int .i64 (i : Int)) (σ' := { σ with sent := (i : Int) }) rfl rfl rfl
      have HA2 := Lib.hid c1
      have HL2 := Lib.hid (HL1.out.trans c2)
      clear c1 c2
      generalize wr.setCell ⟨p, 8, none⟩ (.int .i64 (i : Int)) = W2 at *
      by_cases hc : was = 0 ∧ 0 < fl
      · have HF : Hid (σ.fresh = ({ σ with sent := (i : Int) } : Se).start) := Lib.hid (by rw [HFR.out, if_pos hc, ← HM.out]; rfl)
        have HC := Lib.hid (rset HA2.out OK.out.now0 OK.out.now1 (by show 0 ≤ σ.tmr; have := OK.out.tmr0; omega) OK.out.tmr1)
        obtain ⟨rfl, hf0⟩ := hc
        have hf1 : (0 : Int) < (fl : Int) := by omega
        go_wp2_with fail
        refine HC.out.mono ?_
        rintro e w3 ⟨rfl, y1, y2⟩
        have HP : Hid (RP p lab w σ.fresh (out ++ σ.freshL) got w3) := Lib.hid ⟨lab1, _, _, _, _, by rw [HF.out]; exact y1, HL2.out.trans y2⟩
        clear y1 y2 HC
        go_wp2_with fail
        go_end0
        exact ⟨rfl, HP.out⟩
      · have HP : Hid (RP p lab w σ.fresh (out ++ σ.freshL) got W2) := Lib.hid ⟨lab1, _, _, _, _, by rw [HFR.out, if_neg hc, ← HM.out]; exact HA2.out, HL2.out⟩
        by_cases hw0 : was = 0
        · subst hw0
          have hf1 : ¬ (0 : Int) < (fl : Int) := fun h => hc ⟨rfl, by omega⟩
          clear hc
          go_wp2_with fail
          go_end0
          exact ⟨rfl, HP.out⟩
        · have e1 : (was == 0) = false := by simpa using hw0
          clear hc
          go_wp2_with fail
          go_end0
          exact ⟨rfl, HP.out⟩
end
end Go.Proofs.Ytlnhjkbhhdcdeaa
namespace Go.Proofs.Ytlnhjkbhhdcdeaa
open Go Go.RowKit Go.Proofs.YtlnhjkbhhdcdeaaW.PrintWords Go.Proofs.YtlnhjkbhhdcdeaaW.PrintLast Go.Proofs.YtlnhjkbhhdcdeaaW.PrintMore
open Go.Proofs.Ytlnhjkbhhdcdeaa.PSessionRuns (S27 k27 z27 S116 k116 z116)
set_option linter.unusedVariables false
set_option maxRecDepth 100000
set_option maxHeartbeats 4000000
attribute [local go_sem] max2_mx min2_mn max_two min_two
/-- What a call that answers with frames and an error leaves. -/
def RFr (p : Nat) (lab : Nat → Nat) (w : World) (got : List (List Int)) (r : Int × List S27 × Se) (e : Ending) (w' : World) : Prop :=
  ∃ lab' vL vE vO vG A c, e = .returned (.tuple #[.slice A r.2.1.length c, .int .i64 r.1]) ∧ RS p lab' r.2.2 [] got vL vE vO vG w' ∧ Ls lab lab' w w' ∧ Kd.V k27 27 w' 0 (fun k => lab' k = 1) (.slice A r.2.1.length c) r.2.1
section
variable {p : Nat} {lab : Nat → Nat} {σ : Se} {out : List S27} {got : List (List Int)} {vL vE vO vG : Value} {w w1 : World} {n : Int}
theorem RFr.no {lab0 : Nat → Nat} {w0 : World} (A : RS p lab σ [] got vL vE vO vG w) (x : Int) (L : Ls lab0 lab w0 w) : RFr p lab0 w0 got (x, [], σ) (.returned (.tuple #[.slice none 0 0, .int .i64 x])) w :=
  ⟨lab, vL, vE, vO, vG, none, 0, rfl, A, L, Kd.V_nil _ _ _ _ _⟩
theorem rhello_rp (h : RP p lab w σ out got w1) (hl : out.length ≤ 1000) :
    Calls Try.prog 53 #[.pointer (some ⟨p, 0, none⟩)] w1 fun e w' => e = .returned (.tuple #[]) ∧ RP p lab w σ (out ++ [σ.helloF]) got w' := by
  obtain ⟨lab1, vL, vE, vO, vG, A, L⟩ := h
  refine (rhello A hl).mono ?_
  rintro e w' ⟨rfl, lab2, vL', vE', vO', vG', h3, h4⟩
  exact ⟨rfl, lab2, vL', vE', vO', vG', h3, L.trans h4⟩
theorem rack_rp (h : RP p lab w σ out got w1) (hl : out.length ≤ 1000) :
    Calls Try.prog 59 #[.pointer (some ⟨p, 0, none⟩)] w1 fun e w' => e = .returned (.tuple #[]) ∧ RP p lab w σ (out ++ [σ.ackF]) got w' := by
  obtain ⟨lab1, vL, vE, vO, vG, A, L⟩ := h
  refine (rack A hl).mono ?_
  rintro e w' ⟨rfl, lab2, vL', vE', vO', vG', h3, h4⟩
  exact ⟨rfl, lab2, vL', vE', vO', vG', h3, L.trans h4⟩
theorem rset_rp (h : RP p lab w σ out got w1) (h0 : 0 ≤ σ.now) (h1 : σ.now ≤ 1099511627776) (h2 : 0 ≤ σ.tmr) (h3 : σ.tmr ≤ 1048576) :
    Calls Try.prog 54 #[.pointer (some ⟨p, 0, none⟩)] w1 fun e w' => e = .returned (.tuple #[]) ∧ RP p lab w σ.start out got w' := by
  obtain ⟨lab1, vL, vE, vO, vG, A, L⟩ := h
  refine (rset A h0 h1 h2 h3).mono ?_
  rintro e w' ⟨rfl, h4, h5⟩
  exact ⟨rfl, lab1, _, _, _, _, h4, L.trans h5⟩
theorem rframes_rp (h : RP p lab w σ out got w1) :
    Calls Try.prog 55 #[.pointer (some ⟨p, 0, none⟩)] w1 fun e w' => ∃ lab' vL vE vO vG A' c', e = .returned (.slice A' out.length c') ∧ RS p lab' σ [] got vL vE vO vG w' ∧ Ls lab lab' w w' ∧ Kd.V k27 27 w' 0 (fun k => lab' k = 1) (.slice A' out.length c') out := by
  obtain ⟨lab1, vL, vE, vO, vG, A, L⟩ := h
  refine (rframes A).mono ?_
  rintro e w' ⟨lab', A', c', rfl, h3, h4, h5⟩
  exact ⟨lab', _, _, _, _, A', c', rfl, h3, L.trans h4, h5⟩
theorem rflying_rp (h : RP p lab w σ out got w1) (ok : Ok n σ) :
    Calls Try.prog 57 #[.pointer (some ⟨p, 0, none⟩)] w1 fun e w' => e = .returned (.int .i64 σ.fl) ∧ ∃ d, w' = w1.drewN d := by
  obtain ⟨lab1, vL, vE, vO, vG, A, L⟩ := h
  exact rflying A ok
theorem RP.drewN (h : RP p lab w σ out got w1) (d : Nat) : RP p lab w σ out got (w1.drewN d) := by
  obtain ⟨lab1, vL, vE, vO, vG, A, L⟩ := h
  exact ⟨lab1, _, _, _, _, A.drewN d, L.trans (Ls.below (pw_below_drewN (Below.refl _ _) d))⟩
theorem rtick (A : RS p lab σ [] got vL vE vO vG w) (ok : Ok n σ) (now : Int) :
    Calls Try.prog 24 #[.pointer (some ⟨p, 0, none⟩), .int .i64 now] w (RFr p lab w got (σ.tickF now)) := by
  have HB := Lib.hid (rbegin A now)
  have HA := Lib.hid A
  have OK := Lib.hid ok
  obtain ⟨er, her⟩ : ∃ er, er = σ.ask now := ⟨_, rfl⟩
  rw [← her] at HB
  have HER := Lib.hid her
  clear A ok her
  by_cases h0 : er = 0
  · have HASK : Hid (σ.ask now = 0) := Lib.hid (by rw [← HER.out, h0])
    subst h0
    have d3 := blk_cell HA.out.blk 3 (.int .i64 σ.now) rfl
    have f3 := blk_free HA.out.blk 3
    go_enter Try.func24, Try.ntmps24
    go_wp2_with fail
    refine HB.out.mono ?_
    rintro e w1 ⟨rfl, rfl⟩
    obtain ⟨a1, a2⟩ := HA.out.cell 3 (.int .i64 now) (σ' := { σ with now := now }) rfl rfl rfl
    have HA1 := Lib.hid a1
    have HL1 := Lib.hid a2
    clear a1 a2 HB
    go_upto_region 5 with fail
    clear d3 f3
    generalize w1.setCell ⟨p, 3, none⟩ (.int .i64 now) = W1 at *
    have OK1 := Lib.hid (OK.out.now_ HASK.out)
    have t11 := blk_cell HA1.out.blk 11 (.bool σ.set) rfl
    have t12 := blk_cell HA1.out.blk 12 (.int .i64 σ.tm) rfl
    obtain ⟨st, hst⟩ : ∃ st, st = σ.set := ⟨_, rfl⟩
    obtain ⟨tm, htm⟩ : ∃ tm, tm = σ.tm := ⟨_, rfl⟩
    have HS := Lib.hid (And.intro hst htm)
    rw [← hst] at t11
    rw [← htm] at t12
    clear hst htm
    by_cases hgo : st = true ∧ ¬ now < tm
    · have hgo2 := hgo.2
      have hgo1 := hgo.1
      subst hgo1
      have HT : Hid (σ.tickF now = if σ.up = true then (0, ({ σ with now := now } : Se).start.seg 0 ({ σ with now := now } : Se).start.fl, ({ σ with now := now } : Se).start) else (0, [σ.helloF], ({ σ with now := now } : Se).start)) := by
        refine Lib.hid ?_
        unfold Se.tickF
        rw [if_pos HASK.out, if_pos ⟨HS.out.1.symm, by rw [← HS.out.2]; exact hgo2⟩]
      obtain ⟨σ1, hσ1⟩ : ∃ σ1 : Se, σ1 = { σ with now := now } := ⟨_, rfl⟩
      have HSS : Hid (σ1.now = now ∧ σ1.up = σ.up ∧ σ1.helloF = σ.helloF) := Lib.hid (by rw [hσ1]; exact ⟨rfl, rfl, rfl⟩)
      rw [← hσ1] at HA1 OK1 HT
      have HRP : Hid (RP p lab w1 σ1 [] got W1) := Lib.hid ⟨lab, _, _, _, _, HA1.out, HL1.out⟩
      clear hgo hσ1
      go_upto_region 7 with fail
      clear t11 t12 hgo2
      have t5 := blk_cell HA1.out.blk 5 (.bool σ1.up) rfl
      obtain ⟨u, hu⟩ : ∃ u, u = σ1.up := ⟨_, rfl⟩
      rw [← hu] at t5
      have HU := Lib.hid hu
      obtain ⟨pre, hpre⟩ : ∃ pre : List S27, pre = if u = true then [] else [σ1.helloF] := ⟨_, rfl⟩
      have HP := Lib.hid hpre
      have hpl : pre.length ≤ 1 := by rw [hpre]; split <;> simp
      have HPL := Lib.hid hpl
      clear hu hpre hpl
      go_upto_if 35 with fail
      go_cut [] (fun wx => Hid (RP p lab w1 σ1 pre got wx))
      case first =>
        cases u with
        | true =>
          go_wp2_with fail
          go_meet
          rw [HP.out]
          exact HRP
        | false =>
          have HC := Lib.hid (rhello_rp HRP.out (by simp))
          go_wp2_with fail
          refine HC.out.mono ?_
          rintro e w2 ⟨rfl, h⟩
          have H := Lib.hid h
          clear h HC
          go_wp2_with fail
          go_meet
          rw [HP.out]
          exact H
      case rest =>
        have H0 : Hid (RP p lab w1 σ1 (pre ++ σ1.seg 0 0) got wc) := by rw [Se.seg_self, List.append_nil]; exact hcut
        have HFB := Lib.hid (fl_up OK1.out)
        clear hcut HRP t5
        go_wp2_with fail
        go_loopw [7] (fun v wr => ∃ i : Nat, v = .int .i64 i ∧ i ≤ σ1.fl ∧ Hid (RP p lab w1 σ1 (pre ++ σ1.seg 0 i) got wr)) (fun v _ => σ1.fl - (intOf v).toNat)
        case atStart => exact ⟨0, rfl, Nat.zero_le _, H0⟩
        case round =>
          obtain ⟨i, rfl, hi, HR⟩ := hrel
          have HC := Lib.hid (rflying_rp HR.out OK1.out)
          obtain ⟨fl, hfl⟩ : ∃ fl, fl = σ1.fl := ⟨_, rfl⟩
          have HF := Lib.hid hfl
          rw [← hfl] at HC hi ⊢
          clear hfl
          go_wp2_with fail
          refine HC.out.mono ?_
          rintro e w2 ⟨rfl, d, rfl⟩
          have HR2 := Lib.hid (HR.out.drewN d)
          clear HC HR
          rcases Nat.lt_or_ge i fl with hlt | hge
          · have hik : (i : Int) < (fl : Int) := by omega
            have HC2 := Lib.hid (rdatas HR2.out OK1.out i (by have := HFB.out.1; have := HF.out; omega) (by rw [List.length_append, Se.seg_len]; have := HPL.out; have := HFB.out.2; have := HF.out; omega) (by have := HFB.out.2; have := HF.out; omega))
            have HN : Hid (pre ++ σ1.seg 0 i ++ [σ1.frame i] = pre ++ σ1.seg 0 (i + 1)) := Lib.hid (by rw [Se.seg_succ σ1 (Nat.zero_le _), List.append_assoc])
            have HI := Lib.hid hlt
            clear hi
            go_wp2_with fail
            refine HC2.out.mono ?_
            rintro e w3 ⟨rfl, h⟩
            rw [HN.out] at h
            have H := Lib.hid h
            clear h HC2
            have hi := HI.out
            have h64 : fl ≤ 64 := by have h1 := HFB.out.2; have h2 := HF.out; omega
            go_wp2_with fail
            go_roundw
            case rel => exact ⟨i + 1, by go_num, by omega, H⟩
            case measure => simp [intOf]; omega
          · have hif : i = fl := by omega
            have HC2 := Lib.hid (rset_rp HR2.out OK1.out.now0 OK1.out.now1 (by have := OK1.out.tmr0; omega) OK1.out.tmr1)
            have HE : Hid ((0, pre ++ σ1.seg 0 i, σ1.start) = σ.tickF now) := by
              refine Lib.hid ?_
              have h1 := HP.out
              rw [HU.out, HSS.out.2.1, HSS.out.2.2] at h1
              rw [HT.out, h1, hif, HF.out]
              by_cases hup : σ.up = true
              · rw [if_pos hup, if_pos hup]
                rfl
              · have hup2 : σ1.up = false := by rw [HSS.out.2.1]; simpa using hup
                rw [if_neg hup, if_neg hup, fl_down hup2, Se.seg_self]
                rfl
            clear hi hif
            go_wp2_with fail
            refine HC2.out.mono ?_
            rintro e w3 ⟨rfl, h⟩
            have HC3 := Lib.hid (rframes_rp h)
            clear h HC2
            go_wp2_with fail
            refine HC3.out.mono ?_
            rintro e w4 ⟨lab', vL', vE', vO', vG', A', c', rfl, h1, h2, h3⟩
            have HFIN : Hid (RFr p lab w1 got (σ.tickF now) (.returned (.tuple #[.slice A' (pre ++ σ1.seg 0 i).length c', .int .i64 0])) w4) := by
              rw [← HE.out]
              exact Lib.hid ⟨lab', vL', vE', vO', vG', A', c', rfl, h1, h2, h3⟩
            obtain ⟨z, hz⟩ : ∃ z, z = (pre ++ σ1.seg 0 i).length := ⟨_, rfl⟩
            rw [← hz] at HFIN ⊢
            clear h1 h2 h3 HC3 hz
            go_wp2_with fail
            go_ret2
            exact HFIN.out
    · have HT : Hid (σ.tickF now = (0, [], { σ with now := now })) := by
        refine Lib.hid ?_
        unfold Se.tickF
        rw [if_pos HASK.out, if_neg (by rw [← HS.out.1, ← HS.out.2]; exact hgo)]
      have HFIN : Hid (RFr p lab w1 got (σ.tickF now) (.returned (.tuple #[.slice none 0 0, .int .i64 0])) W1) := by
        rw [HT.out]
        exact Lib.hid (RFr.no HA1.out 0 HL1.out)
      cases st with
      | false =>
        clear hgo
        go_wp2_with fail
        go_ret2
        exact HFIN.out
      | true =>
        have hlt : now < tm := by
          by_cases q : now < tm
          · exact q
          · exact absurd ⟨rfl, q⟩ hgo
        clear hgo
        go_wp2_with fail
        go_ret2
        exact HFIN.out
  · have HT : Hid (σ.tickF now = (er, [], σ)) := by
      refine Lib.hid ?_
      have h1 := HER.out
      unfold Se.tickF
      rw [if_neg (by rw [← h1]; exact h0)]
      unfold Se.ask at h1
      split at h1
      · exact absurd h1 h0
      · rw [h1]
    have HFIN : Hid (RFr p lab w got (σ.tickF now) (.returned (.tuple #[.slice none 0 0, .int .i64 er])) w) := by
      rw [HT.out]
      exact Lib.hid (RFr.no HA.out er (Ls.refl _ _))
    have e1 : (er != 0) = true := by simp [h0]
    go_enter Try.func24, Try.ntmps24
    go_wp2_with fail
    refine HB.out.mono ?_
    rintro e w1 ⟨rfl, rfl⟩
    clear h0
    go_wp2_with fail
    go_ret2
    exact HFIN.out
end
end Go.Proofs.Ytlnhjkbhhdcdeaa
namespace Go.Proofs.Ytlnhjkbhhdcdeaa
open Go Go.RowKit Go.Proofs.YtlnhjkbhhdcdeaaW.PrintWords Go.Proofs.YtlnhjkbhhdcdeaaW.PrintLast Go.Proofs.YtlnhjkbhhdcdeaaW.PrintMore
open Go.Proofs.Ytlnhjkbhhdcdeaa.PSessionRuns (S27 k27 z27 S116 k116 z116)
set_option linter.unusedVariables false
set_option maxRecDepth 100000
set_option maxHeartbeats 4000000
attribute [local go_sem] max2_mx min2_mn max_two min_two
section
variable {w : World}
theorem rnew_bad (boot win tmr now : Int) (h : badc boot win tmr = true) : Calls Try.prog 19 #[.agg #[.int .u32 boot, .int .i64 win, .int .i64 tmr], .int .i64 now] w fun e w' => e = .returned (.tuple #[.pointer none, .slice none 0 0, .int .i64 200]) ∧ Below w.heap.size w w' := by
  unfold badc at h
  obtain ⟨b1, hb1⟩ : ∃ b, (boot == 0) = b := ⟨_, rfl⟩
  obtain ⟨b2, hb2⟩ : ∃ b, decide (win < 1) = b := ⟨_, rfl⟩
  obtain ⟨b3, hb3⟩ : ∃ b, decide (64 < win) = b := ⟨_, rfl⟩
  obtain ⟨b4, hb4⟩ : ∃ b, decide (tmr < 1) = b := ⟨_, rfl⟩
  obtain ⟨b5, hb5⟩ : ∃ b, decide (1048576 < tmr) = b := ⟨_, rfl⟩
  rw [hb1, hb2, hb3, hb4, hb5] at h
  have hc : b1 = true ∨ b1 = false ∧ (b2 = true ∨ b2 = false ∧ (b3 = true ∨ b3 = false ∧ (b4 = true ∨ b4 = false ∧ b5 = true))) := by
    revert h
    cases b1 <;> cases b2 <;> cases b3 <;> cases b4 <;> cases b5 <;> simp
  clear h
  rcases hc with rfl | ⟨rfl, rfl | ⟨rfl, rfl | ⟨rfl, rfl | ⟨rfl, rfl⟩⟩⟩⟩
  all_goals
    go_enter Try.func19, Try.ntmps19
    go_wp2_with fail
    go_ret3
    exact ⟨rfl, below_alloc (Below.refl _ _) _⟩
theorem rnew_time (boot win tmr now : Int) (h : badc boot win tmr = false) (ht : tok now = false) : Calls Try.prog 19 #[.agg #[.int .u32 boot, .int .i64 win, .int .i64 tmr], .int .i64 now] w fun e w' => e = .returned (.tuple #[.pointer none, .slice none 0 0, .int .i64 202]) ∧ Below w.heap.size w w' := by
  unfold badc at h
  simp only [Bool.or_eq_false_iff] at h
  obtain ⟨⟨⟨⟨h1, h2⟩, h3⟩, h4⟩, h5⟩ := h
  have HT := Lib.hid ht
  clear ht
  go_enter Try.func19, Try.ntmps19
  go_wp2_with fail
  refine (ristime now _).mono ?_
  rintro e w1 ⟨rfl, rfl⟩
  rw [HT.out]
  go_wp2_with fail
  go_ret3
  exact ⟨rfl, below_alloc (Below.refl _ _) _⟩
/-- The document's session that was just made. -/
def RNew (w : World) (σ : Se) (e : Ending) (w' : World) : Prop :=
  ∃ p lab vL vE vO vG A c, e = .returned (.tuple #[.pointer (some ⟨p, 0, none⟩), .slice A 1 c, .int .i64 0]) ∧ RS p lab σ.start [] [] vL vE vO vG w' ∧ Below w.heap.size w w' ∧ (∀ k, k < w.heap.size → lab k = 0) ∧ Kd.V k27 27 w' 0 (fun k => lab k = 1) (.slice A 1 c) [σ.start.helloF]
theorem rnew_ok (boot win tmr now : Int) (h : badc boot win tmr = false) (ht : tok now = true) (hb0 : 0 ≤ boot) (hb1 : boot < 4294967296) :
    Calls Try.prog 19 #[.agg #[.int .u32 boot, .int .i64 win, .int .i64 tmr], .int .i64 now] w (RNew w (se0 boot win tmr now)) := by
  have HB : Hid (0 ≤ tmr ∧ tmr ≤ 1048576 ∧ 0 ≤ now ∧ now ≤ 1099511627776) := by
    unfold badc at h
    unfold tok at ht
    simp at h ht
    exact Lib.hid (by omega)
  unfold badc at h
  simp only [Bool.or_eq_false_iff] at h
  obtain ⟨⟨⟨⟨h1, h2⟩, h3⟩, h4⟩, h5⟩ := h
  have HT := Lib.hid ht
  obtain ⟨σ, hσ⟩ : ∃ σ, σ = se0 boot win tmr now := ⟨_, rfl⟩
  have HS := Lib.hid hσ
  rw [← hσ]
  clear ht hσ
  go_enter Try.func19, Try.ntmps19
  go_wp2_with fail
  refine (ristime now _).mono ?_
  rintro e w1 ⟨rfl, rfl⟩
  rw [HT.out]
  go_upto_region 6 with fail
  have hb1 : Below w.heap.size w (w.alloc (.cells #[.int .u32 boot, .int .i64 win, .int .i64 tmr] 39)) := below_alloc (Below.refl _ _) _
  have hz1 : (w.alloc (.cells #[.int .u32 boot, .int .i64 win, .int .i64 tmr] 39)).heap.size = w.heap.size + 1 := World.size_alloc _ _
  have hA : RS (w.heap.size + 1) (fun k => if k = w.heap.size + 1 then 4 else 0) σ [] [] (.slice none 0 0) (.slice none 0 0) (.slice none 0 0) (.slice none 0 0) ((w.alloc (.cells #[.int .u32 boot, .int .i64 win, .int .i64 tmr] 39)).alloc (.cells #[.int .u32 boot, .int .i64 win, .int .i64 tmr, .int .i64 now, .int .u32 0, .bool false, .slice none 0 0, .int .u64 0, .int .i64 0, .int .u64 0, .slice none 0 0, .bool false, .int .i64 0, .slice none 0 0, .slice none 0 0] 61)) := by
    rw [HS.out]
    refine ⟨fun k hk => ?_, by simp, ?_, Row.nil _ _ _ _ _, Row.nil _ _ _ _ _, Row.nil _ _ _ _ _, Row.nil _ _ _ _ _⟩
    · have : k = w.heap.size + 1 := by
        by_cases he : k = w.heap.size + 1
        · exact he
        · simp [he] at hk
      rw [World.size_alloc, hz1]
      omega
    · rw [← hz1]
      exact heap_alloc_new _ _
  have hbw : Below w.heap.size w ((w.alloc (.cells #[.int .u32 boot, .int .i64 win, .int .i64 tmr] 39)).alloc (.cells #[.int .u32 boot, .int .i64 win, .int .i64 tmr, .int .i64 now, .int .u32 0, .bool false, .slice none 0 0, .int .u64 0, .int .i64 0, .int .u64 0, .slice none 0 0, .bool false, .int .i64 0, .slice none 0 0, .slice none 0 0] 61)) := below_alloc hb1 _
  have HA := Lib.hid hA
  have HBW := Lib.hid hbw
  obtain ⟨p, hp⟩ : ∃ p, p = w.heap.size + 1 := ⟨_, rfl⟩
  rw [← hp] at HA ⊢
  have HP := Lib.hid hp
  clear hA hbw hb1 hz1 hp h1 h2 h3 h4 h5
  generalize ((w.alloc (.cells #[.int .u32 boot, .int .i64 win, .int .i64 tmr] 39)).alloc (.cells #[.int .u32 boot, .int .i64 win, .int .i64 tmr, .int .i64 now, .int .u32 0, .bool false, .slice none 0 0, .int .u64 0, .int .i64 0, .int .u64 0, .slice none 0 0, .bool false, .int .i64 0, .slice none 0 0, .slice none 0 0] 61)) = W1 at *
  have HC1 := Lib.hid (rhello HA.out (by simp))
  go_wp2_with fail
  refine HC1.out.mono ?_
  rintro e w2 ⟨rfl, h⟩
  have HC2 := Lib.hid (rset_rp h (by rw [HS.out]; exact HB.out.2.2.1) (by rw [HS.out]; exact HB.out.2.2.2) (by rw [HS.out]; exact HB.out.1) (by rw [HS.out]; exact HB.out.2.1))
  clear h HC1
  go_wp2_with fail
  refine HC2.out.mono ?_
  rintro e w3 ⟨rfl, h⟩
  have HC3 := Lib.hid (rframes_rp h)
  clear h HC2
  go_wp2_with fail
  refine HC3.out.mono ?_
  rintro e w4 ⟨lab', vL', vE', vO', vG', A', c', rfl, h1, h2, h3⟩
  have HF : Hid (∃ A2, Value.slice A' ([] ++ [σ.helloF]).length c' = .slice A2 1 c' ∧ ∀ c2, c2 = c' → ∃ lab vL vE vO vG, RS p lab σ.start [] [] vL vE vO vG w4 ∧ Below w.heap.size w w4 ∧ (∀ k, k < w.heap.size → lab k = 0) ∧ Kd.V k27 27 w4 0 (fun k => lab k = 1) (.slice A' 1 c') [σ.start.helloF]) := by
    refine Lib.hid ⟨A', rfl, fun c2 _ => ⟨lab', _, _, _, _, h1, ?_, fun k hk => ?_, h3⟩⟩
    · exact HBW.out.trans ⟨h2.os, h2.tape, h2.output, h2.size, fun k hk => h2.same k (Nat.lt_of_lt_of_le hk HBW.out.size) (by have hh := HP.out; simp only [if_neg (by omega : ¬ k = p)]; omega)⟩
    · have hh := HP.out
      have := h2.lab_ k (Nat.lt_of_lt_of_le hk HBW.out.size) (by simp only [if_neg (by omega : ¬ k = p)]; omega)
      rw [this]
      simp only [if_neg (by omega : ¬ k = p)]
  clear h1 h2 h3 HC3
  go_wp2_with fail
  go_ret3
  obtain ⟨A2, e1, hf⟩ := HF.out
  obtain ⟨lab, vL, vE, vO, vG, f1, f2, f3, f4⟩ := hf c' rfl
  exact ⟨p, lab, vL, vE, vO, vG, A', c', rfl, f1, f2, f3, f4⟩
end
end Go.Proofs.Ytlnhjkbhhdcdeaa
namespace Go.Proofs.Ytlnhjkbhhdcdeaa
open Go Go.RowKit Go.Proofs.YtlnhjkbhhdcdeaaW.PrintWords Go.Proofs.YtlnhjkbhhdcdeaaW.PrintLast Go.Proofs.YtlnhjkbhhdcdeaaW.PrintMore
open Go.Proofs.Ytlnhjkbhhdcdeaa.PSessionRuns (S27 k27 z27 S116 k116 z116)
set_option linter.unusedVariables false
section
variable {p : Nat} {lab : Nat → Nat} {σ σ' : Se} {out : List S27} {got : List (List Int)} {vL vE vO vG : Value} {w w1 w2 : World} {n : Int}
theorem RS.gotNil (A : RS p lab σ out got vL vE vO vG w) : ∃ lab', RS p lab' σ out [] vL vE vO (.slice none 0 0) (w.setCell ⟨p, 14, none⟩ (.slice none 0 0)) ∧ Ls lab lab' w (w.setCell ⟨p, 14, none⟩ (.slice none 0 0)) := by
  obtain ⟨lab', L, R, _⟩ := Row.instead (w1 := w) (v1 := .slice none 0 0) (ys := []) A.lim A.G (by omega) (Kd.N_nil _ _ _ _ _) (Below.refl _ _)
  obtain ⟨a1, _, a2⟩ := A.setG L R
  exact ⟨lab', a2, a1⟩
theorem RS.lNil (A : RS p lab σ out got vL vE vO vG w) : ∃ lab', RS p lab' { σ with L := [] } out got (.slice none 0 0) vE vO vG (w.setCell ⟨p, 6, none⟩ (.slice none 0 0)) ∧ Ls lab lab' w (w.setCell ⟨p, 6, none⟩ (.slice none 0 0)) := by
  obtain ⟨lab', L, R, _⟩ := Row.instead (w1 := w) (v1 := .slice none 0 0) (ys := []) A.lim A.L (by omega) (Kd.N_nil _ _ _ _ _) (Below.refl _ _)
  obtain ⟨a1, _, a2⟩ := A.setL L R
  exact ⟨lab', a2, a1⟩
theorem RS.eNil (A : RS p lab σ out got vL vE vO vG w) : ∃ lab', RS p lab' { σ with E := [] } out got vL (.slice none 0 0) vO vG (w.setCell ⟨p, 10, none⟩ (.slice none 0 0)) ∧ Ls lab lab' w (w.setCell ⟨p, 10, none⟩ (.slice none 0 0)) := by
  obtain ⟨lab', L, R, _⟩ := Row.instead (w1 := w) (v1 := .slice none 0 0) (ys := []) A.lim A.E (by omega) (Kd.N_nil _ _ _ _ _) (Below.refl _ _)
  obtain ⟨a1, _, a2⟩ := A.setE L R
  exact ⟨lab', a2, a1⟩
theorem RP.cell (h : RP p lab w σ out got w1) (j : Nat) (u : Value) (hc : ∀ vL vE vO vG, (rcs σ vL vE vO vG).setIfInBounds j u = rcs σ' vL vE vO vG) (h1 : σ'.L = σ.L) (h2 : σ'.E = σ.E) : RP p lab w σ' out got (w1.setCell ⟨p, j, none⟩ u) := by
  obtain ⟨lab1, vL, vE, vO, vG, A, L⟩ := h
  obtain ⟨a1, a2⟩ := A.cell j u (hc _ _ _ _) h1 h2
  exact ⟨lab1, _, _, _, _, a1, L.trans a2⟩
theorem RP.gotNil (h : RP p lab w σ out got w1) : RP p lab w σ out [] (w1.setCell ⟨p, 14, none⟩ (.slice none 0 0)) := by
  obtain ⟨lab1, vL, vE, vO, vG, A, L⟩ := h
  obtain ⟨lab2, a1, a2⟩ := A.gotNil
  exact ⟨lab2, _, _, _, _, a1, L.trans a2⟩
theorem RP.lNil (h : RP p lab w σ out got w1) : RP p lab w { σ with L := [] } out got (w1.setCell ⟨p, 6, none⟩ (.slice none 0 0)) := by
  obtain ⟨lab1, vL, vE, vO, vG, A, L⟩ := h
  obtain ⟨lab2, a1, a2⟩ := A.lNil
  exact ⟨lab2, _, _, _, _, a1, L.trans a2⟩
theorem RP.eNil (h : RP p lab w σ out got w1) : RP p lab w { σ with E := [] } out got (w1.setCell ⟨p, 10, none⟩ (.slice none 0 0)) := by
  obtain ⟨lab1, vL, vE, vO, vG, A, L⟩ := h
  obtain ⟨lab2, a1, a2⟩ := A.eNil
  exact ⟨lab2, _, _, _, _, a1, L.trans a2⟩
theorem RP.below (h : RP p lab w σ out got w1) (hb : Below w1.heap.size w1 w2) : RP p lab w σ out got w2 := by
  obtain ⟨lab1, vL, vE, vO, vG, A, L⟩ := h
  exact ⟨lab1, _, _, _, _, A.below hb, L.trans (Ls.below hb)⟩
/-- A cell of the session. -/
theorem RP.cells (h : RP p lab w σ out got w1) : w1.cell? ⟨p, 0, none⟩ = some (.int .u32 σ.boot) ∧ w1.cell? ⟨p, 3, none⟩ = some (.int .i64 σ.now) ∧ w1.cell? ⟨p, 4, none⟩ = some (.int .u32 σ.peer) ∧ w1.cell? ⟨p, 5, none⟩ = some (.bool σ.up) ∧ w1.cell? ⟨p, 7, none⟩ = some (.int .u64 (σ.base - 1)) ∧ w1.cell? ⟨p, 8, none⟩ = some (.int .i64 σ.sent) ∧ w1.cell? ⟨p, 9, none⟩ = some (.int .u64 σ.inn) ∧ w1.cell? ⟨p, 11, none⟩ = some (.bool σ.set) ∧ w1.cell? ⟨p, 12, none⟩ = some (.int .i64 σ.tm) ∧ ∀ i, w1.frozen? ⟨p, i, none⟩ = false := by
  obtain ⟨lab1, vL, vE, vO, vG, A, L⟩ := h
  exact ⟨blk_cell A.blk 0 _ rfl, blk_cell A.blk 3 _ rfl, blk_cell A.blk 4 _ rfl, blk_cell A.blk 5 _ rfl, blk_cell A.blk 7 _ rfl, blk_cell A.blk 8 _ rfl, blk_cell A.blk 9 _ rfl, blk_cell A.blk 11 _ rfl, blk_cell A.blk 12 _ rfl, fun i => blk_free A.blk i⟩
theorem RP.rows (h : RP p lab w σ out got w1) : ∃ vL vE vG, w1.cell? ⟨p, 6, none⟩ = some vL ∧ w1.cell? ⟨p, 10, none⟩ = some vE ∧ w1.cell? ⟨p, 14, none⟩ = some vG := by
  obtain ⟨lab1, vL, vE, vO, vG, A, L⟩ := h
  exact ⟨vL, vE, vG, blk_cell A.blk 6 _ rfl, blk_cell A.blk 10 _ rfl, blk_cell A.blk 14 _ rfl⟩
/-- What is only read stays. -/
theorem RP.same (h : RP p lab w σ out got w1) {b : Nat} {o : Obj} (hl : lab b ≤ 1) (hb : w.heap[b]? = some o) : w1.heap[b]? = some o := by
  obtain ⟨lab1, vL, vE, vO, vG, A, L⟩ := h
  have hlt : b < w.heap.size := by
    rcases Nat.lt_or_ge b w.heap.size with q | q
    · exact q
    · rw [Array.getElem?_eq_none q] at hb
      cases hb
  rw [L.same b hlt hl]
  exact hb
/-- Nothing is done where no new message comes. -/
theorem come_rp (h : RP p lab w σ out got w1) (ok : Ok n σ) (eo : Eok σ) (pd : Pd σ) (hn : n + 1 ≤ 1099511627776) (hG : got.length ≤ 100) (f : S27) (hf : FOk f) (A5 : Option Addr) (c5 : Nat)
    (hV : Kd.V KB 5 w 0 (fun k => lab k = 1) (.slice A5 f.f5.length c5) f.f5) (hx : f.f5.length ≤ 65536) :
    Calls Try.prog 61 #[.pointer (some ⟨p, 0, none⟩), .agg #[.int .u8 f.f0, .int .u32 f.f1, .int .u32 f.f2, .int .u64 f.f3, .int .u64 f.f4, .slice A5 f.f5.length c5]] w1 fun e w' => e = .returned (.tuple #[]) ∧ RP p lab w (σ.put f.f3 f.f5).pop.2 out (got ++ (σ.put f.f3 f.f5).pop.1) w' := by
  obtain ⟨lab1, vL, vE, vO, vG, A, L⟩ := h
  have hE := eo.len ok
  by_cases hc : σ.inn < f.f3 ∧ f.f3 - σ.inn ≤ σ.win ∧ plc σ.E f.f3 0 = none
  · have hV1 : Kd.V KB 5 w1 0 (fun k => lab1 k = 1) (.slice A5 f.f5.length c5) f.f5 := by
      have h5 := Kd.V_bound hV
      refine Kd.V_mono (Kd.V_step h5 (fun k hk _ => L.same k hk.2 (by rw [hk.1]; omega))) (fun k hk => ?_)
      rw [L.lab_ k hk.2 (by rw [hk.1]; omega)]
      exact hk.1
    have hput : σ.put f.f3 f.f5 = { σ with E := σ.E ++ [(f.f3, f.f5)] } := by
      unfold Se.put
      rw [if_pos hc]
    refine (rcome_yes A ok hn (by omega) hG f.f0 f.f1 f.f2 f.f3 f.f4 hf.2.2.1 hf.2.2.2.1 f.f5 A5 c5 hV1 hx hc (σ.put f.f3 f.f5) hput).mono ?_
    rintro e w' ⟨rfl, lab2, vL', vE', vO', vG', h3, h4⟩
    exact ⟨rfl, lab2, vL', vE', vO', vG', h3, L.trans h4⟩
  · have hput : σ.put f.f3 f.f5 = σ := by
      unfold Se.put
      rw [if_neg hc]
    rw [hput, Se.pop_none pd, List.append_nil]
    refine (rcome_no A ok (by omega) f.f0 f.f1 f.f2 f.f3 f.f4 hf.2.2.1 hf.2.2.2.1 A5 f.f5.length c5 hc).mono ?_
    rintro e w' ⟨rfl, lab2, vL', vE', vO', vG', h3, h4⟩
    exact ⟨rfl, lab2, vL', vE', vO', vG', h3, L.trans h4⟩
theorem acked_rp (h : RP p lab w σ out got w1) (ok : Ok n σ) (a : Int) (h0 : 0 ≤ a) (h1 : a < 18446744073709551616) :
    Calls Try.prog 60 #[.pointer (some ⟨p, 0, none⟩), .int .u64 a] w1 fun e w' => e = .returned (.tuple #[]) ∧ RP p lab w (σ.told a) out got w' := by
  obtain ⟨lab1, vL, vE, vO, vG, A, L⟩ := h
  refine (racked A ok a h0 h1).mono ?_
  rintro e w' ⟨rfl, lab2, vL', vE', vO', vG', h3, h4⟩
  exact ⟨rfl, lab2, vL', vE', vO', vG', h3, L.trans h4⟩
theorem fresh_rp (h : RP p lab w σ out got w1) (ok : Ok n σ) (hl : out.length ≤ 200) :
    Calls Try.prog 58 #[.pointer (some ⟨p, 0, none⟩), .int .i64 σ.sent] w1 fun e w' => e = .returned (.tuple #[]) ∧ RP p lab w σ.fresh (out ++ σ.freshL) got w' := by
  obtain ⟨lab1, vL, vE, vO, vG, A, L⟩ := h
  refine (rfresh A ok hl σ.sent (fun _ => Iff.rfl)).mono ?_
  rintro e w' ⟨rfl, lab2, vL', vE', vO', vG', h3, h4⟩
  exact ⟨rfl, lab2, vL', vE', vO', vG', h3, L.trans h4⟩
/-- What Take leaves. -/
def RTk (p : Nat) (lab : Nat → Nat) (w : World) (r : TR) (e : Ending) (w' : World) : Prop :=
  ∃ lab' got' vL vE vO vG A Ag c cg, e = .returned (.tuple #[.slice A r.fs.length c, .slice Ag r.got.length cg, .bool r.anew, .int .i64 r.err]) ∧ RS p lab' r.σ [] got' vL vE vO vG w' ∧ Ls lab lab' w w' ∧ Kd.V k27 27 w' 0 (fun k => lab' k = 1) (.slice A r.fs.length c) r.fs ∧ Kd.V kB 25 w' 0 (fun k => lab' k = 1 ∨ lab' k = 8) (.slice Ag r.got.length cg) r.got
theorem RTk.none_ (h : RP p lab w σ [] got w1) (x : Int) (b : Bool) : RTk p lab w ⟨x, [], [], b, σ⟩ (.returned (.tuple #[.slice none 0 0, .slice none 0 0, .bool b, .int .i64 x])) w1 := by
  obtain ⟨lab1, vL, vE, vO, vG, A, L⟩ := h
  exact ⟨lab1, got, vL, vE, vO, vG, none, none, 0, 0, rfl, A, L, Kd.V_nil _ _ _ _ _, Kd.V_nil _ _ _ _ _⟩
end
end Go.Proofs.Ytlnhjkbhhdcdeaa
namespace Go.Proofs.Ytlnhjkbhhdcdeaa
open Go Go.RowKit Go.Proofs.YtlnhjkbhhdcdeaaW.PrintWords Go.Proofs.YtlnhjkbhhdcdeaaW.PrintLast Go.Proofs.YtlnhjkbhhdcdeaaW.PrintMore
open Go.Proofs.Ytlnhjkbhhdcdeaa.PSessionRuns (S27 k27 z27 S116 k116 z116)
set_option linter.unusedVariables false
set_option maxRecDepth 100000
set_option maxHeartbeats 4000000
attribute [local go_sem] max2_mx min2_mn max_two min_two
theorem two_new (w : World) (c1 c2 : Array Value) (t : TypeId) : Below w.heap.size w ((w.alloc (.cells c1 t)).alloc (.cells c2 t)).drew ∧ ((w.alloc (.cells c1 t)).alloc (.cells c2 t)).drew.heap[w.heap.size]? = some (.cells c1 t (0, 0)) ∧ ((w.alloc (.cells c1 t)).alloc (.cells c2 t)).drew.heap[w.heap.size + 1]? = some (.cells c2 t (0, 0)) := by
  have hz : (w.alloc (.cells c1 t)).heap.size = w.heap.size + 1 := World.size_alloc _ _
  have hb : Below (w.alloc (.cells c1 t)).heap.size (w.alloc (.cells c1 t)) ((w.alloc (.cells c1 t)).alloc (.cells c2 t)) := below_alloc (Below.refl _ _) _
  refine ⟨pw_below_drewN (below_alloc (below_alloc (Below.refl _ _) _) _) 1, ?_, ?_⟩
  · show ((w.alloc (.cells c1 t)).alloc (.cells c2 t)).heap[w.heap.size]? = _
    rw [hb.block _ (by omega)]
    exact heap_alloc_new w _
  · show ((w.alloc (.cells c1 t)).alloc (.cells c2 t)).heap[w.heap.size + 1]? = _
    rw [← hz]
    exact heap_alloc_new _ _
theorem same_rows {ok1 ok2 : Nat → Prop} {A B : Option Addr} {c d : Nat} {fs : List S27} {w : World} (hA : Kd.V k27 27 w 0 ok1 (.slice A fs.length c) fs) (hB : Kd.V k27 27 w 0 ok2 (.slice B fs.length d) fs) (hl : fs.length ≤ 1099511627776) :
    Calls Try.prog 20 #[.slice A fs.length c, .slice B fs.length d] w fun e w' => e = .returned (.bool true) ∧ Below w.heap.size w w' := by
  have HA := Lib.hid hA
  have HB := Lib.hid hB
  obtain ⟨l, hll⟩ : ∃ l, l = fs.length := ⟨_, rfl⟩
  have HL := Lib.hid hll
  rw [← hll] at hl ⊢
  clear hA hB hll
  have hne : ((l : Int) != (l : Int)) = false := by simp
  go_enter Try.func20, Try.ntmps20
  go_wp2_with fail
  go_loopw [5] (fun v wr => ∃ i : Nat, v = .int .i64 i ∧ i ≤ l ∧ Hid (Below w.heap.size w wr)) (fun v _ => l - (intOf v).toNat)
  case atStart => exact ⟨0, rfl, Nat.zero_le _, Lib.hid (Below.refl _ _)⟩
  case round =>
    obtain ⟨i, rfl, hi, HW⟩ := hrel
    rcases Nat.lt_or_ge i l with hlt | hge
    · obtain ⟨ad1, A5, c5, x, rfl, hs1, V1, hx⟩ := V_fr_at (Kd.V_below HA.out HW.out) i (by rw [← HL.out]; exact hlt)
      obtain ⟨ad2, A6, c6, y, rfl, hs2, V2, hy⟩ := V_fr_at (Kd.V_below HB.out HW.out) i (by rw [← HL.out]; exact hlt)
      have hxy : y = x := hy.out.trans hx.out.symm
      subst hxy
      obtain ⟨a0, a1, a2, a3, a4, a5⟩ := hs1
      obtain ⟨b0, b1, b2, b3, b4, b5⟩ := hs2
      obtain ⟨str, hstr⟩ : ∃ str, str = strOfNums y.f5 := ⟨_, rfl⟩
      have s1 : Hid (∀ W : World, Below wr.heap.size wr W → (convert 25 9 (.slice A5 y.f5.length c5)).run Try.prog W = .ok (.string str) W) := Lib.hid (fun W hW => by
        rw [hstr]
        exact Kd.C_string (P := Try.prog) Try.underlying25 Try.underlying5 Try.underlying9 (Kd.V_reads' (Kd.V_below V1 hW)).2.2)
      have s2 : Hid (∀ W : World, Below wr.heap.size wr W → (convert 25 9 (.slice A6 y.f5.length c6)).run Try.prog W = .ok (.string str) W) := Lib.hid (fun W hW => by
        rw [hstr]
        exact Kd.C_string (P := Try.prog) Try.underlying25 Try.underlying5 Try.underlying9 (Kd.V_reads' (Kd.V_below V2 hW)).2.2)
      obtain ⟨x0, e0⟩ : ∃ x, x = y.f0 := ⟨_, rfl⟩
      obtain ⟨x1, e1⟩ : ∃ x, x = y.f1 := ⟨_, rfl⟩
      obtain ⟨x2, e2⟩ : ∃ x, x = y.f2 := ⟨_, rfl⟩
      obtain ⟨x3, e3⟩ : ∃ x, x = y.f3 := ⟨_, rfl⟩
      obtain ⟨x4, e4⟩ : ∃ x, x = y.f4 := ⟨_, rfl⟩
      obtain ⟨l5, e5⟩ : ∃ x, x = y.f5.length := ⟨_, rfl⟩
      rw [← e0] at a0 b0
      rw [← e1] at a1 b1
      rw [← e2] at a2 b2
      rw [← e3] at a3 b3
      rw [← e4] at a4 b4
      rw [← e5] at a5 b5 s1 s2
      clear V1 V2 hx hy hstr e0 e1 e2 e3 e4 e5
      have hlt2 : (i : Int) < (l : Int) := by omega
      have hlt4 : (0 : Int) ≤ (i : Int) := by omega
      have h0 : (x0 != x0) = false := by simp
      have h1 : (x1 != x1) = false := by simp
      have h2 : (x2 != x2) = false := by simp
      have h3 : (x3 != x3) = false := by simp
      have h4 : (x4 != x4) = false := by simp
      have qa0 := fun o => Lib.cell?_alloc_some o a0
      have ra0 := fun o o2 => Lib.cell?_alloc_some o2 (Lib.cell?_alloc_some o a0)
      have qa1 := fun o => Lib.cell?_alloc_some o a1
      have ra1 := fun o o2 => Lib.cell?_alloc_some o2 (Lib.cell?_alloc_some o a1)
      have qa2 := fun o => Lib.cell?_alloc_some o a2
      have ra2 := fun o o2 => Lib.cell?_alloc_some o2 (Lib.cell?_alloc_some o a2)
      have qa3 := fun o => Lib.cell?_alloc_some o a3
      have ra3 := fun o o2 => Lib.cell?_alloc_some o2 (Lib.cell?_alloc_some o a3)
      have qa4 := fun o => Lib.cell?_alloc_some o a4
      have ra4 := fun o o2 => Lib.cell?_alloc_some o2 (Lib.cell?_alloc_some o a4)
      have qa5 := fun o => Lib.cell?_alloc_some o a5
      have ra5 := fun o o2 => Lib.cell?_alloc_some o2 (Lib.cell?_alloc_some o a5)
      have qb0 := fun o => Lib.cell?_alloc_some o b0
      have rb0 := fun o o2 => Lib.cell?_alloc_some o2 (Lib.cell?_alloc_some o b0)
      have qb1 := fun o => Lib.cell?_alloc_some o b1
      have rb1 := fun o o2 => Lib.cell?_alloc_some o2 (Lib.cell?_alloc_some o b1)
      have qb2 := fun o => Lib.cell?_alloc_some o b2
      have rb2 := fun o o2 => Lib.cell?_alloc_some o2 (Lib.cell?_alloc_some o b2)
      have qb3 := fun o => Lib.cell?_alloc_some o b3
      have rb3 := fun o o2 => Lib.cell?_alloc_some o2 (Lib.cell?_alloc_some o b3)
      have qb4 := fun o => Lib.cell?_alloc_some o b4
      have rb4 := fun o o2 => Lib.cell?_alloc_some o2 (Lib.cell?_alloc_some o b4)
      have qb5 := fun o => Lib.cell?_alloc_some o b5
      have rb5 := fun o o2 => Lib.cell?_alloc_some o2 (Lib.cell?_alloc_some o b5)
      go_upto_region 6 with fail
      go_cut [6, 7] (fun v6 v7 wx => ∃ g6 g7, v6 = .pointer (some ⟨g6, 0, none⟩) ∧ v7 = .pointer (some ⟨g7, 0, none⟩) ∧ Hid (Below wr.heap.size wr wx) ∧ Hid (wx.heap[g6]? = some (.cells #[.int .u8 x0, .int .u32 x1, .int .u32 x2, .int .u64 x3, .int .u64 x4, .slice A5 l5 c5] 27 (0, 0))) ∧ Hid (wx.heap[g7]? = some (.cells #[.int .u8 x0, .int .u32 x1, .int .u32 x2, .int .u64 x3, .int .u64 x4, .slice A6 l5 c6] 27 (0, 0))))
      case first =>
        have T1 := Lib.hid (two_new wr #[.int .u8 x0, .int .u32 x1, .int .u32 x2, .int .u64 x3, .int .u64 x4, .slice A5 l5 c5] #[.int .u8 x0, .int .u32 x1, .int .u32 x2, .int .u64 x3, .int .u64 x4, .slice A6 l5 c6] 27)
        have T2 := Lib.hid (two_new wr #[.int .u8 x0, .int .u32 x1, .int .u32 x2, .int .u64 x3, .int .u64 x4, .slice A6 l5 c6] #[.int .u8 x0, .int .u32 x1, .int .u32 x2, .int .u64 x3, .int .u64 x4, .slice A5 l5 c5] 27)
        go_region
        all_goals
          go_wp2_with fail
          go_meet
          first
            | with_reducible exact ⟨_, _, rfl, rfl, Lib.hid T1.out.1, Lib.hid T1.out.2.1, Lib.hid T1.out.2.2⟩
            | with_reducible exact ⟨_, _, rfl, rfl, Lib.hid T2.out.1, Lib.hid T2.out.2.2, Lib.hid T2.out.2.1⟩
      case rest =>
        obtain ⟨g6, g7, rfl, rfl, HB6, H6, H7⟩ := hcut
        clear a0 a1 a2 a3 a4 a5 b0 b1 b2 b3 b4 b5
        clear qa0 qa1 qa2 qa3 qa4 qa5 qb0 qb1 qb2 qb3 qb4 qb5 ra0 ra1 ra2 ra3 ra4 ra5 rb0 rb1 rb2 rb3 rb4 rb5
        have u0 := blk_cell H6.out 0 (.int .u8 x0) rfl
        have u1 := blk_cell H6.out 1 (.int .u32 x1) rfl
        have u2 := blk_cell H6.out 2 (.int .u32 x2) rfl
        have u3 := blk_cell H6.out 3 (.int .u64 x3) rfl
        have u4' := blk_cell H6.out 4 (.int .u64 x4) rfl
        have u5' := blk_cell H6.out 5 (.slice A5 l5 c5) rfl
        have v0 := blk_cell H7.out 0 (.int .u8 x0) rfl
        have v1 := blk_cell H7.out 1 (.int .u32 x1) rfl
        have v2 := blk_cell H7.out 2 (.int .u32 x2) rfl
        have v3 := blk_cell H7.out 3 (.int .u64 x3) rfl
        have v4 := blk_cell H7.out 4 (.int .u64 x4) rfl
        have v5 := blk_cell H7.out 5 (.slice A6 l5 c6) rfl
        have t1 := s1.out wc HB6.out
        have t2 := s2.out wc HB6.out
        have HWC := Lib.hid (below_then HW.out HW.out.size HB6.out)
        go_wp2_with fail
        go_roundw
        case rel => exact ⟨i + 1, by go_num, by omega, HWC⟩
        case measure => simp [intOf]; omega
    · go_wp2_with fail
      go_ret
      exact ⟨rfl, HW.out⟩
end Go.Proofs.Ytlnhjkbhhdcdeaa
namespace Go.Proofs.Ytlnhjkbhhdcdeaa
open Go Go.RowKit Go.Proofs.YtlnhjkbhhdcdeaaW.PrintWords Go.Proofs.YtlnhjkbhhdcdeaaW.PrintLast Go.Proofs.YtlnhjkbhhdcdeaaW.PrintMore
open Go.Proofs.Ytlnhjkbhhdcdeaa.PSessionRuns (S27 k27 z27 S116 k116 z116)
set_option linter.unusedVariables false
set_option maxRecDepth 100000
set_option maxHeartbeats 4000000
attribute [local go_sem] max2_mx min2_mn max_two min_two
/-- Between two calls all that may be on its way was sent. -/
def Sd (σ : Se) : Prop := σ.up = true → σ.sent = σ.fl
section
variable {p : Nat} {lab : Nat → Nat} {σ : Se} {out : List S27} {got : List (List Int)} {vL vE vO vG : Value} {w w1 : World} {n : Int}
theorem rfresh_rp (h : RP p lab w σ out got w1) (ok : Ok n σ) (hl : out.length ≤ 200) (was : Int) (hw : 0 < σ.fl → (was = 0 ↔ σ.sent = 0)) :
    Calls Try.prog 58 #[.pointer (some ⟨p, 0, none⟩), .int .i64 was] w1 fun e w' => e = .returned (.tuple #[]) ∧ RP p lab w σ.fresh (out ++ σ.freshL) got w' := by
  obtain ⟨lab1, vL, vE, vO, vG, A, L⟩ := h
  refine (rfresh A ok hl was hw).mono ?_
  rintro e w' ⟨rfl, lab2, vL', vE', vO', vG', h3, h4⟩
  exact ⟨rfl, lab2, vL', vE', vO', vG', h3, L.trans h4⟩
theorem any_lg_no {xs : List (List Int)} (h : ∀ j, j < xs.length → (xs.getD j []).length ≤ 65536) : ¬ xs.any lg = true := by
  intro hc
  obtain ⟨x, hx, hl⟩ := List.any_eq_true.1 hc
  obtain ⟨j, hj, rfl⟩ := List.getElem_of_mem hx
  have := h j hj
  rw [List.getD_eq_getElem?_getD, List.getElem?_eq_getElem hj] at this
  have h2 : (xs[j]).length ≤ 65536 := this
  unfold lg at hl
  simp at hl
  omega
theorem rsend (A : RS p lab σ [] got vL vE vO vG w) (ok : Ok n σ) (sd : Sd σ) (hn : n + 65536 ≤ 1099511627776) (now : Int) (xs : List (List Int)) (okp : Nat → Prop) (Ax : Option Addr) (cx : Nat)
    (hV : Kd.V (Kd.slice 5 KB) 45 w 0 okp (.slice Ax xs.length cx) xs) (hokp : ∀ k, okp k → lab k ≤ 1) (hl : xs.length ≤ 140737488351232) :
    Calls Try.prog 21 #[.pointer (some ⟨p, 0, none⟩), .int .i64 now, .slice Ax xs.length cx] w (RFr p lab w got (σ.sendF now xs)) := by
  have HB := Lib.hid (rbegin A now)
  have HA := Lib.hid A
  have OK := Lib.hid ok
  have SD := Lib.hid sd
  have HN := Lib.hid hn
  have HV := Lib.hid (Kd.V_bound hV)
  have HOKP := Lib.hid hokp
  obtain ⟨k, hk⟩ : ∃ k, k = xs.length := ⟨_, rfl⟩
  have HK := Lib.hid hk
  rw [← hk] at hl ⊢
  have HKL := Lib.hid hl
  obtain ⟨er, her⟩ : ∃ er, er = σ.ask now := ⟨_, rfl⟩
  rw [← her] at HB
  have HER := Lib.hid her
  clear A ok her sd hn hV hokp hk
  by_cases h0 : er = 0
  · have HASK : Hid (σ.ask now = 0) := Lib.hid (by rw [← HER.out, h0])
    subst h0
    go_enter Try.func21, Try.ntmps21
    go_wp2_with fail
    refine HB.out.mono ?_
    rintro e w1 ⟨rfl, rfl⟩
    clear HB
    go_wp2_with fail
    go_loopw [9] (fun v wr => ∃ i : Nat, v = .int .i64 i ∧ i ≤ k ∧ wr = w1 ∧ Hid (∀ j, j < i → (xs.getD j []).length ≤ 65536)) (fun v _ => k - (intOf v).toNat)
    case atStart => exact ⟨0, rfl, Nat.zero_le _, rfl, Lib.hid (fun j hj => absurd hj (Nat.not_lt_zero _))⟩
    case round =>
      obtain ⟨i, rfl, hi, rfl, HLE⟩ := hrel
      rcases Nat.lt_or_ge i k with hlt | hge
      · obtain ⟨ad, A5, c5, x, rfl, q0, _, hx⟩ := V_row_at HV.out i (by rw [← HK.out]; exact hlt)
        have hik : (i : Int) < (k : Int) := by omega
        obtain ⟨lx, hlx⟩ : ∃ lx, lx = x.length := ⟨_, rfl⟩
        rw [← hlx] at q0
        by_cases hbig : 65536 < lx
        · have HT : Hid (σ.sendF now xs = (2, [], σ)) := Lib.hid (by
            unfold Se.sendF
            rw [if_pos HASK.out, if_pos]
            refine List.any_eq_true.2 ⟨x, ?_, ?_⟩
            · rw [hx.out, List.getD_eq_getElem?_getD, List.getElem?_eq_getElem (by rw [← HK.out]; exact hlt)]
              exact List.getElem_mem _
            · unfold lg
              simp
              omega)
          have HFIN : Hid (RFr p lab wr got (σ.sendF now xs) (.returned (.tuple #[.slice none 0 0, .int .i64 2])) wr) := by
            rw [HT.out]
            exact Lib.hid (RFr.no HA.out 2 (Ls.refl _ _))
          have hb2 : (65536 : Int) < (lx : Int) := by omega
          clear hx hlx
          go_wp2_with fail
          go_ret2
          exact HFIN.out
        · have HLE2 : Hid (∀ j, j < i + 1 → (xs.getD j []).length ≤ 65536) := Lib.hid (fun j hj => by
            rcases Nat.lt_or_ge j i with q | q
            · exact HLE.out j q
            · rw [show j = i by omega, ← hx.out]
              omega)
          have hb2 : ¬ (65536 : Int) < (lx : Int) := by omega
          clear hx hlx
          go_wp2_with fail
          go_roundw
          case rel => exact ⟨i + 1, by go_num, by omega, trivial, HLE2⟩
          case measure => simp [intOf]; omega
      · have HAL : Hid (¬ xs.any lg = true) := Lib.hid (any_lg_no (fun j hj => HLE.out j (by rw [HK.out] at hge; omega)))
        obtain ⟨Al, cl, hvl⟩ := HA.out.L.slice
        obtain ⟨l, hll⟩ : ∃ l, l = σ.L.length := ⟨_, rfl⟩
        have HL := Lib.hid hll
        have d6 := blk_cell HA.out.blk 6 (.slice Al l cl) (by rw [hll, ← hvl]; rfl)
        have hl2 : (l : Int) ≤ 65536 := by have := OK.out.len; omega
        clear hvl hll
        by_cases hmany : 65536 < l + k
        · have HT : Hid (σ.sendF now xs = (3, [], σ)) := Lib.hid (by
            unfold Se.sendF
            rw [if_pos HASK.out, if_neg HAL.out, if_pos (by rw [← HL.out, ← HK.out]; exact hmany)])
          have HFIN : Hid (RFr p lab wr got (σ.sendF now xs) (.returned (.tuple #[.slice none 0 0, .int .i64 3])) wr) := by
            rw [HT.out]
            exact Lib.hid (RFr.no HA.out 3 (Ls.refl _ _))
          have hb2 : (65536 : Int) < (l : Int) + (k : Int) := by omega
          clear HLE
          go_wp2_with fail
          go_ret2
          exact HFIN.out
        · have hb2 : ¬ (65536 : Int) < (l : Int) + (k : Int) := by omega
          have HMN := Lib.hid hmany
          have d3 := blk_cell HA.out.blk 3 (.int .i64 σ.now) rfl
          have f3 := blk_free HA.out.blk 3
          obtain ⟨a1, a2⟩ := HA.out.cell 3 (.int .i64 now) (σ' := { σ with now := now }) rfl rfl rfl
          have HA1 := Lib.hid a1
          have HL1 := Lib.hid a2
          clear a1 a2 HLE
          go_upto_region 12 with fail
          clear d6 d3 f3 hb2 hmany
          generalize wr.setCell ⟨p, 3, none⟩ (.int .i64 now) = W1 at *
          have HC := Lib.hid (rflying HA1.out (OK.out.now_ HASK.out))
          have HWAS : Hid (({ σ with now := now } : Se).fl = σ.fl) := Lib.hid rfl
          obtain ⟨was, hwas⟩ : ∃ was, was = ({ σ with now := now } : Se).fl := ⟨_, rfl⟩
          rw [← hwas] at HC HWAS
          clear hwas
          go_wp2_with fail
          refine HC.out.mono ?_
          rintro e w2 ⟨rfl, d, rfl⟩
          have HS0 : Hid (RP p lab wr { σ with now := now, L := σ.L ++ xs.take 0 } [] got (W1.drewN d)) := Lib.hid ⟨lab, _, _, _, _, by rw [List.take_zero, List.append_nil]; exact HA1.out.drewN d, HL1.out.trans (Ls.below (pw_below_drewN (Below.refl _ _) d))⟩
          clear HC HA1 HL1
          have HT : Hid ((0, [] ++ ({ σ with now := now, L := σ.L ++ xs } : Se).freshL, ({ σ with now := now, L := σ.L ++ xs } : Se).fresh) = σ.sendF now xs) := by
            refine Lib.hid ?_
            unfold Se.sendF
            rw [if_pos HASK.out, if_neg HAL.out, if_neg (by rw [← HL.out, ← HK.out]; exact HMN.out)]
            rfl
          have HFN : Hid (∀ (lab' : Nat → Nat) (vL' vE' vO' vG' : Value) (A' : Option Addr) (c' : Nat) (w4 : World), RS p lab' ({ σ with now := now, L := σ.L ++ xs } : Se).fresh [] got vL' vE' vO' vG' w4 → Ls lab lab' wr w4 → Kd.V k27 27 w4 0 (fun k => lab' k = 1) (.slice A' ([] ++ ({ σ with now := now, L := σ.L ++ xs } : Se).freshL).length c') ([] ++ ({ σ with now := now, L := σ.L ++ xs } : Se).freshL) → ∀ z, z = ([] ++ ({ σ with now := now, L := σ.L ++ xs } : Se).freshL).length → RFr p lab wr got (σ.sendF now xs) (.returned (.tuple #[.slice A' z c', .int .i64 0])) w4) := by
            refine Lib.hid ?_
            intro lab' vL' vE' vO' vG' A' c' w4 h1 h2 h3 z hz
            rw [hz, ← HT.out]
            exact ⟨lab', vL', vE', vO', vG', A', c', rfl, h1, h2, h3⟩
          clear HT
          obtain ⟨w0, hw0⟩ : ∃ w0, w0 = wr := ⟨_, rfl⟩
          have HW0 := Lib.hid hw0
          rw [← hw0] at HS0
          clear hw0
          go_wp2_with fail
          go_loopw [11] (fun v wq => ∃ i : Nat, v = .int .i64 i ∧ i ≤ k ∧ Hid (RP p lab w0 { σ with now := now, L := σ.L ++ xs.take i } [] got wq)) (fun v _ => k - (intOf v).toNat)
          case atStart => exact ⟨0, rfl, Nat.zero_le _, HS0⟩
          case round =>
            obtain ⟨i, rfl, hi, HR⟩ := hrel
            rcases Nat.lt_or_ge i k with hlt | hge2
            · obtain ⟨lab1, vL1, vE1, vO1, vG1, A1, L1⟩ := HR.out
              have HVw := HV.out
              rw [← HW0.out] at HVw
              obtain ⟨ad, A5, c5, x, rfl, q0, hVx, hx⟩ := V_row_at (Kd.V_step HVw (fun q hq _ => L1.same q hq.2 (HOKP.out q hq.1))) i (by rw [← HK.out]; exact hlt)
              have hik : (i : Int) < (k : Int) := by omega
              obtain ⟨σc, hσc⟩ : ∃ σc : Se, σc = { σ with now := now, L := σ.L ++ xs.take i } := ⟨_, rfl⟩
              have HNX : Hid (({ σc with L := σc.L ++ [x] } : Se) = { σ with now := now, L := σ.L ++ xs.take (i + 1) }) := Lib.hid (by
                rw [hσc]
                simp only
                rw [List.take_add_one, List.getElem?_eq_getElem (by rw [← HK.out]; exact hlt), hx.out, List.getD_eq_getElem?_getD, List.getElem?_eq_getElem (by rw [← HK.out]; exact hlt), List.append_assoc]
                rfl)
              have HLC : Hid (σc.L.length ≤ 65536 ∧ x.length ≤ 140737488351232) := Lib.hid (by
                have h1 := HMN.out
                have h2 := HL.out
                have h3 := HAL.out
                have h4 := HK.out
                rw [hσc]
                refine ⟨?_, ?_⟩
                · show (σ.L ++ xs.take i).length ≤ 65536
                  rw [List.length_append, List.length_take]
                  omega
                · have hm : x ∈ xs := by
                    rw [hx.out, List.getD_eq_getElem?_getD, List.getElem?_eq_getElem (by rw [← HK.out]; exact hlt)]
                    exact List.getElem_mem _
                  have h5 : ¬ lg x = true := fun h => h3 (List.any_eq_true.2 ⟨x, hm, h⟩)
                  unfold lg at h5
                  simp at h5
                  omega)
              rw [← hσc] at A1
              have HA1 := Lib.hid A1
              have HL1 := Lib.hid L1
              have HVx := Lib.hid hVx
              have q6 := blk_cell A1.blk 6 vL1 rfl
              obtain ⟨l5, hl5⟩ : ∃ l5, l5 = x.length := ⟨_, rfl⟩
              have HL5 := Lib.hid hl5
              rw [← hl5] at q0
              have HKI := Lib.hid hlt
              clear A1 L1 hVx hx hl5 hσc HR HVw
              have qA := fun o => Lib.cell?_alloc_some o q0
              have qC := fun o => Lib.cell?_alloc_some o q6
              have HO : Hid (∀ d, KB.R 5 ((wr.alloc (.cells #[] 5)).drewN d) wr.heap.size (fun k => wr.heap.size ≤ k) (.slice (some ⟨wr.heap.size, 0, none⟩) 0 0) []) := Lib.hid (fun d => R_new_int wr .u8 5 [] [] rfl (by simp) 0 rfl _ rfl)
              have HRD : Hid (∀ d, KB.C ((wr.alloc (.cells #[] 5)).drewN d) A5 l5 x) := Lib.hid (fun d => by
                have h := Kd.C_alloc (Kd.V_reads' HVx.out).2.2 (.cells #[] 5)
                rw [← HL5.out] at h
                exact h)
              have HBW : Hid (∀ d, Below wr.heap.size wr ((wr.alloc (.cells #[] 5)).drewN d)) := Lib.hid (fun d => pw_below_drewN (below_alloc (Below.refl _ _) _) d)
              have FIN : Hid (∀ (w6 w7 : World) (lab3 lab4 : Nat → Nat) (v : Value), Ls lab1 lab3 wr w6 → RS p lab4 { σc with L := σc.L ++ [x] } [] got v vE1 vO1 vG1 (w7.setCell ⟨p, 6, none⟩ v) → Ls lab3 lab4 w6 (w7.setCell ⟨p, 6, none⟩ v) → RP p lab w0 { σ with now := now, L := σ.L ++ xs.take (i + 1) } [] got (w7.setCell ⟨p, 6, none⟩ v)) := by
                refine Lib.hid ?_
                intro w6 w7 lab3 lab4 v h1 h2 h3
                rw [HNX.out] at h2
                exact ⟨lab4, _, _, _, _, h2, (HL1.out.trans h1).trans h3⟩
              go_upto_region 16 with fail
              go_region_law (first
                | (refine Kd.R_append_rows_step KB (w0 := wr) wr.heap.size (by rfl) (.tmp 56) (.tmp 60) 25 5 (.int .u8 0) 1 (by rfl) Try.underlying25 Try.info5 rfl (by decide) (by omega) (.slice (some ⟨wr.heap.size, 0, none⟩) 0 0) [] x A5 l5 c5 (fun k => wr.heap.size ≤ k) (fun _ => False) (by rfl) (by rfl) (HO.out _) (HRD.out _) (fun _ _ h => h) (fun _ h => h.elim) (fun k hk => Nat.le_trans (HBW.out 0).size hk) (HBW.out _) (HBW.out 0).size (by have h1 := HLC.out.2; have h2 := HL5.out; simp; omega) ?_; intro v1 w6 hr6 hb6 hg6 hat6; obtain ⟨A7, c7, e7⟩ := Kd.R_slice hr6; rw [List.nil_append, ← HL5.out] at e7; subst e7; obtain ⟨lab3, L3, A8, hold3, hnew3⟩ := HA1.out.made hb6; have V7 : Kd.V KB 5 w6 0 (fun k => lab3 k = 1) (.slice A7 l5 c7) x := Kd.V_mono (Kd.V_bound (Kd.R_V hr6)) (fun k hk => hnew3 k hk.1 hk.2); have u6 := blk_cell A8.blk 6 vL1 rfl; have uA := (fun o => Lib.cell?_alloc_some o u6); have V7 := Lib.hid V7; have A8 := Lib.hid A8; have L3 := Lib.hid (L3.ls (by omega)); have R8 := Lib.hid A8.out.L; have HFK : Hid (Kd.FK kB w6 (fun k => lab3 k = 1) x [.slice A7 l5 c7]) := Lib.hid (by have h := V7.out; rw [HL5.out] at h ⊢; exact FK_slice h); clear hr6 hb6 hg6 hat6 hold3 hnew3)
                | (refine Kd.N_append_step kB (w0 := w6) 0 (by rfl) (.tmp 55) (.tmp 62) 45 25 (.slice none 0 0) 24 (by rfl) Try.underlying45 Try.info25 rfl (by decide) (by omega) vL1 σc.L x [.slice A7 l5 c7] (fun k => lab3 k = 1 ∨ some k = vL1.ownBlock ∨ w6.heap.size ≤ k) (fun k => lab3 k = 1) (by rfl) (by rfl) HFK.out (fun k hk => ⟨.inl hk, fun he => by have h7 := R8.out.2 k he.symm; have h8 : lab3 k = 1 := hk; omega⟩) (fun k hk => .inr (.inr hk)) (R8.out.wide (by rfl) (fun _ => by rfl)) (Below.refl _ _) (Nat.zero_le _) (by have := HLC.out.1; omega) ?_; intro v3 w7 hn7 hb7 hg7 hat7; obtain ⟨A9', c9', e9⟩ := Kd.N_slice hn7; obtain ⟨z8, hz8⟩ : ∃ z8, z8 = (σc.L ++ [x]).length := ⟨_, rfl⟩; rw [← hz8] at e9; subst e9; obtain ⟨lab4, L4, R4, _⟩ := Row.grown A8.out.lim R8.out (by omega) hn7 ⟨hg7.os, hg7.tape, hg7.output, hg7.size, hg7.block⟩ hat7; obtain ⟨a1, a2, a3⟩ := A8.out.setL L4 R4; have v6 := blk_cell a2 6 vL1 rfl; have f6 := blk_free a2 6; have HP := Lib.hid (FIN.out w6 w7 lab3 lab4 _ L3.out a3 a1); clear hn7 hb7 hg7 hat7 L4 R4 a1 a2 a3 hz8))
              all_goals
                have hi2 := HKI.out
                have hk2 := HKL.out
                go_wp2_with fail
                go_roundw
                case rel => exact ⟨i + 1, by go_num, by omega, HP⟩
                case measure => simp [intOf]; omega
            · have hik : i = k := by omega
              have hr2 := HR.out
              rw [hik, List.take_of_length_le (by rw [HK.out]; exact Nat.le_refl _)] at hr2
              have HR2 := Lib.hid hr2
              clear hr2
              have ok2 := OK.out.send HASK.out HAL.out (by rw [← HL.out, ← HK.out]; exact HMN.out) HN.out
              have HC1 := Lib.hid (rfresh_rp HR2.out ok2 (by simp) was (by
                intro h
                rw [HWAS.out]
                have hup : σ.up = true := by
                  cases hu : σ.up with
                  | true => rfl
                  | false =>
                    have hz : ({ σ with now := now, L := σ.L ++ xs } : Se).fl = 0 := fl_down hu
                    rw [hz] at h
                    exact absurd h (Nat.lt_irrefl _)
                have := SD.out hup
                show (σ.fl : Int) = 0 ↔ σ.sent = 0
                rw [this]))
              clear ok2 hik hi HR
              go_wp2_with fail
              refine HC1.out.mono ?_
              rintro e w3 ⟨rfl, h⟩
              have HC3 := Lib.hid (rframes_rp h)
              clear h HC1
              go_wp2_with fail
              refine HC3.out.mono ?_
              rintro e w4 ⟨lab', vL', vE', vO', vG', A', c', rfl, h1, h2, h3⟩
              have HFIN := Lib.hid (HFN.out lab' _ _ _ _ A' c' w4 h1 (by rw [← HW0.out]; exact h2) h3)
              obtain ⟨z, hz⟩ : ∃ z, z = ([] ++ ({ σ with now := now, L := σ.L ++ xs } : Se).freshL).length := ⟨_, rfl⟩
              have HZ := Lib.hid (HFIN.out z hz)
              rw [← hz]
              clear h1 h2 h3 HC3 hz HFIN
              go_wp2_with fail
              go_ret2
              exact HZ.out
  · have HT : Hid (σ.sendF now xs = (er, [], σ)) := by
      refine Lib.hid ?_
      have h1 := HER.out
      unfold Se.sendF
      rw [if_neg (by rw [← h1]; exact h0)]
      unfold Se.ask at h1
      split at h1
      · exact absurd h1 h0
      · rw [h1]
    have HFIN : Hid (RFr p lab w got (σ.sendF now xs) (.returned (.tuple #[.slice none 0 0, .int .i64 er])) w) := by
      rw [HT.out]
      exact Lib.hid (RFr.no HA.out er (Ls.refl _ _))
    have e1 : (er != 0) = true := by simp [h0]
    go_enter Try.func21, Try.ntmps21
    go_wp2_with fail
    refine HB.out.mono ?_
    rintro e w1 ⟨rfl, rfl⟩
    clear h0
    go_wp2_with fail
    go_ret2
    exact HFIN.out
end
end Go.Proofs.Ytlnhjkbhhdcdeaa
namespace Go.Proofs.Ytlnhjkbhhdcdeaa
open Go Go.RowKit Go.Proofs.YtlnhjkbhhdcdeaaW.PrintWords Go.Proofs.YtlnhjkbhhdcdeaaW.PrintLast Go.Proofs.YtlnhjkbhhdcdeaaW.PrintMore
open Go.Proofs.Ytlnhjkbhhdcdeaa.PSessionRuns (S27 k27 z27 S116 k116 z116)
set_option linter.unusedVariables false
set_option maxRecDepth 100000
set_option maxHeartbeats 4000000
attribute [local go_sem] max2_mx min2_mn max_two min_two
/-- A timer that is not set is nought. -/
def Td (σ : Se) : Prop := σ.set = false → σ.tm = 0
theorem quiet_two {f : Nat} {args : Array Value} {w : World} {d : Nat} {v : Value} (h : Calls Try.prog f args (w.drewN d) fun e w' => e = .returned v ∧ ∃ k, w' = (w.drewN d).drewN k) : Calls Try.prog f args (w.drewN d) fun e w' => e = .returned v ∧ ∃ k, w' = w.drewN k :=
  h.mono fun _ _ ⟨he, m, hm⟩ => ⟨he, d + m, by rw [hm, World.drewN_drewN]⟩
section
variable {p g m : Nat} {lab : Nat → Nat} {M B : Nat → Prop} {σ : Se} {out : List S27} {got : List (List Int)} {vL vE vO vG : Value} {w : World} {n : Int}
theorem same_w (hs : Ses M B g m σ w) (A : RS p lab σ out got vL vE vO vG w) (ok : Ok n σ) (td : Td σ) :
    Calls Try.prog 25 #[.pointer (some ⟨g, 0, none⟩), .pointer (some ⟨p, 0, none⟩)] w fun e w' => e = .returned (.bool true) ∧ ∃ d, w' = w.drewN d := by
  obtain ⟨Al, cl, hv⟩ := A.L.slice
  subst hv
  have H26 := Lib.hid (next_ses hs)
  have H27 := Lib.hid (fun d => quiet_two (peer_ses (hs.drewN d)))
  have HS := Lib.hid hs
  have HA := Lib.hid A
  have OK := Lib.hid ok
  obtain ⟨pe, hpe⟩ : ∃ x, x = σ.peer := ⟨_, rfl⟩
  obtain ⟨up, hup⟩ : ∃ x, x = σ.up := ⟨_, rfl⟩
  obtain ⟨ll, hll⟩ : ∃ x, x = σ.L.length := ⟨_, rfl⟩
  obtain ⟨ic, hic⟩ : ∃ x, x = σ.inn := ⟨_, rfl⟩
  obtain ⟨st, hst⟩ : ∃ x, x = σ.set := ⟨_, rfl⟩
  obtain ⟨tm, htm⟩ : ∃ x, x = σ.tm := ⟨_, rfl⟩
  have EQ := Lib.hid (And.intro hpe (And.intro hup (And.intro hll hic)))
  have HST := Lib.hid (And.intro hst htm)
  unfold Td at td
  rw [← hst, ← htm] at td H26
  rw [← hpe, ← hup] at H27
  clear hs A ok hpe hup hll hic hst htm
  have e1 : (pe == pe) = true := by simp
  have e2 : (up == up) = true := by simp
  have e5 : (ic == ic) = true := by simp
  have e7 : (tm == tm) = true := by simp
  cases st with
  | true =>
    clear td
    go_enter Try.func25, Try.ntmps25
    go_wp2_with fail
    refine H26.out.mono ?_
    rintro e w1 ⟨rfl, k1, rfl⟩
    go_wp2_with fail
    refine (H27.out _).mono ?_
    rintro e w2 ⟨rfl, k2, rfl⟩
    obtain ⟨W2, hW2⟩ : ∃ W2, W2 = w.drewN k2 := ⟨_, rfl⟩
    have hs2 := HS.out.drewN k2
    have hA2 := HA.out.drewN k2
    rw [← hW2] at hs2 hA2 ⊢
    have HW2 := Lib.hid hW2
    clear hW2
    have H18 := Lib.hid (fun d => quiet_two (waiting_ses (hs2.drewN d)))
    have H17 := Lib.hid (fun d => quiet_two (fly_ses (hs2.drewN d) OK.out))
    have H57 := Lib.hid (fun d => quiet_two (rflying (hA2.drewN d) OK.out))
    have H28 := Lib.hid (fun d => quiet_two (in_ses (hs2.drewN d)))
    have H29 := Lib.hid (fun d => quiet_two (idle_ses (hs2.drewN d)))
    have H63 : Hid (∀ d, Calls Try.prog 63 #[.pointer (some ⟨p, 0, none⟩)] (W2.drewN d) fun e w' => e = .returned (.bool (σ.up && (σ.L.length : Int) == 0)) ∧ ∃ k, w' = W2.drewN k) := Lib.hid (fun d => (ridle (hA2.drewN d)).mono fun _ _ ⟨he, hm⟩ => ⟨he, d, hm⟩)
    have d4 := blk_cell hA2.blk 4 (.int .u32 pe) (by rw [EQ.out.1]; rfl)
    have d5 := blk_cell hA2.blk 5 (.bool up) (by rw [EQ.out.2.1]; rfl)
    have d6 := blk_cell hA2.blk 6 (.slice Al ll cl) (by rw [EQ.out.2.2.1]; rfl)
    have d9 := blk_cell hA2.blk 9 (.int .u64 ic) (by rw [EQ.out.2.2.2]; rfl)
    have d11 := blk_cell hA2.blk 11 (.bool true) (by show some (Value.bool σ.set) = _; rw [← HST.out.1])
    have d12 := blk_cell hA2.blk 12 (.int .i64 tm) (by show some (Value.int IntKind.i64 σ.tm) = _; rw [← HST.out.2])
    obtain ⟨id, hid⟩ : ∃ id, id = (σ.up && (σ.L.length : Int) == 0) := ⟨_, rfl⟩
    obtain ⟨fl, hfl⟩ : ∃ fl, fl = σ.fl := ⟨_, rfl⟩
    rw [← hid] at H29 H63
    rw [← hfl] at H17 H57
    rw [← EQ.out.2.2.1] at H18
    rw [← EQ.out.2.2.2] at H28
    have e3 : ((ll : Int) == (ll : Int)) = true := by simp
    have e4 : ((fl : Int) == (fl : Int)) = true := by simp
    have e6 : (id == id) = true := by simp
    clear hs2 hA2 hid hfl H26 H27
    go_upto_region 3 with fail
    simp only [List.append_eq, List.cons_append, List.nil_append]
    refine wp_region_quiet_lit (by kernel_rfl) (by kernel_rfl) ?_
    repeat (go_big_quiet_step (first | (go_at_call 18; refine (H18.out _).mono ?_; rintro e w' ⟨rfl, k, rfl⟩; exact ⟨rfl, _, rfl⟩) | (go_at_call 17; refine (H17.out _).mono ?_; rintro e w' ⟨rfl, k, rfl⟩; exact ⟨rfl, _, rfl⟩) | (go_at_call 57; refine (H57.out _).mono ?_; rintro e w' ⟨rfl, k, rfl⟩; exact ⟨rfl, _, rfl⟩) | (go_at_call 28; refine (H28.out _).mono ?_; rintro e w' ⟨rfl, k, rfl⟩; exact ⟨rfl, _, rfl⟩) | (go_at_call 29; refine (H29.out _).mono ?_; rintro e w' ⟨rfl, k, rfl⟩; exact ⟨rfl, _, rfl⟩) | (go_at_call 63; refine (H63.out _).mono ?_; rintro e w' ⟨rfl, k, rfl⟩; exact ⟨rfl, _, rfl⟩)))
    refine wpQuiet_nil ?_
    intro _ hw'
    obtain ⟨nq, hw2⟩ := hw'
    subst hw2
    go_wp2_with fail
    go_ret
    exact ⟨rfl, _, by rw [HW2.out, World.drewN_drewN]⟩
  | false =>
    obtain rfl := td rfl
    clear td e7
    go_enter Try.func25, Try.ntmps25
    go_wp2_with fail
    refine H26.out.mono ?_
    rintro e w1 ⟨rfl, k1, rfl⟩
    go_wp2_with fail
    refine (H27.out _).mono ?_
    rintro e w2 ⟨rfl, k2, rfl⟩
    obtain ⟨W2, hW2⟩ : ∃ W2, W2 = w.drewN k2 := ⟨_, rfl⟩
    have hs2 := HS.out.drewN k2
    have hA2 := HA.out.drewN k2
    rw [← hW2] at hs2 hA2 ⊢
    have HW2 := Lib.hid hW2
    clear hW2
    have H18 := Lib.hid (fun d => quiet_two (waiting_ses (hs2.drewN d)))
    have H17 := Lib.hid (fun d => quiet_two (fly_ses (hs2.drewN d) OK.out))
    have H57 := Lib.hid (fun d => quiet_two (rflying (hA2.drewN d) OK.out))
    have H28 := Lib.hid (fun d => quiet_two (in_ses (hs2.drewN d)))
    have H29 := Lib.hid (fun d => quiet_two (idle_ses (hs2.drewN d)))
    have H63 : Hid (∀ d, Calls Try.prog 63 #[.pointer (some ⟨p, 0, none⟩)] (W2.drewN d) fun e w' => e = .returned (.bool (σ.up && (σ.L.length : Int) == 0)) ∧ ∃ k, w' = W2.drewN k) := Lib.hid (fun d => (ridle (hA2.drewN d)).mono fun _ _ ⟨he, hm⟩ => ⟨he, d, hm⟩)
    have d4 := blk_cell hA2.blk 4 (.int .u32 pe) (by rw [EQ.out.1]; rfl)
    have d5 := blk_cell hA2.blk 5 (.bool up) (by rw [EQ.out.2.1]; rfl)
    have d6 := blk_cell hA2.blk 6 (.slice Al ll cl) (by rw [EQ.out.2.2.1]; rfl)
    have d9 := blk_cell hA2.blk 9 (.int .u64 ic) (by rw [EQ.out.2.2.2]; rfl)
    have d11 := blk_cell hA2.blk 11 (.bool false) (by show some (Value.bool σ.set) = _; rw [← HST.out.1])
    have d12 := blk_cell hA2.blk 12 (.int .i64 0) (by show some (Value.int IntKind.i64 σ.tm) = _; rw [← HST.out.2])
    obtain ⟨id, hid⟩ : ∃ id, id = (σ.up && (σ.L.length : Int) == 0) := ⟨_, rfl⟩
    obtain ⟨fl, hfl⟩ : ∃ fl, fl = σ.fl := ⟨_, rfl⟩
    rw [← hid] at H29 H63
    rw [← hfl] at H17 H57
    rw [← EQ.out.2.2.1] at H18
    rw [← EQ.out.2.2.2] at H28
    have e3 : ((ll : Int) == (ll : Int)) = true := by simp
    have e4 : ((fl : Int) == (fl : Int)) = true := by simp
    have e6 : (id == id) = true := by simp
    clear hs2 hA2 hid hfl H26 H27
    go_upto_region 3 with fail
    simp only [List.append_eq, List.cons_append, List.nil_append]
    refine wp_region_quiet_lit (by kernel_rfl) (by kernel_rfl) ?_
    repeat (go_big_quiet_step (first | (go_at_call 18; refine (H18.out _).mono ?_; rintro e w' ⟨rfl, k, rfl⟩; exact ⟨rfl, _, rfl⟩) | (go_at_call 17; refine (H17.out _).mono ?_; rintro e w' ⟨rfl, k, rfl⟩; exact ⟨rfl, _, rfl⟩) | (go_at_call 57; refine (H57.out _).mono ?_; rintro e w' ⟨rfl, k, rfl⟩; exact ⟨rfl, _, rfl⟩) | (go_at_call 28; refine (H28.out _).mono ?_; rintro e w' ⟨rfl, k, rfl⟩; exact ⟨rfl, _, rfl⟩) | (go_at_call 29; refine (H29.out _).mono ?_; rintro e w' ⟨rfl, k, rfl⟩; exact ⟨rfl, _, rfl⟩) | (go_at_call 63; refine (H63.out _).mono ?_; rintro e w' ⟨rfl, k, rfl⟩; exact ⟨rfl, _, rfl⟩)))
    refine wpQuiet_nil ?_
    intro _ hw'
    obtain ⟨nq, hw2⟩ := hw'
    subst hw2
    go_wp2_with fail
    go_ret
    exact ⟨rfl, _, by rw [HW2.out, World.drewN_drewN]⟩
end
end Go.Proofs.Ytlnhjkbhhdcdeaa
namespace Go.Proofs.Ytlnhjkbhhdcdeaa
open Go Go.RowKit Go.Proofs.YtlnhjkbhhdcdeaaW.PrintWords Go.Proofs.YtlnhjkbhhdcdeaaW.PrintLast Go.Proofs.YtlnhjkbhhdcdeaaW.PrintMore
open Go.Proofs.Ytlnhjkbhhdcdeaa.PSessionRuns (S27 k27 z27 S116 k116 z116)
set_option linter.unusedVariables false
/-- Inside a call. -/
structure Jx (σ : Se) : Prop where
  w : σ.sent ≤ σ.win
  s0 : σ.up = false → σ.sent = 0
  td : Td σ
  pd : Pd σ
section
variable {σ : Se} {n : Int}
theorem Jx.fresh (h : Jx σ) (ok : Ok n σ) : Jx σ.fresh ∧ Sd σ.fresh := by
  have h1 := ok.sent2
  have h2 := ok.win0
  have h3 := h.w
  unfold Se.fresh
  by_cases hu : σ.up = true
  · rw [if_pos hu]
    have hfl : σ.fl = min σ.L.length σ.win.toNat := by
      unfold Se.fl
      rw [if_pos hu]
    have hmx : mx σ.sent σ.fl = (σ.fl : Int) := by
      unfold mx
      split <;> omega
    rw [hmx]
    split
    · refine ⟨⟨?_, fun h => ?_, fun h => (by cases h), h.pd⟩, fun _ => rfl⟩
      · show (σ.fl : Int) ≤ σ.win
        omega
      · have h' : σ.up = false := h
        rw [hu] at h'
        cases h'
    · refine ⟨⟨?_, fun h => ?_, h.td, h.pd⟩, fun _ => rfl⟩
      · show (σ.fl : Int) ≤ σ.win
        omega
      · have h' : σ.up = false := h
        rw [hu] at h'
        cases h'
  · rw [if_neg hu]
    exact ⟨h, fun hup => absurd hup hu⟩
theorem Jx.of (h0 : σ.up = false → σ.sent = 0) (sd : Sd σ) (td : Td σ) (pd : Pd σ) (ok : Ok n σ) : Jx σ := by
  refine ⟨?_, h0, td, pd⟩
  have h2 := ok.win0
  cases hu : σ.up with
  | false =>
    have := h0 hu
    omega
  | true =>
    have := sd hu
    have hfl : σ.fl = min σ.L.length σ.win.toNat := by
      unfold Se.fl
      rw [if_pos hu]
    omega
theorem Jx.told (h : Jx σ) (ok : Ok n σ) (a : Int) : Jx (σ.told a) := by
  have h1 := ok.sent0
  unfold Se.told
  split
  · rename_i ht
    unfold Se.tells at ht
    simp at ht
    have hup : σ.up = true := by
      cases hu : σ.up with
      | true => rfl
      | false =>
        have := h.s0 hu
        omega
    simp only
    split
    · refine ⟨?_, fun h => ?_, fun h => (by cases h), h.pd⟩
      · have := h.w
        show σ.sent - (a - σ.base + 1) ≤ σ.win
        omega
      · have h' : σ.up = false := h
        rw [hup] at h'
        cases h'
    · refine ⟨?_, fun h => ?_, fun _ => rfl, h.pd⟩
      · have := h.w
        show σ.sent - (a - σ.base + 1) ≤ σ.win
        omega
      · have h' : σ.up = false := h
        rw [hup] at h'
        cases h'
  · exact h
theorem pop_pd : ∀ (k : Nat) (σ : Se), σ.E.length = k → Pd σ.pop.2 := by
  intro k
  induction k with
  | zero =>
    intro σ h
    have hE : σ.E = [] := List.length_eq_zero_iff.1 h
    have hp : Pd σ := by
      unfold Pd
      rw [hE]
      rfl
    rw [Se.pop_none hp]
    exact hp
  | succ k ih =>
    intro σ h
    cases hj : plc σ.E (σ.inn + 1) 0 with
    | none =>
      rw [Se.pop_none hj]
      exact hj
    | some j =>
      rw [Se.pop_some hj]
      refine ih _ ?_
      obtain ⟨_, h2, _⟩ := plc_lt σ.E 0 hj
      show (σ.E.eraseIdx j).length = k
      rw [List.length_eraseIdx_of_lt (by omega), h]
      rfl
theorem pops_keep5 : ∀ (k : Nat) (σ : Se), (pops k σ).2.sent = σ.sent ∧ (pops k σ).2.win = σ.win ∧ (pops k σ).2.up = σ.up ∧ (pops k σ).2.set = σ.set ∧ (pops k σ).2.tm = σ.tm
  | 0, σ => ⟨rfl, rfl, rfl, rfl, rfl⟩
  | k + 1, σ => by
    rw [pops]
    cases plc σ.E (σ.inn + 1) 0 with
    | none => exact ⟨rfl, rfl, rfl, rfl, rfl⟩
    | some j => exact pops_keep5 k { σ with inn := σ.inn + 1, E := σ.E.eraseIdx j }
theorem put_keep5 (σ : Se) (q : Int) (x : List Int) : (σ.put q x).sent = σ.sent ∧ (σ.put q x).win = σ.win ∧ (σ.put q x).up = σ.up ∧ (σ.put q x).set = σ.set ∧ (σ.put q x).tm = σ.tm := by
  unfold Se.put
  split <;> exact ⟨rfl, rfl, rfl, rfl, rfl⟩
theorem Jx.putpop (h : Jx σ) (q : Int) (x : List Int) : Jx (σ.put q x).pop.2 := by
  obtain ⟨a1, a2, a3, a4, a5⟩ := put_keep5 σ q x
  obtain ⟨b1, b2, b3, b4, b5⟩ := pops_keep5 (σ.put q x).E.length (σ.put q x)
  refine ⟨?_, fun hu => ?_, fun hs => ?_, pop_pd _ _ rfl⟩
  · show (pops _ _).2.sent ≤ (pops _ _).2.win
    rw [b1, b2, a1, a2]
    exact h.w
  · have hu' : (pops (σ.put q x).E.length (σ.put q x)).2.up = false := hu
    show (pops _ _).2.sent = 0
    rw [b1, a1]
    exact h.s0 (by rw [← a3, ← b3]; exact hu')
  · have hs' : (pops (σ.put q x).E.length (σ.put q x)).2.set = false := hs
    show (pops _ _).2.tm = 0
    rw [b5, a5]
    exact h.td (by rw [← a4, ← b4]; exact hs')
theorem Jx.kind (h : Jx σ) (ok : Ok n σ) (f : S27) : Jx (σ.kind f).2.2 := by
  unfold Se.kind
  split
  · exact h
  · split
    · exact (h.told ok f.f4).putpop f.f3 f.f5
    · exact h.told ok f.f4
theorem Jx.met (h : Jx σ) (f : S27) : Jx (σ.met f) := by
  unfold Se.met
  split
  · exact ⟨h.w, fun h => (by cases h), fun _ => rfl, h.pd⟩
  · exact h
theorem Jx.anew (ok : Ok n σ) (b : Int) : Jx (σ.anew b) :=
  ⟨by show (0 : Int) ≤ σ.win; have := ok.win0; omega, fun _ => rfl, fun h => (by cases h), rfl⟩
theorem sd_tick (h : Jx σ) (sd : Sd σ) (now : Int) : Jx (σ.tickF now).2.2 ∧ Sd (σ.tickF now).2.2 := by
  unfold Se.tickF
  split
  · split
    · split
      · exact ⟨⟨h.w, h.s0, fun h => (by cases h), h.pd⟩, sd⟩
      · exact ⟨⟨h.w, h.s0, fun h => (by cases h), h.pd⟩, sd⟩
    · exact ⟨⟨h.w, h.s0, h.td, h.pd⟩, sd⟩
  · exact ⟨h, sd⟩
theorem sd_send (h : Jx σ) (sd : Sd σ) (ok : Ok n σ) (hn : n + 65536 ≤ 1099511627776) (now : Int) (xs : List (List Int)) : Jx (σ.sendF now xs).2.2 ∧ Sd (σ.sendF now xs).2.2 := by
  unfold Se.sendF
  split
  · rename_i ha
    split
    · exact ⟨h, sd⟩
    · rename_i h1
      split
      · exact ⟨h, sd⟩
      · rename_i h2
        exact Jx.fresh (σ := { σ with now := now, L := σ.L ++ xs }) ⟨h.w, h.s0, h.td, h.pd⟩ (ok.send ha h1 h2 hn)
  · exact ⟨h, sd⟩
theorem sd_take (h : Jx σ) (sd : Sd σ) (ok : Ok n σ) (hn : n + 1 ≤ 1099511627776) (now : Int) (f : S27) (h0 : 0 ≤ f.f1) (h1 : f.f1 < 4294967296) : Jx (σ.takeF now f).σ ∧ Sd (σ.takeF now f).σ := by
  unfold Se.takeF
  split
  · rename_i ha
    split
    · rename_i hc
      have ok1 := ok.now_ ha
      have hx1 : Jx ({ σ with now := now } : Se) := ⟨h.w, h.s0, h.td, h.pd⟩
      split
      · exact ⟨hx1, sd⟩
      · obtain ⟨σ2, e2⟩ : ∃ σ2, σ2 = (if σ.peer < f.f1 then ({ σ with now := now } : Se).anew f.f1 else { σ with now := now }) := ⟨_, rfl⟩
        rw [← e2]
        have h2 : Jx σ2 ∧ Sd σ2 ∧ Ok n σ2 := by
          rw [e2]
          split
          · exact ⟨Jx.anew ok1 _, fun h => (by cases h), ok1.anew _ h0 h1⟩
          · exact ⟨hx1, sd, ok1⟩
        clear e2
        simp only
        split
        · have hk : f.f0 = 2 → f.f5.length ≤ 65536 := fun h2 => by
            unfold chk at hc
            rw [h2] at hc
            simp at hc
            omega
          exact ((h2.1.met f).kind (h2.2.2.met f) f).fresh ((h2.2.2.met f).kind hn f hk)
        · exact ⟨h2.1, h2.2.1⟩
    · exact ⟨h, sd⟩
  · exact ⟨h, sd⟩
theorem sd_start (bo wi tm now : Int) (hw : 1 ≤ wi) : Jx (se0 bo wi tm now).start ∧ Sd (se0 bo wi tm now).start :=
  ⟨⟨by show (0 : Int) ≤ wi; omega, fun _ => rfl, fun h => (by cases h), rfl⟩, fun h => (by cases h)⟩
end
end Go.Proofs.Ytlnhjkbhhdcdeaa
