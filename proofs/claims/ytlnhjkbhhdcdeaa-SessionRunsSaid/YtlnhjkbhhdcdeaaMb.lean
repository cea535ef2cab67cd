/- The walks of fresh, told, greeted; the map of early messages. -/
import Derived.Test.YtlnhjkbhhdcdeaaMa
namespace Go.Proofs.Ytlnhjkbhhdcdeaa
open Go.RowKit Go.Proofs.YtlnhjkbhhdcdeaaW.PrintWords Go.Proofs.YtlnhjkbhhdcdeaaW.PrintLast Go.Proofs.YtlnhjkbhhdcdeaaW.PrintMore
open Go.Proofs.Ytlnhjkbhhdcdeaa.PSessionRuns (S27 k27 z27 S116 k116 z116)
set_option linter.unusedVariables false
set_option maxRecDepth 100000
set_option maxHeartbeats 2000000
attribute [local go_sem] max2_mx min2_mn max_two min_two
/-- The i-th message that waits, as a frame. -/
def Se.frame (σ : Se) (i : Nat) : S27 := ⟨2, σ.boot, σ.peer, σ.base + i, σ.inn, σ.L.getD i []⟩
def Se.seg (σ : Se) (lo i : Nat) : List S27 := (List.range' lo (i - lo)).map σ.frame
theorem Se.seg_self (σ : Se) (lo : Nat) : σ.seg lo lo = [] := by simp [Se.seg]
theorem Se.seg_succ (σ : Se) {lo i : Nat} (h : lo ≤ i) : σ.seg lo (i + 1) = σ.seg lo i ++ [σ.frame i] := by
  unfold Se.seg
  rw [show i + 1 - lo = (i - lo) + 1 by omega, List.range'_1_concat, List.map_append, List.map_cons, List.map_nil, show lo + (i - lo) = i by omega]
theorem Se.seg_len (σ : Se) (lo i : Nat) : (σ.seg lo i).length = i - lo := by simp [Se.seg]
/-- How many are on their way. -/
def Se.fl (σ : Se) : Nat := if σ.up then min σ.L.length σ.win.toNat else 0
def Se.freshL (σ : Se) : List S27 := if σ.up then σ.seg σ.sent.toNat σ.fl else []
def Se.fresh (σ : Se) : Se := if σ.up then { (if σ.sent = 0 ∧ 0 < σ.fl then σ.start else σ) with sent := mx σ.sent σ.fl } else σ
/-- Bounds. -/
structure Ok (n : Int) (σ : Se) : Prop where
  now0 : 0 ≤ σ.now
  now1 : σ.now ≤ 1099511627776
  tmr0 : 1 ≤ σ.tmr
  tmr1 : σ.tmr ≤ 1048576
  win0 : 1 ≤ σ.win
  win1 : σ.win ≤ 64
  sent0 : 0 ≤ σ.sent
  sent1 : σ.sent ≤ 64
  sent2 : σ.sent ≤ σ.L.length
  len : σ.L.length ≤ 65536
  base0 : 1 ≤ σ.base
  base1 : σ.base + σ.L.length ≤ n
  inn0 : 0 ≤ σ.inn
  inn1 : σ.inn + σ.E.length ≤ n
  big : n ≤ 1099511627776
  body : ∀ b ∈ σ.L, b.length ≤ 65536
  early : ∀ p ∈ σ.E, p.2.length ≤ 65536
  peer0 : 0 ≤ σ.peer
  peer1 : σ.peer < 4294967296
  boot0 : 1 ≤ σ.boot
  boot1 : σ.boot < 4294967296
section
variable {M B : Nat → Prop} {g m : Nat} {σ : Se} {w : World} {n : Int}
theorem Ok.at_ (h : Ok n σ) (i : Nat) : (σ.L.getD i []).length ≤ 65536 := by
  rw [List.getD_eq_getElem?_getD]
  cases hi : σ.L[i]? with
  | none => simp
  | some b => exact h.body b (List.mem_of_getElem? hi)
theorem FK_frame {w : World} {okp : Nat → Prop} {x : S27} {A : Option Addr} {c : Nat} (h : Kd.V KB 5 w 0 okp (.slice A x.f5.length c) x.f5) : Kd.FK k27 w okp x [.int .u8 x.f0, .int .u32 x.f1, .int .u32 x.f2, .int .u64 x.f3, .int .u64 x.f4, .slice A x.f5.length c] :=
  PSessionRuns.k27_mkF w okp x (Kd.V_at h).2.1 (Kd.V_at h).2.2
theorem fresh_ses (h : Ses M B g m σ w) (ok : Ok n σ) :
    Calls Try.prog 43 #[.pointer (some ⟨g, 0, none⟩)] w fun e w' => ∃ A c, e = .returned (.slice A σ.freshL.length c) ∧ Kd.V k27 27 w' 0 (fun k => w.heap.size ≤ k ∧ k < w'.heap.size) (.slice A σ.freshL.length c) σ.freshL ∧ Ses M B g m σ.fresh w' ∧ Chg M w w' := by
  obtain ⟨A, c, hb, _, _, hM, _, hMl, hBl, _, _, _, _⟩ := h.open_
  have hgl := (hMl g hM).1
  have d7 := blk_cell hb 7 (.bool σ.up) rfl
  have H := Lib.hid h
  cases hup : σ.up with
  | false =>
    rw [hup] at d7
    have HU := Lib.hid hup
    clear hb h hMl hBl hup
    go_enter Try.func43, Try.ntmps43
    go_wp2_with fail
    go_ret
    refine ⟨none, 0, ?_, ?_, ?_, Chg.refl _ _⟩
    · have : σ.freshL = [] := by simp [Se.freshL, HU.out]
      rw [this]
      rfl
    · have : σ.freshL = [] := by simp [Se.freshL, HU.out]
      rw [this]
      exact Kd.V_nil _ _ _ _ _
    · have : σ.fresh = σ := by simp [Se.fresh, HU.out]
      rw [this]
      exact H.out
  | true =>
    rw [hup] at d7
    have d0 := blk_cell hb 0 (.slice A σ.L.length c) rfl
    have d2 := blk_cell hb 2 (.int .i64 σ.sent) rfl
    have d4 := blk_cell hb 4 (.int .i64 σ.win) rfl
    have hfl : σ.fl = min σ.L.length σ.win.toNat := by simp [Se.fl, hup]
    have h1 := ok.win0
    have h2 := ok.win1
    have h3 := ok.sent0
    have h4 := ok.sent1
    have h5 := ok.len
    have hmn : mn (σ.L.length : Int) σ.win = (σ.fl : Int) := by
      rw [hfl]
      unfold mn
      split <;> omega
    have hfl64 : σ.fl ≤ 64 := by omega
    have hflL : σ.fl ≤ σ.L.length := by omega
    obtain ⟨s, hs⟩ : ∃ s : Nat, σ.sent = s := ⟨σ.sent.toNat, by omega⟩
    obtain ⟨f, hf⟩ : ∃ f : Nat, f = σ.fl := ⟨_, rfl⟩
    obtain ⟨a, ha⟩ : ∃ a : Nat, a = σ.L.length := ⟨_, rfl⟩
    obtain ⟨b, hb'⟩ : ∃ b : Int, b = σ.win := ⟨_, rfl⟩
    have hs64 : s ≤ 64 := by omega
    rw [hs] at d2
    rw [← ha] at d0 hmn hflL h5
    rw [← hb'] at d4 hmn h1 h2
    rw [← hf] at hmn hfl64 hflL
    have HF := Lib.hid hf
    have HS := Lib.hid hs
    have HA := Lib.hid ha
    have HU := Lib.hid hup
    have HMN := Lib.hid hmn
    have OK := Lib.hid ok
    have HMl := Lib.hid hMl
    have fin : ∀ (σ1 : Se) (w1 w2 w3 : World) (vl : Value), (σ1 = if σ.sent = 0 ∧ 0 < σ.fl then σ.start else σ) → Ses M B g m σ1 w1 → Chg M w w1 → w1.heap.size = w.heap.size → Kd.N k27 27 w2 w1.heap.size (fun k => w1.heap.size ≤ k) vl (σ.seg s (max s f)) → Below w1.heap.size w1 w2 → w3 = w2.setCell ⟨g, 2, none⟩ (.int .i64 (mx s f)) →
        ∃ A c, vl = .slice A σ.freshL.length c ∧ Kd.V k27 27 w3 0 (fun k => w.heap.size ≤ k ∧ k < w3.heap.size) (.slice A σ.freshL.length c) σ.freshL ∧ Ses M B g m σ.fresh w3 ∧ Chg M w w3 := by
      intro σ1 w1 w2 w3 vl e1 hs1 hc1 hz hN hB he
      have hL : σ.freshL = σ.seg s (max s f) := by
        unfold Se.freshL
        rw [if_pos hup, hs, ← hf]
        rcases Nat.le_total s f with hq | hq
        · rw [Nat.max_eq_right hq]; rfl
        · rw [Nat.max_eq_left hq, Se.seg_self]
          unfold Se.seg
          rw [show f - (s : Int).toNat = 0 by omega]
          rfl
      obtain ⟨A9, c9, rfl⟩ := Kd.N_slice hN
      rw [hL]
      obtain ⟨k1, k2⟩ := (hs1.below hB).cell 2 (.int .i64 (mx s f)) σ.fresh (fun v => by
        unfold Se.fresh
        rw [if_pos hup, ← e1, hs, hf]
        rfl) (by unfold Se.fresh; rw [if_pos hup, ← e1]) (by unfold Se.fresh; rw [if_pos hup, ← e1])
      rw [he]
      refine ⟨A9, c9, rfl, ?_, k1, (hc1.then_below hB).trans k2 (fun i hi => .inl hi)⟩
      have hsz : (w2.setCell ⟨g, 2, none⟩ (.int .i64 (mx s f))).heap.size = w2.heap.size := by simp [World.setCell]
      refine Kd.V_mono (Kd.V_far (Kd.V_bound (Kd.N_V hN)) (fun k hk => ?_) _) (fun k hk => ?_)
      · have := hk.1
        show k ≠ g
        omega
      · exact ⟨by rw [← hz]; exact hk.1, by rw [hsz]; exact hk.2⟩
    have FIN := Lib.hid fin
    clear fin hb h hMl hBl hup hs hf ha hmn ok hfl hb'
    by_cases hq : s = 0 ∧ 0 < f
    · obtain ⟨rfl, hq2⟩ := hq
      have HQ2 := Lib.hid hq2
      have hq3 : decide ((0 : Int) < (f : Int)) = true := decide_eq_true (by omega)
      clear hq2
      go_enter Try.func43, Try.ntmps43
      go_wp2_with fail
      go_quiet (first | (go_at_call 49; refine (flying_ses g A a c b _ ?_).mono ?_; exact d0; rintro e w' ⟨rfl, rfl⟩; exact ⟨rfl, _, rfl⟩))
      rw [HMN.out]
      go_wp2_with fail
      refine (start_ses (H.out.drewN _) OK.out.now0 OK.out.now1 (by have := OK.out.tmr0; omega) OK.out.tmr1).mono ?_
      rintro e w1 ⟨rfl, hw1, hc1, hz1⟩
      obtain ⟨A1, c1, hb1, _⟩ := hw1.open_
      have e2 : w1.cell? ⟨g, 2, none⟩ = some (.int .i64 ((0 : Nat) : Int)) := by
        have := blk_cell hb1 2 (.int .i64 σ.sent) rfl
        rw [HS.out] at this
        exact this
      have HW1 := Lib.hid hw1
      have HC1 := Lib.hid (show Chg M w w1 from ⟨hc1.os, hc1.tape, hc1.output, hc1.size, hc1.block⟩)
      have HZ1 := Lib.hid (show w1.heap.size = w.heap.size from hz1)
      clear hw1 hc1 hz1 hb1 d0 d2 d4 d7
      go_wp2_with fail
      go_loopw [3, 5] (fun vl vi wr => ∃ i : Nat, vi = .int .i64 i ∧ 0 ≤ i ∧ i ≤ max 0 f ∧ Kd.N k27 27 wr w1.heap.size (fun k => w1.heap.size ≤ k) vl (σ.seg 0 i) ∧ Below w1.heap.size w1 wr) (fun _ vi _ => max 0 f - (intOf vi).toNat)
      case atStart => exact ⟨0, rfl, Nat.le_refl _, Nat.le_max_left _ _, by rw [Se.seg_self]; exact Kd.N_nil _ _ _ _ _, Below.refl _ _⟩
      case round =>
        obtain ⟨i, rfl, hi1, hi2, hN, hbl⟩ := hrel
        have HN := Lib.hid hN
        have HBL := Lib.hid hbl
        clear hN hbl
        rcases Nat.lt_or_ge i f with hlt | hge
        · have hlt2 : (i : Int) < (f : Int) := by omega
          have hi64 : i ≤ 64 := by omega
          have HLT := Lib.hid hlt
          have HI1 := Lib.hid hi1
          have hiL : i < σ.L.length := by rw [← HA.out]; omega
          have hd := data_ses (HW1.out.below HBL.out) i hiL (Nat.le_trans (OK.out.at_ i) (by omega)) (by have := OK.out.base0; show 0 ≤ σ.base; omega) (by have := OK.out.base1; have := OK.out.big; show σ.base ≤ _; omega) (by omega)
          obtain ⟨x, hx⟩ : ∃ x : S27, x = σ.frame i := ⟨_, rfl⟩
          have HD : Hid (Calls Try.prog 50 #[.pointer (some ⟨g, 0, none⟩), .int .i64 i] wr fun e w' => ∃ A5 c5, e = .returned (.agg #[.int .u8 x.f0, .int .u32 x.f1, .int .u32 x.f2, .int .u64 x.f3, .int .u64 x.f4, .slice A5 x.f5.length c5]) ∧ Kd.V KB 5 w' 0 (fun k => wr.heap.size ≤ k ∧ k < w'.heap.size) (.slice A5 x.f5.length c5) x.f5 ∧ Below wr.heap.size wr w') := by rw [hx]; exact Lib.hid hd
          have HX := Lib.hid hx
          have HGE := Lib.hid HBL.out.size
          have HLN : Hid ((σ.seg 0 i).length ≤ 64) := Lib.hid (by rw [Se.seg_len]; omega)
          clear hd hiL hlt hi1 hi2 hx
          go_wp2_with fail
          refine HD.out.mono ?_
          rintro e w2 ⟨A5, c5, rfl, hv2, hb2⟩
          have HV2 := Lib.hid hv2
          have HB2 := Lib.hid hb2
          have HS2 := Lib.hid hb2.size
          clear hv2 hb2 HD
          go_wp2_with (first
            | ((with_reducible refine gate_builtin (b := .append) (xs := #[.tmp 42, .tmp 46]) rfl ?_); at_builtin; refine Kd.N_append k27 (w0 := w1) w1.heap.size rfl (.tmp 42) (.tmp 46) 42 27 (.agg #[.int .u8 0, .int .u32 0, .int .u32 0, .int .u64 0, .int .u64 0, .slice none 0 0]) 56 rfl Try.underlying42 Try.info27 rfl (by decide) (by omega) _ (σ.seg 0 i) x [.int .u8 x.f0, .int .u32 x.f1, .int .u32 x.f2, .int .u64 x.f3, .int .u64 x.f4, .slice A5 x.f5.length c5] (fun k => w1.heap.size ≤ k) (fun k => wr.heap.size ≤ k ∧ k < w2.heap.size) rfl rfl ?bP3 ?bK3 ?bF3 ?bO3 ?bB3 ?bS3 ?bL3 ?_; (case bP3 => exact FK_frame HV2.out); (case bK3 => intro k hk; exact ⟨Nat.le_trans HGE.out hk.1, fun he => by have := Kd.N_lt HN.out k he.symm; have := hk.1; omega⟩); (case bF3 => intro k hk; have := HS2.out; have := HGE.out; omega); (case bO3 => exact Kd.N_below HN.out HB2.out); (case bB3 => exact below_then HBL.out HGE.out HB2.out); (case bS3 => have := HS2.out; have := HGE.out; omega); (case bL3 => have := HLN.out; omega); intro v3 w3 hr3 hb3 hg3 hat3; have HR3 := Lib.hid hr3; have HB3 := Lib.hid hb3; clear hr3 hb3 hg3 hat3))
          have hi0 : 0 ≤ i := HI1.out
          have hlt : i < f := HLT.out
          go_roundw
          case measure =>
            show max 0 f - ((i : Int) + 1).toNat < max 0 f - (i : Int).toNat
            omega
          case rel =>
            refine ⟨i + 1, rfl, by omega, by omega, ?_, HB3.out⟩
            rw [Se.seg_succ σ hi0, ← HX.out]
            exact HR3.out
        · have hge2 : (f : Int) ≤ (i : Int) := by omega
          have hie : i = max 0 f := by omega
          have HIE := Lib.hid hie
          have e3 := pw_cell_below HBL.out e2
          obtain ⟨A7, c7, hb7, _⟩ := (HW1.out.below HBL.out).open_
          have f3 := blk_free hb7 2
          clear hb7 hie hge hi1 hi2
          go_wp2_with fail
          go_ret
          obtain ⟨A9, c9, he9, h9⟩ := FIN.out σ.start w1 wr _ _ (by rw [HS.out, if_pos ⟨rfl, by rw [← HF.out]; exact HQ2.out⟩]) HW1.out HC1.out HZ1.out (by rw [← HIE.out]; exact HN.out) HBL.out rfl
          exact ⟨A9, c9, by rw [← he9]; rfl, h9⟩
    · have HQ := Lib.hid hq
      rcases Nat.eq_zero_or_pos s with h0 | h0
      · subst h0
        have hf0 : f = 0 := by omega
        have hf9 : decide ((0 : Int) < (f : Int)) = false := decide_eq_false (by omega)
        have hf8 : decide (0 < f) = false := decide_eq_false (by omega)
        have hf7 : ¬ 0 < f := by omega
        have HF0 := Lib.hid hf0
        clear hq hf0
        go_enter Try.func43, Try.ntmps43
        go_wp2_with fail
        go_quiet (first | (go_at_call 49; refine (flying_ses g A a c b _ ?_).mono ?_; exact d0; rintro e w' ⟨rfl, rfl⟩; exact ⟨rfl, _, rfl⟩))
        rw [HMN.out]
        obtain ⟨w1, hw1⟩ : ∃ w1, w1 = w.drewN nq := ⟨_, rfl⟩
        rw [← hw1]
        have e2 : w1.cell? ⟨g, 2, none⟩ = some (.int .i64 ((0 : Nat) : Int)) := by rw [hw1]; exact d2
        have HW1 : Hid (Ses M B g m σ w1) := Lib.hid (by rw [hw1]; exact H.out.drewN _)
        have HC1 : Hid (Chg M w w1) := Lib.hid (by rw [hw1]; exact (Chg.refl _ _).drewN _)
        have HZ1 : Hid (w1.heap.size = w.heap.size) := Lib.hid (by rw [hw1]; rfl)
        clear hw1 d0 d2 d4 d7
        go_wp2_with fail
        go_loopw [3, 5] (fun vl vi wr => ∃ i : Nat, vi = .int .i64 i ∧ 0 ≤ i ∧ i ≤ max 0 f ∧ Kd.N k27 27 wr w1.heap.size (fun k => w1.heap.size ≤ k) vl (σ.seg 0 i) ∧ Below w1.heap.size w1 wr) (fun _ vi _ => max 0 f - (intOf vi).toNat)
        case atStart => exact ⟨0, rfl, Nat.le_refl _, Nat.le_max_left _ _, by rw [Se.seg_self]; exact Kd.N_nil _ _ _ _ _, Below.refl _ _⟩
        case round =>
          obtain ⟨i, rfl, hi1, hi2, hN, hbl⟩ := hrel
          have HN := Lib.hid hN
          have HBL := Lib.hid hbl
          clear hN hbl
          rcases Nat.lt_or_ge i f with hlt | hge
          · exfalso
            have := HF0.out
            omega
          · have hge2 : (f : Int) ≤ (i : Int) := by omega
            have hie : i = max 0 f := by omega
            have HIE := Lib.hid hie
            have e3 := pw_cell_below HBL.out e2
            obtain ⟨A7, c7, hb7, _⟩ := (HW1.out.below HBL.out).open_
            have f3 := blk_free hb7 2
            clear hb7 hie hge hi1 hi2
            go_wp2_with fail
            go_ret
            obtain ⟨A9, c9, he9, h9⟩ := FIN.out σ w1 wr _ _ (by rw [if_neg (by rw [HS.out, ← HF.out]; intro h; exact HQ.out ⟨by omega, h.2⟩)]) HW1.out HC1.out HZ1.out (by rw [← HIE.out]; exact HN.out) HBL.out rfl
            exact ⟨A9, c9, by rw [← he9]; rfl, h9⟩
      · have hq4 : ((s : Int) == 0) = false := by simp; omega
        have hs9 : ¬ (s : Int) = 0 := by omega
        clear hq
        go_enter Try.func43, Try.ntmps43
        go_wp2_with fail
        go_quiet (first | (go_at_call 49; refine (flying_ses g A a c b _ ?_).mono ?_; exact d0; rintro e w' ⟨rfl, rfl⟩; exact ⟨rfl, _, rfl⟩))
        rw [HMN.out]
        obtain ⟨w1, hw1⟩ : ∃ w1, w1 = w.drewN nq := ⟨_, rfl⟩
        rw [← hw1]
        have e2 : w1.cell? ⟨g, 2, none⟩ = some (.int .i64 (s : Int)) := by rw [hw1]; exact d2
        have HW1 : Hid (Ses M B g m σ w1) := Lib.hid (by rw [hw1]; exact H.out.drewN _)
        have HC1 : Hid (Chg M w w1) := Lib.hid (by rw [hw1]; exact (Chg.refl _ _).drewN _)
        have HZ1 : Hid (w1.heap.size = w.heap.size) := Lib.hid (by rw [hw1]; rfl)
        clear hw1 d0 d2 d4 d7
        go_wp2_with fail
        go_loopw [3, 5] (fun vl vi wr => ∃ i : Nat, vi = .int .i64 i ∧ s ≤ i ∧ i ≤ max s f ∧ Kd.N k27 27 wr w1.heap.size (fun k => w1.heap.size ≤ k) vl (σ.seg s i) ∧ Below w1.heap.size w1 wr) (fun _ vi _ => max s f - (intOf vi).toNat)
        case atStart => exact ⟨s, rfl, Nat.le_refl _, Nat.le_max_left _ _, by rw [Se.seg_self]; exact Kd.N_nil _ _ _ _ _, Below.refl _ _⟩
        case round =>
          obtain ⟨i, rfl, hi1, hi2, hN, hbl⟩ := hrel
          have HN := Lib.hid hN
          have HBL := Lib.hid hbl
          clear hN hbl
          rcases Nat.lt_or_ge i f with hlt | hge
          · have hlt2 : (i : Int) < (f : Int) := by omega
            have hi64 : i ≤ 64 := by omega
            have HLT := Lib.hid hlt
            have HI1 := Lib.hid hi1
            have hiL : i < σ.L.length := by rw [← HA.out]; omega
            have hd := data_ses (HW1.out.below HBL.out) i hiL (Nat.le_trans (OK.out.at_ i) (by omega)) (by have := OK.out.base0; show 0 ≤ σ.base; omega) (by have := OK.out.base1; have := OK.out.big; show σ.base ≤ _; omega) (by omega)
            obtain ⟨x, hx⟩ : ∃ x : S27, x = σ.frame i := ⟨_, rfl⟩
            have HD : Hid (Calls Try.prog 50 #[.pointer (some ⟨g, 0, none⟩), .int .i64 i] wr fun e w' => ∃ A5 c5, e = .returned (.agg #[.int .u8 x.f0, .int .u32 x.f1, .int .u32 x.f2, .int .u64 x.f3, .int .u64 x.f4, .slice A5 x.f5.length c5]) ∧ Kd.V KB 5 w' 0 (fun k => wr.heap.size ≤ k ∧ k < w'.heap.size) (.slice A5 x.f5.length c5) x.f5 ∧ Below wr.heap.size wr w') := by rw [hx]; exact Lib.hid hd
            have HX := Lib.hid hx
            have HGE := Lib.hid HBL.out.size
            have HLN : Hid ((σ.seg s i).length ≤ 64) := Lib.hid (by rw [Se.seg_len]; omega)
            clear hd hiL hlt hi1 hi2 hx
            go_wp2_with fail
            refine HD.out.mono ?_
            rintro e w2 ⟨A5, c5, rfl, hv2, hb2⟩
            have HV2 := Lib.hid hv2
            have HB2 := Lib.hid hb2
            have HS2 := Lib.hid hb2.size
            clear hv2 hb2 HD
            go_wp2_with (first
              | ((with_reducible refine gate_builtin (b := .append) (xs := #[.tmp 42, .tmp 46]) rfl ?_); at_builtin; refine Kd.N_append k27 (w0 := w1) w1.heap.size rfl (.tmp 42) (.tmp 46) 42 27 (.agg #[.int .u8 0, .int .u32 0, .int .u32 0, .int .u64 0, .int .u64 0, .slice none 0 0]) 56 rfl Try.underlying42 Try.info27 rfl (by decide) (by omega) _ (σ.seg s i) x [.int .u8 x.f0, .int .u32 x.f1, .int .u32 x.f2, .int .u64 x.f3, .int .u64 x.f4, .slice A5 x.f5.length c5] (fun k => w1.heap.size ≤ k) (fun k => wr.heap.size ≤ k ∧ k < w2.heap.size) rfl rfl ?bP2 ?bK2 ?bF2 ?bO2 ?bB2 ?bS2 ?bL2 ?_; (case bP2 => exact FK_frame HV2.out); (case bK2 => intro k hk; exact ⟨Nat.le_trans HGE.out hk.1, fun he => by have := Kd.N_lt HN.out k he.symm; have := hk.1; omega⟩); (case bF2 => intro k hk; have := HS2.out; have := HGE.out; omega); (case bO2 => exact Kd.N_below HN.out HB2.out); (case bB2 => exact below_then HBL.out HGE.out HB2.out); (case bS2 => have := HS2.out; have := HGE.out; omega); (case bL2 => have := HLN.out; omega); intro v3 w3 hr3 hb3 hg3 hat3; have HR3 := Lib.hid hr3; have HB3 := Lib.hid hb3; clear hr3 hb3 hg3 hat3))
            have hi0 : s ≤ i := HI1.out
            have hlt : i < f := HLT.out
            go_roundw
            case measure =>
              show max s f - ((i : Int) + 1).toNat < max s f - (i : Int).toNat
              omega
            case rel =>
              refine ⟨i + 1, rfl, by omega, by omega, ?_, HB3.out⟩
              rw [Se.seg_succ σ hi0, ← HX.out]
              exact HR3.out
          · have hge2 : (f : Int) ≤ (i : Int) := by omega
            have hie : i = max s f := by omega
            have HIE := Lib.hid hie
            have e3 := pw_cell_below HBL.out e2
            obtain ⟨A7, c7, hb7, _⟩ := (HW1.out.below HBL.out).open_
            have f3 := blk_free hb7 2
            clear hb7 hie hge hi1 hi2
            go_wp2_with fail
            go_ret
            obtain ⟨A9, c9, he9, h9⟩ := FIN.out σ w1 wr _ _ (by rw [if_neg (by rw [HS.out, ← HF.out]; intro h; exact HQ.out ⟨by omega, h.2⟩)]) HW1.out HC1.out HZ1.out (by rw [← HIE.out]; exact HN.out) HBL.out rfl
            exact ⟨A9, c9, by rw [← he9]; rfl, h9⟩
end
end Go.Proofs.Ytlnhjkbhhdcdeaa
namespace Go.Proofs.Ytlnhjkbhhdcdeaa
open Go.RowKit Go.Proofs.YtlnhjkbhhdcdeaaW.PrintWords Go.Proofs.YtlnhjkbhhdcdeaaW.PrintLast Go.Proofs.YtlnhjkbhhdcdeaaW.PrintMore
open Go.Proofs.Ytlnhjkbhhdcdeaa.PSessionRuns (S27 k27 z27 S116 k116 z116)
set_option linter.unusedVariables false
set_option maxRecDepth 100000
set_option maxHeartbeats 2000000
attribute [local go_sem] max2_mx min2_mn max_two min_two
/-- A frame that is taken: its cells. -/
def tkc (g : Nat) (f : S27) (v5 vf vg : Value) : Array Value := #[.pointer (some ⟨g, 0, none⟩), .int .u8 f.f0, .int .u32 f.f1, .int .u32 f.f2, .int .u64 f.f3, .int .u64 f.f4, v5, vf, vg]
/-- Is this an acknowledgement of what is on its way? -/
def Se.tells (σ : Se) (ack : Int) : Bool := decide (σ.base ≤ ack) && decide (ack - σ.base < σ.sent)
def Se.told (σ : Se) (ack : Int) : Se :=
  if σ.tells ack then
    let σ1 : Se := { σ with L := σ.L.drop (ack - σ.base + 1).toNat, base := ack + 1, sent := σ.sent - (ack - σ.base + 1) }
    if 0 < σ1.sent then σ1.start else σ1.stop
  else σ
section
variable {M B : Nat → Prop} {g m : Nat} {σ : Se} {w : World} {n : Int}
theorem told_no (h : Ses M B g m σ w) (ok : Ok n σ) (t : Nat) (f : S27) (v5 vf vg : Value) (ht : w.heap[t]? = some (.cells (tkc g f v5 vf vg) 102 (0, 0))) (h0 : 0 ≤ f.f4) (h1 : f.f4 < 18446744073709551616) (hno : σ.tells f.f4 = false) :
    Calls Try.prog 48 #[.pointer (some ⟨t, 0, none⟩)] w fun e w' => e = .returned (.tuple #[]) ∧ Ses M B g m σ w' ∧ Chg M w w' := by
  obtain ⟨A, c, hb, _⟩ := h.open_
  have d1 := blk_cell hb 1 (.int .u64 σ.base) rfl
  have d2 := blk_cell hb 2 (.int .i64 σ.sent) rfl
  have t0 := blk_cell ht 0 (.pointer (some ⟨g, 0, none⟩)) rfl
  have t5 := blk_cell ht 5 (.int .u64 f.f4) rfl
  obtain ⟨a, ha⟩ : ∃ a, a = f.f4 := ⟨_, rfl⟩
  obtain ⟨b, hbe⟩ : ∃ b, b = σ.base := ⟨_, rfl⟩
  obtain ⟨s, hs⟩ : ∃ s, s = σ.sent := ⟨_, rfl⟩
  have k1 := ok.base0
  have k2 := ok.base1
  have k3 := ok.big
  have k4 := ok.sent0
  have k5 := ok.sent1
  unfold Se.tells at hno
  rw [← ha] at t5 h0 h1 hno
  rw [← hbe] at d1 k1 k2 hno
  rw [← hs] at d2 k4 k5 hno
  have k6 : b ≤ 4611686018427387904 := by omega
  have H := Lib.hid h
  clear h ok hb ht ha hbe hs k2 k3
  by_cases hlt : a < b
  · have q1 : decide (a < b) = true := decide_eq_true hlt
    clear hno
    go_enter Try.func48, Try.ntmps48
    go_wp2_with fail
    go_quiet (fail)
    go_wp2_with fail
    refine bodyPost_ret (results_none rfl _ _ _) rfl ?_
    exact ⟨rfl, H.out.drewN _, (Chg.refl _ _).drewN _⟩
  · have q1 : decide (a < b) = false := decide_eq_false hlt
    have q2 : s ≤ a - b := by
      rw [decide_eq_true (by omega : b ≤ a)] at hno
      simpa using hno
    clear hno
    go_enter Try.func48, Try.ntmps48
    go_wp2_with fail
    go_quiet (fail)
    go_wp2_with fail
    refine bodyPost_ret (results_none rfl _ _ _) rfl ?_
    exact ⟨rfl, H.out.drewN _, (Chg.refl _ _).drewN _⟩
/-- The tail of a row of messages. -/
theorem Qu.drop {A : Option Addr} {n c : Nat} {xs : List (List Int)} (h : Qu w M B (.slice A n c) xs) (k : Nat) (hk : k ≤ xs.length) : Qu w M B (.slice (if c = k then A else A.map (·.add (k * 1))) (n - k) (c - k)) (xs.drop k) := by
  obtain ⟨A', c', he, h2, h3, h4⟩ := h
  injection he with e1 e2 e3
  subst e1; subst e3; subst e2
  refine ⟨_, c - k, by rw [List.length_drop], by rw [List.length_drop]; omega, by omega, fun hc => ?_⟩
  obtain ⟨gq, o, cur, rfl, h5, h6, h7, h8⟩ := h4 (by omega)
  rw [if_neg (by omega)]
  refine ⟨gq, o + k, cur, ?_, h5, h6, by omega, fun i x hx => ?_⟩
  · rw [Option.map_some, add_at, Nat.mul_one]
  · rw [List.getElem?_drop] at hx
    obtain ⟨A5, c5, h9, h10⟩ := h8 _ x hx
    exact ⟨A5, c5, by rw [Nat.add_assoc]; exact h9, h10⟩
theorem told_yes (h : Ses M B g m σ w) (ok : Ok n σ) (t : Nat) (f : S27) (v5 vf vg : Value) (ht : w.heap[t]? = some (.cells (tkc g f v5 vf vg) 102 (0, 0))) (h0 : 0 ≤ f.f4) (h1 : f.f4 < 18446744073709551616) (hyes : σ.tells f.f4 = true) :
    Calls Try.prog 48 #[.pointer (some ⟨t, 0, none⟩)] w fun e w' => e = .returned (.tuple #[]) ∧ Ses M B g m (σ.told f.f4) w' ∧ Chg M w w' := by
  obtain ⟨A, c, hb, hc1, hc2, hM, hMm, hMl, hBl, hgm, hQ, hE, hf⟩ := h.open_
  have htg : t ≠ g := by
    rintro rfl
    rw [hb] at ht
    cases ht
  obtain ⟨hq1, hq2⟩ : σ.base ≤ f.f4 ∧ f.f4 - σ.base < σ.sent := by
    unfold Se.tells at hyes
    simpa using hyes
  have k0 := ok.sent2
  have k1 := ok.base0
  have k2 := ok.base1
  have k3 := ok.big
  have k4 := ok.sent0
  have k5 := ok.sent1
  obtain ⟨k, hk⟩ : ∃ k : Nat, f.f4 - σ.base + 1 = k := ⟨(f.f4 - σ.base + 1).toNat, by omega⟩
  have hkL : k ≤ σ.L.length := by omega
  have hQ2 := hQ.drop k hkL
  obtain ⟨i25, hi25, _, hs25, _⟩ := info_parts Try.info25
  have hcut := cut_from (P := Try.prog) 45 25 .i64 Try.underlying45 hi25 1 hs25 A σ.L.length c (k : Int) (by omega) (by omega)
  rw [Int.toNat_natCast] at hcut
  obtain ⟨A2, hA2⟩ : ∃ A2, A2 = (if c = k then A else A.map (·.add (k * 1))) := ⟨_, rfl⟩
  rw [← hA2] at hcut hQ2
  obtain ⟨a, ha⟩ : ∃ a, a = f.f4 := ⟨_, rfl⟩
  obtain ⟨b, hbe⟩ : ∃ b, b = σ.base := ⟨_, rfl⟩
  obtain ⟨s, hs⟩ : ∃ s, s = σ.sent := ⟨_, rfl⟩
  obtain ⟨l, hl⟩ : ∃ l, l = σ.L.length := ⟨_, rfl⟩
  have d0 := blk_cell hb 0 (.slice A σ.L.length c) rfl
  have d1 := blk_cell hb 1 (.int .u64 σ.base) rfl
  have d2 := blk_cell hb 2 (.int .i64 σ.sent) rfl
  have f0 := blk_free hb 0
  have f1 := blk_free hb 1
  have f2 := blk_free hb 2
  have t0 := blk_cell ht 0 (.pointer (some ⟨g, 0, none⟩)) rfl
  have t5 := blk_cell ht 5 (.int .u64 f.f4) rfl
  obtain ⟨σ1, hσ1⟩ : ∃ σ1 : Se, σ1 = { σ with L := σ.L.drop k, base := f.f4 + 1, sent := σ.sent - (f.f4 - σ.base + 1) } := ⟨_, rfl⟩
  have hT : σ.told f.f4 = if 0 < σ1.sent then σ1.start else σ1.stop := by
    unfold Se.told
    rw [if_pos hyes, hσ1, hk, Int.toNat_natCast]
  have FIN : Hid (∀ (d : Nat) (u1 u2 : Value), u1 = .int .u64 (σ.base + k) → u2 = .int .i64 (σ.sent - k) → Ses M B g m σ1 ((((w.drewN d).setCell ⟨g, 0, none⟩ (.slice A2 (σ.L.length - k) (c - k))).setCell ⟨g, 1, none⟩ u1).setCell ⟨g, 2, none⟩ u2) ∧ Chg M w ((((w.drewN d).setCell ⟨g, 0, none⟩ (.slice A2 (σ.L.length - k) (c - k))).setCell ⟨g, 1, none⟩ u1).setCell ⟨g, 2, none⟩ u2)) := by
    refine Lib.hid ?_
    intro d u1 u2 e1 e2
    have hb' : (w.drewN d).heap[g]? = some (.cells (σ.cells (.slice A σ.L.length c) m) 70 (0, 0)) := hb
    have hsz : ((((w.drewN d).setCell ⟨g, 0, none⟩ (.slice A2 (σ.L.length - k) (c - k))).setCell ⟨g, 1, none⟩ u1).setCell ⟨g, 2, none⟩ u2).heap.size = w.heap.size := by simp [World.setCell]
    have hsame : ∀ q, q ≠ g → ((((w.drewN d).setCell ⟨g, 0, none⟩ (.slice A2 (σ.L.length - k) (c - k))).setCell ⟨g, 1, none⟩ u1).setCell ⟨g, 2, none⟩ u2).heap[q]? = (w.drewN d).heap[q]? := fun q hq => ((Below.heap_setCell _ _ _ _ hq).trans (Below.heap_setCell _ _ _ _ hq)).trans (Below.heap_setCell _ _ _ _ hq)
    have hblk := blk_set (blk_set (blk_set hb' 0 (.slice A2 (σ.L.length - k) (c - k))) 1 u1) 2 u2
    refine ⟨⟨hM, hMm, fun q hq => by rw [hsz]; exact hMl q hq, fun q hq => by rw [hsz]; exact hBl q hq, .slice A2 (σ.L.length - k) (c - k), ?_, ?_, ?_⟩, ((((Chg.refl M w).drewN d).set _ _ (.inl hM)).set _ _ (.inl hM)).set _ _ (.inl hM)⟩
    · rw [hblk, e1, e2, hσ1, hk, show f.f4 + 1 = σ.base + k by omega]
      rfl
    · rw [hσ1]
      refine hQ2.step (fun q hq hql => ?_)
      by_cases hqg : q = g
      · subst hqg
        refine .inr (fun cur => ⟨?_, (hMl _ hM).2⟩)
        rw [hb]
        intro h
        injection h with h
        injection h with h8 h9
        cases h9
      · exact .inl (hsame q hqg)
    · rw [hσ1]
      exact hE.step (hsame m (fun h => hgm h.symm)) (fun q hq hql => hsame q (fun h => (hMl g hM).2 (h ▸ hq)))
  have K1 := Lib.hid (And.intro ok.now0 (And.intro ok.now1 (And.intro ok.tmr0 ok.tmr1)))
  rw [← hl] at d0 hcut FIN hkL
  have HT := Lib.hid hT
  rw [← ha] at t5 h0 h1 hq1 hq2 hk
  rw [← hbe] at d1 k1 k2 hq1 hq2 hk FIN
  rw [← hs] at d2 k4 k5 k0 hq2 FIN
  have hsg : σ1.sent = s - k := by
    rw [hσ1, ← hk, hs, hbe, ha]
  have hnw : σ1.now = σ.now ∧ σ1.tmr = σ.tmr := by rw [hσ1]; exact ⟨rfl, rfl⟩
  have k6 : b ≤ 4611686018427387904 := by omega
  have k7 : a - b < s := hq2
  have ekk : a - b + 1 = (k : Int) := hk
  have k8 : k ≤ 64 := by omega
  have k9 : (k : Int) ≤ s := by omega
  have HSG := Lib.hid hsg
  have HNW := Lib.hid hnw
  have HK := Lib.hid hk
  have q1 : decide (a < b) = false := decide_eq_false (by omega)
  clear h ok hb ht ha hbe hs k2 k3 hf hE hQ hQ2 hMl hBl hT hσ1 hA2 hl hyes hM hMm hgm hsg hnw hi25 hs25
  go_enter Try.func48, Try.ntmps48
  go_wp2_with fail
  go_quiet (fail)
  go_wp2_with fail
  go_quiet (fail)
  go_wp2_with fail
  go_region
  rcases Int.lt_or_le 0 (s - k) with hp | hp
  · go_wp2_with fail
    obtain ⟨g1, g2⟩ := FIN.out _ _ _ rfl rfl
    refine (start_ses g1 (by rw [HNW.out.1]; exact K1.out.1) (by rw [HNW.out.1]; exact K1.out.2.1) (by rw [HNW.out.2]; have := K1.out.2.2.1; omega) (by rw [HNW.out.2]; exact K1.out.2.2.2)).mono ?_
    rintro e w1 ⟨rfl, h3, h4, _⟩
    have H3 := Lib.hid h3
    have H4 := Lib.hid (g2.trans h4 (fun i hi => .inl hi))
    clear h3 h4 g1 g2
    go_wp2_with fail
    go_end0
    rw [HT.out, if_pos (by rw [HSG.out]; exact hp)]
    exact ⟨rfl, H3.out, H4.out⟩
  · go_wp2_with fail
    obtain ⟨g1, g2⟩ := FIN.out _ _ _ rfl rfl
    refine (stop_ses g1).mono ?_
    rintro e w1 ⟨rfl, h3, h4, _⟩
    have H3 := Lib.hid h3
    have H4 := Lib.hid (g2.trans h4 (fun i hi => .inl hi))
    clear h3 h4 g1 g2
    go_wp2_with fail
    go_end0
    rw [HT.out, if_neg (by rw [HSG.out]; omega)]
    exact ⟨rfl, H3.out, H4.out⟩
theorem told_ses (h : Ses M B g m σ w) (ok : Ok n σ) (t : Nat) (f : S27) (v5 vf vg : Value) (ht : w.heap[t]? = some (.cells (tkc g f v5 vf vg) 102 (0, 0))) (h0 : 0 ≤ f.f4) (h1 : f.f4 < 18446744073709551616) :
    Calls Try.prog 48 #[.pointer (some ⟨t, 0, none⟩)] w fun e w' => e = .returned (.tuple #[]) ∧ Ses M B g m (σ.told f.f4) w' ∧ Chg M w w' := by
  cases hq : σ.tells f.f4 with
  | true => exact told_yes h ok t f v5 vf vg ht h0 h1 hq
  | false =>
    have : σ.told f.f4 = σ := by unfold Se.told; rw [if_neg (by rw [hq]; simp)]
    rw [this]
    exact told_no h ok t f v5 vf vg ht h0 h1 hq
end
end Go.Proofs.Ytlnhjkbhhdcdeaa
namespace Go.Proofs.Ytlnhjkbhhdcdeaa
open Go.RowKit Go.Proofs.YtlnhjkbhhdcdeaaW.PrintWords Go.Proofs.YtlnhjkbhhdcdeaaW.PrintLast Go.Proofs.YtlnhjkbhhdcdeaaW.PrintMore
open Go.Proofs.Ytlnhjkbhhdcdeaa.PSessionRuns (S27 k27 z27 S116 k116 z116)
set_option linter.unusedVariables false
set_option maxRecDepth 100000
set_option maxHeartbeats 4000000
attribute [local go_sem] max2_mx min2_mn max_two min_two
def Se.helloF (σ : Se) : S27 := ⟨1, σ.boot, σ.peer, 0, 0, []⟩
def Se.ackF (σ : Se) : S27 := ⟨3, σ.boot, σ.peer, 0, σ.inn, []⟩
section
variable {M B : Nat → Prop} {g m : Nat} {σ : Se} {w : World} {n : Int}
theorem blk_size {w : World} {t : Nat} {cs : Array Value} {ty : TypeId} (h : w.heap[t]? = some (.cells cs ty (0, 0))) : t < w.heap.size := blk_lt h
theorem greeted_hello (h : Ses M B g m σ w) (t : Nat) (f : S27) (v5 vg : Value) (ht : w.heap[t]? = some (.cells (tkc g f v5 (.slice none 0 0) vg) 102 (0, 0))) (hto : f.f2 = 0) :
    Calls Try.prog 46 #[.pointer (some ⟨t, 0, none⟩)] w fun e w' => ∃ A c, e = .returned (.tuple #[]) ∧ w'.heap[t]? = some (.cells (tkc g f v5 (.slice A 1 c) vg) 102 (0, 0)) ∧ Kd.N k27 27 w' w.heap.size (fun k => w.heap.size ≤ k) (.slice A 1 c) [σ.helloF] ∧ Chg (fun k => k = t) w w' := by
  have H := Lib.hid h
  have t0 := blk_cell ht 0 (.pointer (some ⟨g, 0, none⟩)) rfl
  have t3 := blk_cell ht 3 (.int .u32 f.f2) rfl
  have t7 := blk_cell ht 7 (.slice none 0 0) rfl
  have htl := blk_lt ht
  obtain ⟨q, hq⟩ : ∃ q, q = f.f2 := ⟨_, rfl⟩
  rw [← hq] at t3 hto
  obtain ⟨x, hx⟩ : ∃ x, x = σ.helloF := ⟨_, rfl⟩
  have hc : Hid (∀ w1, Ses M B g m σ w1 → Calls Try.prog 38 #[.pointer (some ⟨g, 0, none⟩)] w1 fun e w' => e = .returned (.agg #[.int .u8 x.f0, .int .u32 x.f1, .int .u32 x.f2, .int .u64 x.f3, .int .u64 x.f4, .slice none 0 0]) ∧ Below w1.heap.size w1 w') := by
    rw [hx]
    exact Lib.hid (fun w1 h1 => hello_ses h1)
  have hxb : Hid (∀ w1 : World, Kd.FK k27 w1 (fun _ => False) x [.int .u8 x.f0, .int .u32 x.f1, .int .u32 x.f2, .int .u64 x.f3, .int .u64 x.f4, .slice none 0 0]) := by
    rw [hx]
    exact Lib.hid (fun w1 => FK_frame (x := σ.helloF) (A := none) (c := 0) (Kd.V_nil KB 5 w1 0 _))
  have HX := Lib.hid hx
  rw [← hx]
  have HT := Lib.hid ht
  have FIN : Hid (∀ (w3 : World) (A : Option Addr) (c : Nat), w3.heap[t]? = w.heap[t]? → Kd.N k27 27 w3 w.heap.size (fun k => w.heap.size ≤ k) (.slice A 1 c) [x] → Below w.heap.size w w3 → (w3.setCell ⟨t, 7, none⟩ (.slice A 1 c)).heap[t]? = some (.cells (tkc g f v5 (.slice A 1 c) vg) 102 (0, 0)) ∧ Kd.N k27 27 (w3.setCell ⟨t, 7, none⟩ (.slice A 1 c)) w.heap.size (fun k => w.heap.size ≤ k) (.slice A 1 c) [x] ∧ Chg (fun k => k = t) w (w3.setCell ⟨t, 7, none⟩ (.slice A 1 c))) := by
    refine Lib.hid ?_
    intro w3 A c h1 h2 h3
    refine ⟨?_, Kd.N_far h2 (fun k hk => ?_) _, (Chg.of_below h3 _).set _ _ (.inl rfl)⟩
    · rw [blk_set (h1.trans ht) 7 (.slice A 1 c)]
      rfl
    · show k ≠ t
      omega
  subst hto
  have HTL := Lib.hid htl
  clear h ht hx hq
  go_enter Try.func46, Try.ntmps46
  go_wp2_with fail
  go_region_law (first
      | (refine Kd.N_append_step k27 (w0 := w) w.heap.size (by rfl) (.tmp 12) (.tmp 18) 42 27 (.agg #[.int .u8 0, .int .u32 0, .int .u32 0, .int .u64 0, .int .u64 0, .slice none 0 0]) 56 (by rfl) Try.underlying42 Try.info27 rfl (by decide) (by omega) (.slice none 0 0) [] x [.int .u8 x.f0, .int .u32 x.f1, .int .u32 x.f2, .int .u64 x.f3, .int .u64 x.f4, .slice none 0 0] (fun k => w.heap.size ≤ k) (fun _ => False) (by rfl) (by rfl) ?aP ?aK ?aF ?aO ?aB ?aS ?aL ?_; (case aP => exact hxb.out _); (case aK => exact fun _ hk => hk.elim); (case aF => intro k hk; have := HB2.out.size; omega); (case aO => exact Kd.N_nil _ _ _ _ _); (case aB => exact HB2.out); (case aS => exact HB2.out.size); (case aL => simp); intro v3 w3 hs3 hb3 hg3 hat3; have hk3 := hb3.block t HTL.out; have hk4 := hk3.trans HT.out; have u7 := blk_cell hk4 7 (.slice none 0 0) rfl; have u8 := blk_free hk4 7; have u0 := blk_cell hk4 0 (.pointer (some ⟨g, 0, none⟩)) rfl; have HK3 := Lib.hid hk3; have HB3 := Lib.hid hb3; have HS3 := Lib.hid hs3; clear hs3 hb3 hg3 hat3 hk3 hk4; obtain ⟨A4, c4, e4⟩ := Kd.N_slice HS3.out; replace e4 : v3 = .slice A4 1 c4 := e4; subst e4)
      | (go_simp; go_at_call 38; refine (hc.out _ (H.out.drewN _)).mono ?_; rintro e w2 ⟨rfl, hb2⟩; replace hb2 : Below w.heap.size w w2 := ⟨hb2.os, hb2.tape, hb2.output, hb2.size, hb2.block⟩; have s0 := pw_cell_below hb2 t0; have s7 := pw_cell_below hb2 t7; have sA := (fun o => Lib.cell?_alloc_some o s0); have sB := (fun o => Lib.cell?_alloc_some o s7); have HB2 := Lib.hid hb2; clear hb2))
  all_goals
    go_wp2_with fail
    go_end0
    obtain ⟨a1, a2, a3⟩ := FIN.out _ _ _ HK3.out HS3.out HB3.out
    exact ⟨_, _, rfl, a1, a2, a3⟩
theorem greeted_ack (h : Ses M B g m σ w) (t : Nat) (f : S27) (v5 vg : Value) (ht : w.heap[t]? = some (.cells (tkc g f v5 (.slice none 0 0) vg) 102 (0, 0))) (hto : f.f2 ≠ 0) :
    Calls Try.prog 46 #[.pointer (some ⟨t, 0, none⟩)] w fun e w' => ∃ A c, e = .returned (.tuple #[]) ∧ w'.heap[t]? = some (.cells (tkc g f v5 (.slice A 1 c) vg) 102 (0, 0)) ∧ Kd.N k27 27 w' w.heap.size (fun k => w.heap.size ≤ k) (.slice A 1 c) [σ.ackF] ∧ Chg (fun k => k = t) w w' := by
  have H := Lib.hid h
  have t0 := blk_cell ht 0 (.pointer (some ⟨g, 0, none⟩)) rfl
  have t3 := blk_cell ht 3 (.int .u32 f.f2) rfl
  have t7 := blk_cell ht 7 (.slice none 0 0) rfl
  have htl := blk_lt ht
  obtain ⟨q, hq⟩ : ∃ q, q = f.f2 := ⟨_, rfl⟩
  rw [← hq] at t3 hto
  obtain ⟨x, hx⟩ : ∃ x, x = σ.ackF := ⟨_, rfl⟩
  have hc : Hid (∀ w1, Ses M B g m σ w1 → Calls Try.prog 68 #[.pointer (some ⟨g, 0, none⟩)] w1 fun e w' => e = .returned (.agg #[.int .u8 x.f0, .int .u32 x.f1, .int .u32 x.f2, .int .u64 x.f3, .int .u64 x.f4, .slice none 0 0]) ∧ Below w1.heap.size w1 w') := by
    rw [hx]
    exact Lib.hid (fun w1 h1 => ack_ses h1)
  have hxb : Hid (∀ w1 : World, Kd.FK k27 w1 (fun _ => False) x [.int .u8 x.f0, .int .u32 x.f1, .int .u32 x.f2, .int .u64 x.f3, .int .u64 x.f4, .slice none 0 0]) := by
    rw [hx]
    exact Lib.hid (fun w1 => FK_frame (x := σ.ackF) (A := none) (c := 0) (Kd.V_nil KB 5 w1 0 _))
  have HX := Lib.hid hx
  rw [← hx]
  have HT := Lib.hid ht
  have FIN : Hid (∀ (w3 : World) (A : Option Addr) (c : Nat), w3.heap[t]? = w.heap[t]? → Kd.N k27 27 w3 w.heap.size (fun k => w.heap.size ≤ k) (.slice A 1 c) [x] → Below w.heap.size w w3 → (w3.setCell ⟨t, 7, none⟩ (.slice A 1 c)).heap[t]? = some (.cells (tkc g f v5 (.slice A 1 c) vg) 102 (0, 0)) ∧ Kd.N k27 27 (w3.setCell ⟨t, 7, none⟩ (.slice A 1 c)) w.heap.size (fun k => w.heap.size ≤ k) (.slice A 1 c) [x] ∧ Chg (fun k => k = t) w (w3.setCell ⟨t, 7, none⟩ (.slice A 1 c))) := by
    refine Lib.hid ?_
    intro w3 A c h1 h2 h3
    refine ⟨?_, Kd.N_far h2 (fun k hk => ?_) _, (Chg.of_below h3 _).set _ _ (.inl rfl)⟩
    · rw [blk_set (h1.trans ht) 7 (.slice A 1 c)]
      rfl
    · show k ≠ t
      omega
  have hto2 : (q == 0) = false := by simpa using hto
  have HTL := Lib.hid htl
  clear h ht hx hq
  go_enter Try.func46, Try.ntmps46
  go_wp2_with fail
  go_region_law (first
      | (refine Kd.N_append_step k27 (w0 := w) w.heap.size (by rfl) (.tmp 26) (.tmp 32) 42 27 (.agg #[.int .u8 0, .int .u32 0, .int .u32 0, .int .u64 0, .int .u64 0, .slice none 0 0]) 56 (by rfl) Try.underlying42 Try.info27 rfl (by decide) (by omega) (.slice none 0 0) [] x [.int .u8 x.f0, .int .u32 x.f1, .int .u32 x.f2, .int .u64 x.f3, .int .u64 x.f4, .slice none 0 0] (fun k => w.heap.size ≤ k) (fun _ => False) (by rfl) (by rfl) ?aP ?aK ?aF ?aO ?aB ?aS ?aL ?_; (case aP => exact hxb.out _); (case aK => exact fun _ hk => hk.elim); (case aF => intro k hk; have := HB2.out.size; omega); (case aO => exact Kd.N_nil _ _ _ _ _); (case aB => exact HB2.out); (case aS => exact HB2.out.size); (case aL => simp); intro v3 w3 hs3 hb3 hg3 hat3; have hk3 := hb3.block t HTL.out; have hk4 := hk3.trans HT.out; have u7 := blk_cell hk4 7 (.slice none 0 0) rfl; have u8 := blk_free hk4 7; have u0 := blk_cell hk4 0 (.pointer (some ⟨g, 0, none⟩)) rfl; have HK3 := Lib.hid hk3; have HB3 := Lib.hid hb3; have HS3 := Lib.hid hs3; clear hs3 hb3 hg3 hat3 hk3 hk4; obtain ⟨A4, c4, e4⟩ := Kd.N_slice HS3.out; replace e4 : v3 = .slice A4 1 c4 := e4; subst e4)
      | (go_simp; go_at_call 68; refine (hc.out _ (H.out.drewN _)).mono ?_; rintro e w2 ⟨rfl, hb2⟩; replace hb2 : Below w.heap.size w w2 := ⟨hb2.os, hb2.tape, hb2.output, hb2.size, hb2.block⟩; have s0 := pw_cell_below hb2 t0; have s7 := pw_cell_below hb2 t7; have sA := (fun o => Lib.cell?_alloc_some o s0); have sB := (fun o => Lib.cell?_alloc_some o s7); have HB2 := Lib.hid hb2; clear hb2))
  all_goals
    go_wp2_with fail
    go_end0
    obtain ⟨a1, a2, a3⟩ := FIN.out _ _ _ HK3.out HS3.out HB3.out
    exact ⟨_, _, rfl, a1, a2, a3⟩
end
end Go.Proofs.Ytlnhjkbhhdcdeaa
namespace Go.Proofs.Ytlnhjkbhhdcdeaa
open Go Go.RowKit Go.Proofs.YtlnhjkbhhdcdeaaW.PrintWords Go.Proofs.YtlnhjkbhhdcdeaaW.PrintLast Go.Proofs.YtlnhjkbhhdcdeaaW.PrintMore
open Go.Proofs.Ytlnhjkbhhdcdeaa.PSessionRuns (S27 k27 z27 S116 k116 z116)
set_option linter.unusedVariables false
/-- Where a key stands. -/
def plc (E : List (Int × List Int)) (k : Int) (i : Nat) : Option Nat :=
  match E with
  | [] => none
  | p :: E => if k == p.1 then some i else plc E k (i + 1)
theorem place_plc {k : Int} : ∀ (EV : List (Int × Value)) (E : List (Int × List Int)) (i : Nat), EV.map (·.1) = E.map (·.1) → (place EV k i).map (·.1) = plc E k i
  | [], [], i, _ => by rw [place, plc]; rfl
  | [], _ :: _, _, h => by simp at h
  | _ :: _, [], _, h => by simp at h
  | e :: EV, p :: E, i, h => by
    rw [List.map_cons, List.map_cons, List.cons.injEq] at h
    rw [place, plc, h.1]
    cases hk : (k == p.1) with
    | true => simp
    | false => simp only [Bool.false_eq_true, if_false]; exact place_plc EV E (i + 1) h.2
theorem plc_lt {k : Int} : ∀ (E : List (Int × List Int)) (i : Nat) {j : Nat}, plc E k i = some j → i ≤ j ∧ j < i + E.length ∧ ∃ x, E[j - i]? = some (k, x)
  | [], _, _, h => by rw [plc] at h; cases h
  | p :: E, i, j, h => by
    rw [plc] at h
    by_cases hk : (k == p.1) = true
    · rw [if_pos hk] at h
      cases h
      have : k = p.1 := by simpa using hk
      exact ⟨Nat.le_refl _, by rw [List.length_cons]; omega, p.2, by simp [this]⟩
    · rw [if_neg hk] at h
      obtain ⟨h1, h2, x, h3⟩ := plc_lt E (i + 1) h
      refine ⟨by omega, by rw [List.length_cons]; omega, x, ?_⟩
      rw [show j - i = (j - (i + 1)) + 1 by omega, List.getElem?_cons_succ]
      exact h3
theorem zero25 (w : World) : (zeroValue 25).run Try.prog w = .ok (.slice none 0 0) w := by
  obtain ⟨i0, hi, hzz⟩ := Option.map_eq_some_iff.1 Try.info25
  simp only [Prod.mk.injEq] at hzz
  simp [zeroValue, typeInfo, hi, hzz.1]
/-- A key is struck, whatever has been drawn. -/
theorem run_strikeN {P : Program} {T K E : TypeId} {q : IntKind} {w : World} {b : Nat} {L : List (Int × Value)} {k : Int} (hT : P.underlying T = some (.map K E)) (hK : P.underlying K = some (.int q)) (h : MapAt w b q L) {j : Nat} {v : Value} (hp : place L k 0 = some (j, v)) (ty : TypeId) :
    ∃ o : Obj, ∀ n, (Builtin.delete_ #[T, K] ty #[.map (some b), .int q k]).run P (w.drewN n) = .ok (.tuple #[]) ((w.drewN n).putObj b o) ∧ MapAt ((w.drewN n).putObj b o) b q (L.eraseIdx j) := by
  obtain ⟨es, clock, hb0, hL0⟩ := h
  refine ⟨.map (es.eraseIdxIfInBounds j) clock, fun n => ?_⟩
  obtain ⟨es', clock', hg, hb, hL, hlt⟩ := (show MapAt (w.drewN n) b q L from ⟨es, clock, hb0, hL0⟩).get (P := P)
  have hee : es' = es ∧ clock' = clock := by
    have : (w.drewN n).heap[b]? = some (.map es clock) := hb0
    rw [this] at hb
    injection hb with hb
    injection hb with h1 h2
    exact ⟨h1.symm, h2.symm⟩
  obtain ⟨rfl, rfl⟩ := hee
  have hf := run_find (P := P) (w := w.drewN n) (k := k) hK hL
  have hc := run_check (P := P) (w := w.drewN n) (k := k) hK es'.isEmpty 9999
  have hu := run_underlying hT (w.drewN n)
  rw [hp] at hf
  refine ⟨?_, MapAt.put hlt ?_⟩
  · unfold Builtin.delete_
    simp [go_sem, hu, hg, hf, hc, run_setObj hb]
  · have : (es'.eraseIdxIfInBounds j).toList = es'.toList.eraseIdx j := by simp
    rw [this, map_erase, hL, map_erase]
section
variable {w w' : World} {B B' : Nat → Prop} {m : Nat} {E : List (Int × List Int)} {k : Int}
theorem putObj_far (w : World) (b : Nat) (o : Obj) (k : Nat) (h : k ≠ b) : (w.putObj b o).heap[k]? = w.heap[k]? := by
  simp [World.putObj, Ne.symm h]
theorem putObj_size (w : World) (b : Nat) (o : Obj) : (w.putObj b o).heap.size = w.heap.size := by simp [World.putObj]
theorem chg_putObj (w : World) (b : Nat) (o : Obj) : Chg (fun k => k = b) w (w.putObj b o) := ⟨rfl, rfl, rfl, by rw [putObj_size]; exact Nat.le_refl _, fun k _ hk => putObj_far w b o k hk⟩
theorem Em.keys {EV : List (Int × Value)} (hl : EV.length = E.length) (h : ∀ (i : Nat) (p : Int × List Int), E[i]? = some p → ∃ A5 c5, EV[i]? = some (p.1, .slice A5 p.2.length c5) ∧ Kd.V KB 5 w 0 B (.slice A5 p.2.length c5) p.2) : EV.map (·.1) = E.map (·.1) := by
  apply List.ext_getElem?
  intro i
  rw [List.getElem?_map, List.getElem?_map]
  cases hp : E[i]? with
  | none =>
    rw [List.getElem?_eq_none_iff] at hp
    rw [List.getElem?_eq_none (by omega)]
    rfl
  | some p =>
    obtain ⟨A5, c5, h1, _⟩ := h i p hp
    rw [h1]
    rfl
/-- A key that is not there. -/
theorem Em.gone (h : Em w B m E) (hk : plc E k 0 = none) : ∀ n, (Instr.lookup 68 (.map (some m)) (.int .u64 k) true).run Try.prog (w.drewN n) = .ok (.tuple #[.slice none 0 0, .bool false]) (w.drewN n) := by
  obtain ⟨EV, h1, h2, h3⟩ := h
  have hp := place_plc (k := k) EV E 0 (Em.keys h2 h3)
  rw [hk, Option.map_eq_none_iff] at hp
  intro n
  have := run_look (P := Try.prog) (T := 68) (K := 24) (E := 25) (k := k) Try.underlying68 Try.underlying24 (show MapAt (w.drewN n) m .u64 EV from h1) (zero25 (w.drewN n))
  rw [hp] at this
  exact this
/-- A key that is there. -/
theorem Em.there (h : Em w B m E) {j : Nat} (hk : plc E k 0 = some j) : j < E.length ∧ ∃ A5 c5, (∀ n, (Instr.lookup 68 (.map (some m)) (.int .u64 k) true).run Try.prog (w.drewN n) = .ok (.tuple #[.slice A5 (E.getD j (0, [])).2.length c5, .bool true]) (w.drewN n)) ∧ Kd.V KB 5 w 0 B (.slice A5 (E.getD j (0, [])).2.length c5) (E.getD j (0, [])).2 ∧
    ∃ o : Obj, ∀ n, (Builtin.delete_ #[68, 24] 0 #[.map (some m), .int .u64 k]).run Try.prog (w.drewN n) = .ok (.tuple #[]) ((w.drewN n).putObj m o) ∧ ((∀ i, B i → i ≠ m) → Em ((w.drewN n).putObj m o) B m (E.eraseIdx j)) := by
  obtain ⟨EV, h1, h2, h3⟩ := h
  have hp := place_plc (k := k) EV E 0 (Em.keys h2 h3)
  rw [hk, Option.map_eq_some_iff] at hp
  obtain ⟨⟨j', v⟩, hp, rfl⟩ := hp
  obtain ⟨q1, q2, q3⟩ := plc_lt E 0 hk
  obtain ⟨_, _, q4⟩ := place_lt EV 0 hp
  rw [Nat.sub_zero] at q4 q3
  simp only at q4 q3 q2
  have hj : j' < E.length := by omega
  have hg : E[j']? = some (E.getD j' (0, [])) := by rw [List.getD_eq_getElem?_getD, List.getElem?_eq_getElem hj]; rfl
  obtain ⟨A5, c5, q5, q6⟩ := h3 j' _ hg
  rw [q4] at q5
  injection q5 with q5
  injection q5 with q7 q8
  obtain ⟨o, oo⟩ := run_strikeN (P := Try.prog) (T := 68) (K := 24) (E := 25) (k := k) Try.underlying68 Try.underlying24 h1 hp 0
  refine ⟨hj, A5, c5, fun n => ?_, q6, o, fun n => ?_⟩
  · have := run_look (P := Try.prog) (T := 68) (K := 24) (E := 25) (k := k) Try.underlying68 Try.underlying24 (show MapAt (w.drewN n) m .u64 EV from h1) (zero25 (w.drewN n))
    rw [hp] at this
    rw [← q8]
    exact this
  · obtain ⟨o1, o2⟩ := oo n
    refine ⟨o1, fun hBm => ⟨EV.eraseIdx j', o2, by rw [List.length_eraseIdx_of_lt (by omega), List.length_eraseIdx_of_lt hj, h2], fun i p hi => ?_⟩⟩
    rw [List.getElem?_eraseIdx] at hi
    rw [List.getElem?_eraseIdx]
    have hst : ∀ i, B i → i < (w.drewN n).heap.size → ((w.drewN n).putObj m o).heap[i]? = (w.drewN n).heap[i]? := fun i hi _ => putObj_far _ m o i (hBm i hi)
    split at hi
    · rename_i hlt
      rw [if_pos hlt]
      obtain ⟨A6, c6, q9, q10⟩ := h3 i p hi
      exact ⟨A6, c6, q9, Kd.V_step (Kd.V_drewN q10 n) hst⟩
    · rename_i hlt
      rw [if_neg hlt]
      obtain ⟨A6, c6, q9, q10⟩ := h3 _ p hi
      exact ⟨A6, c6, q9, Kd.V_step (Kd.V_drewN q10 n) hst⟩
theorem Em.mono (h : Em w B m E) (hB : ∀ i, B i → B' i) : Em w B' m E := by
  obtain ⟨EV, h1, h2, h3⟩ := h
  refine ⟨EV, h1, h2, fun i p hp => ?_⟩
  obtain ⟨A5, c5, h4, h5⟩ := h3 i p hp
  exact ⟨A5, c5, h4, Kd.V_mono h5 hB⟩
theorem Qu.mono {M : Nat → Prop} {v : Value} {xs : List (List Int)} (h : Qu w M B v xs) (hB : ∀ i, B i → B' i) : Qu w M B' v xs := by
  obtain ⟨A, c, h1, h2, h3, h4⟩ := h
  refine ⟨A, c, h1, h2, h3, fun hc => ?_⟩
  obtain ⟨g, o, cur, rfl, h5, h6, h7, h8⟩ := h4 hc
  refine ⟨g, o, cur, rfl, h5, h6, h7, fun i x hx => ?_⟩
  obtain ⟨A5, c5, h9, h10⟩ := h8 i x hx
  exact ⟨A5, c5, h9, Kd.V_mono h10 hB⟩
/-- A new key. -/
theorem Em.put (h : Em w B m E) (hk : plc E k 0 = none) (hBm : ∀ i, B i → i ≠ m) {A5 : Option Addr} {c5 : Nat} {x : List Int} (hV : Kd.V KB 5 w 0 B (.slice A5 x.length c5) x) :
    ∃ o : Obj, (Instr.mapUpdate 68 (.map (some m)) (.int .u64 k) (.slice A5 x.length c5)).run Try.prog w = .ok () (w.putObj m o) ∧ Em (w.putObj m o) B m (E ++ [(k, x)]) := by
  obtain ⟨EV, h1, h2, h3⟩ := h
  have hp := place_plc (k := k) EV E 0 (Em.keys h2 h3)
  rw [hk, Option.map_eq_none_iff] at hp
  obtain ⟨o, o1, o2⟩ := run_put_new (P := Try.prog) (T := 68) (K := 24) (E := 25) (k := k) Try.underlying68 Try.underlying24 h1 hp (.slice A5 x.length c5)
  have hst : ∀ i, B i → i < w.heap.size → (w.putObj m o).heap[i]? = w.heap[i]? := fun i hi _ => putObj_far _ m o i (hBm i hi)
  refine ⟨o, o1, EV ++ [(k, .slice A5 x.length c5)], o2, by rw [List.length_append, List.length_append, h2]; rfl, fun i p hi => ?_⟩
  rcases Nat.lt_or_ge i E.length with hl | hl
  · rw [List.getElem?_append_left hl] at hi
    obtain ⟨A6, c6, q9, q10⟩ := h3 i p hi
    exact ⟨A6, c6, by rw [List.getElem?_append_left (by omega)]; exact q9, Kd.V_step q10 hst⟩
  · have hil := (List.getElem?_eq_some_iff.1 hi).1
    rw [List.length_append, List.length_singleton] at hil
    have : i = E.length := by omega
    subst this
    simp at hi
    subst hi
    exact ⟨A5, c5, by rw [List.getElem?_append_right (by omega), h2]; simp, Kd.V_step hV hst⟩
theorem Em.at_map (h : Em w B m E) : ∃ es cl, w.heap[m]? = some (.map es cl) := by
  obtain ⟨EV, ⟨es, cl, h, _⟩, _⟩ := h
  exact ⟨es, cl, h⟩
/-- The map of early messages turned. -/
theorem Ses.early {M : Nat → Prop} {g : Nat} {σ : Se} {E' : List (Int × List Int)} (h : Ses M B g m σ w) (hc : Chg (fun k => k = m) w w') (hB : ∀ k, B k → B' k) (hB2 : ∀ k, B' k → k < w'.heap.size ∧ ¬ M k) (hE : Em w' B' m E') : Ses M B' g m { σ with E := E' } w' := by
  obtain ⟨A, c, hb, h1, h2, hM, hMm, hMl, hBl, hgm, hQ, hEm, _⟩ := h.open_
  obtain ⟨es, cl, hm⟩ := hEm.at_map
  refine ⟨hM, hMm, fun k hk => ⟨Nat.lt_of_lt_of_le (hMl k hk).1 hc.size, fun hb => (hB2 k hb).2 hk⟩, fun k hk => (hB2 k hk).1, .slice A σ.L.length c, ?_, ?_, hE⟩
  · rw [hc.block g (hMl g hM).1 hgm, hb]
    rfl
  · refine Qu.mono (hQ.step (fun k hk hl => ?_)) hB
    by_cases hkm : k = m
    · subst hkm
      refine .inr (fun cur => ⟨?_, (hMl _ hMm).2⟩)
      rw [hm]
      intro h
      injection h with h
      cases h
    · exact .inl (hc.block k hl hkm)
theorem Ses.em {M : Nat → Prop} {g : Nat} {σ : Se} (h : Ses M B g m σ w) : Em w B m σ.E := by
  obtain ⟨A, c, hb, h1, h2, hM, hMm, hMl, hBl, hgm, hQ, hEm, _⟩ := h.open_
  exact hEm
theorem Ses.ne {M : Nat → Prop} {g : Nat} {σ : Se} (h : Ses M B g m σ w) : g ≠ m := by
  obtain ⟨A, c, hb, h1, h2, hM, hMm, hMl, hBl, hgm, hQ, hEm, _⟩ := h.open_
  exact hgm
end
end Go.Proofs.Ytlnhjkbhhdcdeaa
