/- The walks of the pair's rest, of meet and of awake. -/
import Derived.Test.YtlnhjkbhhdcdeaaSl6
import Derived.Test.YtlnhjkbhhdcdeaaSl7
import Derived.Test.YtlnhjkbhhdcdeaaMf
import Derived.Test.YtlnhjkbhhdcdeaaSl3
import Derived.Test.YtlnhjkbhhdcdeaaSl4
import Derived.Lib.SlBytesConst
namespace Go.Proofs.Ytlnhjkbhhdcdeaa
open Go Go.RowKit Go.Proofs.YtlnhjkbhhdcdeaaW.PrintWords Go.Proofs.YtlnhjkbhhdcdeaaW.PrintLast Go.Proofs.YtlnhjkbhhdcdeaaW.PrintMore
open Go.Proofs.Ytlnhjkbhhdcdeaa.PSessionRuns (S27 k27 z27 S116 k116 z116)
set_option linter.unusedVariables false
set_option maxRecDepth 100000
set_option maxHeartbeats 4000000
attribute [local go_sem] max2_mx min2_mn max_two min_two
section
variable {p : Nat} {lab : Nat → Nat} {st : Pa} {g m : Nat → Nat} {pv vt vs vg : Nat → Value} {w : World} {n : Int}
theorem ptake (A : PA 2 p lab st g m pv vt vs vg w) (ok : Pok n st) (hn : n + 70000 ≤ 1099511627776) (i : Nat) (hi : i < 2) (k : Nat) (hk : k ≤ 1099511627776) (stays : Bool) :
    Calls Try.prog 64 #[.pointer (some ⟨p, 0, none⟩), .int .i64 i, .int .i64 k, .bool stays] w (PQ p lab w (st.take i k stays)) := by
  have : i = 0 ∨ i = 1 := by omega
  rcases this with rfl | rfl
  · rcases Nat.lt_or_ge k (st.to_ 0).length with h | h
    · exact ptake0_yes A ok hn k stays h
    · exact ptake0_no A ok k hk stays h
  · rcases Nat.lt_or_ge k (st.to_ 1).length with h | h
    · exact ptake1_yes A ok hn k stays h
    · exact ptake1_no A ok k hk stays h
/-- What stands ahead of a round of rest. -/
def RQ (p : Nat) (lab : Nat → Nat) (w : World) (n : Int) (st : Pa) (q : Nat) (wr : World) : Prop :=
  ∃ lab' st' g m pv vt vs vg, PA 2 p lab' st' g m pv vt vs vg wr ∧ Ls lab lab' w wr ∧ Pk (n + 70000 * q) st' ∧ restF (4000 - q) q st' = restF 4000 0 st
theorem prest (A : PA 2 p lab st g m pv vt vs vg w) (pk : Pk n st) (hn : n + 300000000 ≤ 1099511627776) :
    Calls Try.prog 32 #[.pointer (some ⟨p, 0, none⟩)] w (PQ p lab w (restF 4000 0 st)) := by
  have HST : Hid (RQ p lab w n st 0 w) := Lib.hid ⟨lab, st, g, m, pv, vt, vs, vg, A, Ls.refl _ _, by simpa using pk, rfl⟩
  have HN := Lib.hid hn
  clear A pk hn
  go_enter Try.func32, Try.ntmps32
  go_wp2_with fail
  go_loopw [2] (fun v wr => ∃ q : Nat, v = .int .i64 q ∧ q ≤ 4000 ∧ Hid (RQ p lab w n st q wr)) (fun v _ => 4000 - (intOf v).toNat)
  case atStart => exact ⟨0, rfl, Nat.zero_le _, HST⟩
  case round =>
    obtain ⟨q, rfl, hq, hrq⟩ := hrel
    obtain ⟨lab', st', g', m', pv', vt', vs', vg', A, L, pk, hr⟩ := hrq.out
    obtain ⟨A0, c0, h0⟩ := (A.to_ 0 (by omega)).slice
    obtain ⟨A1, c1, h1⟩ := (A.to_ 1 (by omega)).slice
    have q8 := blk_cell A.blk 8 (.slice A0 (st'.to_ 0).length c0) (by rw [← h0]; rfl)
    have q9 := blk_cell A.blk 9 (.slice A1 (st'.to_ 1).length c1) (by rw [← h1]; rfl)
    have hb0 := pk.ok.to_ 0 (by omega)
    have hb1 := pk.ok.to_ 1 (by omega)
    have hnn := HN.out
    obtain ⟨l0, e0⟩ : ∃ l0, l0 = (st'.to_ 0).length := ⟨_, rfl⟩
    obtain ⟨l1, e1⟩ : ∃ l1, l1 = (st'.to_ 1).length := ⟨_, rfl⟩
    rw [← e0] at q8 hb0
    rw [← e1] at q9 hb1
    have k0 : (l0 : Int) ≤ 1099511627776 := by omega
    have k1 : (l1 : Int) ≤ 1099511627776 := by omega
    have AA := Lib.hid A
    have LL := Lib.hid L
    have PK := Lib.hid pk
    have HR := Lib.hid hr
    have E01 := Lib.hid (And.intro e0 e1)
    clear A L pk hr e0 e1 h0 h1 hb0 hb1 hnn hrq
    rcases Nat.lt_or_ge q 4000 with hlt | hge
    · have hq4 : decide ((q : Int) < 4000) = true := by simp; omega
      have HLT := Lib.hid hlt
      by_cases hl : 0 < l0 + l1
      · have hl2 : decide ((0 : Int) < (l0 : Int) + (l1 : Int)) = true := by simp; omega
        have HL := Lib.hid hl
        have hcl : Hid (∀ d, Calls Try.prog 64 #[.pointer (some ⟨p, 0, none⟩), .int .i64 ((q : Int) % 2), .int .i64 0, .bool false] (wr.drewN d) (PQ p lab' (wr.drewN d) (st'.take (q % 2) 0 false))) := by
          refine Lib.hid (fun d => ?_)
          have := ptake (AA.out.drewN d) PK.out.ok (by have := HN.out; omega) (q % 2) (by omega) 0 (by omega) false
          rw [show ((q % 2 : Nat) : Int) = (q : Int) % 2 by omega] at this
          exact this
        have hq0 : (0 : Int) ≤ (q : Int) := by omega
        clear hl hlt hq
        go_wp2_with fail
        go_quiet (fail)
        go_wp2_with fail
        refine (hcl.out _).mono ?_
        rintro e w3 ⟨rfl, lab3, g3, m3, pv3, vt3, vs3, vg3, A3, L3⟩
        have HRQ : Hid (RQ p lab w n st (q + 1) w3) := by
          refine Lib.hid ⟨lab3, _, g3, m3, pv3, vt3, vs3, vg3, A3, (LL.out.trans (Ls.below (pw_below_drewN (Below.refl _ _) nq))).trans L3, ?_, ?_⟩
          · have := PK.out.take (q % 2) (by omega) 0 false (by have := HN.out; have := HLT.out; omega)
            rw [show n + 70000 * ((q + 1 : Nat) : Int) = n + 70000 * (q : Int) + 70000 by omega]
            exact this
          · rw [← HR.out]
            have h5 := HLT.out
            rw [show 4000 - q = (4000 - (q + 1)) + 1 by omega, restF, if_pos (by rw [← E01.out.1, ← E01.out.2]; exact HL.out)]
        have hlt := HLT.out
        clear A3 L3 hcl
        go_wp2_with fail
        go_roundw
        case rel =>
          refine ⟨q + 1, ?_, by omega, HRQ⟩
          go_num
        case measure => simp [intOf]; omega
      · have hl2 : decide ((0 : Int) < (l0 : Int) + (l1 : Int)) = false := by simp; omega
        have HFI : Hid (restF 4000 0 st = st') := by
          refine Lib.hid ?_
          rw [← HR.out, show 4000 - q = (4000 - (q + 1)) + 1 by omega, restF, if_neg (by rw [← E01.out.1, ← E01.out.2]; exact hl)]
        clear hl hlt hq
        go_wp2_with fail
        go_quiet (fail)
        go_wp2_with fail
        go_end0
        refine ⟨rfl, lab', g', m', pv', vt', vs', vg', ?_, LL.out.trans (Ls.below (pw_below_drewN (Below.refl _ _) nq))⟩
        rw [HFI.out]
        exact AA.out.drewN _
    · have hq4 : decide ((q : Int) < 4000) = false := by simp; omega
      have HFI : Hid (restF 4000 0 st = st') := by
        refine Lib.hid ?_
        rw [← HR.out, show 4000 - q = 0 by omega, restF]
      clear hge hq
      go_wp2_with fail
      go_quiet (fail)
      go_wp2_with fail
      go_end0
      refine ⟨rfl, lab', g', m', pv', vt', vs', vg', ?_, LL.out.trans (Ls.below (pw_below_drewN (Below.refl _ _) nq))⟩
      rw [HFI.out]
      exact AA.out.drewN _
end
end Go.Proofs.Ytlnhjkbhhdcdeaa
namespace Go.Proofs.Ytlnhjkbhhdcdeaa
open Go Go.RowKit Go.Proofs.YtlnhjkbhhdcdeaaW.PrintWords Go.Proofs.YtlnhjkbhhdcdeaaW.PrintLast Go.Proofs.YtlnhjkbhhdcdeaaW.PrintMore
open Go.Proofs.Ytlnhjkbhhdcdeaa.PSessionRuns (S27 k27 z27 S116 k116 z116)
set_option linter.unusedVariables false
set_option maxRecDepth 100000
set_option maxHeartbeats 4000000
attribute [local go_sem] max2_mx min2_mn max_two min_two
section
variable {h p : Nat} {lab lab' : Nat → Nat} {st : Pa} {g m : Nat → Nat} {pv vt vs vg : Nat → Value} {w w' : World} {a c : Nat}
theorem PA.newSes (A : PA h p lab st g m pv vt vs vg w) (i : Nat) (hi : i < 2) (h' : Nat) (hh : ∀ j, j < h' → j < h ∨ j = i) (h2 : h' ≤ 2) {M : Nat → Prop} {g' m' : Nat} {σ' : Se} (hs : Ses M (fun _ => False) g' m' σ' w') (hb : Below w.heap.size w w') (hM : ∀ k, M k → w.heap.size ≤ k) :
    ∃ lab', Ls lab lab' w (w'.setCell ⟨p, 6 + i, none⟩ (.pointer (some ⟨g', 0, none⟩))) ∧ w'.heap[p]? = some (.cells (pac st pv vt vs vg) 87 (0, 0)) ∧ (∀ k, w.heap.size ≤ k → k < w'.heap.size → ¬ M k → lab' k = 1) ∧
      PA h' p lab' { st with s := upd st.s i σ' } (upd g i g') (upd m i m') (upd pv i (.pointer (some ⟨g', 0, none⟩))) vt vs vg (w'.setCell ⟨p, 6 + i, none⟩ (.pointer (some ⟨g', 0, none⟩))) := by
  classical
  obtain ⟨lab', hl⟩ : ∃ lab' : Nat → Nat, lab' = fun k => if k < w.heap.size then (if lab k = 2 + i then 1 else lab k) else if M k then 2 + i else if k < w'.heap.size then 1 else 0 := ⟨_, rfl⟩
  have hdrop : ∀ k, k < w.heap.size → lab k = 2 + i → lab' k = 1 := fun k hk he => by rw [hl]; simp only [if_pos hk, if_pos he]
  have hold : ∀ k, k < w.heap.size → lab k ≠ 2 + i → lab' k = lab k := fun k hk he => by rw [hl]; simp only [if_pos hk, if_neg he]
  have hML : ∀ k, M k → k < w'.heap.size := fun k hk => (hs.2.2.1 k hk).1
  have hown : ∀ k, M k → lab' k = 2 + i := fun k hk => by
    have := hM k hk
    rw [hl]
    simp only [if_neg (by omega : ¬ k < w.heap.size), if_pos hk]
  have hnew : ∀ k, w.heap.size ≤ k → k < w'.heap.size → ¬ M k → lab' k = 1 := fun k h1 h2 h3 => by rw [hl]; simp only [if_neg (by omega : ¬ k < w.heap.size), if_neg h3, if_pos h2]
  have hno : ∀ k, w'.heap.size ≤ k → lab' k = 0 := fun k h1 => by
    have := hb.size
    rw [hl]
    simp only [if_neg (by omega : ¬ k < w.heap.size), if_neg (fun h => by have := hML k h; omega : ¬ M k), if_neg (by omega : ¬ k < w'.heap.size)]
  have hMM : ∀ k, M k ↔ lab' k = 2 + i := fun k => by
    refine ⟨hown k, fun hk => ?_⟩
    rcases Nat.lt_or_ge k w.heap.size with q | q
    · by_cases he : lab k = 2 + i
      · have := hdrop k q he
        omega
      · have := hold k q he
        omega
    · rcases Nat.lt_or_ge k w'.heap.size with q2 | q2
      · by_cases hm : M k
        · exact hm
        · have := hnew k q q2 hm
          omega
      · have := hno k q2
        omega
  have L : Lb (2 + i) lab lab' w w' := ⟨fun k hk => by
      by_cases he : lab k = 2 + i
      · exact .inr ⟨he, hdrop k hk he⟩
      · exact .inl (hold k hk he), fun k hk => by
      rcases Nat.lt_or_ge k w'.heap.size with q | q
      · by_cases hm : M k
        · exact .inl (hown k hm)
        · exact .inr (.inl (hnew k hk q hm))
      · exact .inr (.inr (hno k q)), fun k hk => by
      rcases Nat.lt_or_ge k w'.heap.size with q | q
      · exact q
      · exact absurd (hno k q) hk, hb.size, hb.os, hb.tape, hb.output, fun k hk _ => hb.block k hk⟩
  obtain ⟨e1, e2⟩ := A.blk_lb L (by omega)
  have ha := A.two
  have L2 := Lb.put lab' w' ⟨p, 6 + i, none⟩ (.pointer (some ⟨g', 0, none⟩)) L.lim e1
  refine ⟨lab', (L.ls (by omega)).trans (L2.ls (by omega)), e2, hnew, h2, L2.lim, e1, ?_, fun j hj => ?_, fun j hj => ((A.to_ j hj).lb L (by omega) (by omega)).lb L2 (by omega) (by omega), fun j hj => ((A.sent j hj).lb L (by omega) (by omega)).lb L2 (by omega) (by omega), fun j hj => ((A.got j hj).lb L (by omega) (by omega)).lb L2 (by omega) (by omega)⟩
  · rw [blk_set e2]
    have : i = 0 ∨ i = 1 := by omega
    rcases this with rfl | rfl <;> simp [pac, upd]
  · by_cases hji : j = i
    · subst hji
      refine ⟨by rw [upd_at, upd_at], ?_⟩
      show Ses _ _ (upd g j g' j) (upd m j m' j) (upd st.s j σ' j) _
      rw [upd_at, upd_at, upd_at]
      exact (hs.congr hMM (fun _ hk => hk.elim) (fun k hk => ⟨L.lim k (by omega), by omega⟩)).lb L2 (by omega) (by omega) (by omega) (by omega)
    · have hjh := (hh j hj).resolve_right hji
      refine ⟨by rw [upd_ne _ _ hji, upd_ne _ _ hji]; exact (A.ses j hjh).1, ?_⟩
      show Ses _ _ (upd g i g' j) (upd m i m' j) (upd st.s i σ' j) _
      rw [upd_ne _ _ hji, upd_ne _ _ hji, upd_ne _ _ hji]
      exact ((A.ses j hjh).2.lb L (by omega) (by omega) (by omega) (by omega)).lb L2 (by omega) (by omega) (by omega) (by omega)
end
theorem size39 : (Try.prog.info? 39).map (·.size) = some 3 := by kernel_rfl
theorem load39 {w : World} {g : Nat} {cs : Array Value} {t : TypeId} {fr : Nat × Nat} (h : w.heap[g]? = some (.cells cs t fr)) (hs : cs.size = 3) : (loadVar 39 ⟨g, 0, none⟩).run Try.prog w = .ok (.agg cs) w :=
  run_loadVar_row w g t 39 cs fr _ h Try.underlying39 rfl (by rw [hs]; exact size39)
theorem res31 : Try.f31.results = #[.cell 2 39] := rfl
theorem conf_w (b : Int) (w : World) : Calls Try.prog 31 #[.int .u32 b] w fun e w' => e = .returned (.agg #[.int .u32 b, .int .i64 4, .int .i64 100]) ∧ Below w.heap.size w w' := by
  go_enter Try.func31, Try.ntmps31
  go_wp2_with fail
  refine bodyPost_ret_by (results_c res31 (g := w.heap.size) rfl (load39 (heap_alloc_new w _) rfl)) rfl ⟨rfl, below_alloc (Below.refl _ _) _⟩
end Go.Proofs.Ytlnhjkbhhdcdeaa
namespace Go.Proofs.Ytlnhjkbhhdcdeaa
open Go Go.RowKit Go.Proofs.YtlnhjkbhhdcdeaaW.PrintWords Go.Proofs.YtlnhjkbhhdcdeaaW.PrintLast Go.Proofs.YtlnhjkbhhdcdeaaW.PrintMore
open Go.Proofs.Ytlnhjkbhhdcdeaa.PSessionRuns (S27 k27 z27 S116 k116 z116)
set_option linter.unusedVariables false
set_option maxRecDepth 100000
set_option maxHeartbeats 4000000
attribute [local go_sem] max2_mx min2_mn max_two min_two
/-- Two sessions that meet, of which i are there. -/
def mst (bo wi tm : Nat → Int) : Nat → Pa
  | 0 => ⟨bo, wi, tm, fun _ => se0 0 0 0 0, fun _ => [], fun _ => [], fun _ => [], 0, false⟩
  | i + 1 => { mst bo wi tm i with s := upd (mst bo wi tm i).s i (se0 (bo i) (wi i) (tm i) 0).start, to_ := upd (mst bo wi tm i).to_ (1 - i) ((mst bo wi tm i).to_ (1 - i) ++ [(se0 (bo i) (wi i) (tm i) 0).start.helloF]) }
theorem mst_conf (bo wi tm : Nat → Int) : ∀ i, (mst bo wi tm i).boot = bo ∧ (mst bo wi tm i).win = wi ∧ (mst bo wi tm i).tmr = tm
  | 0 => ⟨rfl, rfl, rfl⟩
  | i + 1 => mst_conf bo wi tm i
theorem mst_len (bo wi tm : Nat → Int) : ∀ i k, ((mst bo wi tm i).to_ k).length ≤ i
  | 0, k => by simp [mst]
  | i + 1, k => by
    have h := mst_len bo wi tm i
    show (upd (mst bo wi tm i).to_ (1 - i) ((mst bo wi tm i).to_ (1 - i) ++ [(se0 (bo i) (wi i) (tm i) 0).start.helloF]) k).length ≤ i + 1
    by_cases hk : k = 1 - i
    · subst hk
      rw [upd_at, List.length_append, List.length_singleton]
      have := h (1 - i)
      omega
    · rw [upd_ne _ _ hk]
      have := h k
      omega
/-- What meet leaves. -/
def MtP (w : World) (st : Pa) (e : Ending) (w' : World) : Prop :=
  ∃ p lab g m pv vt vs vg, e = .returned (.tuple #[.pointer (some ⟨p, 0, none⟩), .bool true]) ∧ PA 2 p lab st g m pv vt vs vg w' ∧ Below w.heap.size w w' ∧ ∀ k, k < w.heap.size → lab k = 0
def MQ (p : Nat) (lab0 : Nat → Nat) (W1 : World) (bo wi tm : Nat → Int) (i : Nat) (wr : World) : Prop :=
  ∃ lab g m pv vt vs vg, PA i p lab (mst bo wi tm i) g m pv vt vs vg wr ∧ Ls lab0 lab W1 wr
theorem meet_w (bo wi tm : Nat → Int) (h0 : badc (bo 0) (wi 0) (tm 0) = false) (h1 : badc (bo 1) (wi 1) (tm 1) = false) (w : World) :
    Calls Try.prog 30 #[.agg #[.int .u32 (bo 0), .int .i64 (wi 0), .int .i64 (tm 0)], .agg #[.int .u32 (bo 1), .int .i64 (wi 1), .int .i64 (tm 1)]] w (MtP w (mst bo wi tm 2)) := by
  have HBC : Hid (∀ i, i < 2 → badc (bo i) (wi i) (tm i) = false) := Lib.hid (fun i hi => by
    have : i = 0 ∨ i = 1 := by omega
    rcases this with rfl | rfl
    · exact h0
    · exact h1)
  clear h0 h1
  obtain ⟨b0, eb0⟩ : ∃ x, x = bo 0 := ⟨_, rfl⟩
  obtain ⟨b1, eb1⟩ : ∃ x, x = bo 1 := ⟨_, rfl⟩
  obtain ⟨w0, ew0⟩ : ∃ x, x = wi 0 := ⟨_, rfl⟩
  obtain ⟨w1, ew1⟩ : ∃ x, x = wi 1 := ⟨_, rfl⟩
  obtain ⟨t0, et0⟩ : ∃ x, x = tm 0 := ⟨_, rfl⟩
  obtain ⟨t1, et1⟩ : ∃ x, x = tm 1 := ⟨_, rfl⟩
  have EQ := Lib.hid (And.intro eb0 (And.intro eb1 (And.intro ew0 (And.intro ew1 (And.intro et0 et1)))))
  rw [← eb0, ← eb1, ← ew0, ← ew1, ← et0, ← et1]
  clear eb0 eb1 ew0 ew1 et0 et1
  go_enter Try.func30, Try.ntmps30
  go_upto_region 2 with fail
  obtain ⟨p, hp⟩ : ∃ p, p = w.heap.size + 2 := ⟨_, rfl⟩
  have z1 : (w.alloc (.cells #[.int .u32 b0, .int .i64 w0, .int .i64 t0] 39)).heap.size = w.heap.size + 1 := World.size_alloc _ _
  have z2 : ((w.alloc (.cells #[.int .u32 b0, .int .i64 w0, .int .i64 t0] 39)).alloc (.cells #[.int .u32 b1, .int .i64 w1, .int .i64 t1] 39)).heap.size = w.heap.size + 2 := by rw [World.size_alloc, z1]
  obtain ⟨W1, hW1⟩ : ∃ W1, W1 = ((w.alloc (.cells #[.int .u32 b0, .int .i64 w0, .int .i64 t0] 39)).alloc (.cells #[.int .u32 b1, .int .i64 w1, .int .i64 t1] 39)).alloc (.cells (pac (mst bo wi tm 0) (fun _ => .pointer none) (fun _ => .slice none 0 0) (fun _ => .slice none 0 0) (fun _ => .slice none 0 0)) 87) := ⟨_, rfl⟩
  have hblk : W1.heap[p]? = some (.cells (pac (mst bo wi tm 0) (fun _ => .pointer none) (fun _ => .slice none 0 0) (fun _ => .slice none 0 0) (fun _ => .slice none 0 0)) 87 (0, 0)) := by
    rw [hW1, hp, ← z2]
    exact heap_alloc_new _ _
  have hbw : Below w.heap.size w W1 := by
    rw [hW1]
    exact below_then (below_then (below_alloc (Below.refl _ _) _) (by rw [z1]; omega) (below_alloc (Below.refl _ _) _)) (by rw [z2]; omega) (below_alloc (Below.refl _ _) _)
  have hsz : W1.heap.size = w.heap.size + 3 := by rw [hW1, World.size_alloc, z2]
  obtain ⟨lab0, hl0⟩ : ∃ lab0 : Nat → Nat, lab0 = fun k => if k = p then 4 else 0 := ⟨_, rfl⟩
  have hPA : PA 0 p lab0 (mst bo wi tm 0) (fun _ => 0) (fun _ => 0) (fun _ => .pointer none) (fun _ => .slice none 0 0) (fun _ => .slice none 0 0) (fun _ => .slice none 0 0) W1 := by
    refine ⟨by omega, fun k hk => ?_, by rw [hl0]; simp, hblk, fun i hi => by omega, fun i hi => Row.nil _ _ _ _ _, fun i hi => Row.nil _ _ _ _ _, fun i hi => Row.nil _ _ _ _ _⟩
    rw [hl0] at hk
    by_cases he : k = p
    · omega
    · simp [he] at hk
  have hnew : ((w.alloc (.cells #[.int .u32 b0, .int .i64 w0, .int .i64 t0] 39)).alloc (.cells #[.int .u32 b1, .int .i64 w1, .int .i64 t1] 39)).alloc (.cells #[.int .u32 b0, .int .i64 w0, .int .i64 t0, .int .u32 b1, .int .i64 w1, .int .i64 t1, .pointer none, .pointer none, .slice none 0 0, .slice none 0 0, .slice none 0 0, .slice none 0 0, .slice none 0 0, .slice none 0 0, .int .i64 0, .bool false] 87) = W1 := by
    have h := EQ.out
    rw [hW1, h.1, h.2.1, h.2.2.1, h.2.2.2.1, h.2.2.2.2.1, h.2.2.2.2.2]
    rfl
  have HST : Hid (MQ p lab0 W1 bo wi tm 0 W1) := Lib.hid ⟨lab0, _, _, _, _, _, _, hPA, Ls.refl _ _⟩
  rw [hnew, ← hp]
  have HBW := Lib.hid hbw
  have HP := Lib.hid (And.intro hp hl0)
  clear hPA hblk hW1 z1 z2 hnew hbw hp hl0 hsz
  go_wp2_with fail
  go_loopw [7] (fun v wr => ∃ i : Nat, v = .int .i64 i ∧ i ≤ 2 ∧ Hid (MQ p lab0 W1 bo wi tm i wr)) (fun v _ => 2 - (intOf v).toNat)
  case atStart => exact ⟨0, rfl, Nat.zero_le _, HST⟩
  case round =>
    obtain ⟨i, rfl, hi, hmq⟩ := hrel
    have h3 : i = 0 ∨ i = 1 ∨ i = 2 := by omega
    rcases h3 with rfl | rfl | rfl
    · obtain ⟨lab, g, m, pv, vt, vs, vg, A, L⟩ := hmq.out
      have q0 := blk_cell A.blk 0 (.int .u32 b0) (by rw [EQ.out.1]; rfl)
      have q1 := blk_cell A.blk 1 (.int .i64 w0) (by rw [EQ.out.2.2.1]; rfl)
      have q2 := blk_cell A.blk 2 (.int .i64 t0) (by rw [EQ.out.2.2.2.2.1]; rfl)
      have hcl : Hid (∀ W, Calls Try.prog 13 #[.agg #[.int .u32 b0, .int .i64 w0, .int .i64 t0], .int .i64 0] W (NewP W (se0 b0 w0 t0 0))) := by
        refine Lib.hid (fun W => new_ok b0 w0 t0 0 ?_ (by decide))
        have := HBC.out 0 (by omega)
        rw [← EQ.out.1, ← EQ.out.2.2.1, ← EQ.out.2.2.2.2.1] at this
        exact this
      have HA := Lib.hid A
      have HL := Lib.hid L
      obtain ⟨σ, hσ⟩ : ∃ σ, σ = (se0 b0 w0 t0 0).start := ⟨_, rfl⟩
      have HSI := Lib.hid hσ
      clear hmq A L hσ
      go_wp2_with fail
      refine (hcl.out _).mono ?_
      rintro e w3 ⟨M, g', m', A9, rfl, e2, e3, e4, e5⟩
      obtain ⟨lab2, L2, hbk, hnew, A2⟩ := HA.out.newSes 0 (by omega) (0 + 1) (fun j hj => by omega) (by omega) e2 e3 e4
      have u6 := blk_cell hbk 6 (pv 0) rfl
      have f6 := blk_free hbk 6
      have hVf : Kd.V k27 27 (w3.setCell ⟨p, 6, none⟩ (.pointer (some ⟨g', 0, none⟩))) 0 (fun k => lab2 k = 1) (.slice A9 1 1) [σ.helloF] := by
        rw [HSI.out]
        refine Kd.V_mono (Kd.V_far (Kd.V_mono e5 (fun k hk => (hnew k hk.1 hk.2.1 hk.2.2 : lab2 k = 1))) (fun k hk => ?_) _) (fun k hk => hk)
        show k ≠ p
        rintro rfl
        have := A2.at_
        have h5 : lab2 k = 1 := hk
        omega
      have L2' := Lib.hid (HL.out.trans L2)
      have A2' := Lib.hid A2
      have VF := Lib.hid hVf
      clear q0 q1 q2 hcl e2 e3 e4 e5 L2 hbk hnew A2 hVf
      go_upto_region 9 with fail
      generalize w3.setCell ⟨p, 6, none⟩ (.pointer (some ⟨g', 0, none⟩)) = W4 at *
      clear u6 f6
      have q8 := blk_cell A2'.out.blk 9 (vt 1) rfl
      have HT9 := Lib.hid (A2'.out.to_ 1 (by omega))
      have HLEN : Hid (((mst bo wi tm 0).to_ 1).length ≤ 2) := Lib.hid (Nat.le_trans (mst_len bo wi tm 0 1) (by omega))
      have hw1 : IntKind.i64.wrap (1 - 0) = 1 := by decide
      have hw2 : IntKind.i64.wrap 1 = 1 := by decide
      have hw3 : IntKind.i64.wrap ((1 : Int) - ((0 : Nat) : Int)) = 1 := by decide
      go_region_law (first
        | (refine Kd.N_append_rows_step k27 (w0 := W4.drew) 0 (by rfl) (.tmp 53) (.tmp 54) 42 27 (.agg #[.int .u8 0, .int .u32 0, .int .u32 0, .int .u64 0, .int .u64 0, .slice none 0 0]) 56 (by rfl) Try.underlying42 Try.info27 rfl (by decide) (by omega) (vt 1) ((mst bo wi tm 0).to_ 1) [σ.helloF] A9 1 1 (fun k => lab2 k = 1 ∨ some k = (vt 1).ownBlock ∨ W4.heap.size ≤ k) (fun k => lab2 k = 1) (by rfl) (by rfl) (HT9.out.wide (by rfl) (fun _ => by rfl)) (Kd.F_step (Kd.V_F VF.out) (fun _ _ _ => by rfl)) (fun k hk => ⟨.inl hk, fun he => by have h7 := HT9.out.2 k he.symm; have h8 : lab2 k = 1 := hk; omega⟩) (fun k hk => .inr (.inr hk)) (Below.refl _ _) (Nat.zero_le _) (by have := HLEN.out; omega) ?_; intro v3 w4 hn3 hb3 hg3 hat3; obtain ⟨A8, c8, e8⟩ := Kd.N_slice hn3; obtain ⟨z8, hz8⟩ : ∃ z8, z8 = ((mst bo wi tm 0).to_ 1 ++ [σ.helloF]).length := ⟨_, rfl⟩; rw [← hz8] at e8; subst e8; obtain ⟨lab4, LS4, hbk, A5'⟩ := A2'.out.toSet (j := 1) (by omega) hn3 ⟨hg3.os, hg3.tape, hg3.output, hg3.size, hg3.block⟩ hat3; have u8 := blk_cell hbk 9 (vt 1) rfl; have u9 := blk_free hbk 9; have HMQ : Hid (MQ p lab0 W1 bo wi tm (0 + 1) (w4.setCell ⟨p, 9, none⟩ (.slice A8 z8 c8))) := Lib.hid ⟨lab4, _, _, _, _, _, _, (by rw [HSI.out, EQ.out.1, EQ.out.2.2.1, EQ.out.2.2.2.2.1] at A5'; exact A5'), L2'.out.trans LS4⟩; clear hn3 hb3 hg3 hat3 hbk hz8 LS4 A5'))
      all_goals
        go_wp2_with fail
        go_roundw
        case rel => exact ⟨0 + 1, by go_num, by omega, HMQ⟩
        case measure => simp [intOf]
    · obtain ⟨lab, g, m, pv, vt, vs, vg, A, L⟩ := hmq.out
      have q0 := blk_cell A.blk 3 (.int .u32 b1) (by rw [EQ.out.2.1]; rfl)
      have q1 := blk_cell A.blk 4 (.int .i64 w1) (by rw [EQ.out.2.2.2.1]; rfl)
      have q2 := blk_cell A.blk 5 (.int .i64 t1) (by rw [EQ.out.2.2.2.2.2]; rfl)
      have hcl : Hid (∀ W, Calls Try.prog 13 #[.agg #[.int .u32 b1, .int .i64 w1, .int .i64 t1], .int .i64 0] W (NewP W (se0 b1 w1 t1 0))) := by
        refine Lib.hid (fun W => new_ok b1 w1 t1 0 ?_ (by decide))
        have := HBC.out 1 (by omega)
        rw [← EQ.out.2.1, ← EQ.out.2.2.2.1, ← EQ.out.2.2.2.2.2] at this
        exact this
      have HA := Lib.hid A
      have HL := Lib.hid L
      obtain ⟨σ, hσ⟩ : ∃ σ, σ = (se0 b1 w1 t1 0).start := ⟨_, rfl⟩
      have HSI := Lib.hid hσ
      clear hmq A L hσ
      go_wp2_with fail
      refine (hcl.out _).mono ?_
      rintro e w3 ⟨M, g', m', A9, rfl, e2, e3, e4, e5⟩
      obtain ⟨lab2, L2, hbk, hnew, A2⟩ := HA.out.newSes 1 (by omega) (1 + 1) (fun j hj => by omega) (by omega) e2 e3 e4
      have u6 := blk_cell hbk 7 (pv 1) rfl
      have f6 := blk_free hbk 7
      have hVf : Kd.V k27 27 (w3.setCell ⟨p, 7, none⟩ (.pointer (some ⟨g', 0, none⟩))) 0 (fun k => lab2 k = 1) (.slice A9 1 1) [σ.helloF] := by
        rw [HSI.out]
        refine Kd.V_mono (Kd.V_far (Kd.V_mono e5 (fun k hk => (hnew k hk.1 hk.2.1 hk.2.2 : lab2 k = 1))) (fun k hk => ?_) _) (fun k hk => hk)
        show k ≠ p
        rintro rfl
        have := A2.at_
        have h5 : lab2 k = 1 := hk
        omega
      have L2' := Lib.hid (HL.out.trans L2)
      have A2' := Lib.hid A2
      have VF := Lib.hid hVf
      clear q0 q1 q2 hcl e2 e3 e4 e5 L2 hbk hnew A2 hVf
      go_upto_region 9 with fail
      generalize w3.setCell ⟨p, 7, none⟩ (.pointer (some ⟨g', 0, none⟩)) = W4 at *
      clear u6 f6
      have q8 := blk_cell A2'.out.blk 8 (vt 0) rfl
      have HT9 := Lib.hid (A2'.out.to_ 0 (by omega))
      have HLEN : Hid (((mst bo wi tm 1).to_ 0).length ≤ 2) := Lib.hid (Nat.le_trans (mst_len bo wi tm 1 0) (by omega))
      have hw1 : IntKind.i64.wrap (1 - 1) = 0 := by decide
      have hw2 : IntKind.i64.wrap 0 = 0 := by decide
      have hw3 : IntKind.i64.wrap ((1 : Int) - ((1 : Nat) : Int)) = 0 := by decide
      go_region_law (first
        | (refine Kd.N_append_rows_step k27 (w0 := W4.drew) 0 (by rfl) (.tmp 53) (.tmp 54) 42 27 (.agg #[.int .u8 0, .int .u32 0, .int .u32 0, .int .u64 0, .int .u64 0, .slice none 0 0]) 56 (by rfl) Try.underlying42 Try.info27 rfl (by decide) (by omega) (vt 0) ((mst bo wi tm 1).to_ 0) [σ.helloF] A9 1 1 (fun k => lab2 k = 1 ∨ some k = (vt 0).ownBlock ∨ W4.heap.size ≤ k) (fun k => lab2 k = 1) (by rfl) (by rfl) (HT9.out.wide (by rfl) (fun _ => by rfl)) (Kd.F_step (Kd.V_F VF.out) (fun _ _ _ => by rfl)) (fun k hk => ⟨.inl hk, fun he => by have h7 := HT9.out.2 k he.symm; have h8 : lab2 k = 1 := hk; omega⟩) (fun k hk => .inr (.inr hk)) (Below.refl _ _) (Nat.zero_le _) (by have := HLEN.out; omega) ?_; intro v3 w4 hn3 hb3 hg3 hat3; obtain ⟨A8, c8, e8⟩ := Kd.N_slice hn3; obtain ⟨z8, hz8⟩ : ∃ z8, z8 = ((mst bo wi tm 1).to_ 0 ++ [σ.helloF]).length := ⟨_, rfl⟩; rw [← hz8] at e8; subst e8; obtain ⟨lab4, LS4, hbk, A5'⟩ := A2'.out.toSet (j := 0) (by omega) hn3 ⟨hg3.os, hg3.tape, hg3.output, hg3.size, hg3.block⟩ hat3; have u8 := blk_cell hbk 8 (vt 0) rfl; have u9 := blk_free hbk 8; have HMQ : Hid (MQ p lab0 W1 bo wi tm (1 + 1) (w4.setCell ⟨p, 8, none⟩ (.slice A8 z8 c8))) := Lib.hid ⟨lab4, _, _, _, _, _, _, (by rw [HSI.out, EQ.out.2.1, EQ.out.2.2.2.1, EQ.out.2.2.2.2.2] at A5'; exact A5'), L2'.out.trans LS4⟩; clear hn3 hb3 hg3 hat3 hbk hz8 LS4 A5'))
      all_goals
        go_wp2_with fail
        go_roundw
        case rel => exact ⟨1 + 1, by go_num, by omega, HMQ⟩
        case measure => simp [intOf]
    · obtain ⟨lab, g, m, pv, vt, vs, vg, A, L⟩ := hmq.out
      have HF : Hid (MtP w (mst bo wi tm 2) (.returned (.tuple #[.pointer (some ⟨p, 0, none⟩), .bool true])) wr) := by
        refine Lib.hid ⟨p, lab, g, m, pv, vt, vs, vg, rfl, A, ?_, fun k hk => ?_⟩
        · have h1 := HBW.out
          have hp := HP.out.1
          refine ⟨L.os.trans h1.os, L.tape.trans h1.tape, L.output.trans h1.output, Nat.le_trans h1.size L.size, fun k hk => (L.same k (Nat.lt_of_lt_of_le hk h1.size) ?_).trans (h1.block k hk)⟩
          rw [HP.out.2]
          simp only [if_neg (by omega : ¬ k = p)]
          omega
        · have h1 := HBW.out
          have hp := HP.out.1
          have h0 : lab0 k = 0 := by rw [HP.out.2]; simp only [if_neg (by omega : ¬ k = p)]
          rw [L.lab_ k (Nat.lt_of_lt_of_le hk h1.size) (by omega), h0]
      clear hmq A L
      go_wp2_with fail
      go_ret2
      exact HF.out
end Go.Proofs.Ytlnhjkbhhdcdeaa
namespace Go.Proofs.Ytlnhjkbhhdcdeaa
set_option maxRecDepth 100000
/-- awake's two boots. -/
def aw1 (i : Nat) : Int := if i = 0 then 5 else 9
def awS0 : Pa := mst aw1 (fun _ => 4) (fun _ => 100) 2
def awS1 : Pa := restF 4000 0 awS0
def awS2 : Pa := awS1.send 0 [120]
def awS3 : Pa := restF 4000 0 awS2
theorem aw_got : awS3.got 1 = [⟨5, 9, [120]⟩] := by kernel_rfl
theorem aw_up0 : (awS3.s 0).up = true := by kernel_rfl
theorem aw_up1 : (awS3.s 1).up = true := by kernel_rfl
theorem aw_L0 : (awS3.s 0).L.length = 0 := by kernel_rfl
theorem aw_L1 : (awS3.s 1).L.length = 0 := by kernel_rfl
end Go.Proofs.Ytlnhjkbhhdcdeaa
namespace Go.Proofs.Ytlnhjkbhhdcdeaa
open Go Go.RowKit Go.Proofs.YtlnhjkbhhdcdeaaW.PrintWords Go.Proofs.YtlnhjkbhhdcdeaaW.PrintLast Go.Proofs.YtlnhjkbhhdcdeaaW.PrintMore
open Go.Proofs.Ytlnhjkbhhdcdeaa.PSessionRuns (S27 k27 z27 S116 k116 z116)
set_option linter.unusedVariables false
set_option maxRecDepth 100000
set_option maxHeartbeats 4000000
attribute [local go_sem] max2_mx min2_mn max_two min_two
theorem se0_ok {bo wi tm : Int} (h : badc bo wi tm = false) (h0 : 0 ≤ bo) (h1 : bo < 4294967296) : Ok 1 (se0 bo wi tm 0).start := by
  unfold badc at h
  simp at h
  refine { now0 := Int.le_refl _, now1 := (show (0 : Int) ≤ 1099511627776 by decide), tmr0 := ?_, tmr1 := ?_, win0 := ?_, win1 := ?_, sent0 := Int.le_refl _, sent1 := (show (0 : Int) ≤ 64 by decide), sent2 := Int.le_refl _, len := Nat.zero_le _, base0 := Int.le_refl _, base1 := Int.le_refl _, inn0 := Int.le_refl _, inn1 := (show (0 : Int) ≤ 1 by decide), big := (show (1 : Int) ≤ 1099511627776 by decide), body := fun x hx => (by cases hx), early := fun p hp => (by cases hp), peer0 := Int.le_refl _, peer1 := (show (0 : Int) < 4294967296 by decide), boot0 := ?_, boot1 := h1 }
  · show 1 ≤ tm
    omega
  · show tm ≤ 1048576
    omega
  · show 1 ≤ wi
    omega
  · show wi ≤ 64
    omega
  · show 1 ≤ bo
    omega
theorem se0_eo (bo wi tm : Int) : Eok (se0 bo wi tm 0).start := ⟨List.nodup_nil, fun p hp => (by cases hp), fun p hp => (by cases hp)⟩
theorem mst_pk {bo wi tm : Nat → Int} (h : ∀ i, i < 2 → badc (bo i) (wi i) (tm i) = false) (h0 : ∀ i, i < 2 → 0 ≤ bo i ∧ bo i < 4294967296) : Pk 2 (mst bo wi tm 2) := by
  have hok : ∀ i, i < 2 → Ok 1 (se0 (bo i) (wi i) (tm i) 0).start := fun i hi => se0_ok (h i hi) (h0 i hi).1 (h0 i hi).2
  have hs : ∀ i, i < 2 → (mst bo wi tm 2).s i = (se0 (bo i) (wi i) (tm i) 0).start := fun i hi => by
    have : i = 0 ∨ i = 1 := by omega
    rcases this with rfl | rfl <;> simp [mst, upd]
  refine ⟨⟨fun i hi => ?_, fun i hi => ?_, fun i hi => ?_, fun i hi => ?_, fun i hi f hf => ?_⟩, fun i hi => ?_⟩
  · rw [hs i hi]
    exact (hok i hi).more (by omega) (by omega)
  · have := mst_len bo wi tm 2 i
    omega
  · show ((([] : List Ma).length : Nat) : Int) ≤ 2
    decide
  · show ((([] : List Ma).length : Nat) : Int) ≤ 2
    decide
  · have : i = 0 ∨ i = 1 := by omega
    rcases this with rfl | rfl
    · have hf2 : f = (se0 (bo 1) (wi 1) (tm 1) 0).start.helloF := by simpa [mst, upd] using hf
      rw [hf2]
      exact hello_fok (hok 1 (by omega))
    · have hf2 : f = (se0 (bo 0) (wi 0) (tm 0) 0).start.helloF := by simpa [mst, upd] using hf
      rw [hf2]
      exact hello_fok (hok 0 (by omega))
  · rw [hs i hi]
    exact se0_eo _ _ _
theorem Pk.restF : ∀ (k q : Nat) {n : Int} {st : Pa}, Pk n st → n + 70000 * k ≤ 1099511627776 → Pk (n + 70000 * k) (restF k q st)
  | 0, q, n, st, h, hn => by
    rw [Go.Proofs.Ytlnhjkbhhdcdeaa.restF]
    simpa using h
  | k + 1, q, n, st, h, hn => by
    rw [Go.Proofs.Ytlnhjkbhhdcdeaa.restF]
    split
    · have h1 := h.take (q % 2) (by omega) 0 false (by omega)
      have h2 := Pk.restF k (q + 1) h1 (by omega)
      rw [show n + 70000 * ((k + 1 : Nat) : Int) = n + 70000 + 70000 * (k : Int) by omega]
      exact h2
    · exact h.more (by omega) hn
theorem Ls.out {lab lab' : Nat → Nat} {a b : World} (h : Ls lab lab' a b) {n : Nat} (h0 : ∀ k, k < n → lab k = 0) (hn : n ≤ a.heap.size) : Below n a b ∧ ∀ k, k < n → lab' k = 0 :=
  ⟨⟨h.os, h.tape, h.output, h.size, fun k hk => h.same k (Nat.lt_of_lt_of_le hk hn) (by rw [h0 k hk]; omega)⟩, fun k hk => (h.lab_ k (Nat.lt_of_lt_of_le hk hn) (by rw [h0 k hk]; omega)).trans (h0 k hk)⟩
theorem alive (w : World) : Calls Try.prog 10 #[] w fun e w' => e = .returned (.bool true) ∧ Below w.heap.size w w' := by
  have kc := fun (w : World) (C : Array Value) (n c : Nat) => Lib.run_convert_bytes_const (P := Try.prog) w 25 5 C n c Try.underlying25 Try.underlying5
  have HPK : Hid (Pk 2 awS0) := Lib.hid (mst_pk (fun i hi => by
    have : i = 0 ∨ i = 1 := by omega
    rcases this with rfl | rfl <;> decide) (fun i hi => by
    have : i = 0 ∨ i = 1 := by omega
    rcases this with rfl | rfl <;> decide))
  have HMT : Hid (∀ W, Calls Try.prog 30 #[.agg #[.int .u32 5, .int .i64 4, .int .i64 100], .agg #[.int .u32 9, .int .i64 4, .int .i64 100]] W (MtP W awS0)) := Lib.hid (fun W => meet_w aw1 (fun _ => 4) (fun _ => 100) (by decide) (by decide) W)
  go_enter Try.func10, Try.ntmps10
  go_wp2_with fail
  refine (conf_w 5 _).mono ?_
  rintro e w1 ⟨rfl, hb1⟩
  have HB1 := Lib.hid hb1
  clear hb1
  go_wp2_with fail
  refine (conf_w 9 _).mono ?_
  rintro e w2 ⟨rfl, hb2⟩
  have HB2 := Lib.hid (HB1.out.trans (hb2.mono HB1.out.size))
  clear hb2
  go_wp2_with fail
  refine (HMT.out _).mono ?_
  rintro e w3 ⟨p, lab, g, m, pv, vt, vs, vg, rfl, A, hb3, h0⟩
  have HB3 := Lib.hid (HB2.out.trans (hb3.mono HB2.out.size))
  have HA := Lib.hid A
  have H0 : Hid (∀ k, k < w.heap.size → lab k = 0) := Lib.hid (fun k hk => h0 k (Nat.lt_of_lt_of_le hk HB2.out.size))
  clear A hb3 h0 HMT
  go_wp2_with fail
  refine (prest HA.out HPK.out (by omega)).mono ?_
  rintro e w4 ⟨rfl, lab4, g4, m4, pv4, vt4, vs4, vg4, A4, L4⟩
  have HA4 : Hid (PA 2 p lab4 awS1 g4 m4 pv4 vt4 vs4 vg4 w4) := Lib.hid A4
  have HPK4 : Hid (Pk 280000002 awS1) := Lib.hid (HPK.out.restF 4000 0 (by omega))
  have HB4 := Lib.hid (HB3.out.trans (L4.out H0.out HB3.out.size).1)
  have H04 := Lib.hid (L4.out H0.out HB3.out.size).2
  clear A4 L4 HA HPK
  go_wp2_with fail
  have hV : Kd.V KB 5 (w4.alloc (.cells #[.int .u8 120] 5 (1, 2))) 0 (fun k => False ∨ k = w4.heap.size) (.slice (some ⟨w4.heap.size, 0, none⟩) 1 1) [120] :=
    V_block (heap_alloc_new w4 _) (Reps_ints .u8 [120] _ rfl) rfl (Nat.le_refl _) (by omega)
  have hb5 : Below w4.heap.size w4 (w4.alloc (.cells #[.int .u8 120] 5 (1, 2))) := below_alloc (Below.refl _ _) _
  have hlab : lab4 w4.heap.size = 0 := by
    rcases Nat.eq_zero_or_pos (lab4 w4.heap.size) with h | h
    · exact h
    · exact absurd (HA4.out.lim _ (by omega)) (Nat.lt_irrefl _)
  have hcall := psend0 (HA4.out.below hb5) HPK4.out.ok (by omega) [120] _ 1 _ hV (fun k hk => by
    rcases hk with h | h
    · exact h.elim
    · rw [h, hlab]
      omega) (by simp)
  have HB5 := Lib.hid (HB4.out.trans (hb5.mono HB4.out.size))
  refine hcall.mono ?_
  clear hcall hV hb5 hlab
  rintro e w6 ⟨rfl, lab6, g6, m6, pv6, vt6, vs6, vg6, A6, L6⟩
  have HA6 : Hid (PA 2 p lab6 awS2 g6 m6 pv6 vt6 vs6 vg6 w6) := Lib.hid A6
  have HPK6 : Hid (Pk 280070002 awS2) := Lib.hid (HPK4.out.send 0 (by omega) [120] (by omega))
  have hz5 : w.heap.size ≤ (w4.alloc (.cells #[.int .u8 120] 5 (1, 2))).heap.size := HB5.out.size
  have HB6 := Lib.hid (HB5.out.trans (L6.out H04.out hz5).1)
  have H06 := Lib.hid (L6.out H04.out hz5).2
  clear A6 L6 HA4 HPK4 hz5
  go_wp2_with fail
  refine (prest HA6.out HPK6.out (by omega)).mono ?_
  rintro e w7 ⟨rfl, lab7, g7, m7, pv7, vt7, vs7, vg7, A7, L7⟩
  have HA7 : Hid (PA 2 p lab7 awS3 g7 m7 pv7 vt7 vs7 vg7 w7) := Lib.hid A7
  have HB7 := Lib.hid (HB6.out.trans (L7.out H06.out HB6.out.size).1)
  clear A7 L7 HA6 HPK6
  have s0 := HA7.out.ses 0 (by omega)
  have s1 := HA7.out.ses 1 (by omega)
  have hi0 := idle_ses s0.2
  have hi1 := fun d => idle_ses (s1.2.drewN d)
  rw [aw_up0, aw_L0] at hi0
  rw [aw_up1, aw_L1] at hi1
  have q6 := blk_cell HA7.out.blk 6 (.pointer (some ⟨g7 0, 0, none⟩)) (by rw [← s0.1]; rfl)
  have q7 := blk_cell HA7.out.blk 7 (.pointer (some ⟨g7 1, 0, none⟩)) (by rw [← s1.1]; rfl)
  have hgr := HA7.out.got 1 (by omega)
  rw [aw_got] at hgr
  obtain ⟨gg, cap, hv, _⟩ := Kd.N_form hgr.1 (by decide)
  have q13 := blk_cell HA7.out.blk 13 (.slice (some ⟨gg, 0, none⟩) 1 cap) (by rw [show (Value.slice (some ⟨gg, 0, none⟩) 1 cap) = vg7 1 from hv.symm]; rfl)
  rw [hv] at hgr
  obtain ⟨cs, hcs, hfk, hcell⟩ := Kd.N_get hgr.1 zMa 0 (by omega) (by decide)
  obtain ⟨A1, c1, rfl, l1, g1⟩ := k89_open (Kd.FK_now hfk)
  have c2 : w7.cell? ⟨gg, 2, none⟩ = some (.slice A1 1 c1) := hcell 2 _ rfl
  have hcv : ∀ q, (convert 25 9 (.slice A1 1 c1)).run Try.prog (w7.drewN q) = .ok (.string ⟨#[120]⟩) (w7.drewN q) := fun q => Kd.C_string (P := Try.prog) (A := A1) (c := c1) (xs := [120]) Try.underlying25 Try.underlying5 Try.underlying9 (Kd.C_drewN g1 q)
  have hi0' : Hid (Calls Try.prog 29 #[.pointer (some ⟨g7 0, 0, none⟩)] w7 fun e w' => e = .returned (.bool true) ∧ ∃ d, w' = w7.drewN d) := Lib.hid hi0
  have hi1' : Hid (∀ d, Calls Try.prog 29 #[.pointer (some ⟨g7 1, 0, none⟩)] (w7.drewN d) fun e w' => e = .returned (.bool true) ∧ ∃ d', w' = (w7.drewN d).drewN d') := Lib.hid hi1
  obtain ⟨ga, hga⟩ : ∃ ga, ga = g7 0 := ⟨_, rfl⟩
  obtain ⟨gb, hgb⟩ : ∃ gb, gb = g7 1 := ⟨_, rfl⟩
  rw [← hga] at q6 hi0'
  rw [← hgb] at q7 hi1'
  clear s0 s1 hi0 hi1 hgr hv hcs hfk hcell l1 g1 hga hgb HA7 kc
  go_wp2_with fail
  refine hi0'.out.mono ?_
  rintro e w8 ⟨rfl, d, rfl⟩
  go_wp2_with fail
  refine (hi1'.out _).mono ?_
  rintro e w9 ⟨rfl, d2, rfl⟩
  go_wp2_with fail
  go_ret
  exact ⟨rfl, pw_below_drewN HB7.out (d + d2)⟩
end Go.Proofs.Ytlnhjkbhhdcdeaa
