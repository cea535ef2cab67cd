/- The walk of handed. -/
import Derived.Test.YtlnhjkbhhdcdeaaMb
namespace Go.Proofs.Ytlnhjkbhhdcdeaa
open Go Go.RowKit Go.Proofs.YtlnhjkbhhdcdeaaW.PrintWords Go.Proofs.YtlnhjkbhhdcdeaaW.PrintLast Go.Proofs.YtlnhjkbhhdcdeaaW.PrintMore
open Go.Proofs.Ytlnhjkbhhdcdeaa.PSessionRuns (S27 k27 z27 S116 k116 z116)
set_option linter.unusedVariables false
set_option maxRecDepth 100000
set_option maxHeartbeats 4000000
attribute [local go_sem] max2_mx min2_mn max_two min_two
def Se.put (σ : Se) (seq : Int) (x : List Int) : Se := if σ.inn < seq ∧ seq - σ.inn ≤ σ.win ∧ plc σ.E seq 0 = none then { σ with E := σ.E ++ [(seq, x)] } else σ
/-- What is handed out, as long as there is a next one. -/
def pops : Nat → Se → List (List Int) × Se
  | 0, σ => ([], σ)
  | n + 1, σ => match plc σ.E (σ.inn + 1) 0 with
    | none => ([], σ)
    | some j => let r := pops n { σ with inn := σ.inn + 1, E := σ.E.eraseIdx j }; ((σ.E.getD j (0, [])).2 :: r.1, r.2)
def Se.pop (σ : Se) : List (List Int) × Se := pops σ.E.length σ
theorem Se.pop_none {σ : Se} (h : plc σ.E (σ.inn + 1) 0 = none) : σ.pop = ([], σ) := by
  unfold Se.pop
  cases hn : σ.E.length with
  | zero => rw [pops]
  | succ n => rw [pops, h]
theorem Se.pop_some {σ : Se} {j : Nat} (h : plc σ.E (σ.inn + 1) 0 = some j) : σ.pop = ((σ.E.getD j (0, [])).2 :: ({ σ with inn := σ.inn + 1, E := σ.E.eraseIdx j } : Se).pop.1, ({ σ with inn := σ.inn + 1, E := σ.E.eraseIdx j } : Se).pop.2) := by
  obtain ⟨_, h2, _⟩ := plc_lt σ.E 0 h
  obtain ⟨n, hn⟩ : ∃ n, σ.E.length = n + 1 := ⟨σ.E.length - 1, by omega⟩
  unfold Se.pop
  rw [hn, pops, h]
  simp only
  have : (σ.E.eraseIdx j).length = n := by rw [List.length_eraseIdx_of_lt (by omega), hn]; rfl
  rw [this]
theorem told_keep (σ : Se) (a : Int) : (σ.told a).inn = σ.inn ∧ (σ.told a).win = σ.win ∧ (σ.told a).E = σ.E ∧ (σ.told a).boot = σ.boot ∧ (σ.told a).peer = σ.peer := by
  unfold Se.told
  split
  · simp only
    split <;> exact ⟨rfl, rfl, rfl, rfl, rfl⟩
  · exact ⟨rfl, rfl, rfl, rfl, rfl⟩
theorem put_keep (σ : Se) (q : Int) (x : List Int) : (σ.put q x).inn = σ.inn ∧ (σ.put q x).win = σ.win ∧ (σ.put q x).boot = σ.boot ∧ (σ.put q x).peer = σ.peer ∧ (σ.put q x).E.length ≤ σ.E.length + 1 := by
  unfold Se.put
  split
  · exact ⟨rfl, rfl, rfl, rfl, by simp⟩
  · exact ⟨rfl, rfl, rfl, rfl, by omega⟩
section
variable {M B : Nat → Prop} {g m : Nat} {σ : Se} {w : World} {n : Int}
/-- What stands ahead of the map of early messages and behind it. -/
def PT (w0 : World) (M B : Nat → Prop) (g m t : Nat) (f : S27) (A5 : Option Addr) (c5 : Nat) (σx : Se) (wx : World) : Prop :=
  Ses M B g m σx wx ∧ Chg M w0 wx ∧ wx.heap[t]? = some (.cells (tkc g f (.slice A5 f.f5.length c5) (.slice none 0 0) (.slice none 0 0)) 102 (0, 0))
/-- What stands as messages are handed out. -/
def HR (w0 : World) (M B : Nat → Prop) (g m t : Nat) (f : S27) (v5 : Value) (σ2 : Se) (b0 : Nat) (k : Nat) (wr : World) : Prop :=
  ∃ (σd : Se) (gd : List (List Int)) (A : Option Addr) (c : Nat), Ses M B g m σd wr ∧ wr.heap[t]? = some (.cells (tkc g f v5 (.slice none 0 0) (.slice A gd.length c)) 102 (0, 0)) ∧ Kd.N (Kd.slice 5 KB) 25 wr b0 (fun k => B k ∨ b0 ≤ k) (.slice A gd.length c) gd ∧
    Chg (fun k => M k ∨ k = t) w0 wr ∧ σ2.pop = (gd ++ σd.pop.1, σd.pop.2) ∧ σd.E.length = k ∧ σd.inn + k = σ2.inn + σ2.E.length ∧ gd.length + k = σ2.E.length ∧ σd.boot = σ2.boot ∧ σd.peer = σ2.peer ∧ b0 ≤ wr.heap.size
/-- What handed leaves. -/
def HD (w0 : World) (M B : Nat → Prop) (g m t : Nat) (f : S27) (v5 : Value) (σ2 : Se) (e : Ending) (w' : World) : Prop :=
  ∃ (B' : Nat → Prop) (A Ag : Option Addr) (c cg : Nat), e = .returned (.tuple #[]) ∧ w'.heap[t]? = some (.cells (tkc g f v5 (.slice A 1 c) (.slice Ag σ2.pop.1.length cg)) 102 (0, 0)) ∧ Ses M B' g m σ2.pop.2 w' ∧
    Kd.N k27 27 w' w0.heap.size (fun k => w0.heap.size ≤ k ∧ ¬ B' k) (.slice A 1 c) [σ2.pop.2.ackF] ∧ Kd.V (Kd.slice 5 KB) 25 w' 0 (fun k => (B k ∨ w0.heap.size ≤ k) ∧ k < w'.heap.size ∧ k ≠ t ∧ ¬ M k ∧ some k ≠ (Value.slice A 1 c).ownBlock) (.slice Ag σ2.pop.1.length cg) σ2.pop.1 ∧ Chg (fun k => M k ∨ k = t) w0 w' ∧
    (∀ k, B k → B' k) ∧ (∀ k, B' k → B k ∨ w0.heap.size ≤ k)
theorem handed_ses (h : Ses M B g m σ w) (ok : Ok n σ) (t : Nat) (f : S27) (A5 : Option Addr) (c5 : Nat) (ht : w.heap[t]? = some (.cells (tkc g f (.slice A5 f.f5.length c5) (.slice none 0 0) (.slice none 0 0)) 102 (0, 0))) (htM : ¬ M t) (htB : ¬ B t) (okp : Nat → Prop) (hV : Kd.V KB 5 w 0 okp (.slice A5 f.f5.length c5) f.f5) (hokp : ∀ k, okp k → ¬ M k) (hfl : f.f5.length ≤ 65536) (h0 : 0 ≤ f.f4) (h1 : f.f4 < 18446744073709551616) (h2 : 0 ≤ f.f3) (h3 : f.f3 < 18446744073709551616) :
    Calls Try.prog 47 #[.pointer (some ⟨t, 0, none⟩)] w (HD w M B g m t f (.slice A5 f.f5.length c5) ((σ.told f.f4).put f.f3 f.f5)) := by
  have HT := Lib.hid (told_ses h ok t f _ _ _ ht h0 h1)
  have HTB := Lib.hid ht
  have HTL := Lib.hid (blk_lt ht)
  have hin := told_keep σ f.f4
  have k1 := ok.inn0
  have k2 := ok.inn1
  have k3 := ok.big
  have k4 : 0 ≤ (σ.told f.f4).inn := by rw [hin.1]; exact k1
  have k5 : (σ.told f.f4).inn ≤ 4611686018427387904 := by rw [hin.1]; omega
  have k8 : Hid ((σ.told f.f4).inn + (σ.told f.f4).E.length ≤ 1099511627776) := by rw [hin.1, hin.2.2.1]; exact Lib.hid (by omega)
  have k6 := ok.win0
  have k7 := ok.win1
  rw [← hin.2.1] at k6 k7
  obtain ⟨σ1, hσ1⟩ : ∃ σ1, σ1 = σ.told f.f4 := ⟨_, rfl⟩
  rw [← hσ1] at HT k4 k5 k6 k7 k8 ⊢
  obtain ⟨q, hq⟩ : ∃ q, q = f.f3 := ⟨_, rfl⟩
  obtain ⟨a, ha⟩ : ∃ a, a = σ1.inn := ⟨_, rfl⟩
  obtain ⟨b, hb⟩ : ∃ b, b = σ1.win := ⟨_, rfl⟩
  rw [← hq] at h2 h3
  rw [← ha] at k4 k5
  rw [← hb] at k6 k7
  have HQ := Lib.hid hq
  have HA := Lib.hid ha
  have HB := Lib.hid hb
  have HV := Lib.hid hV
  obtain ⟨σ2, hσ2⟩ : ∃ σ2, σ2 = σ1.put f.f3 f.f5 := ⟨_, rfl⟩
  have HP := Lib.hid hσ2
  rw [← hσ2]
  obtain ⟨bq, hbq⟩ : ∃ bq : Bool, bq = (decide (a < q) && decide (q - a ≤ b)) := ⟨_, rfl⟩
  have HBQ := Lib.hid hbq
  clear h ok k1 k2 k3 hin hσ1 h0 h1 ht hq ha hb hσ2 hV hbq
  go_enter Try.func47, Try.ntmps47
  go_upto_region 1 with fail
  refine HT.out.mono ?_
  rintro e w1 ⟨rfl, hs, hc⟩
  have HX := Lib.hid ((hc.block t HTL.out htM).trans HTB.out)
  have HV1 := Lib.hid (Kd.V_step HV.out (fun k hk hl => hc.block k hl (hokp k hk)))
  have HS := Lib.hid hs
  have HC := Lib.hid (show Chg M w w1 from ⟨hc.os, hc.tape, hc.output, hc.size, hc.block⟩)
  clear hs hc HT
  go_upto_region 1 with fail
  go_cut [45] (fun v45 wx => v45 = .bool bq ∧ Hid (PT w M B g m t f A5 c5 σ1 wx) ∧ Hid (Kd.V KB 5 wx 0 okp (.slice A5 f.f5.length c5) f.f5))
  case first =>
    obtain ⟨A, c, hbk, _⟩ := HS.out.open_
    have t0 := blk_cell HX.out 0 (.pointer (some ⟨g, 0, none⟩)) rfl
    have t4 := blk_cell HX.out 4 (.int .u64 q) (by rw [HQ.out]; rfl)
    have s4 := blk_cell hbk 4 (.int .i64 b) (by rw [HB.out]; rfl)
    have s8 := blk_cell hbk 8 (.int .u64 a) (by rw [HA.out]; rfl)
    clear hbk
    by_cases hlt : a < q
    · have g1 : decide (a < q) = true := decide_eq_true hlt
      obtain ⟨d2, g2⟩ : ∃ d2, decide (q - a ≤ b) = d2 := ⟨_, rfl⟩
      have HD2 : Hid (bq = d2) := by rw [← g2]; exact Lib.hid (by rw [HBQ.out, g1]; rfl)
      cases d2 with
      | false =>
        go_quiet (fail)
        go_wp2_with fail
        go_meet
        exact ⟨by rw [HD2.out], Lib.hid ⟨HS.out.drewN _, HC.out.drewN _, HX.out⟩, Lib.hid (Kd.V_drewN HV1.out _)⟩
      | true =>
        go_quiet (fail)
        go_wp2_with fail
        go_meet
        exact ⟨by rw [HD2.out], Lib.hid ⟨HS.out.drewN _, HC.out.drewN _, HX.out⟩, Lib.hid (Kd.V_drewN HV1.out _)⟩
    · have g1 : decide (a < q) = false := decide_eq_false hlt
      have HD2 : Hid (bq = false) := Lib.hid (by rw [HBQ.out, g1]; rfl)
      go_quiet (fail)
      go_wp2_with fail
      go_meet
      exact ⟨by rw [HD2.out], Lib.hid ⟨HS.out.drewN _, HC.out.drewN _, HX.out⟩, Lib.hid (Kd.V_drewN HV1.out _)⟩
  case rest =>
    obtain ⟨rfl, hpt, hv⟩ := hcut
    clear HX HV1 HS HC
    go_upto_if 45 with fail
    go_cut [] (fun wx => Hid (∃ B' : Nat → Prop, PT w M B' g m t f A5 c5 σ2 wx ∧ (∀ k, B k → B' k) ∧ (∀ k, B' k → B k ∨ w.heap.size ≤ k)))
    case first =>
      cases bq with
      | false =>
        go_wp2_with fail
        go_meet
        have : σ2 = σ1 := by
          rw [HP.out]
          unfold Se.put
          rw [if_neg]
          intro h
          have := HBQ.out
          rw [HA.out, HB.out, HQ.out, decide_eq_true h.1, decide_eq_true h.2.1] at this
          simp at this
        rw [this]
        exact Lib.hid ⟨B, hpt.out, fun _ h => h, fun _ h => .inl h⟩
      | true =>
        obtain ⟨b1, b2⟩ : a < q ∧ q - a ≤ b := by have := HBQ.out; simpa using this
        obtain ⟨hs, hc, hx⟩ := hpt.out
        have hE := hs.em
        have htg : t ≠ g := fun h => htM (h ▸ hs.1)
        have htm : t ≠ m := fun h => htM (h ▸ hs.2.1)
        have hgm : g ≠ m := hs.ne
        cases hk : plc σ1.E q 0 with
        | some j =>
          obtain ⟨A, c, hbk, _⟩ := hs.open_
          have t0 := blk_cell hx 0 (.pointer (some ⟨g, 0, none⟩)) rfl
          have t4 := blk_cell hx 4 (.int .u64 q) (by rw [HQ.out]; rfl)
          have s9 := blk_cell hbk 9 (.map (some m)) rfl
          obtain ⟨_, A6, c6, hlook, _⟩ := hE.there hk
          have HK := Lib.hid hk
          clear hbk hs hc hx hE hk
          go_wp2_with fail
          go_quiet (fail)
          go_wp2_with fail
          go_meet
          have : σ2 = σ1 := by
            rw [HP.out]
            unfold Se.put
            rw [if_neg]
            intro h
            have := h.2.2
            rw [← HQ.out, HK.out] at this
            cases this
          rw [this]
          exact Lib.hid ⟨B, ⟨hpt.out.1.drewN _, hpt.out.2.1.drewN _, hpt.out.2.2⟩, fun _ h => h, fun _ h => .inl h⟩
        | none =>
          obtain ⟨A, c, hbk, _⟩ := hs.open_
          have t0 := blk_cell hx 0 (.pointer (some ⟨g, 0, none⟩)) rfl
          have t4 := blk_cell hx 4 (.int .u64 q) (by rw [HQ.out]; rfl)
          have s9 := blk_cell hbk 9 (.map (some m)) rfl
          have hlook := hE.gone hk
          have HK := Lib.hid hk
          clear hbk hs hc hx hE hk
          go_wp2_with fail
          go_quiet (fail)
          obtain ⟨nqy, hnqy⟩ : ∃ x, x = nq := ⟨_, rfl⟩
          rw [← hnqy]
          clear hnqy nq
          go_wp2_with fail
          have hs := hpt.out.1.drewN nqy
          have hc : Chg M w (wc.drewN nqy) := hpt.out.2.1.drewN _
          have hx : (wc.drewN nqy).heap[t]? = _ := hpt.out.2.2
          have hV1 := Kd.V_drewN hv.out nqy
          clear hpt hv t0 t4 s9 hlook
          generalize wc.drewN nqy = W1 at *
          obtain ⟨A, c, hbk, _, _, hM, hMm, hMl, hBl, hgm, hQ, hE, hf⟩ := hs.open_
          have t0 := blk_cell hx 0 (.pointer (some ⟨g, 0, none⟩)) rfl
          have t4 := blk_cell hx 4 (.int .u64 q) (by rw [HQ.out]; rfl)
          have t6 := blk_cell hx 6 (.slice A5 f.f5.length c5) rfl
          have s9 := blk_cell hbk 9 (.map (some m)) rfl
          have kW : Hid (∀ W, Chg (fun k => k = m) W1 W → W.cell? ⟨t, 0, none⟩ = some (.pointer (some ⟨g, 0, none⟩)) ∧ W.cell? ⟨t, 4, none⟩ = some (.int .u64 q) ∧ W.cell? ⟨t, 6, none⟩ = some (.slice A5 f.f5.length c5) ∧ W.cell? ⟨g, 9, none⟩ = some (.map (some m))) :=
            Lib.hid fun W hW => ⟨hW.cell t0 htm, hW.cell t4 htm, hW.cell t6 htm, hW.cell s9 hgm⟩
          have hcl : Hid (∀ d, Calls Try.prog 42 #[.slice A5 f.f5.length c5] (W1.drewN d) fun e w2 => ∃ A6 c6 W3, e = .returned (.slice A6 f.f5.length c6) ∧ Chg (fun k => k = m) W1 w2 ∧ (Instr.mapUpdate 68 (.map (some m)) (.int .u64 q) (.slice A6 f.f5.length c6)).run Try.prog w2 = .ok () W3 ∧ Chg (fun k => k = m) W1 W3 ∧
              Ses M (fun k => B k ∨ (W1.heap.size ≤ k ∧ k < w2.heap.size)) g m { σ1 with E := σ1.E ++ [(q, f.f5)] } W3) := by
            refine Lib.hid (fun d => (clone_any okp A5 f.f5.length c5 f.f5 (W1.drewN d) (Kd.V_drewN hV1 d) (by omega)).mono ?_)
            rintro e w2 ⟨A6, c6, rfl, hv2, hb2⟩
            replace hb2 : Below W1.heap.size W1 w2 := ⟨hb2.os, hb2.tape, hb2.output, hb2.size, hb2.block⟩
            have hv2' : Kd.V KB 5 w2 0 (fun k => B k ∨ (W1.heap.size ≤ k ∧ k < w2.heap.size)) (.slice A6 f.f5.length c6) f.f5 := Kd.V_mono hv2 (fun k hk => .inr hk)
            have hE2 : Em w2 (fun k => B k ∨ (W1.heap.size ≤ k ∧ k < w2.heap.size)) m σ1.E := (hE.step (hb2.block m (hMl m hMm).1) (fun k _ hl => hb2.block k hl)).mono (fun i hi => .inl hi)
            have hBm : ∀ i, (B i ∨ (W1.heap.size ≤ i ∧ i < w2.heap.size)) → i ≠ m := by
              rintro i (hi | hi) rfl
              · exact (hMl i hMm).2 hi
              · have := (hMl i hMm).1
                omega
            obtain ⟨o, ho, hEm⟩ := hE2.put HK.out hBm hv2'
            have hc2 : Chg (fun k => k = m) W1 w2 := Chg.of_below hb2 _
            have hc3 : Chg (fun k => k = m) w2 (w2.putObj m o) := chg_putObj w2 m o
            refine ⟨A6, c6, _, rfl, hc2, ho, hc2.trans hc3 (fun i hi => .inl hi), hs.early (hc2.trans hc3 (fun i hi => .inl hi)) (fun k hk => .inl hk) (fun k hk => ⟨?_, ?_⟩) hEm⟩
            · rw [putObj_size]
              rcases hk with h | h
              · exact Nat.lt_of_lt_of_le (hBl k h) hb2.size
              · exact h.2
            · intro hMk
              rcases hk with h | h
              · exact (hMl k hMk).2 h
              · have := (hMl k hMk).1
                omega
          have qa := Lib.hid (kW.out W1 (Chg.refl _ _))
          have qb := Lib.hid (kW.out W1.drew ((Chg.refl _ _).drewN 1))
          have qc := Lib.hid (kW.out (W1.drewN 1) ((Chg.refl _ _).drewN 1))
          have HS := Lib.hid hs
          have HC := Lib.hid hc
          have HX := Lib.hid hx
          clear hf hQ hE hbk hx hs hc hMl hBl hV1
          go_region_held3 (fun W => W.cell? ⟨t, 0, none⟩ = some (.pointer (some ⟨g, 0, none⟩)) ∧ W.cell? ⟨t, 4, none⟩ = some (.int .u64 q) ∧ W.cell? ⟨t, 6, none⟩ = some (.slice A5 f.f5.length c5) ∧ W.cell? ⟨g, 9, none⟩ = some (.map (some m)))
            (first | with_reducible exact qa.out | with_reducible exact qb.out | with_reducible exact qc.out | exact kW.out _ ((Chg.refl _ _).drewN _))
            (first | (go_simp; go_at_call 42; refine (hcl.out _).mono ?_; rintro e w2 ⟨A6, c6, W3, rfl, hc2, hup, hc3, hs3⟩; have qa := Lib.hid (kW.out _ hc2); have qb := Lib.hid (kW.out _ hc3); have HS3 := Lib.hid hs3; have HC3 := Lib.hid hc3; clear hc2 hc3 hs3))
          go_wp2_with fail
          go_meet
          have : σ2 = { σ1 with E := σ1.E ++ [(q, f.f5)] } := by
            rw [HP.out]
            unfold Se.put
            rw [if_pos ⟨by rw [← HA.out, ← HQ.out]; exact b1, by rw [← HA.out, ← HQ.out, ← HB.out]; exact b2, by rw [← HQ.out]; exact HK.out⟩, ← HQ.out]
          rw [this]
          have hx3 := (HC3.out.block t (blk_lt HX.out) htm).trans HX.out
          refine Lib.hid ⟨_, ⟨HS3.out, HC.out.trans HC3.out (fun i hi => .inl (by rw [hi]; exact hMm)), hx3⟩, fun _ h => .inl h, fun k hk => ?_⟩
          rcases hk with h | h
          · exact .inl h
          · exact .inr (Nat.le_trans HC.out.size h.1)
    case rest =>
      obtain ⟨B2, hpt, hBB, hBn⟩ := hcut.out
      obtain ⟨hs, hc, hx⟩ := hpt
      have hin2 := put_keep σ1 f.f3 f.f5
      have K8 : Hid (σ2.inn + σ2.E.length ≤ 1099511627777) := Lib.hid (by rw [HP.out, hin2.1]; have := k8.out; have := hin2.2.2.2.2; omega)
      have K9 : Hid (0 ≤ σ2.inn) := Lib.hid (by rw [HP.out, hin2.1, ← HA.out]; exact k4)
      have htM2 : ¬ B2 t := fun h => (hBn t h).elim htB (fun h2 => by have := HTL.out; omega)
      have htg : t ≠ g := fun h => htM (h ▸ hs.1)
      have htm : t ≠ m := fun h => htM (h ▸ hs.2.1)
      have hgm : g ≠ m := hs.ne
      have HBB := Lib.hid hBB
      have HBN := Lib.hid hBn
      have HC2 := Lib.hid hc
      obtain ⟨_, _, _, _, _, hM, hMm, hMl, hBl, _⟩ := hs.open_
      have HMl := Lib.hid hMl
      have HBl := Lib.hid hBl
      have HL2 := Lib.hid (blk_lt hx)
      have HST : Hid (HR wc M B2 g m t f (.slice A5 f.f5.length c5) σ2 wc.heap.size σ2.E.length wc) :=
        Lib.hid ⟨σ2, [], none, 0, hs, hx, Kd.N_nil _ _ _ _ _, Chg.refl _ _, by rw [List.nil_append], rfl, rfl, by simp, rfl, rfl, Nat.le_refl _⟩
      clear hcut hpt hv hs hc hx hin2 hBB hBn hMl hBl hM hMm k4 k5 k6 k7 k8 HQ HA HB HBQ h2 h3
      go_wp2_with fail
      go_loopg [] σ2.E.length (fun k wr => HR wc M B2 g m t f (.slice A5 f.f5.length c5) σ2 wc.heap.size k wr)
      case atStart => exact HST.out
      case round =>
        obtain ⟨σd, gd, A, c, hs, hx, hN, hcg, hpop, hk, hnn, hgl, hbo, hpe, hb0⟩ := hrel
        have hE := hs.em
        obtain ⟨A0, c0, hbk, _, _, hM, hMm, hMl, hBl, _⟩ := hs.open_
        obtain ⟨a, ha⟩ : ∃ a, a = σd.inn := ⟨_, rfl⟩
        have ha0 : 0 ≤ a := by have := K9.out; omega
        have ha1 : a ≤ 1099511627777 := by have := K8.out; omega
        have hwr : IntKind.u64.wrap (a + 1) = a + 1 := u64_wrap (by omega) (by omega)
        have t0 := blk_cell hx 0 (.pointer (some ⟨g, 0, none⟩)) rfl
        have s8 := blk_cell hbk 8 (.int .u64 a) (by rw [ha]; rfl)
        have s9 := blk_cell hbk 9 (.map (some m)) rfl
        have HS := Lib.hid hs
        have HX := Lib.hid hx
        have HN := Lib.hid hN
        have HCG := Lib.hid hcg
        have HPOP := Lib.hid hpop
        have HNUM := Lib.hid (And.intro hk (And.intro hnn (And.intro hgl (And.intro hbo (And.intro hpe hb0)))))
        cases hp : plc σd.E (σd.inn + 1) 0 with
        | none =>
          have hlook := hE.gone hp
          rw [← ha] at hlook
          have HPL := Lib.hid hp
          clear hs hx hN hcg hpop hk hnn hgl hbo hpe hE hbk hMl hBl hp ha hb0 hM hMm
          go_wp2_with fail
          go_quiet (fail)
          obtain ⟨nqx, hnqx⟩ : ∃ x, x = nq := ⟨_, rfl⟩
          rw [← hnqx]
          clear hnqx nq
          go_upto_region 10 with fail
          have HS1 := Lib.hid (HS.out.drewN nqx)
          have HX1 : Hid ((wr.drewN nqx).heap[t]? = _) := HX
          have HN1 := Lib.hid (Kd.N_drewN HN.out nqx)
          have HC1 : Hid (Chg (fun k => M k ∨ k = t) wc (wr.drewN nqx)) := Lib.hid (HCG.out.drewN _)
          have HB1 : Hid (wc.heap.size ≤ (wr.drewN nqx).heap.size) := Lib.hid HNUM.out.2.2.2.2.2
          clear t0 s8 s9 hlook HS HX HN HCG
          generalize wr.drewN nqx = W1 at *
          have t0 := blk_cell HX1.out 0 (.pointer (some ⟨g, 0, none⟩)) rfl
          have t7 := blk_cell HX1.out 7 (.slice none 0 0) rfl
          obtain ⟨x, hx⟩ : ∃ x, x = σd.ackF := ⟨_, rfl⟩
          have hcall : Hid (∀ w1, Ses M B2 g m σd w1 → Calls Try.prog 68 #[.pointer (some ⟨g, 0, none⟩)] w1 fun e w' => e = .returned (.agg #[.int .u8 x.f0, .int .u32 x.f1, .int .u32 x.f2, .int .u64 x.f3, .int .u64 x.f4, .slice none 0 0]) ∧ Below w1.heap.size w1 w') := by
            rw [hx]
            exact Lib.hid (fun w1 h1 => ack_ses h1)
          have hxb : Hid (∀ w1 : World, Kd.FK k27 w1 (fun _ => False) x [.int .u8 x.f0, .int .u32 x.f1, .int .u32 x.f2, .int .u64 x.f3, .int .u64 x.f4, .slice none 0 0]) := by
            rw [hx]
            exact Lib.hid (fun w1 => FK_frame (x := σd.ackF) (A := none) (c := 0) (Kd.V_nil KB 5 w1 0 _))
          have FIN : Hid (∀ (w3 : World) (A4 : Option Addr) (c4 : Nat), w3.heap[t]? = W1.heap[t]? → Kd.N k27 27 w3 W1.heap.size (fun k => W1.heap.size ≤ k) (.slice A4 1 c4) [x] → Below W1.heap.size W1 w3 → HD w M B g m t f (.slice A5 f.f5.length c5) σ2 (.returned (.tuple #[])) (w3.setCell ⟨t, 7, none⟩ (.slice A4 1 c4))) := by
            refine Lib.hid ?_
            intro w3 A4 c4 h1 h2 h3
            have e1 : σ2.pop = (gd, σd) := by
              rw [HPOP.out, Se.pop_none HPL.out, List.append_nil]
            have h5 := HC2.out.size
            have h6 := HB1.out
            have h7 := HTL.out
            have h8 := h3.size
            have hts : t ≠ g ∧ t ≠ m := ⟨htg, htm⟩
            have hb7 := blk_set (h1.trans HX1.out) 7 (.slice A4 1 c4)
            have hsz : (w3.setCell ⟨t, 7, none⟩ (.slice A4 1 c4)).heap.size = w3.heap.size := by simp [World.setCell]
            refine ⟨B2, A4, A, c4, c, rfl, ?_, ?_, ?_, ?_, ?_, HBB.out, HBN.out⟩
            · rw [hb7, e1]
              rfl
            · rw [e1]
              refine (HS1.out.below h3).step (by rw [hsz]; exact Nat.le_refl _) (fun k hk _ => Below.heap_setCell _ _ _ _ ?_)
              rintro rfl
              exact hk.elim htM htM2
            · rw [e1, ← hx]
              refine Kd.N_mono (Kd.N_lower (Kd.N_far h2 (fun k hk => ?_) _) (by omega)) (fun k hk => ⟨by omega, fun hb => ?_⟩)
              · show k ≠ t
                omega
              · have := HBl.out k hb
                omega
            · rw [e1]
              refine Kd.V_far (Kd.V_mono (Kd.V_step (Kd.N_V (Kd.N_bound HN1.out)) (fun k hk hl => h3.block k hl)) (fun k hk => ?_)) (fun k hk => hk.2.2.1) _
              obtain ⟨hk1, hk2⟩ := hk
              refine ⟨hk1.elim (fun h => HBN.out k h) (fun h => .inr (by omega)), by rw [hsz]; omega, ?_, ?_, ?_⟩
              · rintro rfl
                rcases hk1 with h | h
                · exact htM2 h
                · omega
              · intro hM
                rcases hk1 with h | h
                · exact (HMl.out k hM).2 h
                · have := (HMl.out k hM).1
                  omega
              · intro he
                have := Kd.N_base h2 k he.symm
                omega
            · refine ((((HC2.out.mono (fun i hi => Or.inl hi)).trans HC1.out (fun i hi => .inl hi)).then_below h3)).set _ _ (.inl (.inr rfl))
          clear hx
          have HTL1 : Hid (t < W1.heap.size) := Lib.hid (blk_lt HX1.out)
          go_region_law (first
              | (refine Kd.N_append_step k27 (w0 := W1) W1.heap.size (by rfl) (.tmp 142) (.tmp 148) 42 27 (.agg #[.int .u8 0, .int .u32 0, .int .u32 0, .int .u64 0, .int .u64 0, .slice none 0 0]) 56 (by rfl) Try.underlying42 Try.info27 rfl (by decide) (by omega) (.slice none 0 0) [] x [.int .u8 x.f0, .int .u32 x.f1, .int .u32 x.f2, .int .u64 x.f3, .int .u64 x.f4, .slice none 0 0] (fun k => W1.heap.size ≤ k) (fun _ => False) (by rfl) (by rfl) ?aP ?aK ?aF ?aO ?aB ?aS ?aL ?_; (case aP => exact hxb.out _); (case aK => exact fun _ hk => hk.elim); (case aF => intro k hk; have := HB2.out.size; omega); (case aO => exact Kd.N_nil _ _ _ _ _); (case aB => exact HB2.out); (case aS => exact HB2.out.size); (case aL => simp); intro v3 w3 hs3 hb3 hg3 hat3; have hk3 := hb3.block t HTL1.out; have hk4 := hk3.trans HX1.out; have u7 := blk_cell hk4 7 (.slice none 0 0) rfl; have u8 := blk_free hk4 7; have u0 := blk_cell hk4 0 (.pointer (some ⟨g, 0, none⟩)) rfl; have HK3 := Lib.hid hk3; have HB3 := Lib.hid hb3; have HS3 := Lib.hid hs3; clear hs3 hb3 hg3 hat3 hk3 hk4; obtain ⟨A4, c4, e4⟩ := Kd.N_slice HS3.out; replace e4 : v3 = .slice A4 1 c4 := e4; subst e4)
              | (go_simp; go_at_call 68; refine (hcall.out _ (HS1.out.drewN _)).mono ?_; rintro e w2 ⟨rfl, hb2⟩; replace hb2 : Below W1.heap.size W1 w2 := ⟨hb2.os, hb2.tape, hb2.output, hb2.size, hb2.block⟩; have s0 := pw_cell_below hb2 t0; have s7 := pw_cell_below hb2 t7; have sA := (fun o => Lib.cell?_alloc_some o s0); have sB := (fun o => Lib.cell?_alloc_some o s7); have HB2 := Lib.hid hb2; clear hb2))
          all_goals
            go_wp2_with fail
            go_end0
            exact FIN.out _ _ _ HK3.out HS3.out HB3.out
        | some j =>
          obtain ⟨hjl, A6, c6, hlook, hVx, _⟩ := hE.there hp
          rw [← ha] at hlook
          obtain ⟨x, hxe⟩ : ∃ x, x = (σd.E.getD j (0, [])).2 := ⟨_, rfl⟩
          rw [← hxe] at hlook hVx
          have HPL := Lib.hid hp
          have HJL := Lib.hid hjl
          have HXE := Lib.hid hxe
          have HVX := Lib.hid hVx
          have HAE := Lib.hid ha
          clear hs hx hN hcg hpop hk hnn hgl hbo hpe hE hbk hMl hBl hp ha hb0 hM hMm hjl hVx hxe
          go_wp2_with fail
          go_quiet (fail)
          obtain ⟨nqx, hnqx⟩ : ∃ x, x = nq := ⟨_, rfl⟩
          rw [← hnqx]
          clear hnqx nq
          go_upto_region 7 with fail
          have HS1 := Lib.hid (HS.out.drewN nqx)
          have HX1 : Hid ((wr.drewN nqx).heap[t]? = _) := HX
          have HN1 := Lib.hid (Kd.N_drewN HN.out nqx)
          have HC1 : Hid (Chg (fun k => M k ∨ k = t) wc (wr.drewN nqx)) := Lib.hid (HCG.out.drewN _)
          have HB1 : Hid (wc.heap.size ≤ (wr.drewN nqx).heap.size) := Lib.hid HNUM.out.2.2.2.2.2
          have HV1 := Lib.hid (Kd.V_drewN HVX.out nqx)
          have HNU : Hid (σd.E.length = gk ∧ σd.inn + ↑gk = σ2.inn + ↑σ2.E.length ∧ gd.length + gk = σ2.E.length ∧ σd.boot = σ2.boot ∧ σd.peer = σ2.peer) := Lib.hid ⟨HNUM.out.1, HNUM.out.2.1, HNUM.out.2.2.1, HNUM.out.2.2.2.1, HNUM.out.2.2.2.2.1⟩
          clear t0 s8 s9 hlook HS HX HN HCG HVX HNUM
          generalize wr.drewN nqx = W1 at *
          obtain ⟨_, _, _, _, _, o, hdel⟩ := HS1.out.em.there HPL.out
          rw [← HAE.out] at hdel
          obtain ⟨A1, c1, hbk, _, _, hM, hMm, hMl, hBl, _⟩ := HS1.out.open_
          have hd1 := (hdel 1).1
          have hem : Em ((W1.drewN 1).putObj m o) B2 m (σd.E.eraseIdx j) := (hdel 1).2 (fun i hi he => (hMl m hMm).2 (he ▸ hi))
          have hd2 : (Builtin.delete_ #[68, 24] 0 #[.map (some m), .int .u64 (a + 1)]).run Try.prog W1.drew = .ok (.tuple #[]) ((W1.drewN 1).putObj m o) := hd1
          have t0 := blk_cell HX1.out 0 (.pointer (some ⟨g, 0, none⟩)) rfl
          have s8 := blk_cell hbk 8 (.int .u64 a) (by rw [HAE.out]; rfl)
          have s9 := blk_cell hbk 9 (.map (some m)) rfl
          have hcm : Chg (fun k => k = m) W1 ((W1.drewN 1).putObj m o) := ((Chg.refl (fun k => k = m) W1).drewN 1).trans (chg_putObj _ m o) (fun i hi => .inl hi)
          have hs2 := HS1.out.early hcm (B' := B2) (fun k hk => hk) (fun k hk => ⟨Nat.lt_of_lt_of_le (hBl k hk) hcm.size, fun h => (hMl k h).2 hk⟩) hem
          have HS2 := Lib.hid hs2
          have HCM := Lib.hid hcm
          have HX2 := Lib.hid ((hcm.block t (blk_lt HX1.out) htm).trans HX1.out)
          clear hs2 hcm hem hdel hbk hMl hBl hM hMm
          go_region
          go_upto_region 8 with fail
          clear hd1 hd2 t0 s8 s9
          have HNN := Lib.hid (Kd.N_step HN1.out (fun k hk hl => HCM.out.block k hl (fun he => by
            subst he
            rcases hk with h | h
            · exact (HMl.out k HS1.out.2.1).2 h
            · have := (HMl.out k HS1.out.2.1).1
              omega)))
          have HVV := Lib.hid (Kd.V_step HV1.out (fun k hk hl => HCM.out.block k hl (fun he => by
            subst he
            exact (HMl.out k HS1.out.2.1).2 hk)))
          have HCC := Lib.hid (HC1.out.trans HCM.out (fun i hi => .inl (.inl (by rw [hi]; exact HS1.out.2.1))))
          have HBN2 := Lib.hid (Nat.le_trans HB1.out HCM.out.size)
          clear HN1 HV1 HC1 HB1 HX1 HS1 HCM
          generalize (W1.drewN 1).putObj m o = W2 at *
          obtain ⟨A7, c7, hbk, _, _, hM, hMm, hMl, hBl, _⟩ := HS2.out.open_
          have t0 := blk_cell HX2.out 0 (.pointer (some ⟨g, 0, none⟩)) rfl
          have s8 := blk_cell hbk 8 (.int .u64 a) (by rw [HAE.out]; rfl)
          have f8 := blk_free hbk 8
          obtain ⟨σe, hσe⟩ : ∃ σe : Se, σe = { σd with inn := a + 1, E := σd.E.eraseIdx j } := ⟨_, rfl⟩
          have hcel := HS2.out.cell 8 (.int .u64 (a + 1)) σe (fun v => by rw [hσe]; rfl) (by rw [hσe]) (by rw [hσe])
          have HS3 := Lib.hid hcel.1
          have hcg : Chg (fun k => k = g) W2 (W2.setCell ⟨g, 8, none⟩ (.int .u64 (a + 1))) := (Chg.refl _ W2).set _ _ (.inl rfl)
          have HX3 := Lib.hid ((hcg.block t (blk_lt HX2.out) htg).trans HX2.out)
          have HN3 := Lib.hid (Kd.N_step HNN.out (fun k hk hl => hcg.block k hl (fun he => by
            subst he
            rcases hk with h | h
            · exact (HMl.out k hM).2 h
            · have := (HMl.out k hM).1
              omega)))
          have HV3 := Lib.hid (Kd.V_step HVV.out (fun k hk hl => hcg.block k hl (fun he => by
            subst he
            exact (HMl.out k hM).2 hk)))
          have HC3 := Lib.hid (HCC.out.trans hcg (fun i hi => .inl (.inl (by rw [hi]; exact hM))))
          have HBN3 := Lib.hid (Nat.le_trans HBN2.out hcg.size)
          have HM := Lib.hid hM
          have HSE := Lib.hid hσe
          clear hcel hcg hbk hM hMm hMl hBl HS2 HX2 HNN HVV HCC HBN2 hσe
          go_upto_region 9 with fail
          generalize W2.setCell ⟨g, 8, none⟩ (.int .u64 (a + 1)) = W3 at *
          clear t0 s8 f8
          have t0 := blk_cell HX3.out 0 (.pointer (some ⟨g, 0, none⟩)) rfl
          have t8 := blk_cell HX3.out 8 (.slice A gd.length c) rfl
          have hgb : gd.length ≤ 1099511627777 := by
            have h1 := HNU.out.2.2.1
            have h2 := K8.out
            have h3 := K9.out
            omega
          have HGB := Lib.hid hgb
          clear hgb
          go_wp2_with (first
            | ((with_reducible refine gate_builtin (b := .append) (xs := #[.tmp 132, .tmp 134]) rfl ?_); at_builtin; refine Kd.N_append (Kd.slice 5 KB) (w0 := W3) wc.heap.size rfl (.tmp 132) (.tmp 134) 45 25 (.slice none 0 0) 24 rfl Try.underlying45 Try.info25 rfl (by decide) (by omega) (.slice A gd.length c) gd x [.slice A6 x.length c6] (fun k => B2 k ∨ wc.heap.size ≤ k) (fun k => B2 k) rfl rfl ?bP2 ?bK2 ?bF2 ?bO2 ?bB2 ?bS2 ?bL2 ?_; (case bP2 => exact FK_slice HV3.out); (case bK2 => intro k hk; exact ⟨.inl hk, fun he => by have := Kd.N_base HN3.out k he.symm; have := HBl.out k hk; omega⟩); (case bF2 => intro k hk; exact .inr (Nat.le_trans HBN3.out hk)); (case bO2 => exact HN3.out); (case bB2 => exact Below.refl _ _); (case bS2 => exact HBN3.out); (case bL2 => have := HGB.out; omega); intro v3 w4 hr4 hb4 hg4 hat4; have HR4 := Lib.hid hr4; have HB4 := Lib.hid hb4; have hx4 := (hb4.block t HL2.out).trans HX3.out; have HX4 := Lib.hid hx4; have u0 := blk_cell hx4 0 (.pointer (some ⟨g, 0, none⟩)) rfl; have u8 := blk_free hx4 8; have u9 := blk_cell hx4 8 (.slice A gd.length c) rfl; clear hr4 hb4 hg4 hat4 hx4; obtain ⟨A9, c9, e9⟩ := Kd.N_slice HR4.out; subst e9))
          go_roundg (gk - 1)
          case measure =>
            have h1 := HNU.out.1
            have h2 := HJL.out
            omega
          case rel =>
            have hb7 := blk_set HX4.out 8 (.slice A9 (gd.length + 1) c9)
            have hsz : (w4.setCell ⟨t, 8, none⟩ (.slice A9 (gd.length + 1) c9)).heap.size = w4.heap.size := by simp [World.setCell]
            have h1 := HNU.out.1
            have h2 := HJL.out
            have h3 := HNU.out.2.1
            have h4 := HNU.out.2.2.1
            have h5 := HB4.out.size
            have h6 := HBN3.out
            have h9 := HAE.out
            have hlen : σe.E.length = gk - 1 := by
              rw [HSE.out]
              show (σd.E.eraseIdx j).length = _
              rw [List.length_eraseIdx_of_lt h2, h1]
            have hinn : σe.inn = a + 1 := by rw [HSE.out]
            refine ⟨σe, gd ++ [x], A9, c9, ?_, ?_, ?_, ?_, ?_, hlen, ?_, ?_, ?_, ?_, ?_⟩
            · refine (HS3.out.step (w' := w4) h5 (fun k hk hl => HB4.out.block k (hk.elim (fun h => (HMl.out k h).1) (fun h => HBl.out k h)))).step (by rw [hsz]; exact Nat.le_refl _) (fun k hk _ => Below.heap_setCell _ _ _ _ ?_)
              rintro rfl
              exact hk.elim htM htM2
            · rw [hb7, List.length_append]
              rfl
            · rw [show gd.length + 1 = (gd ++ [x]).length by simp] at *
              refine Kd.N_far HR4.out (fun k hk => ?_) _
              rintro rfl
              rcases hk with h | h
              · exact htM2 h
              · have := HL2.out
                omega
            · have hq : Chg (fun k => M k ∨ k = t) wc w4 := ⟨HB4.out.os.trans HC3.out.os, HB4.out.tape.trans HC3.out.tape, HB4.out.output.trans HC3.out.output, Nat.le_trans HC3.out.size h5, fun k hk hn => (HB4.out.block k hk).trans (HC3.out.block k hk hn)⟩
              exact hq.set _ _ (.inl (.inr rfl))
            · rw [HPOP.out, Se.pop_some HPL.out]
              have : ({ σd with inn := σd.inn + 1, E := σd.E.eraseIdx j } : Se) = σe := by rw [HSE.out, h9]
              rw [this, ← HXE.out, List.append_assoc]
              rfl
            · rw [hinn]
              omega
            · rw [List.length_append, List.length_singleton]
              omega
            · rw [HSE.out]
              exact HNU.out.2.2.2.1
            · rw [HSE.out]
              exact HNU.out.2.2.2.2
            · rw [hsz]
              omega
end
end Go.Proofs.Ytlnhjkbhhdcdeaa
