/- What each call of a session tells may be, in plain Lean. -/
import Derived.Test.YtlnhjkbhhdcdeaaMf
namespace Go.Proofs.Ytlnhjkbhhdcdeaa
open Go Go.RowKit
open Go.Proofs.Ytlnhjkbhhdcdeaa.PSessionRuns (S27 k27 z27 S116 k116 z116)
set_option linter.unusedVariables false
/-- A session that is up knows its peer. -/
def Uok (σ : Se) : Prop := σ.up = true → 1 ≤ σ.peer
/-- A frame that may be, from this boot. -/
def Fok (boot : Int) (f : S27) : Prop := chk f.f0 f.f1 f.f2 f.f3 f.f4 f.f5.length = 0 ∧ f.f1 = boot
def dcount (fs : List S27) : Nat := (fs.filter (fun f => f.f0 == 2)).length
section
variable {n : Int} {σ : Se}
theorem hello_may (ok : Ok n σ) : Fok σ.boot σ.helloF := by
  have := ok.boot0
  refine ⟨?_, rfl⟩
  show chk 1 σ.boot σ.peer 0 0 0 = 0
  unfold chk
  simp
  omega
theorem ack_may (ok : Ok n σ) (hp : 1 ≤ σ.peer) : Fok σ.boot σ.ackF := by
  have := ok.boot0
  refine ⟨?_, rfl⟩
  show chk 3 σ.boot σ.peer 0 σ.inn 0 = 0
  unfold chk
  simp
  omega
theorem frame_may (ok : Ok n σ) (hp : 1 ≤ σ.peer) (i : Nat) : Fok σ.boot (σ.frame i) := by
  have h1 := ok.boot0
  have h2 := ok.base0
  have h3 := ok.at_ i
  refine ⟨?_, rfl⟩
  show chk 2 σ.boot σ.peer (σ.base + i) σ.inn (σ.L.getD i []).length = 0
  generalize (σ.L.getD i []).length = l at h3 ⊢
  have e1 : decide (0 < σ.boot) = true := decide_eq_true (by omega)
  have e2 : decide (0 < σ.peer) = true := decide_eq_true (by omega)
  have e3 : decide (0 < σ.base + (i : Int)) = true := decide_eq_true (by omega)
  have e4 : decide ((l : Int) ≤ 65536) = true := decide_eq_true (by omega)
  unfold chk
  rw [e1, e2, e3, e4]
  rfl
theorem seg_may (ok : Ok n σ) (hp : 1 ≤ σ.peer) (lo hi : Nat) : ∀ f ∈ σ.seg lo hi, Fok σ.boot f := by
  intro f hf
  unfold Se.seg at hf
  obtain ⟨i, _, rfl⟩ := List.mem_map.1 hf
  exact frame_may ok hp i
theorem freshL_may (ok : Ok n σ) (u : Uok σ) : ∀ f ∈ σ.freshL, Fok σ.boot f := by
  intro f hf
  unfold Se.freshL at hf
  split at hf
  · rename_i h
    exact seg_may ok (u h) _ _ f hf
  · cases hf
theorem told_up (σ : Se) (a : Int) : (σ.told a).up = σ.up ∧ (σ.told a).peer = σ.peer ∧ (σ.told a).boot = σ.boot ∧ (σ.told a).win = σ.win := by
  unfold Se.told
  split
  · simp only
    split <;> exact ⟨rfl, rfl, rfl, rfl⟩
  · exact ⟨rfl, rfl, rfl, rfl⟩
theorem put_up (σ : Se) (q : Int) (x : List Int) : (σ.put q x).up = σ.up ∧ (σ.put q x).peer = σ.peer ∧ (σ.put q x).boot = σ.boot ∧ (σ.put q x).win = σ.win := by
  unfold Se.put
  split <;> exact ⟨rfl, rfl, rfl, rfl⟩
theorem pops_up : ∀ (k : Nat) (σ : Se), (pops k σ).2.up = σ.up ∧ (pops k σ).2.peer = σ.peer ∧ (pops k σ).2.boot = σ.boot ∧ (pops k σ).2.win = σ.win
  | 0, σ => ⟨rfl, rfl, rfl, rfl⟩
  | k + 1, σ => by
    rw [pops]
    cases plc σ.E (σ.inn + 1) 0 with
    | none => exact ⟨rfl, rfl, rfl, rfl⟩
    | some j => exact pops_up k { σ with inn := σ.inn + 1, E := σ.E.eraseIdx j }
theorem kind_up (σ : Se) (f : S27) : (σ.kind f).2.2.up = σ.up ∧ (σ.kind f).2.2.peer = σ.peer ∧ (σ.kind f).2.2.boot = σ.boot ∧ (σ.kind f).2.2.win = σ.win := by
  unfold Se.kind
  split
  · exact ⟨rfl, rfl, rfl, rfl⟩
  · split
    · obtain ⟨a1, a2, a3, a4⟩ := told_up σ f.f4
      obtain ⟨b1, b2, b3, b4⟩ := put_up (σ.told f.f4) f.f3 f.f5
      obtain ⟨c1, c2, c3, c4⟩ := pops_up ((σ.told f.f4).put f.f3 f.f5).E.length ((σ.told f.f4).put f.f3 f.f5)
      exact ⟨c1.trans (b1.trans a1), c2.trans (b2.trans a2), c3.trans (b3.trans a3), c4.trans (b4.trans a4)⟩
    · exact told_up σ f.f4
theorem fresh_up (σ : Se) : σ.fresh.up = σ.up ∧ σ.fresh.peer = σ.peer ∧ σ.fresh.boot = σ.boot ∧ σ.fresh.win = σ.win := by
  unfold Se.fresh
  split
  · split <;> exact ⟨rfl, rfl, rfl, rfl⟩
  · exact ⟨rfl, rfl, rfl, rfl⟩
theorem dcount_append (a b : List S27) : dcount (a ++ b) = dcount a + dcount b := by
  unfold dcount
  rw [List.filter_append, List.length_append]
theorem dcount_le (a : List S27) : dcount a ≤ a.length := List.length_filter_le _ _
theorem freshL_win (ok : Ok n σ) : (σ.freshL.length : Int) ≤ σ.win := by
  have h1 := ok.win0
  unfold Se.freshL
  split
  · rename_i h
    rw [Se.seg_len]
    have : σ.fl ≤ σ.win.toNat := by
      unfold Se.fl
      rw [if_pos h]
      omega
    omega
  · show (0 : Int) ≤ σ.win
    omega
/-- What a call keeps: the boot, the window, that who is up knows the peer; its frames may be, and no more are data than the window has room for. -/
structure May (σ σ' : Se) (fs : List S27) : Prop where
  up : Uok σ'
  fr : ∀ f ∈ fs, Fok σ.boot f
  dc : (dcount fs : Int) ≤ σ.win
  boot : σ'.boot = σ.boot
  win : σ'.win = σ.win
theorem May.none_ (ok : Ok n σ) (u : Uok σ) : May σ σ [] := ⟨u, fun f hf => (by cases hf), (by have := ok.win0; show (0 : Int) ≤ σ.win; omega), rfl, rfl⟩
theorem dcount_hello (σ : Se) : dcount [σ.helloF] = 0 := rfl
theorem dcount_ack (σ : Se) : dcount [σ.ackF] = 0 := rfl
theorem fresh_may (ok : Ok n σ) (u : Uok σ) : May σ σ.fresh σ.freshL := by
  obtain ⟨h1, h2, h3, h4⟩ := fresh_up σ
  refine ⟨fun h => by rw [h2]; exact u (h1 ▸ h), freshL_may ok u, ?_, h3, h4⟩
  have := freshL_win ok
  have := dcount_le σ.freshL
  omega
theorem sendF_may (ok : Ok n σ) (u : Uok σ) (hn : n + 65536 ≤ 1099511627776) (now : Int) (xs : List (List Int)) : May σ (σ.sendF now xs).2.2 (σ.sendF now xs).2.1 := by
  unfold Se.sendF
  split
  · rename_i ha
    split
    · exact May.none_ ok u
    · rename_i h1
      split
      · exact May.none_ ok u
      · rename_i h2
        have m := fresh_may (ok.send ha h1 h2 hn) u
        exact ⟨m.up, m.fr, m.dc, m.boot, m.win⟩
  · exact May.none_ ok u
theorem tickF_may (ok : Ok n σ) (u : Uok σ) (now : Int) : May σ (σ.tickF now).2.2 (σ.tickF now).2.1 := by
  have hw := ok.win0
  unfold Se.tickF
  split
  · rename_i ha
    split
    · split
      · rename_i h
        have ok2 := (ok.now_ ha).start
        refine ⟨u, seg_may ok2 (u h) _ _, ?_, rfl, rfl⟩
        have h1 := dcount_le (({ σ with now := now } : Se).start.seg 0 ({ σ with now := now } : Se).start.fl)
        rw [Se.seg_len] at h1
        have h2 : ({ σ with now := now } : Se).start.fl ≤ σ.win.toNat := by
          unfold Se.fl
          rw [if_pos (show ({ σ with now := now } : Se).start.up = true from h)]
          exact Nat.min_le_right _ _
        simp only
        omega
      · refine ⟨u, fun f hf => ?_, ?_, rfl, rfl⟩
        · simp at hf
          subst hf
          exact hello_may ok
        · rw [dcount_hello]
          show (0 : Int) ≤ σ.win
          omega
    · exact ⟨u, fun f hf => (by cases hf), (by show (0 : Int) ≤ σ.win; omega), rfl, rfl⟩
  · exact May.none_ ok u
theorem met_up (σ : Se) (f : S27) : (σ.met f).peer = σ.peer ∧ (σ.met f).boot = σ.boot ∧ (σ.met f).win = σ.win ∧ (f.f2 = σ.boot → (σ.met f).up = true) ∧ ((σ.met f).up = true → σ.up = true ∨ f.f2 = σ.boot) := by
  unfold Se.met
  split
  · rename_i h
    exact ⟨rfl, rfl, rfl, fun _ => rfl, fun _ => .inr h.1⟩
  · rename_i h
    refine ⟨rfl, rfl, rfl, fun h2 => ?_, fun h2 => .inl h2⟩
    cases hu : σ.up with
    | true => rfl
    | false => exact absurd ⟨h2, hu⟩ h
theorem kind_may (ok : Ok n σ) (u : Uok σ) (hn : n + 1 ≤ 1099511627776) (f : S27) (hl : f.f0 = 2 → f.f5.length ≤ 65536) (hp : f.f0 = 2 ∨ f.f0 = 1 ∧ f.f2 ≠ 0 → σ.up = true) : (∀ x ∈ (σ.kind f).1, Fok σ.boot x) ∧ dcount (σ.kind f).1 = 0 := by
  unfold Se.kind
  split
  · rename_i h1
    by_cases h2 : f.f2 = 0
    · rw [if_pos h2]
      refine ⟨fun x hx => ?_, rfl⟩
      simp at hx
      subst hx
      exact hello_may ok
    · rw [if_neg h2]
      refine ⟨fun x hx => ?_, rfl⟩
      simp at hx
      subst hx
      exact ack_may ok (u (hp (.inr ⟨h1, h2⟩)))
  · split
    · rename_i h2
      refine ⟨fun x hx => ?_, rfl⟩
      simp at hx
      subst hx
      obtain ⟨a1, a2, a3, a4⟩ := told_up σ f.f4
      obtain ⟨b1, b2, b3, b4⟩ := put_up (σ.told f.f4) f.f3 f.f5
      obtain ⟨c1, c2, c3, c4⟩ := pops_up ((σ.told f.f4).put f.f3 f.f5).E.length ((σ.told f.f4).put f.f3 f.f5)
      have m := ack_may (((ok.told f.f4).put hn f.f3 f.f5 (hl h2)).pop) (by
        show 1 ≤ (pops _ _).2.peer
        rw [c2, b2, a2]
        exact u (hp (.inl h2)))
      have hb : ((σ.told f.f4).put f.f3 f.f5).pop.2.boot = σ.boot := c3.trans (b3.trans a3)
      rw [hb] at m
      exact m
    · exact ⟨fun x hx => (by cases hx), rfl⟩
theorem takeF_may (ok : Ok n σ) (u : Uok σ) (hn : n + 1 ≤ 1099511627776) (now : Int) (f : S27) (h0 : 0 ≤ f.f1) (h1 : f.f1 < 4294967296) : May σ (σ.takeF now f).σ (σ.takeF now f).fs := by
  have hw := ok.win0
  unfold Se.takeF
  split
  · rename_i ha
    split
    · rename_i hc
      have hcc : f.f0 = 2 → f.f5.length ≤ 65536 ∧ 0 < f.f2 := fun h2 => by
        unfold chk at hc
        rw [h2] at hc
        simp at hc
        omega
      have hf1 : 0 < f.f1 := (chk_zero hc).1
      have ok1 := ok.now_ ha
      split
      · exact ⟨u, fun f hf => (by cases hf), (by show (0 : Int) ≤ σ.win; omega), rfl, rfl⟩
      · rename_i hlow
        have h2 : ∃ σ2, σ2 = (if σ.peer < f.f1 then ({ σ with now := now } : Se).anew f.f1 else { σ with now := now }) := ⟨_, rfl⟩
        obtain ⟨σ2, e2⟩ := h2
        rw [← e2]
        have ok2 : Ok n σ2 := by
          rw [e2]
          split
          · exact ok1.anew _ h0 h1
          · exact ok1
        have hs2 : σ2.boot = σ.boot ∧ σ2.win = σ.win ∧ Uok σ2 ∧ (σ.mine f = true → 1 ≤ σ2.peer) := by
          rw [e2]
          split
          · exact ⟨rfl, rfl, fun h => (by cases h), fun _ => (show 1 ≤ f.f1 by omega)⟩
          · rename_i hle
            refine ⟨rfl, rfl, u, fun hm => ?_⟩
            show 1 ≤ σ.peer
            have : ¬ f.f1 < σ.peer := fun h => hlow ⟨hm, h⟩
            omega
        clear e2
        simp only
        split
        · rename_i hm
          obtain ⟨m1, m2, m3, m4, m5⟩ := met_up σ2 f
          have hpeer := hs2.2.2.2 hm
          have u3 : Uok (σ2.met f) := fun _ => by rw [m1]; exact hpeer
          have ok3 := ok2.met f
          have hmb : f.f2 ≠ 0 → f.f2 = σ2.boot := fun h => by
            unfold Se.mine at hm
            simp [h] at hm
            rw [hs2.1]
            exact hm
          have k := kind_may ok3 u3 hn f (fun h => (hcc h).1) (fun h => m4 (hmb (by
            rcases h with h | h
            · have := (hcc h).2
              omega
            · exact h.2)))
          have kk := ok3.kind hn f (fun h => (hcc h).1)
          obtain ⟨q1, q2, q3, q4⟩ := kind_up (σ2.met f) f
          have fm := fresh_may kk (fun h => by rw [q2]; exact u3 (q1 ▸ h))
          have hb : (σ2.met f).boot = σ.boot := m2.trans hs2.1
          have hb2 : ((σ2.met f).kind f).2.2.boot = σ.boot := q3.trans hb
          have hwn : ((σ2.met f).kind f).2.2.win = σ.win := q4.trans (m3.trans hs2.2.1)
          refine ⟨fm.up, fun x hx => ?_, ?_, fm.boot.trans hb2, fm.win.trans hwn⟩
          · rcases List.mem_append.1 hx with h | h
            · have := k.1 x h
              rw [hb] at this
              exact this
            · have := fm.fr x h
              rw [hb2] at this
              exact this
          · rw [dcount_append, k.2]
            have := fm.dc
            rw [hwn] at this
            omega
        · refine ⟨hs2.2.2.1, fun x hx => ?_, ?_, hs2.1, hs2.2.1⟩
          · simp at hx
            subst hx
            have := hello_may ok2
            rw [hs2.1] at this
            exact this
          · rw [dcount_hello]
            show (0 : Int) ≤ σ.win
            omega
    · exact May.none_ ok u
  · exact May.none_ ok u
end
end Go.Proofs.Ytlnhjkbhhdcdeaa
