/- Messages come once and in order: what one session's calls keep, in plain Lean. -/
import Derived.Test.YtlnhjkbhhdcdeaaOj
namespace Go.Proofs.Ytlnhjkbhhdcdeaa
open Go Go.RowKit
open Go.Proofs.Ytlnhjkbhhdcdeaa.PSessionRuns (S27 k27 z27 S116 k116 z116)
set_option linter.unusedVariables false
section
variable {σ τ : Se} {sent got sent' : List Ma} {bo n now : Int} {f : S27}
theorem ask_zero (h0 : 0 ≤ now) (h1 : now ≤ 1099511627776) (h : σ.now ≤ now) : σ.ask now = 0 := by
  unfold Se.ask tok
  rw [if_pos]
  simp
  omega
/-- What a call keeps of its session. -/
structure Keeps (σ : Se) (sent got sent' : List Ma) (bo now : Int) (fs : List S27) : Prop where
  si : SI σ sent bo
  ri : RI σ got sent' bo
  fi : ∀ x ∈ fs, FI sent x
  boot : σ.boot = bo
  now : σ.now ≤ now
  up : Uok σ
theorem kind_inv (ok : Ok n σ) (hn : n + 1 ≤ 1099511627776) (u : Uok σ) (hs : SI σ sent bo) (hr : RI σ got sent' bo) (hb : σ.boot = bo) (hf : FI sent' f) (hp : f.f1 = σ.peer) (hp1 : 1 ≤ σ.peer) (hm : σ.mine f = true) :
    SI (σ.kind f).2.2 sent bo ∧ RI (σ.kind f).2.2 (got ++ (σ.kind f).2.1.map (fun b => ⟨f.f1, bo, b⟩)) sent' bo ∧ (∀ x ∈ (σ.kind f).1, FI sent x) ∧ (σ.kind f).2.2.boot = bo ∧ (σ.kind f).2.2.now = σ.now ∧ Uok (σ.kind f).2.2 ∧ Ok (n + 1) (σ.kind f).2.2 := by
  have hc := hf.1
  have hcc : f.f0 = 2 → f.f5.length ≤ 65536 ∧ 0 < f.f2 := fun h2 => by
    unfold chk at hc
    rw [h2] at hc
    simp at hc
    omega
  obtain ⟨u1, u2, u3, u4⟩ := kind_up σ f
  have hok := ok.kind hn f (fun h => (hcc h).1)
  have hup : Uok (σ.kind f).2.2 := fun h => by rw [u2]; exact u (u1 ▸ h)
  have t := told_si ok hs f.f4
  obtain ⟨t1, t2, t3, t4⟩ := told_same σ f.f4
  unfold Se.kind at hok hup u3 ⊢
  by_cases h1 : f.f0 = 1
  · simp only [if_pos h1] at hok hup u3 ⊢
    refine ⟨hs, by simpa using hr, fun x hx => ?_, hb, trivial, hup, hok⟩
    simp at hx
    subst hx
    split
    · exact hello_fi ok
    · exact ack_fi ok hp1
  · by_cases h2 : f.f0 = 2
    · simp only [if_neg h1, if_pos h2] at hok hup u3 ⊢
      have hmb : f.f2 = bo := by
        unfold Se.mine at hm
        have := (hcc h2).2
        simp at hm
        omega
      have r1 : RI (σ.told f.f4) got sent' bo := hr.congr t1 t2 t3
      have hd : (σ.told f.f4).peer ≠ 0 → ∃ k : Nat, f.f3 = k + 1 ∧ (btw sent' (σ.told f.f4).peer bo)[k]? = some f.f5 := fun _ => by
        rw [t1, ← hp, ← hmb]
        exact hf.2 h2
      have r2 := put_ri r1 f.f3 f.f5 hd
      obtain ⟨p1, p2, p3, p4, p5⟩ := put_same (σ.told f.f4) f.f3 f.f5
      have hpp : ((σ.told f.f4).put f.f3 f.f5).peer = f.f1 := by rw [p1, t1, hp]
      have r3 := pops_ri ((σ.told f.f4).put f.f3 f.f5).E.length r2 (by rw [hpp, hp]; omega)
      rw [hpp] at r3
      obtain ⟨q1, q2, q3, q4⟩ := pops_same ((σ.told f.f4).put f.f3 f.f5).E.length ((σ.told f.f4).put f.f3 f.f5)
      refine ⟨t.congr (q1.trans p1) (q2.trans p2) (q3.trans p3), r3, fun x hx => ?_, u3.trans hb, q4.trans (p5.trans t4), hup, hok⟩
      simp at hx
      subst hx
      refine ack_fi hok ?_
      show 1 ≤ (pops _ _).2.peer
      rw [q1, hpp, hp]
      exact hp1
    · simp only [if_neg h1, if_neg h2] at hok hup u3 ⊢
      exact ⟨t, by simpa using hr.congr t1 t2 t3, fun x hx => (by cases hx), u3.trans hb, t4, hup, hok⟩
theorem takeF_inv (ok : Ok n σ) (hn : n + 1 ≤ 1099511627776) (u : Uok σ) (hs : SI σ sent bo) (hr : RI σ got sent' bo) (hb : σ.boot = bo) (hf : FI sent' f) (ha : σ.ask now = 0) (h0 : 0 ≤ f.f1) (h1 : f.f1 < 4294967296) :
    (σ.takeF now f).err = 0 ∧ Keeps (σ.takeF now f).σ sent (got ++ (σ.takeF now f).got.map (fun b => ⟨f.f1, bo, b⟩)) sent' bo now (σ.takeF now f).fs := by
  unfold Se.takeF
  rw [if_pos ha, if_pos hf.1]
  have hf1 : 0 < f.f1 := (chk_zero hf.1).1
  have ok1 := ok.now_ ha
  split
  · exact ⟨rfl, hs.congr rfl rfl rfl, by simpa using hr.congr (τ := { σ with now := now }) rfl rfl rfl, fun x hx => (by cases hx), hb, Int.le_refl _, u⟩
  · rename_i hlow
    obtain ⟨σ2, e2⟩ : ∃ σ2, σ2 = (if σ.peer < f.f1 then ({ σ with now := now } : Se).anew f.f1 else { σ with now := now }) := ⟨_, rfl⟩
    rw [← e2]
    have h2 : SI σ2 sent bo ∧ RI σ2 got sent' bo ∧ Ok n σ2 ∧ Uok σ2 ∧ σ2.boot = bo ∧ σ2.now = now ∧ (σ.mine f = true → f.f1 = σ2.peer) := by
      rw [e2]
      split
      · rename_i hlt
        exact ⟨anew_si (hs.congr (τ := { σ with now := now }) rfl rfl rfl) _ hlt, anew_ri (hr.congr (τ := { σ with now := now }) rfl rfl rfl) _ hlt, ok1.anew _ h0 h1, fun h => (by cases h), hb, rfl, fun _ => rfl⟩
      · rename_i hle
        refine ⟨hs.congr rfl rfl rfl, hr.congr rfl rfl rfl, ok1, u, hb, rfl, fun hm => ?_⟩
        show f.f1 = σ.peer
        have : ¬ f.f1 < σ.peer := fun h => hlow ⟨hm, h⟩
        omega
    clear e2
    obtain ⟨s2, r2, ok2, u2, b2, n2, p2⟩ := h2
    simp only
    split
    · rename_i hm
      obtain ⟨m1, m2, m3, m4, m5, m6⟩ := met_same σ2 f
      obtain ⟨_, mb, _, _, _⟩ := met_up σ2 f
      have hp := p2 hm
      have u3 : Uok (σ2.met f) := fun _ => by rw [m1]; omega
      have hm3 : (σ2.met f).mine f = true := by
        unfold Se.mine at hm ⊢
        rw [mb, b2, ← hb]
        exact hm
      obtain ⟨k1, k2, k3, k4, k5, k6, k7⟩ := kind_inv (ok2.met f) hn u3 (s2.congr m1 m2 m3) (r2.congr m1 m4 m5) (mb.trans b2) hf (by rw [m1]; exact hp) (by rw [m1]; omega) hm3
      obtain ⟨f1, f2, f3, f4, f5, f6⟩ := fresh_same ((σ2.met f).kind f).2.2
      obtain ⟨g1, g2, g3, g4⟩ := fresh_up ((σ2.met f).kind f).2.2
      refine ⟨rfl, k1.congr f1 f2 f3, k2.congr f1 f4 f5, fun x hx => ?_, g3.trans k4, ?_, fun h => by rw [g2]; exact k6 (g1 ▸ h)⟩
      · rcases List.mem_append.1 hx with h | h
        · exact k3 x h
        · exact freshL_fi k7 k6 k1 k4 x h
      · rw [f6, k5, m6, n2]
        exact Int.le_refl _
    · refine ⟨rfl, s2, by simpa using r2, fun x hx => ?_, b2, by rw [n2]; exact Int.le_refl _, u2⟩
      simp at hx
      subst hx
      exact hello_fi ok2
theorem tickF_inv (ok : Ok n σ) (u : Uok σ) (hs : SI σ sent bo) (hr : RI σ got sent' bo) (hb : σ.boot = bo) (ha : σ.ask now = 0) :
    (σ.tickF now).1 = 0 ∧ Keeps (σ.tickF now).2.2 sent got sent' bo now (σ.tickF now).2.1 := by
  unfold Se.tickF
  rw [if_pos ha]
  split
  · have ok2 := (ok.now_ ha).start
    have s2 : SI ({ σ with now := now } : Se).start sent bo := hs.congr rfl rfl rfl
    have r2 : RI ({ σ with now := now } : Se).start got sent' bo := hr.congr rfl rfl rfl
    split
    · rename_i h
      exact ⟨rfl, s2, r2, seg_fi ok2 (u h) s2 hb _ _ (fl_le_len _), hb, Int.le_refl _, u⟩
    · refine ⟨rfl, s2, r2, fun x hx => ?_, hb, Int.le_refl _, u⟩
      simp at hx
      subst hx
      exact hello_fi ok
  · exact ⟨rfl, hs.congr rfl rfl rfl, hr.congr rfl rfl rfl, fun x hx => (by cases hx), hb, Int.le_refl _, u⟩
theorem sendF_inv (ok : Ok n σ) (hn : n + 65536 ≤ 1099511627776) (u : Uok σ) (hs : SI σ sent bo) (hr : RI σ got sent' bo) (hb : σ.boot = bo) (ha : σ.ask now = 0) (b : List Int) :
    ((σ.sendF now [b]).1 = 0 ∧ Keeps (σ.sendF now [b]).2.2 (if σ.peer = 0 then sent else sent ++ [⟨bo, σ.peer, b⟩]) got sent' bo now (σ.sendF now [b]).2.1) ∨
    ((σ.sendF now [b]).1 ≠ 0 ∧ (σ.sendF now [b]).2.1 = [] ∧ (σ.sendF now [b]).2.2 = σ ∧ (decide (b.length ≤ 65536) && decide (σ.L.length < 65536)) = false) := by
  unfold Se.sendF
  rw [if_pos ha]
  split
  · rename_i h1
    refine .inr ⟨by show (2 : Int) ≠ 0; decide, rfl, rfl, ?_⟩
    simp [lg] at h1
    have : ¬ b.length ≤ 65536 := by omega
    simp [this]
  · rename_i h1
    split
    · rename_i h2
      refine .inr ⟨by show (3 : Int) ≠ 0; decide, rfl, rfl, ?_⟩
      simp at h2
      have : ¬ σ.L.length < 65536 := by omega
      simp [this]
    · rename_i h2
      have ok2 := ok.send ha h1 h2 hn
      have s2 : SI ({ σ with now := now, L := σ.L ++ [b] } : Se) (if σ.peer = 0 then sent else sent ++ [⟨bo, σ.peer, b⟩]) bo := by
        refine ⟨fun x hx => ?_, fun hp => ?_⟩
        · split at hx
          · exact hs.1 x hx
          · rcases List.mem_append.1 hx with h | h
            · exact hs.1 x h
            · simp at h
              subst h
              exact ⟨Int.le_refl _, fun _ => Int.le_refl _⟩
        · have hp' : σ.peer ≠ 0 := hp
          rw [if_neg hp']
          obtain ⟨d, e1, e2, e3⟩ := hs.2 hp'
          have hb1 : btw [(⟨bo, σ.peer, b⟩ : Ma)] bo σ.peer = [b] := by simp [btw]
          refine ⟨d, e1, ?_, ?_⟩
          · show d ≤ (btw (sent ++ [⟨bo, σ.peer, b⟩]) bo σ.peer).length
            rw [btw_append, List.length_append]
            omega
          · show σ.L ++ [b] = (btw (sent ++ [⟨bo, σ.peer, b⟩]) bo σ.peer).drop d
            rw [btw_append, hb1, List.drop_append_of_le_length e2, ← e3]
      have r2 : RI ({ σ with now := now, L := σ.L ++ [b] } : Se) got sent' bo := hr.congr rfl rfl rfl
      obtain ⟨f1, f2, f3, f4, f5, f6⟩ := fresh_same ({ σ with now := now, L := σ.L ++ [b] } : Se)
      obtain ⟨g1, g2, g3, g4⟩ := fresh_up ({ σ with now := now, L := σ.L ++ [b] } : Se)
      refine .inl ⟨rfl, s2.congr f1 f2 f3, r2.congr f1 f4 f5, freshL_fi ok2 u s2 hb, g3.trans hb, ?_, fun h => by rw [g2]; exact u (g1 ▸ h)⟩
      rw [f6]
      exact Int.le_refl _
end
end Go.Proofs.Ytlnhjkbhhdcdeaa
