/- Messages come once and in order: what one session's steps keep, in plain Lean. -/
import Derived.Test.YtlnhjkbhhdcdeaaOg
namespace Go.Proofs.Ytlnhjkbhhdcdeaa
open Go Go.RowKit
open Go.Proofs.Ytlnhjkbhhdcdeaa.PSessionRuns (S27 k27 z27 S116 k116 z116)
set_option linter.unusedVariables false
/-- Of one who sends: what was handed to it with these boots begins with what is done, and what waits is the rest. -/
def SI (σ : Se) (sent : List Ma) (bo : Int) : Prop :=
  (∀ x ∈ sent, x.fr ≤ bo ∧ (x.fr = bo → x.to_ ≤ σ.peer)) ∧ (σ.peer ≠ 0 → ∃ d : Nat, σ.base = d + 1 ∧ d ≤ (btw sent bo σ.peer).length ∧ σ.L = (btw sent bo σ.peer).drop d)
/-- Of one who gets, when so much was handed out. -/
def RI (σ : Se) (got sent : List Ma) (bo : Int) : Prop :=
  (∀ x ∈ got, x.to_ ≤ bo ∧ (x.to_ = bo → x.fr ≤ σ.peer)) ∧
  (σ.peer ≠ 0 → ∃ d : Nat, σ.inn = d ∧ d ≤ (btw sent σ.peer bo).length ∧ btw got σ.peer bo = (btw sent σ.peer bo).take d ∧ ∀ p ∈ σ.E, ∃ k : Nat, p.1 = k + 1 ∧ (btw sent σ.peer bo)[k]? = some p.2) ∧
  ∀ x y, btw got x y <+: btw sent x y
/-- Of a frame on its way. -/
def FI (sent : List Ma) (f : S27) : Prop := chk f.f0 f.f1 f.f2 f.f3 f.f4 f.f5.length = 0 ∧ (f.f0 = 2 → ∃ k : Nat, f.f3 = k + 1 ∧ (btw sent f.f1 f.f2)[k]? = some f.f5)
section
variable {σ τ : Se} {sent got : List Ma} {bo n : Int}
theorem SI.congr (h : SI σ sent bo) (h1 : τ.peer = σ.peer) (h2 : τ.base = σ.base) (h3 : τ.L = σ.L) : SI τ sent bo := by
  unfold SI at h ⊢
  rw [h1, h2, h3]
  exact h
theorem RI.congr (h : RI σ got sent bo) (h1 : τ.peer = σ.peer) (h2 : τ.inn = σ.inn) (h3 : τ.E = σ.E) : RI τ got sent bo := by
  unfold RI at h ⊢
  rw [h1, h2, h3]
  exact h
theorem btw_mono (sent more : List Ma) (a b : Int) : btw sent a b <+: btw (sent ++ more) a b := by
  rw [btw_append]
  exact List.prefix_append _ _
theorem get_prefix {α : Type} {a b : List α} (h : a <+: b) {k : Nat} {x : α} (hk : a[k]? = some x) : b[k]? = some x := by
  obtain ⟨t, rfl⟩ := h
  have : k < a.length := by
    rcases Nat.lt_or_ge k a.length with q | q
    · exact q
    · rw [List.getElem?_eq_none q] at hk
      cases hk
  rw [List.getElem?_append_left this]
  exact hk
theorem FI.more {f : S27} (h : FI sent f) (more : List Ma) : FI (sent ++ more) f := by
  refine ⟨h.1, fun h2 => ?_⟩
  obtain ⟨k, h3, h4⟩ := h.2 h2
  exact ⟨k, h3, get_prefix (btw_mono sent more _ _) h4⟩
theorem RI.more (h : RI σ got sent bo) (more : List Ma) : RI σ got (sent ++ more) bo := by
  refine ⟨h.1, fun hp => ?_, fun x y => (h.2.2 x y).trans (btw_mono sent more x y)⟩
  obtain ⟨d, h1, h2, h3, h4⟩ := h.2.1 hp
  have hm := btw_mono sent more σ.peer bo
  refine ⟨d, h1, Nat.le_trans h2 hm.length_le, ?_, fun p hp => ?_⟩
  · obtain ⟨t, ht⟩ := hm
    rw [h3, ← ht, List.take_append_of_le_length h2]
  · obtain ⟨k, h5, h6⟩ := h4 p hp
    exact ⟨k, h5, get_prefix hm h6⟩
theorem hello_fi (ok : Ok n σ) : FI sent σ.helloF := ⟨(hello_may ok).1, fun h => absurd h (by show ¬ (1 : Int) = 2; decide)⟩
theorem ack_fi (ok : Ok n σ) (hp : 1 ≤ σ.peer) : FI sent σ.ackF := ⟨(ack_may ok hp).1, fun h => absurd h (by show ¬ (3 : Int) = 2; decide)⟩
theorem frame_fi (ok : Ok n σ) (hp : 1 ≤ σ.peer) (hs : SI σ sent bo) (hb : σ.boot = bo) (k : Nat) (hk : k < σ.L.length) : FI sent (σ.frame k) := by
  refine ⟨(frame_may ok hp k).1, fun _ => ?_⟩
  obtain ⟨d, h1, h2, h3⟩ := hs.2 (by omega)
  refine ⟨d + k, ?_, ?_⟩
  · show σ.base + (k : Int) = ((d + k : Nat) : Int) + 1
    omega
  · show (btw sent σ.boot σ.peer)[d + k]? = some (σ.L.getD k [])
    have h4 : σ.L[k]? = some (σ.L.getD k []) := by
      rw [List.getD_eq_getElem?_getD, List.getElem?_eq_getElem hk]
      rfl
    rw [← h4, h3, List.getElem?_drop, hb]
theorem seg_fi (ok : Ok n σ) (hp : 1 ≤ σ.peer) (hs : SI σ sent bo) (hb : σ.boot = bo) (lo hi : Nat) (hh : hi ≤ σ.L.length) : ∀ f ∈ σ.seg lo hi, FI sent f := by
  intro f hf
  unfold Se.seg at hf
  obtain ⟨k, hk, rfl⟩ := List.mem_map.1 hf
  have := List.mem_range'_1.1 hk
  exact frame_fi ok hp hs hb k (by omega)
theorem fl_le_len (σ : Se) : σ.fl ≤ σ.L.length := by
  unfold Se.fl
  split
  · exact Nat.min_le_left _ _
  · exact Nat.zero_le _
theorem freshL_fi (ok : Ok n σ) (u : Uok σ) (hs : SI σ sent bo) (hb : σ.boot = bo) : ∀ f ∈ σ.freshL, FI sent f := by
  intro f hf
  unfold Se.freshL at hf
  split at hf
  · rename_i h
    exact seg_fi ok (u h) hs hb _ _ (fl_le_len σ) f hf
  · cases hf
theorem fresh_same (σ : Se) : σ.fresh.peer = σ.peer ∧ σ.fresh.base = σ.base ∧ σ.fresh.L = σ.L ∧ σ.fresh.inn = σ.inn ∧ σ.fresh.E = σ.E ∧ σ.fresh.now = σ.now := by
  unfold Se.fresh
  split
  · split <;> exact ⟨rfl, rfl, rfl, rfl, rfl, rfl⟩
  · exact ⟨rfl, rfl, rfl, rfl, rfl, rfl⟩
theorem met_same (σ : Se) (f : S27) : (σ.met f).peer = σ.peer ∧ (σ.met f).base = σ.base ∧ (σ.met f).L = σ.L ∧ (σ.met f).inn = σ.inn ∧ (σ.met f).E = σ.E ∧ (σ.met f).now = σ.now := by
  unfold Se.met
  split <;> exact ⟨rfl, rfl, rfl, rfl, rfl, rfl⟩
theorem put_same (σ : Se) (q : Int) (x : List Int) : (σ.put q x).peer = σ.peer ∧ (σ.put q x).base = σ.base ∧ (σ.put q x).L = σ.L ∧ (σ.put q x).inn = σ.inn ∧ (σ.put q x).now = σ.now := by
  unfold Se.put
  split <;> exact ⟨rfl, rfl, rfl, rfl, rfl⟩
theorem pops_same : ∀ (k : Nat) (σ : Se), (pops k σ).2.peer = σ.peer ∧ (pops k σ).2.base = σ.base ∧ (pops k σ).2.L = σ.L ∧ (pops k σ).2.now = σ.now
  | 0, σ => ⟨rfl, rfl, rfl, rfl⟩
  | k + 1, σ => by
    rw [pops]
    cases plc σ.E (σ.inn + 1) 0 with
    | none => exact ⟨rfl, rfl, rfl, rfl⟩
    | some j => exact pops_same k { σ with inn := σ.inn + 1, E := σ.E.eraseIdx j }
theorem told_same (σ : Se) (a : Int) : (σ.told a).peer = σ.peer ∧ (σ.told a).inn = σ.inn ∧ (σ.told a).E = σ.E ∧ (σ.told a).now = σ.now := by
  unfold Se.told
  split
  · simp only
    split <;> exact ⟨rfl, rfl, rfl, rfl⟩
  · exact ⟨rfl, rfl, rfl, rfl⟩
theorem told_si (ok : Ok n σ) (h : SI σ sent bo) (a : Int) : SI (σ.told a) sent bo := by
  obtain ⟨h1, _⟩ := told_same σ a
  refine ⟨by rw [h1]; exact h.1, fun hp => ?_⟩
  rw [h1] at hp ⊢
  obtain ⟨d, h3, h4, h5⟩ := h.2 hp
  by_cases ht : σ.tells a = true
  · have ht2 := ht
    unfold Se.tells at ht2
    simp at ht2
    have h6 := ok.sent2
    have hL : σ.L.length = (btw sent bo σ.peer).length - d := by rw [h5, List.length_drop]
    have e1 : (σ.told a).base = a + 1 := by
      unfold Se.told
      rw [if_pos ht]
      simp only
      split <;> rfl
    have e2 : (σ.told a).L = σ.L.drop (a - σ.base + 1).toNat := by
      unfold Se.told
      rw [if_pos ht]
      simp only
      split <;> rfl
    refine ⟨d + (a - σ.base + 1).toNat, by rw [e1]; omega, by omega, ?_⟩
    rw [e2, h5, List.drop_drop]
  · have e : σ.told a = σ := by
      unfold Se.told
      rw [if_neg ht]
    rw [e]
    exact ⟨d, h3, h4, h5⟩
theorem anew_si (h : SI σ sent bo) (b : Int) (hb : σ.peer < b) : SI (σ.anew b) sent bo := by
  refine ⟨fun x hx => ⟨(h.1 x hx).1, fun he => ?_⟩, fun _ => ?_⟩
  · have := (h.1 x hx).2 he
    show x.to_ ≤ b
    omega
  · have e : btw sent bo b = [] := by
      unfold btw
      rw [List.map_eq_nil_iff, List.filter_eq_nil_iff]
      intro x hx hc
      simp at hc
      have := (h.1 x hx).2 hc.1
      omega
    refine ⟨0, rfl, Nat.zero_le _, ?_⟩
    show [] = (btw sent bo b).drop 0
    rw [e]
    rfl
theorem anew_ri (h : RI σ got sent bo) (b : Int) (hb : σ.peer < b) : RI (σ.anew b) got sent bo := by
  refine ⟨fun x hx => ⟨(h.1 x hx).1, fun he => ?_⟩, fun _ => ?_, h.2.2⟩
  · have := (h.1 x hx).2 he
    show x.fr ≤ b
    omega
  · have e : btw got b bo = [] := by
      unfold btw
      rw [List.map_eq_nil_iff, List.filter_eq_nil_iff]
      intro x hx hc
      simp at hc
      have := (h.1 x hx).2 hc.2
      omega
    refine ⟨0, rfl, Nat.zero_le _, ?_, fun p hp => (by cases hp)⟩
    show btw got b bo = _
    rw [e]
    rfl
/-- A message is put beside the early ones. -/
theorem put_ri (h : RI σ got sent bo) (q : Int) (x : List Int) (hx : σ.peer ≠ 0 → ∃ k : Nat, q = k + 1 ∧ (btw sent σ.peer bo)[k]? = some x) : RI (σ.put q x) got sent bo := by
  obtain ⟨h1, _, _, h4, _⟩ := put_same σ q x
  refine ⟨by rw [h1]; exact h.1, fun hp => ?_, h.2.2⟩
  rw [h1] at hp ⊢
  rw [h4]
  obtain ⟨d, e1, e2, e3, e4⟩ := h.2.1 hp
  refine ⟨d, e1, e2, e3, fun p hpE => ?_⟩
  unfold Se.put at hpE
  split at hpE
  · rcases List.mem_append.1 hpE with h5 | h5
    · exact e4 p h5
    · simp at h5
      subst h5
      exact hx hp
  · exact e4 p hpE
/-- What is handed out comes next. -/
theorem pops_ri : ∀ (k : Nat) {σ : Se} {got : List Ma}, RI σ got sent bo → σ.peer ≠ 0 → RI (pops k σ).2 (got ++ (pops k σ).1.map (fun b => ⟨σ.peer, bo, b⟩)) sent bo
  | 0, σ, got, h, hp => by
    rw [pops]
    simpa using h
  | k + 1, σ, got, h, hp => by
    rw [pops]
    cases hj : plc σ.E (σ.inn + 1) 0 with
    | none => simpa using h
    | some j =>
      obtain ⟨_, hjl, x, hx⟩ := plc_lt σ.E 0 hj
      simp only [Nat.sub_zero] at hx
      have hd : σ.E.getD j (0, []) = (σ.inn + 1, x) := by rw [List.getD_eq_getElem?_getD, hx]; rfl
      obtain ⟨d, e1, e2, e3, e4⟩ := h.2.1 hp
      obtain ⟨q, q1, q2⟩ := e4 _ (List.mem_of_getElem? hx)
      have hq : q = d := by
        have q1' : σ.inn + 1 = (q : Int) + 1 := q1
        omega
      subst hq
      have hlt : q < (btw sent σ.peer bo).length := by
        rcases Nat.lt_or_ge q (btw sent σ.peer bo).length with r | r
        · exact r
        · rw [List.getElem?_eq_none r] at q2
          cases q2
      have hb1 : btw [(⟨σ.peer, bo, x⟩ : Ma)] σ.peer bo = [x] := by simp [btw]
      have hgot : btw (got ++ [⟨σ.peer, bo, x⟩]) σ.peer bo = (btw sent σ.peer bo).take (q + 1) := by
        rw [btw_append, hb1, e3, List.take_add_one, q2]
        rfl
      have h' : RI { σ with inn := σ.inn + 1, E := σ.E.eraseIdx j } (got ++ [⟨σ.peer, bo, x⟩]) sent bo := by
        refine ⟨fun y hy => ?_, fun _ => ⟨q + 1, ?_, hlt, hgot, fun p hpE => e4 p (List.mem_of_mem_eraseIdx hpE)⟩, fun a b => ?_⟩
        · rcases List.mem_append.1 hy with h5 | h5
          · exact h.1 y h5
          · simp at h5
            subst h5
            exact ⟨Int.le_refl _, fun _ => Int.le_refl _⟩
        · show σ.inn + 1 = ((q + 1 : Nat) : Int)
          omega
        · by_cases hab : σ.peer = a ∧ bo = b
          · obtain ⟨rfl, rfl⟩ := hab
            rw [hgot]
            exact List.take_prefix _ _
          · have : btw [(⟨σ.peer, bo, x⟩ : Ma)] a b = [] := by
              rw [btw_one]
              split
              · rename_i hc
                simp at hc
                exact absurd hc hab
              · rfl
            rw [btw_append, this, List.append_nil]
            exact h.2.2 a b
      have r := pops_ri k h' hp
      have hm : (σ.E.getD j (0, [])).2 = x := by rw [hd]
      simp only [hm, List.map_cons]
      rw [List.append_cons]
      exact r
end
end Go.Proofs.Ytlnhjkbhhdcdeaa
