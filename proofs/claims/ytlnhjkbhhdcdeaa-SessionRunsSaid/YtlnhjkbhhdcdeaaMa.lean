/- Small words of the sessions' walks; the walks of the small functions; the queue. -/
import Derived.Test.YtlnhjkbhhdcdeaaMaps
import Derived.Test.YtlnhjkbhhdcdeaaPSessionRunsx0
import Derived.ArgAppend
import Derived.Lib.SliceRun
import Derived.Deep.RegionWith
import Derived.Deep.RegionLaw
import Derived.Deep.RegionHeld3
namespace Go.Proofs.Ytlnhjkbhhdcdeaa
open Go.RowKit Go.Proofs.YtlnhjkbhhdcdeaaW.PrintWords Go.Proofs.YtlnhjkbhhdcdeaaW.PrintLast Go.Proofs.YtlnhjkbhhdcdeaaW.PrintMore
open Go.Proofs.Ytlnhjkbhhdcdeaa.PSessionRuns (S27 k27 z27 S116 k116 z116)
theorem Try.info5 : (Try.prog.info? 5).map (fun i => (i.zero, i.size, i.bytes)) = some (some (.int .u8 0), 1, 1) := by kernel_rfl
theorem Try.info25 : (Try.prog.info? 25).map (fun i => (i.zero, i.size, i.bytes)) = some (some (.slice none 0 0), 1, 24) := by kernel_rfl
theorem Try.info27 : (Try.prog.info? 27).map (fun i => (i.zero, i.size, i.bytes)) = some (some (.agg #[.int .u8 0, .int .u32 0, .int .u32 0, .int .u64 0, .int .u64 0, .slice none 0 0]), 6, 56) := by kernel_rfl
/-- A row of messages: its cells lie in a block of M, what they lead to in B. -/
def Qu (w : World) (M B : Nat → Prop) (v : Value) (xs : List (List Int)) : Prop :=
  ∃ A c, v = .slice A xs.length c ∧ xs.length ≤ c ∧ c ≤ 9223372036854775807 ∧ (0 < c → ∃ g o cur, A = some ⟨g, o, none⟩ ∧ M g ∧ w.heap[g]? = some (.cells cur 25 (0, 0)) ∧ o + c ≤ cur.size ∧
    ∀ i x, xs[i]? = some x → ∃ A5 c5, cur[o + i]? = some (.slice A5 x.length c5) ∧ Kd.V KB 5 w 0 B (.slice A5 x.length c5) x)
/-- The early messages. -/
def Em (w : World) (B : Nat → Prop) (m : Nat) (E : List (Int × List Int)) : Prop :=
  ∃ EV : List (Int × Value), MapAt w m .u64 EV ∧ EV.length = E.length ∧ ∀ (i : Nat) (p : Int × List Int), E[i]? = some p → ∃ A5 c5, EV[i]? = some (p.1, .slice A5 p.2.length c5) ∧ Kd.V KB 5 w 0 B (.slice A5 p.2.length c5) p.2
structure Se where
  L : List (List Int)
  base : Int
  sent : Int
  boot : Int
  win : Int
  tmr : Int
  peer : Int
  up : Bool
  inn : Int
  E : List (Int × List Int)
  now : Int
  set : Bool
  tm : Int
def Se.cells (σ : Se) (v : Value) (m : Nat) : Array Value := #[v, .int .u64 σ.base, .int .i64 σ.sent, .int .u32 σ.boot, .int .i64 σ.win, .int .i64 σ.tmr, .int .u32 σ.peer, .bool σ.up, .int .u64 σ.inn, .map (some m), .int .i64 σ.now, .bool σ.set, .int .i64 σ.tm]
/-- The program's session: M is what it writes, B what it only reads. -/
def Ses (M B : Nat → Prop) (g m : Nat) (σ : Se) (w : World) : Prop :=
  M g ∧ M m ∧ (∀ k, M k → k < w.heap.size ∧ ¬ B k) ∧ (∀ k, B k → k < w.heap.size) ∧ ∃ v, w.heap[g]? = some (.cells (σ.cells v m) 70 (0, 0)) ∧ Qu w M B v σ.L ∧ Em w B m σ.E
section
variable {M B : Nat → Prop} {w w' : World} {v : Value} {xs : List (List Int)} {m g : Nat} {E : List (Int × List Int)} {σ σ' : Se}
theorem Qu.step (h : Qu w M B v xs) (hm : ∀ k, M k ∨ B k → k < w.heap.size → w'.heap[k]? = w.heap[k]? ∨ ∀ cur, w.heap[k]? ≠ some (.cells cur 25 (0, 0)) ∧ ¬ B k) : Qu w' M B v xs := by
  obtain ⟨A, c, h1, h2, h3, h4⟩ := h
  refine ⟨A, c, h1, h2, h3, fun hc => ?_⟩
  obtain ⟨g, o, cur, rfl, h5, h6, h7, h8⟩ := h4 hc
  refine ⟨g, o, cur, rfl, h5, ?_, h7, fun i x hx => ?_⟩
  · rcases hm g (.inl h5) (blk_lt h6) with h | h
    · exact h.trans h6
    · exact absurd h6 (h cur).1
  · obtain ⟨A5, c5, h9, h10⟩ := h8 i x hx
    refine ⟨A5, c5, h9, Kd.V_step h10 (fun k hk hl => ?_)⟩
    rcases hm k (.inr hk) hl with h | h
    · exact h
    · exact absurd hk (h #[]).2
theorem Em.step (h : Em w B m E) (hm : w'.heap[m]? = w.heap[m]?) (hB : ∀ k, B k → k < w.heap.size → w'.heap[k]? = w.heap[k]?) : Em w' B m E := by
  obtain ⟨EV, ⟨es, cl, h1, h1'⟩, h2, h3⟩ := h
  refine ⟨EV, ⟨es, cl, hm.trans h1, h1'⟩, h2, fun i p hp => ?_⟩
  obtain ⟨A5, c5, h4, h5⟩ := h3 i p hp
  exact ⟨A5, c5, h4, Kd.V_step h5 hB⟩
theorem Qu.slice (h : Qu w M B v xs) : ∃ A c, v = .slice A xs.length c ∧ xs.length ≤ c ∧ c ≤ 9223372036854775807 := by
  obtain ⟨A, c, h1, h2, h3, _⟩ := h
  exact ⟨A, c, h1, h2, h3⟩
/-- Scalars written. -/
theorem Ses.open_ (h : Ses M B g m σ w) : ∃ A c, w.heap[g]? = some (.cells (σ.cells (.slice A σ.L.length c) m) 70 (0, 0)) ∧ σ.L.length ≤ c ∧ c ≤ 9223372036854775807 ∧ M g ∧ M m ∧ (∀ k, M k → k < w.heap.size ∧ ¬ B k) ∧ (∀ k, B k → k < w.heap.size) ∧ g ≠ m ∧
    Qu w M B (.slice A σ.L.length c) σ.L ∧ Em w B m σ.E ∧
    ∀ (w' : World) (σ' : Se), w.heap.size ≤ w'.heap.size → (∀ k, M k ∨ B k → k < w.heap.size → k ≠ g → w'.heap[k]? = w.heap[k]?) → w'.heap[g]? = some (.cells (σ'.cells (.slice A σ.L.length c) m) 70 (0, 0)) → σ'.L = σ.L → σ'.E = σ.E → Ses M B g m σ' w' := by
  obtain ⟨h1, h2, h3, h4, v, h5, h6, h7⟩ := h
  obtain ⟨A, c, rfl, h8, h9⟩ := h6.slice
  have hne : g ≠ m := by
    obtain ⟨EV, ⟨es, cl, h, _⟩, _⟩ := h7
    rintro rfl
    rw [h5] at h
    cases h
  refine ⟨A, c, h5, h8, h9, h1, h2, h3, h4, hne, h6, h7, fun w' σ' hs hm hg hL hE => ⟨h1, h2, fun k hk => ⟨Nat.lt_of_lt_of_le (h3 k hk).1 hs, (h3 k hk).2⟩, fun k hk => Nat.lt_of_lt_of_le (h4 k hk) hs, _, hg, ?_, ?_⟩⟩
  · rw [hL]
    refine h6.step (fun k hk hl => ?_)
    by_cases hkg : k = g
    · subst hkg
      refine .inr (fun cur => ⟨?_, (h3 _ h1).2⟩)
      rw [h5]
      intro h
      injection h with h
      injection h with h8 h9
      cases h9
    · exact .inl (hm k hk hl hkg)
  · rw [hE]
    exact h7.step (hm m (.inl h2) (h3 m h2).1 (fun h => hne h.symm)) (fun k hk hl => hm k (.inr hk) hl (fun h => (h3 g h1).2 (h ▸ hk)))
theorem Ses.step (h : Ses M B g m σ w) (hs : w.heap.size ≤ w'.heap.size) (hm : ∀ k, M k ∨ B k → k < w.heap.size → w'.heap[k]? = w.heap[k]?) : Ses M B g m σ w' := by
  obtain ⟨A, c, h1, _, _, h2, _, h3, _, _, _, _, h4⟩ := h.open_
  exact h4 w' σ hs (fun k hk hl _ => hm k hk hl) ((hm g (.inl h2) (h3 g h2).1).trans h1) rfl rfl
/-- One scalar written. -/
theorem Ses.cell (h : Ses M B g m σ w) (i : Nat) (u : Value) (σ' : Se) (hc : ∀ v, (σ.cells v m).setIfInBounds i u = σ'.cells v m) (hL : σ'.L = σ.L) (hE : σ'.E = σ.E) : Ses M B g m σ' (w.setCell ⟨g, i, none⟩ u) ∧ Chg M w (w.setCell ⟨g, i, none⟩ u) := by
  obtain ⟨A, c, h1, _, _, h2, _, h3, _, _, _, _, h4⟩ := h.open_
  refine ⟨h4 _ σ' (by simp [World.setCell]) (fun k _ _ hk => Below.heap_setCell _ _ _ _ hk) ?_ hL hE, (Chg.refl M w).set _ _ (.inl h2)⟩
  rw [blk_set h1 i u, hc]
theorem Ses.below (h : Ses M B g m σ w) (hb : Below w.heap.size w w') : Ses M B g m σ w' := h.step hb.size (fun k _ hl => hb.block k hl)
theorem Ses.drewN (h : Ses M B g m σ w) (n : Nat) : Ses M B g m σ (w.drewN n) := h.step (Nat.le_refl _) (fun _ _ _ => rfl)
end
/-- What a call may answer with: blocks that it made, and the messages that were handed to it. -/
def New_ (w w' : World) (M' : Nat → Prop) (k : Nat) : Prop := w.heap.size ≤ k ∧ ¬ M' k ∧ k < w'.heap.size
/-- The new sets. -/
structure Grow (w : World) (M B M' B' : Nat → Prop) : Prop where
  m : ∀ k, M' k → M k ∨ w.heap.size ≤ k
  b : ∀ k, B' k → B k ∨ w.heap.size ≤ k
theorem Grow.refl (w : World) (M B : Nat → Prop) : Grow w M B M B := ⟨fun _ h => .inl h, fun _ h => .inl h⟩
theorem Grow.trans {w w' : World} {M B M' B' M'' B'' : Nat → Prop} (h : Grow w M B M' B') (k : Grow w' M' B' M'' B'') (hs : w.heap.size ≤ w'.heap.size) : Grow w M B M'' B'' :=
  ⟨fun i hi => (k.m i hi).elim (fun h1 => h.m i h1) (fun h1 => .inr (Nat.le_trans hs h1)), fun i hi => (k.b i hi).elim (fun h1 => h.b i h1) (fun h1 => .inr (Nat.le_trans hs h1))⟩
end Go.Proofs.Ytlnhjkbhhdcdeaa
namespace Go.Proofs.Ytlnhjkbhhdcdeaa
open Go.RowKit Go.Proofs.YtlnhjkbhhdcdeaaW.PrintWords Go.Proofs.YtlnhjkbhhdcdeaaW.PrintLast Go.Proofs.YtlnhjkbhhdcdeaaW.PrintMore
open Go.Proofs.Ytlnhjkbhhdcdeaa.PSessionRuns (S27 k27 z27 S116 k116 z116)
set_option linter.unusedVariables false
set_option maxRecDepth 100000
set_option maxHeartbeats 2000000
attribute [local go_sem] max2_mx min2_mn max_two min_two
/-- May this be a time? -/
def tok (n : Int) : Bool := decide (0 ≤ n) && decide (n ≤ 1099511627776)
theorem istime (n : Int) (w : World) : Calls Try.prog 36 #[.int .i64 n] w fun e w' => e = .returned (.bool (tok n)) ∧ w' = w := by
  unfold tok
  by_cases h0 : 0 ≤ n
  · by_cases h1 : n ≤ 1099511627776
    all_goals
      go_enter Try.func36, Try.ntmps36
      go_wp2_with fail
      go_ret
      exact ⟨by simp [*], rfl⟩
  · go_enter Try.func36, Try.ntmps36
    go_wp2_with fail
    go_ret
    refine ⟨?_, rfl⟩
    rw [decide_eq_false (by omega : ¬ 0 ≤ n)]
    rfl
section
variable {M B : Nat → Prop} {g m : Nat} {σ : Se} {w : World}
theorem is_nil (w : World) : Calls Try.prog 51 #[.pointer none] w fun e w' => e = .returned (.bool false) ∧ w' = w := by
  go_enter Try.func51, Try.ntmps51
  go_wp2_with fail
  go_ret
  exact ⟨rfl, rfl⟩
theorem qT (r : Option Nat) (w : World) : (binOp .neq 68 (.map r) (.map none)).run Try.prog w = .ok (.bool r.isSome) w := by
  have := run_neq_map_nil (P := Try.prog) w 68 24 25 r Try.underlying68
  rw [this]
  cases r <;> rfl
theorem is_un (g : Nat) (w : World) (h : w.cell? ⟨g, 9, none⟩ = some (.map none)) : Calls Try.prog 51 #[.pointer (some ⟨g, 0, none⟩)] w fun e w' => e = .returned (.bool false) ∧ w' = w := by
  have q := qT none w
  go_enter Try.func51, Try.ntmps51
  go_wp2_with fail
  go_ret
  exact ⟨rfl, rfl⟩
theorem is_ses (h : Ses M B g m σ w) : Calls Try.prog 51 #[.pointer (some ⟨g, 0, none⟩)] w fun e w' => e = .returned (.bool true) ∧ w' = w := by
  obtain ⟨A, c, h1, _⟩ := h.open_
  have d9 := blk_cell h1 9 (.map (some m)) rfl
  clear h1 h
  have q := qT (some m) w
  go_enter Try.func51, Try.ntmps51
  go_wp2_with fail
  go_ret
  exact ⟨rfl, rfl⟩
def Se.start (σ : Se) : Se := { σ with set := true, tm := mn (σ.now + σ.tmr) 1099511627776 }
def Se.stop (σ : Se) : Se := { σ with set := false, tm := 0 }
theorem start_ses (h : Ses M B g m σ w) (h0 : 0 ≤ σ.now) (h1 : σ.now ≤ 1099511627776) (h2 : 0 ≤ σ.tmr) (h3 : σ.tmr ≤ 1048576) : Calls Try.prog 37 #[.pointer (some ⟨g, 0, none⟩)] w fun e w' => e = .returned (.tuple #[]) ∧ Ses M B g m σ.start w' ∧ Chg M w w' ∧ w'.heap.size = w.heap.size := by
  obtain ⟨A, c, hb, _, _, hM, _, _, _, _, _, _, hf⟩ := h.open_
  have d5 := blk_cell hb 5 (.int .i64 σ.tmr) rfl
  have d10 := blk_cell hb 10 (.int .i64 σ.now) rfl
  have d11 := blk_cell hb 11 (.bool σ.set) rfl
  have d12 := blk_cell hb 12 (.int .i64 σ.tm) rfl
  have f11 := blk_free hb 11
  have f12 := blk_free hb 12
  obtain ⟨a, ha⟩ : ∃ a, a = σ.now := ⟨_, rfl⟩
  obtain ⟨b, hb'⟩ : ∃ b, b = σ.tmr := ⟨_, rfl⟩
  have FIN : Hid (∀ x y : Value, x = .bool true → y = .int .i64 (mn (a + b) 1099511627776) → Ses M B g m σ.start ((w.setCell ⟨g, 11, none⟩ x).setCell ⟨g, 12, none⟩ y) ∧ Chg M w ((w.setCell ⟨g, 11, none⟩ x).setCell ⟨g, 12, none⟩ y)) := by
    refine Lib.hid ?_
    intro x y hx hy
    refine ⟨hf _ _ (by simp [World.setCell]) (fun k _ _ hk => (Below.heap_setCell _ _ _ _ hk).trans (Below.heap_setCell _ _ _ _ hk)) ?_ rfl rfl, ((Chg.refl M w).set _ _ (.inl hM)).set _ _ (.inl hM)⟩
    have := blk_set (blk_set hb 11 x) 12 y
    rw [this, hx, hy, ha, hb']
    rfl
  rw [← ha] at d10 h0 h1
  rw [← hb'] at d5 h2 h3
  clear h hf hb ha hb'
  go_enter Try.func37, Try.ntmps37
  go_wp2_with fail
  go_region
  go_end0
  obtain ⟨h4, h5⟩ := FIN.out _ _ rfl rfl
  exact ⟨rfl, h4.drewN 1, h5.drewN 1, by simp [World.setCell]⟩
theorem stop_ses (h : Ses M B g m σ w) : Calls Try.prog 45 #[.pointer (some ⟨g, 0, none⟩)] w fun e w' => e = .returned (.tuple #[]) ∧ Ses M B g m σ.stop w' ∧ Chg M w w' ∧ w'.heap.size = w.heap.size := by
  obtain ⟨A, c, hb, _, _, hM, _, _, _, _, _, _, hf⟩ := h.open_
  have d11 := blk_cell hb 11 (.bool σ.set) rfl
  have d12 := blk_cell hb 12 (.int .i64 σ.tm) rfl
  have f11 := blk_free hb 11
  have f12 := blk_free hb 12
  have FIN : Hid (∀ x y : Value, x = .bool false → y = .int .i64 0 → Ses M B g m σ.stop ((w.setCell ⟨g, 11, none⟩ x).setCell ⟨g, 12, none⟩ y) ∧ Chg M w ((w.setCell ⟨g, 11, none⟩ x).setCell ⟨g, 12, none⟩ y)) := by
    refine Lib.hid ?_
    intro x y hx hy
    refine ⟨hf _ _ (by simp [World.setCell]) (fun k _ _ hk => (Below.heap_setCell _ _ _ _ hk).trans (Below.heap_setCell _ _ _ _ hk)) ?_ rfl rfl, ((Chg.refl M w).set _ _ (.inl hM)).set _ _ (.inl hM)⟩
    have := blk_set (blk_set hb 11 x) 12 y
    rw [this, hx, hy]
    rfl
  clear h hf hb
  go_enter Try.func45, Try.ntmps45
  go_wp2_with fail
  go_end0
  obtain ⟨h4, h5⟩ := FIN.out _ _ rfl rfl
  exact ⟨rfl, h4, h5, by simp [World.setCell]⟩
theorem flying_ses (g : Nat) (A : Option Addr) (n c : Nat) (win : Int) (w : World) (hc : w.cell? ⟨g, 0, none⟩ = some (.slice A n c)) : Calls Try.prog 49 #[.pointer (some ⟨g, 0, none⟩), .int .i64 win] w fun e w' => e = .returned (.int .i64 (mn n win)) ∧ w' = w := by
  go_enter Try.func49, Try.ntmps49
  go_wp2_with fail
  go_ret
  exact ⟨rfl, rfl⟩
end
theorem size27 : (Try.prog.info? 27).map (·.size) = some 6 := by kernel_rfl
theorem load27 {w : World} {g : Nat} {cs : Array Value} {t : TypeId} {fr : Nat × Nat} (h : w.heap[g]? = some (.cells cs t fr)) (hs : cs.size = 6) : (loadVar 27 ⟨g, 0, none⟩).run Try.prog w = .ok (.agg cs) w :=
  run_loadVar_row w g t 27 cs fr _ h Try.underlying27 rfl (by rw [hs]; exact size27)
theorem results_c {P : Program} {fn : Func} {a : Tmp} {T : TypeId} (h : fn.results = #[.cell a T]) {tmps : Array Value} {w : World} {g : Nat} {V : Value} (hp : tmps.getD a undef = .pointer (some ⟨g, 0, none⟩)) (hl : (loadVar T ⟨g, 0, none⟩).run P w = .ok V w) :
    (results fn tmps).run P w = .ok V w := by
  have hp' : tmps[a]?.getD undef = .pointer (some ⟨g, 0, none⟩) := by simpa using hp
  simp [results, h, hp', asAddr, hl]
theorem res38 : Try.f38.results = #[.cell 2 27] := rfl
theorem res68 : Try.f68.results = #[.cell 2 27] := rfl
theorem res50 : Try.f50.results = #[.cell 4 27] := rfl
/-- A frame's cells. -/
def frc (k fr to_ seq ack : Int) (v : Value) : Array Value := #[.int .u8 k, .int .u32 fr, .int .u32 to_, .int .u64 seq, .int .u64 ack, v]
section
variable {M B : Nat → Prop} {g m : Nat} {σ : Se} {w : World}
theorem blk_six {w : World} {g : Nat} {a0 a1 a2 a3 a4 a5 : Value} {t : TypeId} (h : w.heap[g]? = some (.cells #[a0, a1, a2, a3, a4, a5] t (0, 0))) (b0 b1 b2 b3 b4 b5 : Value) :
    ((((((w.setCell ⟨g, 0, none⟩ b0).setCell ⟨g, 1, none⟩ b1).setCell ⟨g, 2, none⟩ b2).setCell ⟨g, 3, none⟩ b3).setCell ⟨g, 4, none⟩ b4).setCell ⟨g, 5, none⟩ b5).heap[g]? = some (.cells #[b0, b1, b2, b3, b4, b5] t (0, 0)) := by
  have := blk_set (blk_set (blk_set (blk_set (blk_set (blk_set h 0 b0) 1 b1) 2 b2) 3 b3) 4 b4) 5 b5
  simpa using this
theorem hello_ses (h : Ses M B g m σ w) : Calls Try.prog 38 #[.pointer (some ⟨g, 0, none⟩)] w fun e w' => e = .returned (.agg (frc 1 σ.boot σ.peer 0 0 (.slice none 0 0))) ∧ Below w.heap.size w w' := by
  obtain ⟨A, c, hb, _, _, hM, _, hMl, _, _, _, _, hf⟩ := h.open_
  have d3 := blk_cell hb 3 (.int .u32 σ.boot) rfl
  have d6 := blk_cell hb 6 (.int .u32 σ.peer) rfl
  have hgl := (hMl g hM).1
  obtain ⟨x, hx⟩ : ∃ x, x = σ.boot := ⟨_, rfl⟩
  obtain ⟨y, hy⟩ : ∃ y, y = σ.peer := ⟨_, rfl⟩
  rw [← hx] at d3 ⊢
  rw [← hy] at d6 ⊢
  have e3 := fun o => Lib.cell?_alloc_some o d3
  have e6 := fun o => Lib.cell?_alloc_some o d6
  clear h hf hb hM hMl hx hy
  go_enter Try.func38, Try.ntmps38
  go_wp2_with fail
  go_region
  go_wp2_with fail
  refine bodyPost_ret_by (results_c res38 (g := w.heap.size) rfl (load27 (heap_alloc_new w _) rfl)) rfl ⟨rfl, below_drew (below_alloc (Below.refl _ _) _)⟩
theorem ack_ses (h : Ses M B g m σ w) : Calls Try.prog 68 #[.pointer (some ⟨g, 0, none⟩)] w fun e w' => e = .returned (.agg (frc 3 σ.boot σ.peer 0 σ.inn (.slice none 0 0))) ∧ Below w.heap.size w w' := by
  obtain ⟨A, c, hb, _, _, hM, _, hMl, _, _, _, _, hf⟩ := h.open_
  have d3 := blk_cell hb 3 (.int .u32 σ.boot) rfl
  have d6 := blk_cell hb 6 (.int .u32 σ.peer) rfl
  have d8 := blk_cell hb 8 (.int .u64 σ.inn) rfl
  have hgl := (hMl g hM).1
  obtain ⟨x, hx⟩ : ∃ x, x = σ.boot := ⟨_, rfl⟩
  obtain ⟨y, hy⟩ : ∃ y, y = σ.peer := ⟨_, rfl⟩
  obtain ⟨z, hz⟩ : ∃ z, z = σ.inn := ⟨_, rfl⟩
  rw [← hx] at d3 ⊢
  rw [← hy] at d6 ⊢
  rw [← hz] at d8 ⊢
  have e3 := fun o => Lib.cell?_alloc_some o d3
  have e6 := fun o => Lib.cell?_alloc_some o d6
  have e8 := fun o => Lib.cell?_alloc_some o d8
  clear h hf hb hM hMl hx hy hz
  go_enter Try.func68, Try.ntmps68
  go_wp2_with fail
  go_region
  go_wp2_with fail
  refine bodyPost_ret_by (results_c res68 (g := w.heap.size) rfl (load27 (heap_alloc_new w _) rfl)) rfl ⟨rfl, below_drew (below_alloc (Below.refl _ _) _)⟩
/-- Which error a call has by its time. -/
def Se.ask (σ : Se) (now : Int) : Int := if tok now = true ∧ σ.now ≤ now then 0 else 202
theorem ask_nil (now : Int) (w : World) : Calls Try.prog 39 #[.pointer none, .int .i64 now] w fun e w' => e = .returned (.int .i64 4) ∧ w' = w := by
  go_enter Try.func39, Try.ntmps39
  go_wp2_with fail
  refine (is_nil w).mono ?_
  rintro e w1 ⟨rfl, rfl⟩
  go_wp2_with fail
  go_ret
  exact ⟨rfl, rfl⟩
theorem ask_un (g : Nat) (now : Int) (w : World) (h : w.cell? ⟨g, 9, none⟩ = some (.map none)) : Calls Try.prog 39 #[.pointer (some ⟨g, 0, none⟩), .int .i64 now] w fun e w' => e = .returned (.int .i64 4) ∧ w' = w := by
  have H := Lib.hid h
  clear h
  go_enter Try.func39, Try.ntmps39
  go_wp2_with fail
  refine (is_un g w H.out).mono ?_
  rintro e w1 ⟨rfl, rfl⟩
  go_wp2_with fail
  go_ret
  exact ⟨rfl, rfl⟩
theorem ask_ses (h : Ses M B g m σ w) (now : Int) : Calls Try.prog 39 #[.pointer (some ⟨g, 0, none⟩), .int .i64 now] w fun e w' => e = .returned (.int .i64 (σ.ask now)) ∧ w' = w := by
  have H := Lib.hid h
  obtain ⟨A, c, hb, _⟩ := h.open_
  have d10 := blk_cell hb 10 (.int .i64 σ.now) rfl
  obtain ⟨r, hr⟩ : ∃ r, r = σ.ask now := ⟨_, rfl⟩
  rw [← hr]
  unfold Se.ask at hr
  obtain ⟨x, hx⟩ : ∃ x, x = σ.now := ⟨_, rfl⟩
  rw [← hx] at d10 hr
  clear h hb hx
  obtain ⟨t, ht⟩ : ∃ t, t = tok now := ⟨_, rfl⟩
  have HT := Lib.hid ht
  rw [← ht] at hr
  have HR := Lib.hid hr
  clear ht hr
  cases t with
  | false =>
    go_enter Try.func39, Try.ntmps39
    go_wp2_with fail
    refine (is_ses H.out).mono ?_
    rintro e w1 ⟨rfl, rfl⟩
    go_wp2_with fail
    refine (istime now _).mono ?_
    rintro e w1 ⟨rfl, rfl⟩
    rw [← HT.out]
    go_wp2_with fail
    go_ret
    exact ⟨by rw [HR.out, if_neg (by simp)]; rfl, rfl⟩
  | true =>
    by_cases hl : now < x
    · go_enter Try.func39, Try.ntmps39
      go_wp2_with fail
      refine (is_ses H.out).mono ?_
      rintro e w1 ⟨rfl, rfl⟩
      go_wp2_with fail
      refine (istime now _).mono ?_
      rintro e w1 ⟨rfl, rfl⟩
      rw [← HT.out]
      go_wp2_with fail
      go_ret
      exact ⟨by rw [HR.out, if_neg (by omega)]; rfl, rfl⟩
    · go_enter Try.func39, Try.ntmps39
      go_wp2_with fail
      refine (is_ses H.out).mono ?_
      rintro e w1 ⟨rfl, rfl⟩
      go_wp2_with fail
      refine (istime now _).mono ?_
      rintro e w1 ⟨rfl, rfl⟩
      rw [← HT.out]
      go_wp2_with fail
      go_ret
      exact ⟨by rw [HR.out, if_pos ⟨trivial, by omega⟩]; rfl, rfl⟩
end
theorem clone_nil (c : Nat) (w : World) : Calls Try.prog 42 #[.slice none 0 c] w fun e w' => e = .returned (.slice none 0 0) ∧ w' = w := by
  have hn := Lib.run_eql_slice_nil (P := Try.prog) w 25 5 none 0 c 0 0 Try.underlying25
  go_enter Try.func42, Try.ntmps42
  go_wp2_with fail
  go_ret
  exact ⟨rfl, rfl⟩
theorem clone_ok (okp : Nat → Prop) (a : Addr) (n c : Nat) (bs : List Int) (w : World) (hV : Kd.V KB 5 w 0 okp (.slice (some a) n c) bs) (hl : bs.length ≤ 1000000) :
    Calls Try.prog 42 #[.slice (some a) n c] w fun e w' => ∃ v, e = .returned v ∧ KB.R 5 w' w.heap.size (fun k => w.heap.size ≤ k) v bs ∧ Below w.heap.size w w' := by
  have hn := Lib.run_eql_slice_nil (P := Try.prog) w 25 5 (some a) n c 0 0 Try.underlying25
  have HV := Lib.hid hV
  obtain ⟨hnn, hnc, _⟩ := Kd.V_at hV
  clear hV
  subst hnn
  clear hnc
  go_enter Try.func42, Try.ntmps42
  go_wp2_with (
    (with_reducible refine gate_builtin (b := .append) (xs := #[.tmp 5, .tmp 6]) rfl ?_); at_builtin; (refine Kd.R_append_rows KB (w0 := w) w.heap.size rfl (.tmp 5) (.tmp 6) 25 5 (.int .u8 0) 1 rfl Try.underlying25 Try.info5 rfl (by decide) (by omega) (.slice (some ⟨w.heap.size, 0, none⟩) 0 0) [] bs (some a) bs.length c (fun k => w.heap.size ≤ k) (fun _ => False) rfl rfl ?aO ?aR (fun _ _ h => h) (fun _ h => h.elim) ?aF ?aB ?aS ?aL ?_); (case aO => exact R_new_int w .u8 5 [] [] rfl (by simp) 0 rfl _ rfl); (case aR => exact Kd.C_alloc (Kd.V_reads' HV.out).2.2 _); (case aF => intro k hk; simp at hk; omega); (case aB => exact Below.alloc (Below.refl w.heap.size w) (Nat.le_refl _) _); (case aS => simp); (case aL => simp; omega); intro v1 w1 hr1 hb1 hg1 hat1; have HR1 := Lib.hid hr1; have HB1 := Lib.hid hb1; clear hr1 hb1 hg1 hat1; rw [List.nil_append] at HR1)
  go_wp2_with fail
  go_ret
  exact ⟨_, rfl, HR1.out, HB1.out⟩
/-- Clone of whatever bytes: a slice that is read, in blocks of its own. -/
theorem clone_any (okp : Nat → Prop) (A : Option Addr) (n c : Nat) (bs : List Int) (w : World) (hV : Kd.V KB 5 w 0 okp (.slice A n c) bs) (hl : bs.length ≤ 1000000) :
    Calls Try.prog 42 #[.slice A n c] w fun e w' => ∃ A5 c5, e = .returned (.slice A5 bs.length c5) ∧ Kd.V KB 5 w' 0 (fun k => w.heap.size ≤ k ∧ k < w'.heap.size) (.slice A5 bs.length c5) bs ∧ Below w.heap.size w w' := by
  cases A with
  | some a =>
    refine (clone_ok okp a n c bs w hV hl).mono ?_
    rintro e w' ⟨v, rfl, h1, h2⟩
    obtain ⟨A5, c5, rfl⟩ := Kd.R_slice h1
    exact ⟨A5, c5, rfl, Kd.V_bound (Kd.R_V h1), h2⟩
  | none =>
    obtain ⟨h1, h2, h3⟩ := Kd.V_reads' hV
    have h0 : n = 0 := by
      rcases Nat.eq_zero_or_pos n with h | h
      · exact h
      · obtain ⟨_, hx, _⟩ := h3.2.2 (by omega)
        cases hx
    subst h0
    obtain rfl : bs = [] := List.eq_nil_of_length_eq_zero h1.symm
    refine (clone_nil c w).mono ?_
    rintro e w' ⟨rfl, rfl⟩
    exact ⟨none, 0, rfl, Kd.V_nil _ _ _ _ _, Below.refl _ _⟩
end Go.Proofs.Ytlnhjkbhhdcdeaa
namespace Go.Proofs.Ytlnhjkbhhdcdeaa
open Go.RowKit Go.Proofs.YtlnhjkbhhdcdeaaW.PrintWords Go.Proofs.YtlnhjkbhhdcdeaaW.PrintLast Go.Proofs.YtlnhjkbhhdcdeaaW.PrintMore
open Go.Proofs.Ytlnhjkbhhdcdeaa.PSessionRuns (S27 k27 z27 S116 k116 z116)
set_option linter.unusedVariables false
set_option maxRecDepth 100000
set_option maxHeartbeats 2000000
attribute [local go_sem] max2_mx min2_mn max_two min_two
section
variable {M B : Nat → Prop} {g m : Nat} {σ : Se} {w : World} {v : Value} {xs : List (List Int)}
theorem Qu.at_ {A : Option Addr} {n c : Nat} (h : Qu w M B (.slice A n c) xs) (i : Nat) (hi : i < xs.length) : ∃ ad A5 c5, A = some ad ∧ n = xs.length ∧ w.cell? (ad.add i) = some (.slice A5 (xs.getD i []).length c5) ∧ Kd.V KB 5 w 0 B (.slice A5 (xs.getD i []).length c5) (xs.getD i []) := by
  obtain ⟨A', c', he, h2, h3, h4⟩ := h
  injection he with e1 e2 e3
  subst e1; subst e3
  obtain ⟨g, o, cur, rfl, h5, h6, h7, h8⟩ := h4 (by omega)
  have hx : xs[i]? = some (xs.getD i []) := by rw [List.getD_eq_getElem?_getD, List.getElem?_eq_getElem hi]; rfl
  obtain ⟨A5, c5, h9, h10⟩ := h8 i _ hx
  refine ⟨_, A5, c5, rfl, e2, ?_, h10⟩
  rw [add_at, cell_of_row w g _ cur 25 (0, 0) h6]
  exact h9
/-- One more. -/
theorem Qu.append (h : Qu w M B v xs) (hM : ∀ k, M k → k < w.heap.size) (hl : xs.length ≤ 70000) {ad : Addr} {A5 : Option Addr} {c5 : Nat} {x : List Int} (hu : w.cell? ad = some (.slice A5 x.length c5)) (hadM : ¬ M ad.block) {B' : Nat → Prop} (hB : ∀ k, B k → B' k) (hB' : ∀ k, B' k → k < w.heap.size ∧ ¬ M k) (hV : Kd.V KB 5 w 0 B' (.slice A5 x.length c5) x) :
    ∃ v' w' M', (Builtin.append_ #[45, 45] 45 #[v, .slice (some ad) 1 1]).run Try.prog w = .ok v' w' ∧ Qu w' M' B' v' (xs ++ [x]) ∧ Chg (fun k => M k ∧ ∃ cur, w.heap[k]? = some (.cells cur 25 (0, 0))) w w' ∧ (∀ k, M k → M' k) ∧ (∀ k, M' k → k < w'.heap.size ∧ (M k ∨ w.heap.size ≤ k)) := by
  obtain ⟨A, c, rfl, h2, h3, h4⟩ := h
  obtain ⟨i0, hi, hzz⟩ := Option.map_eq_some_iff.1 Try.info25
  simp only [Prod.mk.injEq] at hzz
  obtain ⟨hz0, hz1, hz2⟩ := hzz
  have hnews : ∀ (j : Nat) (u : Value), [Value.slice A5 x.length c5][j]? = some u → w.cell? (ad.add j) = some u := by
    intro j u hj
    match j with
    | 0 =>
      simp at hj
      subst hj
      rw [add_zero_]
      exact hu
    | j + 1 => simp at hj
  have hlen1 : (xs ++ [x]).length = xs.length + 1 := by simp
  by_cases hr : xs.length + 1 ≤ c
  · obtain ⟨g, o, cur, rfl, h5, h6, h7, h8⟩ := h4 (by omega)
    have hrun := run_append_room_cells (P := Try.prog) w 45 45 25 i0 Try.underlying45 hi g o xs.length c ad 1 1 [.slice A5 x.length c5] (by rw [hz1]; rfl) hnews (by simp [Value.oneCell']) hr
      (fun j hj => by rw [cell_of_row w g _ cur 25 (0, 0) h6]; simp at hj; simp [hz1]; omega) (fun j _ => blk_frozen h6 _)
    rw [hz1, Nat.mul_one] at hrun
    obtain ⟨cur', h9, h10, h11⟩ := setCells_row [.slice A5 x.length c5] (o + xs.length) w cur h6 (by simp; omega)
    obtain ⟨s1, s2, s3, s4⟩ := setCells_same g [.slice A5 x.length c5] (o + xs.length) w
    have hfar : ∀ k', k' ≠ g → (w.setCells g (o + xs.length) [.slice A5 x.length c5]).heap[k']? = w.heap[k']? := fun k' hk' => setCells_far [.slice A5 x.length c5] _ k' hk'
    refine ⟨_, _, M, hrun, ⟨_, c, by rw [hlen1], by rw [hlen1]; exact hr, h3, fun _ => ⟨g, o, cur', rfl, h5, h9, by rw [h10]; exact h7, fun i y hy => ?_⟩⟩, ⟨s1, s2, s3, by rw [s4]; exact Nat.le_refl _, fun k _ hk => hfar k (fun he => hk (by rw [he]; exact ⟨h5, cur, h6⟩))⟩, fun k hk => hk, fun k hk => ⟨by rw [s4]; exact hM k hk, .inl hk⟩⟩
    have hcl : cur.toList.length = cur.size := by simp
    have hcur : ∀ q, q < o + xs.length → cur'[q]? = cur[q]? := by
      intro q hq
      rw [← Array.getElem?_toList, h11, List.append_assoc, List.getElem?_append_left (by rw [List.length_take, hcl]; omega), List.getElem?_take, if_pos hq, Array.getElem?_toList]
    have hcu2 : cur'[o + xs.length]? = some (.slice A5 x.length c5) := by
      rw [← Array.getElem?_toList, h11, List.append_assoc, List.getElem?_append_right (by rw [List.length_take, hcl]; omega), List.length_take, hcl, Nat.min_eq_left (by omega)]
      simp
    rcases Nat.lt_or_ge i xs.length with hil | hil
    · rw [List.getElem?_append_left hil] at hy
      obtain ⟨A6, c6, h12, h13⟩ := h8 i y hy
      refine ⟨A6, c6, ?_, Kd.V_step (Kd.V_mono h13 hB) (fun k hk _ => hfar k (fun he => (hB' k hk).2 (he ▸ h5)))⟩
      rw [hcur _ (by omega)]
      exact h12
    · have : i = xs.length := by
        have := (List.getElem?_eq_some_iff.1 hy).1
        rw [hlen1] at this
        omega
      subst this
      simp at hy
      subst hy
      exact ⟨A5, c5, hcu2, Kd.V_step hV (fun k hk _ => hfar k (fun he => (hB' k hk).2 (he ▸ h5)))⟩
  · have hc : c = xs.length := by omega
    subst hc
    obtain ⟨olds, holds1, holds2, v', w', hrun, hown, hgr⟩ : ∃ olds : List Value, olds.length = xs.length ∧ (∀ (i : Nat) (y : List Int), xs[i]? = some y → ∃ A5 c5, olds[i]? = some (.slice A5 y.length c5) ∧ Kd.V KB 5 w 0 B (.slice A5 y.length c5) y) ∧
        ∃ v' w', (Builtin.append_ #[45, 45] 45 #[.slice A xs.length xs.length, .slice (some ad) 1 1]).run Try.prog w = .ok v' w' ∧ w'.ownsRow w.heap.size 25 1 v' (xs.length + 1) (olds ++ [.slice A5 x.length c5]) ∧ w.grownBy w' none := by
      cases A with
      | none =>
        have h0 : xs.length = 0 := by
          rcases Nat.eq_zero_or_pos xs.length with h | h
          · exact h
          · obtain ⟨_, _, _, h, _⟩ := h4 h
            cases h
        obtain rfl : xs = [] := List.eq_nil_of_length_eq_zero h0
        refine ⟨[], rfl, fun i y hy => by simp at hy, ?_⟩
        have hrun := run_append_nil (P := Try.prog) w 45 45 25 i0 (.slice none 0 0) Try.underlying45 hi hz0 ad 1 1 [.slice A5 x.length c5] (by rw [hz1]; rfl) hnews (by omega) (by omega) (by rw [hz2]; omega)
        have hge := grownCap_ge w 1 0 25
        refine ⟨_, _, hrun, ⟨rfl, .inr ⟨w.heap.size, _, _, rfl, Nat.le_refl _, heap_alloc_new w.drew _, by simpa using hge, grownCap_le_maxLen w 1 0 25 (by simp [maxLen]), ?_, ?_⟩⟩, ⟨rfl, rfl, rfl, by simp, fun k hk _ => heap_alloc_old w.drew _ hk⟩⟩
        · simp [size_zeroCells, Value.cells]
          omega
        · simp
      | some a =>
        obtain ⟨olds, ho1, ho2, ho3⟩ : ∃ olds : List Value, olds.length = xs.length ∧ (∀ (i : Nat) (y : List Int), xs[i]? = some y → ∃ A5 c5, olds[i]? = some (.slice A5 y.length c5) ∧ Kd.V KB 5 w 0 B (.slice A5 y.length c5) y) ∧ ∀ (j : Nat) (u : Value), olds[j]? = some u → w.cell? (a.add j) = some u := by
          rcases Nat.eq_zero_or_pos xs.length with h0 | h0
          · obtain rfl : xs = [] := List.eq_nil_of_length_eq_zero h0
            exact ⟨[], rfl, fun i y hy => by simp at hy, fun j u hj => by simp at hj⟩
          · obtain ⟨g, o, cur, he, h5, h6, h7, h8⟩ := h4 h0
            injection he with he
            subst he
            have hcl : cur.toList.length = cur.size := by simp
            have hlen : ((cur.toList.drop o).take xs.length).length = xs.length := by rw [List.length_take, List.length_drop, hcl]; omega
            refine ⟨(cur.toList.drop o).take xs.length, hlen, fun i y hy => ?_, fun j u hj => ?_⟩
            · obtain ⟨A6, c6, h9, h10⟩ := h8 i y hy
              have := (List.getElem?_eq_some_iff.1 hy).1
              exact ⟨A6, c6, by rw [List.getElem?_take, if_pos this, List.getElem?_drop, Array.getElem?_toList]; exact h9, h10⟩
            · have hjl := (List.getElem?_eq_some_iff.1 hj).1
              rw [hlen] at hjl
              rw [List.getElem?_take, if_pos hjl, List.getElem?_drop, Array.getElem?_toList] at hj
              rw [add_at, cell_of_row w g _ cur 25 (0, 0) h6]
              exact hj
        exact ⟨olds, ho1, ho2, run_append_arg_grows (P := Try.prog) w 45 45 25 i0 (.slice none 0 0) 1 24 Try.underlying45 hi hz0 hz1 hz2 rfl (by omega) a xs.length xs.length olds (by rw [ho1, Nat.mul_one]) ho3 ad 1 1 [.slice A5 x.length c5] rfl hnews (by omega) (by simp only [maxLen]; omega) (by omega)⟩
    rcases hown.2 with ⟨_, h0⟩ | ⟨gq, cap, cur, rfl, hb, hh, hnc, hcm, hcs, htake⟩
    · omega
    have hlt : gq < w'.heap.size := blk_lt hh
    have hsame : ∀ k, k < w.heap.size → w'.heap[k]? = w.heap[k]? := fun k hk => hgr.block k hk (by simp)
    refine ⟨_, _, fun k => M k ∨ k = gq, hrun, ⟨_, cap, by rw [hlen1], by rw [hlen1]; exact hnc, by simpa [maxLen] using hcm, fun _ => ⟨gq, 0, cur, rfl, .inr rfl, hh, by omega, fun i y hy => ?_⟩⟩, ⟨hgr.os, hgr.tape, hgr.output, hgr.size, fun k hk _ => hsame k hk⟩, fun k hk => .inl hk, ?_⟩
    · have hil : i < xs.length + 1 := by have := (List.getElem?_eq_some_iff.1 hy).1; rwa [hlen1] at this
      have hci : cur[0 + i]? = (olds ++ [Value.slice A5 x.length c5])[i]? := by
        rw [← htake, Nat.mul_one, List.getElem?_take, if_pos hil, Array.getElem?_toList, Nat.zero_add]
      rw [hci]
      rcases Nat.lt_or_ge i xs.length with hi2 | hi2
      · rw [List.getElem?_append_left hi2] at hy
        obtain ⟨A6, c6, h9, h10⟩ := holds2 i y hy
        exact ⟨A6, c6, by rw [List.getElem?_append_left (by omega)]; exact h9, Kd.V_step (Kd.V_mono h10 hB) (fun k hk hl => hsame k hl)⟩
      · have : i = xs.length := by omega
        subst this
        simp at hy
        subst hy
        exact ⟨A5, c5, by rw [List.getElem?_append_right (by omega), holds1]; simp, Kd.V_step hV (fun k hk hl => hsame k hl)⟩
    · rintro k (hk | rfl)
      · exact ⟨Nat.lt_of_lt_of_le (hM k hk) hgr.size, .inl hk⟩
      · exact ⟨hlt, .inr hb⟩

theorem chg_six (w : World) (g : Nat) (b0 b1 b2 b3 b4 b5 : Value) : Chg (fun k => k = g) w ((((((w.setCell ⟨g, 0, none⟩ b0).setCell ⟨g, 1, none⟩ b1).setCell ⟨g, 2, none⟩ b2).setCell ⟨g, 3, none⟩ b3).setCell ⟨g, 4, none⟩ b4).setCell ⟨g, 5, none⟩ b5) :=
  have h0 := Chg.refl (fun k => k = g) w
  have h1 := h0.set ⟨g, 0, none⟩ b0 (.inl rfl)
  have h2 := h1.set ⟨g, 1, none⟩ b1 (.inl rfl)
  have h3 := h2.set ⟨g, 2, none⟩ b2 (.inl rfl)
  have h4 := h3.set ⟨g, 3, none⟩ b3 (.inl rfl)
  have h5 := h4.set ⟨g, 4, none⟩ b4 (.inl rfl)
  h5.set ⟨g, 5, none⟩ b5 (.inl rfl)
theorem u64_wrap {x : Int} (h0 : 0 ≤ x) (h1 : x < 18446744073709551616) : IntKind.u64.wrap x = x := by
  simp [IntKind.wrap, IntKind.bits, IntKind.signed]
  omega
theorem six_far {w w' : World} {g g1 : Nat} {p : Addr} {a b c d e f : Value} (h : w.cell? ⟨g, 0, none⟩ = some a ∧ w.cell? ⟨g, 1, none⟩ = some b ∧ w.cell? ⟨g, 3, none⟩ = some c ∧ w.cell? ⟨g, 6, none⟩ = some d ∧ w.cell? ⟨g, 8, none⟩ = some e ∧ w.cell? p = some f) (h1 : g ≠ g1) (h2 : p.block ≠ g1) (hc : Chg (fun k => k = g1) w w') :
    w'.cell? ⟨g, 0, none⟩ = some a ∧ w'.cell? ⟨g, 1, none⟩ = some b ∧ w'.cell? ⟨g, 3, none⟩ = some c ∧ w'.cell? ⟨g, 6, none⟩ = some d ∧ w'.cell? ⟨g, 8, none⟩ = some e ∧ w'.cell? p = some f :=
  ⟨hc.cell h.1 h1, hc.cell h.2.1 h1, hc.cell h.2.2.1 h1, hc.cell h.2.2.2.1 h1, hc.cell h.2.2.2.2.1 h1, hc.cell h.2.2.2.2.2 h2⟩
/-- A message that waits, as a frame. -/
theorem data_ses (h : Ses M B g m σ w) (i : Nat) (hi : i < σ.L.length) (hl : (σ.L.getD i []).length ≤ 1000000) (h0 : 0 ≤ σ.base) (h1 : σ.base ≤ 4611686018427387904) (h2 : i ≤ 1000000) :
    Calls Try.prog 50 #[.pointer (some ⟨g, 0, none⟩), .int .i64 i] w fun e w' => ∃ A5 c5, e = .returned (.agg (frc 2 σ.boot σ.peer (σ.base + i) σ.inn (.slice A5 (σ.L.getD i []).length c5))) ∧
      Kd.V KB 5 w' 0 (fun k => w.heap.size ≤ k ∧ k < w'.heap.size) (.slice A5 (σ.L.getD i []).length c5) (σ.L.getD i []) ∧ Below w.heap.size w w' := by
  obtain ⟨A, c, hb, hc1, hc2, hM, _, hMl, _, _, hQ, _, _⟩ := h.open_
  obtain ⟨ad, A5, c5, rfl, _, hel, hV⟩ := hQ.at_ i hi
  obtain ⟨n, hn⟩ : ∃ n, n = σ.L.length := ⟨_, rfl⟩
  rw [← hn] at hb hi hc1
  have d0 := blk_cell hb 0 (.slice (some ad) n c) rfl
  have d1 := blk_cell hb 1 (.int .u64 σ.base) rfl
  have d3 := blk_cell hb 3 (.int .u32 σ.boot) rfl
  have d6 := blk_cell hb 6 (.int .u32 σ.peer) rfl
  have d8 := blk_cell hb 8 (.int .u64 σ.inn) rfl
  have hgl := (hMl g hM).1
  obtain ⟨x, hx⟩ : ∃ x, x = σ.boot := ⟨_, rfl⟩
  obtain ⟨y, hy⟩ : ∃ y, y = σ.peer := ⟨_, rfl⟩
  obtain ⟨z, hz⟩ : ∃ z, z = σ.inn := ⟨_, rfl⟩
  obtain ⟨b, hbb⟩ : ∃ b, b = σ.base := ⟨_, rfl⟩
  obtain ⟨bs, hbs⟩ : ∃ bs, bs = σ.L.getD i [] := ⟨_, rfl⟩
  rw [← hx] at d3 ⊢
  rw [← hy] at d6 ⊢
  rw [← hz] at d8 ⊢
  rw [← hbb] at d1 h0 h1 ⊢
  rw [← hbs] at hel hV hl ⊢
  have hgl2 := World.block_lt_of_cell? _ _ hel
  have e0 := Lib.cell?_alloc_some (.cells #[.int .u8 0, .int .u32 0, .int .u32 0, .int .u64 0, .int .u64 0, .slice none 0 0] 27) d0
  have e1 := Lib.cell?_alloc_some (.cells #[.int .u8 0, .int .u32 0, .int .u32 0, .int .u64 0, .int .u64 0, .slice none 0 0] 27) d1
  have e3 := Lib.cell?_alloc_some (.cells #[.int .u8 0, .int .u32 0, .int .u32 0, .int .u64 0, .int .u64 0, .slice none 0 0] 27) d3
  have e6 := Lib.cell?_alloc_some (.cells #[.int .u8 0, .int .u32 0, .int .u32 0, .int .u64 0, .int .u64 0, .slice none 0 0] 27) d6
  have e8 := Lib.cell?_alloc_some (.cells #[.int .u8 0, .int .u32 0, .int .u32 0, .int .u64 0, .int .u64 0, .slice none 0 0] 27) d8
  have e9 := Lib.cell?_alloc_some (.cells #[.int .u8 0, .int .u32 0, .int .u32 0, .int .u64 0, .int .u64 0, .slice none 0 0] 27) hel
  have hV0 := Kd.V_alloc hV (.cells #[.int .u8 0, .int .u32 0, .int .u32 0, .int .u64 0, .int .u64 0, .slice none 0 0] 27)
  have hbx := heap_alloc_new w (.cells #[.int .u8 0, .int .u32 0, .int .u32 0, .int .u64 0, .int .u64 0, .slice none 0 0] 27)
  have hB0 := below_alloc (Below.refl w.heap.size w) (.cells #[.int .u8 0, .int .u32 0, .int .u32 0, .int .u64 0, .int .u64 0, .slice none 0 0] 27)
  have hz0 : (w.alloc (.cells #[.int .u8 0, .int .u32 0, .int .u32 0, .int .u64 0, .int .u64 0, .slice none 0 0] 27)).heap.size = w.heap.size + 1 := World.size_alloc _ _
  have HV := Lib.hid hV0
  have HBX := Lib.hid hbx
  have HB0 := Lib.hid hB0
  have HZ := Lib.hid hz0
  have hi2 : (i : Int) < (n : Int) := by omega
  clear h hQ hb hM hMl hx hy hz hbb hbs hn hV hbx hB0 hz0 d0 d1 d3 d6 d8 hel hV0
  go_enter Try.func50, Try.ntmps50
  go_wp2_with fail
  generalize w.alloc (.cells #[.int .u8 0, .int .u32 0, .int .u32 0, .int .u64 0, .int .u64 0, .slice none 0 0] 27) = W0 at *
  obtain ⟨g1, hg1⟩ : ∃ g1, g1 = w.heap.size := ⟨_, rfl⟩
  rw [← hg1] at HBX HZ HB0 ⊢
  have hgg : g ≠ g1 := by omega
  have hgg2 : g1 ≠ g := by omega
  have hga : (ad.add i).block ≠ g1 := by omega
  have HG1 := Lib.hid hg1
  clear hg1
  have k0 : Hid (∀ W, Below W0.heap.size W0 W → W.cell? ⟨g, 0, none⟩ = some (.slice (some ad) n c) ∧ W.cell? ⟨g, 1, none⟩ = some (.int .u64 b) ∧ W.cell? ⟨g, 3, none⟩ = some (.int .u32 x) ∧ W.cell? ⟨g, 6, none⟩ = some (.int .u32 y) ∧ W.cell? ⟨g, 8, none⟩ = some (.int .u64 z) ∧ W.cell? (ad.add i) = some (.slice A5 bs.length c5)) :=
    Lib.hid fun W hW => ⟨pw_cell_below hW e0, pw_cell_below hW e1, pw_cell_below hW e3, pw_cell_below hW e6, pw_cell_below hW e8, pw_cell_below hW e9⟩
  have q1 := k0.out W0 (Below.refl _ _)
  replace q1 := Lib.hid q1
  have qa := k0.out W0.drew (below_drew (Below.refl _ _))
  replace qa := Lib.hid qa
  have qb := k0.out (W0.drewN 1) (pw_below_drewN (Below.refl _ _) 1)
  replace qb := Lib.hid qb
  go_region_held3 (fun w' => w'.cell? ⟨g, 0, none⟩ = some (.slice (some ad) n c) ∧ w'.cell? ⟨g, 1, none⟩ = some (.int .u64 b) ∧ w'.cell? ⟨g, 3, none⟩ = some (.int .u32 x) ∧ w'.cell? ⟨g, 6, none⟩ = some (.int .u32 y) ∧ w'.cell? ⟨g, 8, none⟩ = some (.int .u64 z) ∧ w'.cell? (ad.add i) = some (.slice A5 bs.length c5)) (first | with_reducible exact q1.out | with_reducible exact qa.out | with_reducible exact qb.out | exact six_far q1.out hgg hga (chg_six _ _ _ _ _ _ _ _))
    (first | (go_simp; go_at_call 42; refine (clone_any B A5 bs.length c5 bs _ (Kd.V_drewN HV.out _) hl).mono ?_; rintro e w1 ⟨A6, c6, rfl, hv1, hb1⟩; replace hb1 : Below W0.heap.size W0 w1 := ⟨hb1.os, hb1.tape, hb1.output, hb1.size, hb1.block⟩; have q1 := Lib.hid (k0.out w1 hb1); have hx1 := (hb1.block g1 (blk_lt HBX.out)).trans HBX.out; have HX1 := Lib.hid hx1; (have mlc0 := blk_cell hx1 0 _ rfl; have mlc1 := blk_cell hx1 1 _ rfl; have mlc2 := blk_cell hx1 2 _ rfl; have mlc3 := blk_cell hx1 3 _ rfl; have mlc4 := blk_cell hx1 4 _ rfl; have mlc5 := blk_cell hx1 5 _ rfl; have mlf0 := blk_free hx1 0; have mlf1 := blk_free hx1 1; have mlf2 := blk_free hx1 2; have mlf3 := blk_free hx1 3; have mlf4 := blk_free hx1 4; have mlf5 := blk_free hx1 5; clear hx1); have HV1 := Lib.hid hv1; have HB1 := Lib.hid hb1; clear hv1 hb1))
  have hx2 := blk_six HX1.out (.int .u8 2) (.int .u32 x) (.int .u32 y) (.int .u64 (IntKind.u64.wrap (b + IntKind.u64.wrap i))) (.int .u64 z) (.slice A6 bs.length c6)
  have hc2 := chg_six w1 g1 (.int .u8 2) (.int .u32 x) (.int .u32 y) (.int .u64 (IntKind.u64.wrap (b + IntKind.u64.wrap i))) (.int .u64 z) (.slice A6 bs.length c6)
  generalize ((((((w1.setCell ⟨g1, 0, none⟩ (.int .u8 2)).setCell ⟨g1, 1, none⟩ (.int .u32 x)).setCell ⟨g1, 2, none⟩ (.int .u32 y)).setCell ⟨g1, 3, none⟩ (.int .u64 (IntKind.u64.wrap (b + IntKind.u64.wrap i)))).setCell ⟨g1, 4, none⟩ (.int .u64 z)).setCell ⟨g1, 5, none⟩ (.slice A6 bs.length c6)) = W2 at hx2 hc2 ⊢
  have HX2 := Lib.hid hx2
  have HC2 := Lib.hid hc2
  clear hx2 hc2
  go_wp2_with fail
  refine bodyPost_ret_by (results_c res50 (g := g1) rfl (load27 HX2.out rfl)) rfl ⟨A6, c6, ?_, ?_, ?_⟩
  · rw [u64_wrap (x := (i : Int)) (by omega) (by omega), u64_wrap (by omega) (by omega)]
    rfl
  · have hs : W0.heap.size ≤ w1.heap.size := HB1.out.size
    have hz := HZ.out
    have hg := HG1.out
    have h4 : (W0.drewN 1).heap.size = W0.heap.size := rfl
    refine Kd.V_mono (Kd.V_step HV1.out (fun k hk hl => HC2.out.block k hk.2 (by have h1 := hk.1; omega))) (fun k hk => ?_)
    have h1 := hk.1
    have h2 := hk.2
    have h3 := HC2.out.size
    omega
  · rw [← HG1.out]
    exact (HB0.out.trans (HB1.out.mono (by have := HZ.out; omega))).trans (HC2.out.below (fun k hk => by omega) (by have := HZ.out; have := HB1.out.size; omega))
end
end Go.Proofs.Ytlnhjkbhhdcdeaa
