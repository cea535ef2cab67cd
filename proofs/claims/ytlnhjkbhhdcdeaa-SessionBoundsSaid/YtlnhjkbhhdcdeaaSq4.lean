/- What the law SessionBounds keeps from operation to operation. -/
import Derived.Test.YtlnhjkbhhdcdeaaSq3
namespace Go.Proofs.Ytlnhjkbhhdcdeaa
open Go Go.RowKit Go.Proofs.YtlnhjkbhhdcdeaaW.PrintWords Go.Proofs.YtlnhjkbhhdcdeaaW.PrintLast Go.Proofs.YtlnhjkbhhdcdeaaW.PrintMore
open Go.Proofs.Ytlnhjkbhhdcdeaa.PSessionRuns (S27 k27 z27 S116 k116 z116)
set_option linter.unusedVariables false
/-- A session beside what was there before it. -/
def BQ (W0 : World) (bo wi n : Int) (g m : Nat) (w : World) : Prop :=
  ∃ (M B : Nat → Prop) (σ : Se), Ses M B g m σ w ∧ Ok n σ ∧ Uok σ ∧ σ.boot = bo ∧ σ.win = wi ∧ (∀ k, M k → W0.heap.size ≤ k) ∧ Below W0.heap.size W0 w
/-- The same, and the frames that a call answered with. -/
def BO (W0 : World) (bo wi n : Int) (g m : Nat) (A : Option Addr) (c : Nat) (fs : List S27) (w : World) : Prop :=
  BQ W0 bo wi n g m w ∧ Kd.V k27 27 w 0 (fun k => k < w.heap.size) (.slice A fs.length c) fs ∧ (∀ f ∈ fs, Fok bo f) ∧ (dcount fs : Int) ≤ wi ∧ fs.length ≤ 65
section
variable {W0 : World} {bo wi n : Int} {g m : Nat} {w w' : World} {A : Option Addr} {c : Nat} {fs : List S27}
theorem BQ.below (h : BQ W0 bo wi n g m w) (hb : Below w.heap.size w w') : BQ W0 bo wi n g m w' := by
  obtain ⟨M, B, σ, h1, h2, h3, h4, h5, h6, h7⟩ := h
  exact ⟨M, B, σ, h1.below hb, h2, h3, h4, h5, h6, below_then h7 h7.size hb⟩
theorem BQ.more (h : BQ W0 bo wi n g m w) {k : Int} (hk : n ≤ k) (hl : k ≤ 1099511627776) : BQ W0 bo wi k g m w := by
  obtain ⟨M, B, σ, h1, h2, h3, h4, h5, h6, h7⟩ := h
  exact ⟨M, B, σ, h1, h2.more hk hl, h3, h4, h5, h6, h7⟩
theorem BO.below (h : BO W0 bo wi n g m A c fs w) (hb : Below w.heap.size w w') : BO W0 bo wi n g m A c fs w' :=
  ⟨h.1.below hb, Kd.V_mono (Kd.V_below h.2.1 hb) (fun k hk => Nat.lt_of_lt_of_le hk hb.size), h.2.2⟩
theorem BO.none_ (h : BQ W0 bo wi n g m w) (hw : 1 ≤ wi) : BO W0 bo wi n g m none 0 [] w :=
  ⟨h, Kd.V_nil _ _ _ _ _, fun f hf => (by cases hf), (by show (0 : Int) ≤ wi; omega), Nat.zero_le _⟩
theorem BQ.old (h : BQ W0 bo wi n g m w) : Below W0.heap.size W0 w := by
  obtain ⟨M, B, σ, h1, h2, h3, h4, h5, h6, h7⟩ := h
  exact h7
theorem bq_gr {M B M' B' : Nat → Prop} (h6 : ∀ k, M k → W0.heap.size ≤ k) (h7 : Below W0.heap.size W0 w) (hg : Gr w w' M B M' B') : (∀ k, M' k → W0.heap.size ≤ k) ∧ Below W0.heap.size W0 w' := by
  refine ⟨fun k hk => ?_, h7.trans (hg.chg.below h6 h7.size)⟩
  rcases hg.mn k hk with h | h
  · exact h6 k h
  · exact Nat.le_trans h7.size h
theorem BO.more (h : BO W0 bo wi n g m A c fs w) {k : Int} (hk : n ≤ k) (hl : k ≤ 1099511627776) : BO W0 bo wi k g m A c fs w := ⟨h.1.more hk hl, h.2⟩
theorem tickF_len {σ : Se} (ok : Ok n σ) (now : Int) : (σ.tickF now).2.1.length ≤ 65 := by
  have hw := ok.win1
  unfold Se.tickF
  split
  · split
    · split
      · rename_i h
        rw [Se.seg_len]
        have h2 : ({ σ with now := now } : Se).start.fl ≤ σ.win.toNat := by
          unfold Se.fl
          rw [if_pos (show ({ σ with now := now } : Se).start.up = true from h)]
          exact Nat.min_le_right _ _
        omega
      · show 1 ≤ 65
        omega
    · exact Nat.zero_le _
  · exact Nat.zero_le _
theorem dcount_take (fs : List S27) (k : Nat) (h : k < fs.length) : dcount (fs.take (k + 1)) = dcount (fs.take k) + (if (fs.getD k z27).f0 == 2 then 1 else 0) := by
  rw [List.take_add_one, dcount_append, List.getElem?_eq_getElem h, List.getD_eq_getElem?_getD, List.getElem?_eq_getElem h]
  show _ + (List.filter _ [fs[k]]).length = _ + (if (fs[k]).f0 == 2 then 1 else 0)
  rw [List.filter_cons]
  split <;> rfl
/-- What a call leaves. -/
def BP (W0 : World) (bo wi n : Int) (g m : Nat) (v : Value) (w : World) : Prop := ∃ A c fs, v = .slice A (List.length (α := S27) fs) c ∧ BO W0 bo wi n g m A c fs w
theorem bq_send (h : BQ W0 bo wi n g m w) (hn : n + 70000 ≤ 1099511627776) (now : Int) (xs : List (List Int)) (hV : Kd.V (Kd.slice 5 KB) 45 w 0 (fun k => k < W0.heap.size) (.slice A xs.length c) xs) (hl : xs.length ≤ 140737488351232) :
    Calls Try.prog 14 #[.pointer (some ⟨g, 0, none⟩), .int .i64 now, .slice A xs.length c] w fun e w' => ∃ v x, e = .returned (.tuple #[v, .int .i64 x]) ∧ BP W0 bo wi (n + 70000) g m v w' := by
  obtain ⟨M, B, σ, h1, h2, h3, h4, h5, h6, h7⟩ := h
  refine (send_ses h1 h2 (by omega) now xs _ A c hV (fun k hk hM => ?_) hl).mono ?_
  · have := h6 k hM
    omega
  · rintro e w' ⟨M', B', A', c', rfl, e2, e3, e4⟩
    have m := sendF_may h2 h3 (by omega) now xs
    obtain ⟨g1, g2⟩ := bq_gr h6 h7 e3
    exact ⟨_, _, rfl, A', c', _, rfl, ⟨M', B', _, e2, (h2.sendF (by omega) now xs).more (by omega) hn, m.up, m.boot.trans h4, m.win.trans h5, g1, g2⟩, Kd.V_mono e4 (fun k hk => hk.2.1), fun f hf => h4 ▸ m.fr f hf, h5 ▸ m.dc, Nat.le_trans (sendF_len h2 (by omega) now xs) (by omega)⟩
theorem bq_tick (h : BQ W0 bo wi n g m w) (hn : n + 70000 ≤ 1099511627776) (now : Int) :
    Calls Try.prog 16 #[.pointer (some ⟨g, 0, none⟩), .int .i64 now] w fun e w' => ∃ v x, e = .returned (.tuple #[v, .int .i64 x]) ∧ BP W0 bo wi (n + 70000) g m v w' := by
  obtain ⟨M, B, σ, h1, h2, h3, h4, h5, h6, h7⟩ := h
  refine (tick_ses h1 h2 now).mono ?_
  rintro e w' ⟨M', B', A', c', rfl, e2, e3, e4⟩
  have m := tickF_may h2 h3 now
  obtain ⟨g1, g2⟩ := bq_gr h6 h7 e3
  exact ⟨_, _, rfl, A', c', _, rfl, ⟨M', B', _, e2, (h2.tickF now).more (by omega) hn, m.up, m.boot.trans h4, m.win.trans h5, g1, g2⟩, Kd.V_mono e4 (fun k hk => hk.2.1), fun f hf => h4 ▸ m.fr f hf, h5 ▸ m.dc, tickF_len h2 now⟩
theorem bq_take (h : BQ W0 bo wi n g m w) (hn : n + 70000 ≤ 1099511627776) (now : Int) (f : S27) (hV : Kd.V KB 5 w 0 (fun k => k < W0.heap.size) (.slice A f.f5.length c) f.f5) (hf : FOk f) :
    Calls Try.prog 15 #[.pointer (some ⟨g, 0, none⟩), .int .i64 now, .agg (frc f.f0 f.f1 f.f2 f.f3 f.f4 (.slice A f.f5.length c))] w fun e w' => ∃ v v2 b x, e = .returned (.tuple #[v, v2, .bool b, .int .i64 x]) ∧ BP W0 bo wi (n + 70000) g m v w' := by
  obtain ⟨M, B, σ, h1, h2, h3, h4, h5, h6, h7⟩ := h
  refine (take_ses h1 h2 (by omega) now f _ A c hV (fun k hk hM => ?_) hf).mono ?_
  · have := h6 k hM
    omega
  · rintro e w' ⟨B', A', Ag, c', cg, rfl, e2, e3, e4, e5⟩
    have m := takeF_may h2 h3 (by omega) now f hf.1 hf.2.1
    obtain ⟨g1, g2⟩ := bq_gr h6 h7 e3
    exact ⟨_, _, _, _, rfl, A', c', _, rfl, ⟨M, B', _, e2, (h2.takeF (by omega) now f hf.1 hf.2.1).more (by omega) hn, m.up, m.boot.trans h4, m.win.trans h5, g1, g2⟩, Kd.V_mono e4 (fun k hk => hk.2.1), fun f' hf' => h4 ▸ m.fr f' hf', h5 ▸ m.dc, (takeF_len h2 (by omega) now f hf.1 hf.2.1).1⟩
theorem bq_new {tm : Int} (hb : badc bo wi tm = false) (h0 : 0 ≤ bo) (h1 : bo < 4294967296) :
    Calls Try.prog 13 #[.agg #[.int .u32 bo, .int .i64 wi, .int .i64 tm], .int .i64 0] w fun e w' => ∃ g m v, e = .returned (.tuple #[.pointer (some ⟨g, 0, none⟩), v, .int .i64 0]) ∧ BQ w bo wi 2 g m w' := by
  refine (new_ok bo wi tm 0 hb (by decide)).mono ?_
  rintro e w' ⟨M, g, m, A, rfl, e2, e3, e4, e5⟩
  exact ⟨g, m, _, rfl, M, _, _, e2, (se0_ok hb h0 h1).more (by omega) (by omega), fun hu => (by cases hu), rfl, rfl, e4, e3⟩
theorem drewN_two {w w' : World} {d : Nat} (h : ∃ d', w' = (w.drewN d).drewN d') : ∃ n, w' = w.drewN n := by
  obtain ⟨d', rfl⟩ := h
  exact ⟨d + d', by simp [World.drewN]; omega⟩
theorem BQ.fly (h : BQ W0 bo wi n g m w) : ∃ fl L : Int, fl ≤ wi ∧ fl ≤ L ∧ L ≤ 65536 ∧ (∀ d, Calls Try.prog 17 #[.pointer (some ⟨g, 0, none⟩)] (w.drewN d) fun e w' => e = .returned (.int .i64 fl) ∧ ∃ d', w' = w.drewN d') ∧
    (∀ d, Calls Try.prog 18 #[.pointer (some ⟨g, 0, none⟩)] (w.drewN d) fun e w' => e = .returned (.int .i64 L) ∧ ∃ d', w' = w.drewN d') := by
  obtain ⟨M, B, σ, h1, h2, h3, h4, h5, h6, h7⟩ := h
  have hw := h2.win0
  have hl := h2.len
  refine ⟨σ.fl, σ.L.length, ?_, ?_, ?_, fun d => (fly_ses (h1.drewN d) h2).mono (fun e w' h => ⟨h.1, drewN_two h.2⟩), fun d => (waiting_ses (h1.drewN d)).mono (fun e w' h => ⟨h.1, drewN_two h.2⟩)⟩
  · unfold Se.fl
    split
    · omega
    · omega
  · unfold Se.fl
    split
    · omega
    · omega
  · omega
end
end Go.Proofs.Ytlnhjkbhhdcdeaa
