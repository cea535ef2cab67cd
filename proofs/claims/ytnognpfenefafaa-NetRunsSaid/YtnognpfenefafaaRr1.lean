/- The walks of the document's net: has, find, and where it refuses. -/
import Derived.Test.YtnognpfenefafaaNr3
namespace Go.Proofs.Ytnognpfenefafaa
open Go.Proofs.Ytnognpfenefafaa.PNetRuns (S39 S73 k39 k73 z39 z73)
open Go.RowKit Go.Proofs.YtnognpfenefafaaW.PrintWords Go.Proofs.YtnognpfenefafaaW.PrintLast Go.Proofs.YtnognpfenefafaaW.PrintMore
theorem rhas (S : Nat → Prop) (g : Nat) (dev last d : Int) (ps : List S73) (w : World) (h : Rn S g dev last ps w) : Calls Try.prog 34 #[.pointer (some ⟨g, 0, none⟩), .int .i64 d] w fun e w' => e = .returned (.bool (decide (0 ≤ d) && decide (d < dev))) ∧ w' = w := by
  obtain ⟨hg, hlt, v, hblk, hR⟩ := h
  have d0 := blk_cell hblk 0 (.int .i64 dev) rfl
  clear hlt hblk hR
  by_cases h0 : 0 ≤ d
  · have h1 : decide (0 ≤ d) = true := decide_eq_true h0
    clear h0
    rw [h1, Bool.true_and]
    go_enter Try.func34, Try.ntmps34
    go_wp2_with fail
    go_ret
    exact ⟨rfl, rfl⟩
  · have h1 : decide (0 ≤ d) = false := decide_eq_false h0
    clear h0
    rw [h1, Bool.false_and]
    go_enter Try.func34, Try.ntmps34
    go_wp2_with fail
    go_ret
    exact ⟨rfl, rfl⟩
theorem rnew_bad (dev : Int) (w : World) (h : dev < 1 ∨ 256 < dev) : Calls Try.prog 11 #[.int .i64 dev] w fun e w' => e = .returned (.tuple #[.pointer none, .int .i64 1]) ∧ w = w' := by
  rcases h with h | h
  all_goals
    go_enter Try.func11, Try.ntmps11
    go_wp2
    go_ret2
    exact ⟨rfl, rfl⟩
theorem rnew_no (dev : Int) (w : World) (h0 : 1 ≤ dev) (h1 : dev ≤ 256) : Calls Try.prog 11 #[.int .i64 dev] w fun e w' => e = .returned (.tuple #[.pointer (some ⟨w.heap.size, 0, none⟩), .int .i64 0]) ∧ Rn (fun k => k = w.heap.size) w.heap.size dev 0 [] w' ∧ Below w.heap.size w w' := by
  have h : ∀ n, Rn (fun k => k = w.heap.size) w.heap.size dev 0 [] ((w.drewN n).alloc (.cells #[.int .i64 dev, .int .i64 0, .slice none 0 0] 34)) :=
    fun n => ⟨rfl, fun k hk => by rw [hk]; simp, _, heap_alloc_new (w.drewN n) _, Kd.S_nil _ _ _ _ _⟩
  have H := Lib.hid h
  clear h
  go_enter Try.func11, Try.ntmps11
  go_wp2
  first | go_ret2 | (go_quiet (fail); go_wp2; go_ret2)
  exact ⟨rfl, H.out 0, below_alloc (Below.refl _ _) _⟩
set_option maxRecDepth 100000 in
set_option maxHeartbeats 1000000 in
theorem rfind (S : Nat → Prop) (g : Nat) (dev last id : Int) (ps : List S73) (w : World) (h : Rn S g dev last ps w) (hl : ps.length ≤ 100000) (r : Int) (hr : r = if fnd ps id < ps.length then (fnd ps id : Int) else -1) :
    Calls Try.prog 36 #[.pointer (some ⟨g, 0, none⟩), .int .i64 id] w fun e w' => e = .returned (.int .i64 r) ∧ w' = w := by
  have HR := Lib.hid hr
  obtain ⟨hg, hlt, v, hblk, hR⟩ := h
  obtain ⟨A, c, rfl⟩ := Kd.S_slice hR
  have d2 := blk_cell hblk 2 (.slice A ps.length c) rfl
  have HV := Lib.hid (S_V (b := 0) hR)
  obtain ⟨n, hn⟩ : ∃ n, n = ps.length := ⟨_, rfl⟩
  rw [← hn] at d2
  have HN := Lib.hid hn
  have hl' : n ≤ 100000 := by omega
  clear hg hlt hblk hR hr hl hn
  go_enter Try.func36, Try.ntmps36
  go_wp2_with fail
  go_loopw [5] (fun v wr => ∃ i : Nat, v = .int .i64 i ∧ i ≤ n ∧ i ≤ fnd ps id ∧ wr = w) (fun v _ => n - (intOf v).toNat)
  case atStart => exact ⟨0, rfl, Nat.zero_le _, Nat.zero_le _, rfl⟩
  case round =>
    obtain ⟨i, rfl, hi, hf, rfl⟩ := hrel
    have hin : (n : Int) ≤ 100000 := by omega
    have hli : i < n ∨ i = n := by omega
    rcases hli with hlt | hlt
    · obtain ⟨ad, A5, c5, x, rfl, ⟨hc0, hc1, hc2, hc3, hc4, hc5⟩, hV5, HX⟩ := V_pk_at HV.out i (by rw [← HN.out]; exact hlt)
      clear hV5 hc1 hc2 hc3 hc4 hc5
      have hi64 : (i : Int) < (n : Int) := by omega
      by_cases hq : x.f0.f0 = id
      · have hq' : (x.f0.f0 == id) = true := by rw [hq]; simp
        have hr9 : r = (i : Int) := by
          have h7 : fnd ps id = i := fnd_at (by rw [← HN.out]; exact hlt) hf (by rw [← HX.out]; exact hq)
          rw [HR.out, if_pos (by rw [← HN.out, h7]; exact hlt), h7]
        subst hr9
        clear hq hf hi
        go_wp2_with fail
        go_ret
        exact ⟨rfl, rfl⟩
      · have hq' : (x.f0.f0 == id) = false := by simpa using hq
        have hf2 : i + 1 ≤ fnd ps id := fnd_next (by rw [← HN.out]; exact hlt) hf (by rw [← HX.out]; exact hq)
        have HF2 := Lib.hid hf2
        clear hq hf hi hf2
        go_wp2_with fail
        go_roundw
        case rel =>
          refine ⟨i + 1, ?_, by omega, HF2.out, by first | trivial | rfl⟩
          go_num
        case measure => simp [intOf]; omega
    · have h9 : r = -1 := by rw [HR.out, if_neg (by rw [← HN.out]; omega)]
      subst h9
      have hi64 : decide ((i : Int) < (n : Int)) = false := by simp; omega
      go_wp2_with fail
      go_ret
      exact ⟨rfl, rfl⟩
theorem rfind_gone (S : Nat → Prop) (g : Nat) (dev last id : Int) (ps : List S73) (w : World) (h : Rn S g dev last ps w) (hl : ps.length ≤ 100000) (hq : ¬ fnd ps id < ps.length) :
    Calls Try.prog 36 #[.pointer (some ⟨g, 0, none⟩), .int .i64 id] w fun e w' => e = .returned (.int .i64 (-1)) ∧ w' = w := rfind S g dev last id ps w h hl _ (if_neg hq).symm
theorem rfind_hit (S : Nat → Prop) (g : Nat) (dev last id : Int) (ps : List S73) (w : World) (h : Rn S g dev last ps w) (hl : ps.length ≤ 100000) (hq : fnd ps id < ps.length) :
    Calls Try.prog 36 #[.pointer (some ⟨g, 0, none⟩), .int .i64 id] w fun e w' => e = .returned (.int .i64 (fnd ps id)) ∧ w' = w := rfind S g dev last id ps w h hl _ (if_pos hq).symm
theorem rtwice_gone (S : Nat → Prop) (g : Nat) (dev last id : Int) (ps : List S73) (w : World) (h : Rn S g dev last ps w) (hl : ps.length ≤ 100000) (hq : ¬ fnd ps id < ps.length) :
    Calls Try.prog 26 #[.pointer (some ⟨g, 0, none⟩), .int .i64 id] w fun e w' => e = .returned (.tuple #[.int .i64 0, .bool false, .int .i64 231]) ∧ w' = w := by
  have H := Lib.hid (rfind_gone S g dev last id ps _ h hl hq)
  clear h hl hq
  go_enter Try.func26, Try.ntmps26
  go_wp2_with fail
  refine H.out.mono ?_
  rintro e w1 ⟨rfl, rfl⟩
  clear H
  go_wp2_with fail
  go_ret3
  exact ⟨rfl, rfl⟩
theorem rspoil_gone (S : Nat → Prop) (g : Nat) (dev last id at_ bits : Int) (ps : List S73) (w : World) (h : Rn S g dev last ps w) (hl : ps.length ≤ 100000) (hq : ¬ fnd ps id < ps.length) :
    Calls Try.prog 27 #[.pointer (some ⟨g, 0, none⟩), .int .i64 id, .int .i64 at_, .int .u8 bits] w fun e w' => e = .returned (.int .i64 231) ∧ w' = w := by
  have H := Lib.hid (rfind_gone S g dev last id ps _ h hl hq)
  clear h hl hq
  go_enter Try.func27, Try.ntmps27
  go_wp2_with fail
  refine H.out.mono ?_
  rintro e w1 ⟨rfl, rfl⟩
  clear H
  go_wp2_with fail
  go_ret
  exact ⟨rfl, rfl⟩
theorem rsend_end (S : Nat → Prop) (g : Nat) (dev last : Int) (ps : List S73) (w : World) (fr to_ : Int) (b : Value) (fo : Bool) (h : Rn S g dev last ps w) (hE : ¬ (0 ≤ fr ∧ fr < dev ∧ 0 ≤ to_ ∧ to_ < dev)) :
    Calls Try.prog 24 #[.pointer (some ⟨g, 0, none⟩), .int .i64 fr, .int .i64 to_, b, .bool fo] w fun e w' => e = .returned (.tuple #[.int .i64 0, .bool false, .int .i64 230]) ∧ w' = w := by
  have H := Lib.hid (rhas S g dev last fr ps _ h)
  have H2 := Lib.hid (rhas S g dev last to_ ps _ h)
  by_cases hf : 0 ≤ fr ∧ fr < dev
  · have hb : (decide (0 ≤ fr) && decide (fr < dev)) = true := by simp; exact hf
    have hb2 : (decide (0 ≤ to_) && decide (to_ < dev)) = false := by
      have : ¬ (0 ≤ to_ ∧ to_ < dev) := fun h9 => hE ⟨hf.1, hf.2, h9.1, h9.2⟩
      by_cases h9 : 0 ≤ to_
      · simp only [h9, decide_true, Bool.true_and, decide_eq_false_iff_not]; omega
      · simp [h9]
    rw [hb] at H
    rw [hb2] at H2
    clear h hf hb hb2 hE
    go_enter Try.func24, Try.ntmps24
    go_wp2_with fail
    refine H.out.mono ?_
    rintro e w1 ⟨rfl, rfl⟩
    clear H
    go_wp2_with fail
    refine H2.out.mono ?_
    rintro e w2 ⟨rfl, rfl⟩
    clear H2
    go_wp2_with fail
    go_ret3
    exact ⟨rfl, rfl⟩
  · have hb : (decide (0 ≤ fr) && decide (fr < dev)) = false := by
      by_cases h9 : 0 ≤ fr
      · simp only [h9, decide_true, Bool.true_and, decide_eq_false_iff_not]; omega
      · simp [h9]
    rw [hb] at H
    clear h hf hb hE H2
    go_enter Try.func24, Try.ntmps24
    go_wp2_with fail
    refine H.out.mono ?_
    rintro e w1 ⟨rfl, rfl⟩
    clear H
    go_wp2_with fail
    go_ret3
    exact ⟨rfl, rfl⟩
end Go.Proofs.Ytnognpfenefafaa
