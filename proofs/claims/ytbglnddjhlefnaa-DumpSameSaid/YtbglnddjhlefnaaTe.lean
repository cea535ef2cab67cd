/- The walks of clear, New, Size. -/
import Derived.Test.YtbglnddjhlefnaaTr
namespace Go.Proofs.Ytbglnddjhlefnaa
open Go Go.RowKit Go.Proofs.YtbglnddjhlefnaaW.PrintWords Go.Proofs.YtbglnddjhlefnaaW.PrintLast Go.Proofs.YtbglnddjhlefnaaW.PrintMore
def newB (bits lim : Nat) : Bd := ⟨bits, lim, [], [], []⟩
section
variable {g : Nat} {S : Nat → Prop} {T : Bd} {w w' : World}
set_option maxRecDepth 100000 in
set_option maxHeartbeats 1000000 in
theorem clear_w (bits lim : Nat) (r0 u0 v0 k0 : Value) (hb : w.heap[g]? = some (.cells #[r0, u0, .int .i64 bits, .int .i64 lim, v0, k0] 67 (0, 0))) :
    Calls Try.prog 47 #[.pointer (some ⟨g, 0, none⟩)] w fun e w' => e = .returned (.tuple #[]) ∧ ∃ S', Tab g S' (newB bits lim) w' ∧ (∀ k, S' k → k = g ∨ w.heap.size ≤ k) ∧ Chg (fun k => k = g) w w' := by
  have hgl := blk_lt' hb
  have hmm := fun (w : World) (t : TypeId) => run_makeMap0 w t
  have f0 := blk_free hb 0
  have f1 := blk_free hb 1
  have f4 := blk_free hb 4
  have f5 := blk_free hb 5
  have c0 := blk_cell hb 0 r0 rfl
  have c1 := blk_cell hb 1 u0 rfl
  have c4 := blk_cell hb 4 v0 rfl
  have c5 := blk_cell hb 5 k0 rfl
  have HB := Lib.hid hb
  clear hb
  go_enter Try.func47, Try.ntmps47
  go_upto_region 1 with fail
  have hb1 : ((((w.setCell ⟨g, 0, none⟩ (.map (some w.heap.size))).setCell ⟨g, 1, none⟩ (.map (some (w.heap.size + 1)))).alloc (.map #[] 0)).alloc (.map #[] 0)).heap[g]? = some (.cells #[.map (some w.heap.size), .map (some (w.heap.size + 1)), .int .i64 bits, .int .i64 lim, v0, k0] 67 (0, 0)) := by
    have h1 := blk_set (blk_set HB.out 0 (.map (some w.heap.size))) 1 (.map (some (w.heap.size + 1)))
    rw [heap_alloc_old _ _ (by simp [World.setCell]; omega), heap_alloc_old _ _ (by simp [World.setCell]; omega), h1]
    rfl
  have hm1 : MapG ((((w.setCell ⟨g, 0, none⟩ (.map (some w.heap.size))).setCell ⟨g, 1, none⟩ (.map (some (w.heap.size + 1)))).alloc (.map #[] 0)).alloc (.map #[] 0)) w.heap.size encI [] := by
    have := MapG.made ((w.setCell ⟨g, 0, none⟩ (.map (some w.heap.size))).setCell ⟨g, 1, none⟩ (.map (some (w.heap.size + 1)))) encI
    refine MapG.step (w := ((w.setCell ⟨g, 0, none⟩ (.map (some w.heap.size))).setCell ⟨g, 1, none⟩ (.map (some (w.heap.size + 1)))).alloc (.map #[] 0)) ?_ (heap_alloc_old _ _ (by simp [World.setCell]))
    simpa [World.setCell] using this
  have hm2 : MapG ((((w.setCell ⟨g, 0, none⟩ (.map (some w.heap.size))).setCell ⟨g, 1, none⟩ (.map (some (w.heap.size + 1)))).alloc (.map #[] 0)).alloc (.map #[] 0)) (w.heap.size + 1) encI [] := by
    have := MapG.made (((w.setCell ⟨g, 0, none⟩ (.map (some w.heap.size))).setCell ⟨g, 1, none⟩ (.map (some (w.heap.size + 1)))).alloc (.map #[] 0)) encI
    simpa [World.setCell] using this
  have hc1 : Chg (fun k => k = g) w ((((w.setCell ⟨g, 0, none⟩ (.map (some w.heap.size))).setCell ⟨g, 1, none⟩ (.map (some (w.heap.size + 1)))).alloc (.map #[] 0)).alloc (.map #[] 0)) :=
    ((((Chg.refl (fun k => k = g) w).set ⟨g, 0, none⟩ _ (.inl rfl)).set ⟨g, 1, none⟩ _ (.inl rfl)).alloc _).alloc _
  have hs1 : ((((w.setCell ⟨g, 0, none⟩ (.map (some w.heap.size))).setCell ⟨g, 1, none⟩ (.map (some (w.heap.size + 1)))).alloc (.map #[] 0)).alloc (.map #[] 0)).heap.size = w.heap.size + 1 + 1 := by simp [World.setCell]
  generalize (((w.setCell ⟨g, 0, none⟩ (.map (some w.heap.size))).setCell ⟨g, 1, none⟩ (.map (some (w.heap.size + 1)))).alloc (.map #[] 0)).alloc (.map #[] 0) = W1 at *
  clear f0 f1 f4 f5 c0 c1 c4 c5
  obtain ⟨r, hr⟩ : ∃ r, r = w.heap.size := ⟨_, rfl⟩
  obtain ⟨kb, hkb⟩ : ∃ kb, kb = W1.heap.size := ⟨_, rfl⟩
  have hm3 := run_makeMap0 W1 65
  obtain ⟨W2, hW2⟩ : ∃ W2, W2 = W1.alloc (.map #[] 0) := ⟨_, rfl⟩
  rw [← hW2, ← hkb] at hm3
  rw [← hr] at hm1 hm2 hb1 hs1 ⊢
  rw [← hkb] at hs1
  have hold : ∀ k, k < W1.heap.size → W2.heap[k]? = W1.heap[k]? := fun k hk => by rw [hW2]; exact heap_alloc_old _ _ hk
  have hb2 : W2.heap[g]? = some (.cells #[.map (some r), .map (some (r + 1)), .int .i64 bits, .int .i64 lim, v0, k0] 67 (0, 0)) := (hold g (blk_lt' hb1)).trans hb1
  have hm1' := hm1.step (hold r hm1.lt)
  have hm2' := hm2.step (hold (r + 1) hm2.lt)
  have hm3' : MapG W2 kb encN [] := by rw [hW2, hkb]; exact MapG.made W1 encN
  have hs2 : W2.heap.size = kb + 1 := by rw [hW2, World.size_alloc, hkb]
  have hc2 : Chg (fun k => k = g) w W2 := by rw [hW2]; exact hc1.alloc _
  have f4 := blk_free hb2 4
  have f5 := blk_free hb2 5
  have c4 := blk_cell hb2 4 v0 rfl
  have c5 := blk_cell hb2 5 k0 rfl
  have HB2 := Lib.hid hb2
  have HM := Lib.hid (And.intro hm1' (And.intro hm2' hm3'))
  have HC2 := Lib.hid hc2
  have HS := Lib.hid (And.intro hs1 hs2)
  have HR := Lib.hid hr
  have HGR := Lib.hid (show g < r by rw [hr]; exact hgl)
  clear hb1 hm1 hm2 hc1 hs1 hr hkb hmm hW2 hold hb2 hm1' hm2' hm3' hs2 hc2 hgl HB
  go_wp2_with fail
  go_end0
  have hb3 := blk_set (blk_set HB2.out 4 (.slice none 0 0)) 5 (.map (some kb))
  have far : ∀ k, k ≠ g → ((W2.setCell ⟨g, 4, none⟩ (.slice none 0 0)).setCell ⟨g, 5, none⟩ (.map (some kb))).heap[k]? = W2.heap[k]? := fun k hk => (Below.heap_setCell _ _ _ _ hk).trans (Below.heap_setCell _ _ _ _ hk)
  have hsz : ((W2.setCell ⟨g, 4, none⟩ (.slice none 0 0)).setCell ⟨g, 5, none⟩ (.map (some kb))).heap.size = kb + 1 := by simp [World.setCell]; exact HS.out.2
  have hgr := HGR.out
  have hk2 := HS.out.1
  have hr := HR.out
  refine ⟨rfl, fun k => k = g ∨ k = r ∨ k = r + 1 ∨ k = kb, ⟨r, r + 1, kb, .slice none 0 0, ?_⟩, ?_, ?_⟩
  · refine ⟨.inl rfl, .inr (.inl rfl), .inr (.inr (.inl rfl)), .inr (.inr (.inr rfl)), ?_, by omega, by omega, by omega, ?_, ?_, ?_, ?_, ?_, ?_⟩
    · rintro k (rfl | rfl | rfl | rfl) <;> rw [hsz] <;> omega
    · rw [hb3]
      rfl
    · exact ⟨[], HM.out.1.step (far r (by omega)), by simp, by simp, by simp [newB]⟩
    · exact ⟨[], HM.out.2.1.step (far (r + 1) (by omega)), by simp, by simp, by simp [newB]⟩
    · exact HM.out.2.2.step (far kb (by omega))
    · exact World.ownsRow_nil _ 0 95 3
    · intro n hn
      cases hn
  · rintro k (rfl | rfl | rfl | rfl)
    · exact .inl rfl
    all_goals exact .inr (by omega)
  · exact (HC2.out.set _ _ (.inl rfl)).set _ _ (.inl rfl)
theorem New_bad (b l : Int) (hb : b < 1 ∨ 128 < b ∨ l < 0 ∨ 1048576 < l) : Calls Try.prog 19 #[.int .i64 b, .int .i64 l] w fun e w' => e = .returned (.tuple #[.pointer none, .int .i64 1]) ∧ w = w' := by
  rcases hb with h | h | h | h
  · have t1 : decide (b < 1) = true := decide_eq_true h
    go_enter Try.func19, Try.ntmps19
    go_wp2_with fail
    go_ret2
    exact ⟨rfl, rfl⟩
  · have t1 : decide (b < 1) = false := decide_eq_false (by omega)
    have t2 : decide (128 < b) = true := decide_eq_true h
    go_enter Try.func19, Try.ntmps19
    go_wp2_with fail
    go_ret2
    exact ⟨rfl, rfl⟩
  · obtain ⟨x1, hx1⟩ : ∃ x, decide (b < 1) = x := ⟨_, rfl⟩
    obtain ⟨x2, hx2⟩ : ∃ x, decide (128 < b) = x := ⟨_, rfl⟩
    have t3 : decide (l < 0) = true := decide_eq_true h
    cases x1 <;> cases x2
    all_goals
      go_enter Try.func19, Try.ntmps19
      go_wp2_with fail
      go_ret2
      exact ⟨rfl, rfl⟩
  · obtain ⟨x1, hx1⟩ : ∃ x, decide (b < 1) = x := ⟨_, rfl⟩
    obtain ⟨x2, hx2⟩ : ∃ x, decide (128 < b) = x := ⟨_, rfl⟩
    have t3 : decide (l < 0) = false := decide_eq_false (by omega)
    have t4 : decide (1048576 < l) = true := decide_eq_true h
    cases x1 <;> cases x2
    all_goals
      go_enter Try.func19, Try.ntmps19
      go_wp2_with fail
      go_ret2
      exact ⟨rfl, rfl⟩
set_option maxRecDepth 100000 in
set_option maxHeartbeats 1000000 in
theorem New_w (b l : Nat) (h1 : 1 ≤ b) (h2 : b ≤ 128) (h3 : l ≤ 1048576) : Calls Try.prog 19 #[.int .i64 b, .int .i64 l] w fun e w' => ∃ g S, e = .returned (.tuple #[.pointer (some ⟨g, 0, none⟩), .int .i64 0]) ∧ Tab g S (newB b l) w' ∧ (∀ k, S k → w.heap.size ≤ k) ∧ Below w.heap.size w w' := by
  have t1 : decide ((b : Int) < 1) = false := decide_eq_false (by omega)
  have t2 : decide ((128 : Int) < (b : Int)) = false := decide_eq_false (by omega)
  have t3 : decide ((l : Int) < 0) = false := decide_eq_false (by omega)
  have t4 : decide ((1048576 : Int) < (l : Int)) = false := decide_eq_false (by omega)
  have hb := heap_alloc_new w (.cells #[.map none, .map none, .int .i64 b, .int .i64 l, .slice none 0 0, .map none] 67)
  have HC := Lib.hid (clear_w b l _ _ _ _ hb)
  have HB := Lib.hid (below_alloc (Below.refl w.heap.size w) (.cells #[.map none, .map none, .int .i64 b, .int .i64 l, .slice none 0 0, .map none] 67))
  have HS : Hid ((w.alloc (.cells #[.map none, .map none, .int .i64 b, .int .i64 l, .slice none 0 0, .map none] 67)).heap.size = w.heap.size + 1) := Lib.hid (World.size_alloc _ _)
  clear hb h1 h2 h3
  go_enter Try.func19, Try.ntmps19
  go_wp2_with fail
  refine HC.out.mono ?_
  rintro e w' ⟨rfl, S, q1, q2, q3⟩
  have Q1 := Lib.hid q1
  have Q2 := Lib.hid q2
  have Q3 := Lib.hid q3
  clear q1 q2 q3
  go_wp2_with fail
  go_ret2
  refine ⟨w.heap.size, S, rfl, Q1.out, fun k hk => ?_, ?_⟩
  · have := HS.out
    rcases Q2.out k hk with h | h <;> omega
  · exact ((Chg.of_below HB.out (fun _ => False)).trans Q3.out (fun i hi => .inr (by omega))).below (fun _ h => h.elim) (Nat.le_refl _)
set_option maxRecDepth 100000 in
theorem Size_w (h : Tab g S T w) (hn : T.used.Nodup) : Calls Try.prog 20 #[.pointer (some ⟨g, 0, none⟩)] w fun e w' => e = .returned (.int .i64 T.used.length) ∧ w = w' := by
  have HI := Lib.hid (is_w h)
  obtain ⟨rb, ub, kb, v, h⟩ := h
  have d1 := blk_cell h.box 1 (.map (some ub)) rfl
  have hl := h.used.len Try.underlying61 hn 3
  generalize T.used.length = n at hl ⊢
  clear h hn
  go_enter Try.func20, Try.ntmps20
  go_wp2_with fail
  refine HI.out.mono ?_
  rintro e w' ⟨rfl, rfl⟩
  go_wp2_with fail
  go_ret
  exact ⟨rfl, rfl⟩
set_option maxRecDepth 100000 in
theorem Bits_w (h : Tab g S T w) : Calls Try.prog 27 #[.pointer (some ⟨g, 0, none⟩)] w fun e w' => e = .returned (.int .i64 T.bits) ∧ w = w' := by
  have HI := Lib.hid (is_w h)
  obtain ⟨rb, ub, kb, v, h⟩ := h
  have d2 := blk_cell h.box 2 (.int .i64 T.bits) rfl
  generalize T.bits = n at d2 ⊢
  clear h
  go_enter Try.func27, Try.ntmps27
  go_wp2_with fail
  refine HI.out.mono ?_
  rintro e w' ⟨rfl, rfl⟩
  go_wp2_with fail
  go_ret
  exact ⟨rfl, rfl⟩
end
end Go.Proofs.Ytbglnddjhlefnaa
