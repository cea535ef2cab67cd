/- The walks of anew, of what may be seen, of Send, Tick and New. -/
import Derived.Test.YtlnhjkbhhdcdeaaMb
import Derived.Test.YtlnhjkbhhdcdeaaSc
namespace Go.Proofs.Ytlnhjkbhhdcdeaa
open Go Go.RowKit Go.Proofs.YtlnhjkbhhdcdeaaW.PrintWords Go.Proofs.YtlnhjkbhhdcdeaaW.PrintLast Go.Proofs.YtlnhjkbhhdcdeaaW.PrintMore
open Go.Proofs.Ytlnhjkbhhdcdeaa.PSessionRuns (S27 k27 z27 S116 k116 z116)
set_option linter.unusedVariables false
set_option maxRecDepth 100000
set_option maxHeartbeats 4000000
attribute [local go_sem] max2_mx min2_mn max_two min_two
/-- A map is cleared. -/
theorem run_clear {P : Program} {T K E : TypeId} {q : IntKind} {w : World} {b : Nat} {L : List (Int × Value)} (hT : P.underlying T = some (.map K E)) (h : MapAt w b q L) (ty : TypeId) :
    ∃ o : Obj, (Builtin.clear_ #[T] ty #[.map (some b)]).run P w = .ok (.tuple #[]) (w.putObj b o) ∧ MapAt (w.putObj b o) b q [] := by
  obtain ⟨es, clock, hg, hb, hL, hlt⟩ := h.get (P := P)
  have hu := run_underlying hT w
  refine ⟨.map #[] clock, ?_, MapAt.put hlt (by simp)⟩
  simp [Builtin.clear_, go_sem, hu, hg, run_setObj hb]
def Se.anew (σ : Se) (boot : Int) : Se := ({ σ with L := [], base := 1, sent := 0, inn := 0, E := [], up := false, peer := boot } : Se).start
section
variable {M B : Nat → Prop} {g m : Nat} {σ : Se} {w : World} {n : Int}
theorem Em.clear {E : List (Int × List Int)} (h : Em w B m E) : ∃ o : Obj, (Builtin.clear_ #[68] 0 #[.map (some m)]).run Try.prog w = .ok (.tuple #[]) (w.putObj m o) ∧ Em (w.putObj m o) B m [] := by
  obtain ⟨EV, h1, h2, h3⟩ := h
  obtain ⟨o, h4, h5⟩ := run_clear (P := Try.prog) (T := 68) (K := 24) (E := 25) Try.underlying68 h1 0
  exact ⟨o, h4, [], h5, rfl, fun i p hi => by simp at hi⟩
theorem anew_ses (h : Ses M B g m σ w) (h0 : 0 ≤ σ.now) (h1 : σ.now ≤ 1099511627776) (h2 : 0 ≤ σ.tmr) (h3 : σ.tmr ≤ 1048576) (boot : Int) :
    Calls Try.prog 44 #[.pointer (some ⟨g, 0, none⟩), .int .u32 boot] w fun e w' => e = .returned (.tuple #[]) ∧ Ses M B g m (σ.anew boot) w' ∧ Chg M w w' := by
  obtain ⟨A, c, hb, _, _, hM, hMm, hMl, hBl, hgm, hQ, hE, hf⟩ := h.open_
  have d0 := blk_cell hb 0 (.slice A σ.L.length c) rfl
  have d1 := blk_cell hb 1 (.int .u64 σ.base) rfl
  have d2 := blk_cell hb 2 (.int .i64 σ.sent) rfl
  have d9 := blk_cell hb 9 (.map (some m)) rfl
  have f0 := blk_free hb 0
  have f1 := blk_free hb 1
  have f2 := blk_free hb 2
  have HK := Lib.hid (And.intro h0 (And.intro h1 (And.intro h2 h3)))
  obtain ⟨W1, hW1⟩ : ∃ W1, W1 = ((w.setCell ⟨g, 0, none⟩ (.slice none 0 0)).setCell ⟨g, 1, none⟩ (.int .u64 1)).setCell ⟨g, 2, none⟩ (.int .i64 0) := ⟨_, rfl⟩
  have hsz : W1.heap.size = w.heap.size := by rw [hW1]; simp [World.setCell]
  have hfar : ∀ k, k ≠ g → W1.heap[k]? = w.heap[k]? := fun k hk => by rw [hW1]; exact ((Below.heap_setCell _ _ _ _ hk).trans (Below.heap_setCell _ _ _ _ hk)).trans (Below.heap_setCell _ _ _ _ hk)
  have hc1 : Chg M w W1 := by rw [hW1]; exact (((Chg.refl M w).set _ _ (.inl hM)).set _ _ (.inl hM)).set _ _ (.inl hM)
  obtain ⟨σ1, hσ1⟩ : ∃ σ1 : Se, σ1 = { σ with L := [], base := 1, sent := 0 } := ⟨_, rfl⟩
  have hb1 : W1.heap[g]? = some (.cells (σ1.cells (.slice none 0 0) m) 70 (0, 0)) := by
    rw [hW1, blk_set (blk_set (blk_set hb 0 _) 1 _) 2 _, hσ1]
    rfl
  have hs1 : Ses M B g m σ1 W1 := by
    refine ⟨hM, hMm, fun k hk => by rw [hsz]; exact hMl k hk, fun k hk => by rw [hsz]; exact hBl k hk, .slice none 0 0, hb1, ?_, ?_⟩
    · rw [hσ1]
      exact ⟨none, 0, rfl, Nat.le_refl _, by omega, fun h => by omega⟩
    · rw [hσ1]
      exact hE.step (hfar m (fun h => hgm h.symm)) (fun k hk _ => hfar k (fun h => (hMl g hM).2 (h ▸ hk)))
  obtain ⟨o, hcl, hem⟩ := hs1.em.clear
  have hcm : Chg (fun k => k = m) W1 (W1.putObj m o) := chg_putObj _ m o
  have hs2 := hs1.early hcm (B' := B) (fun k hk => hk) (fun k hk => ⟨by rw [putObj_size, hsz]; exact hBl k hk, fun h => (hMl k h).2 hk⟩) hem
  have d9b := blk_cell hb1 9 (.map (some m)) rfl
  have HS2 := Lib.hid hs2
  have HC2 := Lib.hid (hc1.trans hcm (fun i hi => .inl (by rw [hi]; exact hMm)))
  have HS := Lib.hid hσ1
  have HW := Lib.hid hW1
  have HM := Lib.hid hM
  clear h hb hf hE hQ hMl hBl hs1 hs2 hcm hc1 hsz hfar hem hb1 h0 h1 h2 h3 hσ1
  go_enter Try.func44, Try.ntmps44
  go_upto_region 1 with fail
  rw [← HW.out]
  clear d0 d1 d2 d9 f0 f1 f2 HW hW1
  go_upto_region 2 with fail
  clear hcl
  generalize W1.putObj m o = W2 at *
  obtain ⟨A3, c3, hb3, _, _, _, _, hMl3, _, _, _, _, hf3⟩ := HS2.out.open_
  have d6 := blk_cell hb3 6 (.int .u32 σ1.peer) rfl
  have d7 := blk_cell hb3 7 (.bool σ1.up) rfl
  have d8 := blk_cell hb3 8 (.int .u64 σ1.inn) rfl
  have f6 := blk_free hb3 6
  have f7 := blk_free hb3 7
  have f8 := blk_free hb3 8
  obtain ⟨σ2, hσ2⟩ : ∃ σ2 : Se, σ2 = { σ with L := [], base := 1, sent := 0, inn := 0, E := [], up := false, peer := boot } := ⟨_, rfl⟩
  obtain ⟨W3, hW3⟩ : ∃ W3, W3 = ((W2.setCell ⟨g, 8, none⟩ (.int .u64 0)).setCell ⟨g, 7, none⟩ (.bool false)).setCell ⟨g, 6, none⟩ (.int .u32 boot) := ⟨_, rfl⟩
  have hs3 : Ses M B g m σ2 W3 := by
    rw [hW3]
    refine hf3 _ σ2 (by simp [World.setCell]) (fun k _ _ hk => ((Below.heap_setCell _ _ _ _ hk).trans (Below.heap_setCell _ _ _ _ hk)).trans (Below.heap_setCell _ _ _ _ hk)) ?_ (by rw [hσ2]; rw [HS.out]) (by rw [hσ2])
    rw [blk_set (blk_set (blk_set hb3 8 _) 7 _) 6 _, hσ2, HS.out]
    rfl
  have hc3 : Chg M W2 W3 := by rw [hW3]; exact (((Chg.refl M W2).set _ _ (.inl HM.out)).set _ _ (.inl HM.out)).set _ _ (.inl HM.out)
  have HS3 := Lib.hid hs3
  have HC3 := Lib.hid (HC2.out.trans hc3 (fun i hi => .inl hi))
  have hK : Hid (σ2.now = σ.now ∧ σ2.tmr = σ.tmr ∧ σ.anew boot = σ2.start) := by rw [hσ2]; exact Lib.hid ⟨rfl, rfl, rfl⟩
  have HW := Lib.hid hW3
  clear hs3 hc3 hσ2 hf3 hb3 hMl3 hW3
  go_upto_region 3 with fail
  rw [← HW.out]
  clear d6 d7 d8 f6 f7 f8 HW
  go_wp2_with fail
  refine (start_ses HS3.out (by rw [hK.out.1]; exact HK.out.1) (by rw [hK.out.1]; exact HK.out.2.1) (by rw [hK.out.2.1]; exact HK.out.2.2.1) (by rw [hK.out.2.1]; exact HK.out.2.2.2)).mono ?_
  rintro e w1 ⟨rfl, h1, h2, _⟩
  have H1 := Lib.hid h1
  have H2 := Lib.hid h2
  clear h1 h2
  go_wp2_with fail
  go_end0
  rw [hK.out.2.2]
  exact ⟨rfl, H1.out, HC3.out.trans H2.out (fun i hi => .inl hi)⟩
end
end Go.Proofs.Ytlnhjkbhhdcdeaa
namespace Go.Proofs.Ytlnhjkbhhdcdeaa
open Go Go.RowKit Go.Proofs.YtlnhjkbhhdcdeaaW.PrintWords Go.Proofs.YtlnhjkbhhdcdeaaW.PrintLast Go.Proofs.YtlnhjkbhhdcdeaaW.PrintMore
open Go.Proofs.Ytlnhjkbhhdcdeaa.PSessionRuns (S27 k27 z27 S116 k116 z116)
set_option linter.unusedVariables false
set_option maxRecDepth 100000
set_option maxHeartbeats 4000000
attribute [local go_sem] max2_mx min2_mn max_two min_two
/-- A session that nobody made. -/
def Nob (w : World) (v : Value) : Prop := v = .pointer none ∨ ∃ g, v = .pointer (some ⟨g, 0, none⟩) ∧ w.cell? ⟨g, 9, none⟩ = some (.map none)
theorem is_no {w : World} {v : Value} (h : Nob w v) : Calls Try.prog 51 #[v] w fun e w' => e = .returned (.bool false) ∧ w' = w := by
  rcases h with rfl | ⟨g, rfl, h⟩
  · exact is_nil w
  · exact is_un g w h
theorem ask_no {w : World} {v : Value} (h : Nob w v) (now : Int) : Calls Try.prog 39 #[v, .int .i64 now] w fun e w' => e = .returned (.int .i64 4) ∧ w' = w := by
  rcases h with rfl | ⟨g, rfl, h⟩
  · exact ask_nil now w
  · exact ask_un g now w h
theorem fly_no {w : World} {v : Value} (h : Nob w v) : Calls Try.prog 17 #[v] w fun e w' => e = .returned (.int .i64 0) ∧ w' = w := by
  have H := Lib.hid h
  clear h
  go_enter Try.func17, Try.ntmps17
  go_wp2_with fail
  refine (is_no H.out).mono ?_
  rintro e w1 ⟨rfl, rfl⟩
  go_wp2_with fail
  go_ret
  exact ⟨rfl, rfl⟩
theorem waiting_no {w : World} {v : Value} (h : Nob w v) : Calls Try.prog 18 #[v] w fun e w' => e = .returned (.int .i64 0) ∧ w' = w := by
  have H := Lib.hid h
  clear h
  go_enter Try.func18, Try.ntmps18
  go_wp2_with fail
  refine (is_no H.out).mono ?_
  rintro e w1 ⟨rfl, rfl⟩
  go_wp2_with fail
  go_ret
  exact ⟨rfl, rfl⟩
theorem next_no {w : World} {v : Value} (h : Nob w v) : Calls Try.prog 26 #[v] w fun e w' => e = .returned (.tuple #[.int .i64 0, .bool false]) ∧ w' = w := by
  have H := Lib.hid h
  clear h
  go_enter Try.func26, Try.ntmps26
  go_wp2_with fail
  refine (is_no H.out).mono ?_
  rintro e w1 ⟨rfl, rfl⟩
  go_wp2_with fail
  go_ret2
  exact ⟨rfl, rfl⟩
theorem peer_no {w : World} {v : Value} (h : Nob w v) : Calls Try.prog 27 #[v] w fun e w' => e = .returned (.tuple #[.int .u32 0, .bool false]) ∧ w' = w := by
  have H := Lib.hid h
  clear h
  go_enter Try.func27, Try.ntmps27
  go_wp2_with fail
  refine (is_no H.out).mono ?_
  rintro e w1 ⟨rfl, rfl⟩
  go_wp2_with fail
  go_ret2
  exact ⟨rfl, rfl⟩
theorem in_no {w : World} {v : Value} (h : Nob w v) : Calls Try.prog 28 #[v] w fun e w' => e = .returned (.int .u64 0) ∧ w' = w := by
  have H := Lib.hid h
  clear h
  go_enter Try.func28, Try.ntmps28
  go_wp2_with fail
  refine (is_no H.out).mono ?_
  rintro e w1 ⟨rfl, rfl⟩
  go_wp2_with fail
  go_ret
  exact ⟨rfl, rfl⟩
theorem idle_no {w : World} {v : Value} (h : Nob w v) : Calls Try.prog 29 #[v] w fun e w' => e = .returned (.bool false) ∧ w' = w := by
  have H := Lib.hid h
  clear h
  go_enter Try.func29, Try.ntmps29
  go_wp2_with fail
  refine (is_no H.out).mono ?_
  rintro e w1 ⟨rfl, rfl⟩
  go_wp2_with fail
  go_ret
  exact ⟨rfl, rfl⟩
theorem send_no {w : World} {v : Value} (h : Nob w v) (now : Int) (l : Value) : Calls Try.prog 14 #[v, .int .i64 now, l] w fun e w' => e = .returned (.tuple #[.slice none 0 0, .int .i64 4]) ∧ w' = w := by
  have H := Lib.hid h
  clear h
  go_enter Try.func14, Try.ntmps14
  go_wp2_with fail
  refine (ask_no H.out now).mono ?_
  rintro e w1 ⟨rfl, rfl⟩
  go_wp2_with fail
  go_ret2
  exact ⟨rfl, rfl⟩
theorem tick_no {w : World} {v : Value} (h : Nob w v) (now : Int) : Calls Try.prog 16 #[v, .int .i64 now] w fun e w' => e = .returned (.tuple #[.slice none 0 0, .int .i64 4]) ∧ w' = w := by
  have H := Lib.hid h
  clear h
  go_enter Try.func16, Try.ntmps16
  go_wp2_with fail
  refine (ask_no H.out now).mono ?_
  rintro e w1 ⟨rfl, rfl⟩
  go_wp2_with fail
  go_ret2
  exact ⟨rfl, rfl⟩
theorem Nob.alloc {w : World} {v : Value} (h : Nob w v) (o : Obj) : Nob (w.alloc o) v := by
  rcases h with rfl | ⟨g, rfl, h⟩
  · exact .inl rfl
  · exact .inr ⟨g, rfl, Lib.cell?_alloc_some o h⟩
theorem take_no {w : World} {v : Value} (h : Nob w v) (now : Int) (cs : Array Value) : Calls Try.prog 15 #[v, .int .i64 now, .agg cs] w fun e w' => e = .returned (.tuple #[.slice none 0 0, .slice none 0 0, .bool false, .int .i64 4]) ∧ w' = w.alloc (.cells cs 27) := by
  have H := Lib.hid (h.alloc (.cells cs 27))
  clear h
  go_enter Try.func15, Try.ntmps15
  go_wp2_with fail
  refine (ask_no H.out now).mono ?_
  rintro e w1 ⟨rfl, rfl⟩
  go_wp2_with fail
  refine bodyPost_ret (v := .tuple #[.slice none 0 0, .slice none 0 0, .bool false, .int .i64 4]) ?_ rfl ⟨rfl, rfl⟩
  simp [results, Try.results15, go_sem]
section
variable {M B : Nat → Prop} {g m : Nat} {σ : Se} {w : World} {n : Int}
theorem waiting_ses (h : Ses M B g m σ w) : Calls Try.prog 18 #[.pointer (some ⟨g, 0, none⟩)] w fun e w' => e = .returned (.int .i64 σ.L.length) ∧ ∃ d, w' = w.drewN d := by
  obtain ⟨A, c, hb, _⟩ := h.open_
  have d0 := blk_cell hb 0 (.slice A σ.L.length c) rfl
  have H := Lib.hid h
  clear h hb
  obtain ⟨z, hz⟩ : ∃ z, z = σ.L.length := ⟨_, rfl⟩
  rw [← hz] at d0 ⊢
  clear hz
  go_enter Try.func18, Try.ntmps18
  go_wp2_with fail
  refine (is_ses H.out).mono ?_
  rintro e w1 ⟨rfl, rfl⟩
  go_wp2_with fail
  go_ret
  exact ⟨rfl, 0, rfl⟩
theorem in_ses (h : Ses M B g m σ w) : Calls Try.prog 28 #[.pointer (some ⟨g, 0, none⟩)] w fun e w' => e = .returned (.int .u64 σ.inn) ∧ ∃ d, w' = w.drewN d := by
  obtain ⟨A, c, hb, _⟩ := h.open_
  have d8 := blk_cell hb 8 (.int .u64 σ.inn) rfl
  have H := Lib.hid h
  clear h hb
  obtain ⟨z, hz⟩ : ∃ z, z = σ.inn := ⟨_, rfl⟩
  rw [← hz] at d8 ⊢
  clear hz
  go_enter Try.func28, Try.ntmps28
  go_wp2_with fail
  refine (is_ses H.out).mono ?_
  rintro e w1 ⟨rfl, rfl⟩
  go_wp2_with fail
  go_ret
  exact ⟨rfl, 0, rfl⟩
theorem next_ses (h : Ses M B g m σ w) : Calls Try.prog 26 #[.pointer (some ⟨g, 0, none⟩)] w fun e w' => e = .returned (.tuple #[.int .i64 σ.tm, .bool σ.set]) ∧ ∃ d, w' = w.drewN d := by
  obtain ⟨A, c, hb, _⟩ := h.open_
  have d12 := blk_cell hb 12 (.int .i64 σ.tm) rfl
  have d11 := blk_cell hb 11 (.bool σ.set) rfl
  have H := Lib.hid h
  clear h hb
  obtain ⟨z, hz⟩ : ∃ z, z = σ.tm := ⟨_, rfl⟩
  obtain ⟨y, hy⟩ : ∃ y, y = σ.set := ⟨_, rfl⟩
  rw [← hz] at d12 ⊢
  rw [← hy] at d11 ⊢
  clear hz hy
  go_enter Try.func26, Try.ntmps26
  go_wp2_with fail
  refine (is_ses H.out).mono ?_
  rintro e w1 ⟨rfl, rfl⟩
  go_wp2_with fail
  go_quiet (fail)
  go_wp2_with fail
  go_ret2
  exact ⟨rfl, _, rfl⟩
theorem peer_ses (h : Ses M B g m σ w) : Calls Try.prog 27 #[.pointer (some ⟨g, 0, none⟩)] w fun e w' => e = .returned (.tuple #[.int .u32 σ.peer, .bool σ.up]) ∧ ∃ d, w' = w.drewN d := by
  obtain ⟨A, c, hb, _⟩ := h.open_
  have d6 := blk_cell hb 6 (.int .u32 σ.peer) rfl
  have d7 := blk_cell hb 7 (.bool σ.up) rfl
  have H := Lib.hid h
  clear h hb
  obtain ⟨z, hz⟩ : ∃ z, z = σ.peer := ⟨_, rfl⟩
  obtain ⟨y, hy⟩ : ∃ y, y = σ.up := ⟨_, rfl⟩
  rw [← hz] at d6 ⊢
  rw [← hy] at d7 ⊢
  clear hz hy
  go_enter Try.func27, Try.ntmps27
  go_wp2_with fail
  refine (is_ses H.out).mono ?_
  rintro e w1 ⟨rfl, rfl⟩
  go_wp2_with fail
  go_quiet (fail)
  go_wp2_with fail
  go_ret2
  exact ⟨rfl, _, rfl⟩
theorem fly_ses (h : Ses M B g m σ w) (ok : Ok n σ) : Calls Try.prog 17 #[.pointer (some ⟨g, 0, none⟩)] w fun e w' => e = .returned (.int .i64 σ.fl) ∧ ∃ d, w' = w.drewN d := by
  obtain ⟨A, c, hb, _⟩ := h.open_
  have d0 := blk_cell hb 0 (.slice A σ.L.length c) rfl
  have d4 := blk_cell hb 4 (.int .i64 σ.win) rfl
  have d7 := blk_cell hb 7 (.bool σ.up) rfl
  have H := Lib.hid h
  have h1 := ok.win0
  have h2 := ok.win1
  cases hup : σ.up with
  | false =>
    rw [hup] at d7
    have HF : Hid ((σ.fl : Int) = 0) := Lib.hid (by simp [Se.fl, hup])
    clear h hb hup ok
    go_enter Try.func17, Try.ntmps17
    go_wp2_with fail
    refine (is_ses H.out).mono ?_
    rintro e w1 ⟨rfl, rfl⟩
    go_wp2_with fail
    go_ret
    exact ⟨by rw [HF.out]; rfl, 0, rfl⟩
  | true =>
    rw [hup] at d7
    have HF : Hid (mn (σ.L.length : Int) σ.win = (σ.fl : Int)) := by
      refine Lib.hid ?_
      have hfl : σ.fl = min σ.L.length σ.win.toNat := by simp [Se.fl, hup]
      rw [hfl]
      unfold mn
      split <;> omega
    obtain ⟨z, hz⟩ : ∃ z, z = σ.L.length := ⟨_, rfl⟩
    obtain ⟨y, hy⟩ : ∃ y, y = σ.win := ⟨_, rfl⟩
    obtain ⟨x, hx⟩ : ∃ x, x = σ.fl := ⟨_, rfl⟩
    rw [← hz] at d0 HF
    rw [← hy] at d4 HF
    rw [← hx] at HF ⊢
    clear h hb hup ok hz hy hx h1 h2
    go_enter Try.func17, Try.ntmps17
    go_wp2_with fail
    refine (is_ses H.out).mono ?_
    rintro e w1 ⟨rfl, rfl⟩
    go_wp2_with fail
    go_quiet (first | (go_at_call 49; refine (flying_ses g A z c y _ ?_).mono ?_; exact d0; rintro e w' ⟨rfl, rfl⟩; exact ⟨rfl, _, rfl⟩))
    rw [HF.out]
    go_wp2_with fail
    go_ret
    exact ⟨rfl, _, rfl⟩
theorem idle_ses (h : Ses M B g m σ w) : Calls Try.prog 29 #[.pointer (some ⟨g, 0, none⟩)] w fun e w' => e = .returned (.bool (σ.up && (σ.L.length : Int) == 0)) ∧ ∃ d, w' = w.drewN d := by
  obtain ⟨A, c, hb, _⟩ := h.open_
  have d0 := blk_cell hb 0 (.slice A σ.L.length c) rfl
  have d7 := blk_cell hb 7 (.bool σ.up) rfl
  have H := Lib.hid h
  obtain ⟨z, hz⟩ : ∃ z, z = σ.L.length := ⟨_, rfl⟩
  rw [← hz] at d0 ⊢
  cases hup : σ.up with
  | false =>
    rw [hup] at d7
    clear h hb hup hz
    go_enter Try.func29, Try.ntmps29
    go_wp2_with fail
    refine (is_ses H.out).mono ?_
    rintro e w1 ⟨rfl, rfl⟩
    go_wp2_with fail
    go_ret
    exact ⟨rfl, 0, rfl⟩
  | true =>
    rw [hup] at d7
    obtain ⟨q, hq⟩ : ∃ q, ((z : Int) == 0) = q := ⟨_, rfl⟩
    rw [hq]
    have HQ := Lib.hid hq
    clear h hb hup hz hq
    go_enter Try.func29, Try.ntmps29
    go_wp2_with fail
    refine (is_ses H.out).mono ?_
    rintro e w1 ⟨rfl, rfl⟩
    go_wp2_with fail
    go_ret
    refine ⟨?_, 0, rfl⟩
    rw [← HQ.out]
    rfl
end
end Go.Proofs.Ytlnhjkbhhdcdeaa
namespace Go.Proofs.Ytlnhjkbhhdcdeaa
open Go Go.RowKit Go.Proofs.YtlnhjkbhhdcdeaaW.PrintWords Go.Proofs.YtlnhjkbhhdcdeaaW.PrintLast Go.Proofs.YtlnhjkbhhdcdeaaW.PrintMore
open Go.Proofs.Ytlnhjkbhhdcdeaa.PSessionRuns (S27 k27 z27 S116 k116 z116)
set_option linter.unusedVariables false
set_option maxRecDepth 100000
set_option maxHeartbeats 4000000
attribute [local go_sem] max2_mx min2_mn max_two min_two
/-- append in a drawn region, by an equation on its run. -/
theorem step_append_run {P : Program} {ops : Array Oper} {o : Oper} {a : Act} {w : World} {K : Act → World → Prop} {Q : Exit → Act → World → Prop} {E : Prop} (hg : o.guard = none) (s x : Operand) (t : TypeId)
    (hop : o.op = Op.call { callee := Callee.builtin Builtin.append, args := #[s, x], argTypes := #[t, t] }) (v vx : Value) (hs : a.eval s = v) (hx : a.eval x = vx) (v' : Value) (w' : World) (hrun : (Builtin.append_ #[t, t] o.type #[v, vx]).run P w = .ok v' w')
    (hK : K (a.put o.dst v') w') : if Region.wanted o (yielded ops a.tmps) = true then Oper.wp P o a w K Q else E := by
  have hw : Region.wanted o (yielded ops a.tmps) = true := by simp [Region.wanted, hg]
  rw [if_pos hw]
  unfold Oper.wp
  simp [execOp, hop, resolve, invoke, builtin, hs, hx, hrun, Result.andThen]
  exact hK
/-- One more message in the queue. -/
theorem Ses.push {M B B2 : Nat → Prop} {g m : Nat} {σ : Se} {w : World} {v : Value} (h : Ses M B g m σ w) (hb : w.heap[g]? = some (.cells (σ.cells v m) 70 (0, 0))) (hl : σ.L.length ≤ 70000) {A6 : Option Addr} {c6 : Nat} {x : List Int} (hB : ∀ k, B k → B2 k) (hB2 : ∀ k, B2 k → k < w.heap.size ∧ ¬ M k) (hV : Kd.V KB 5 w 0 B2 (.slice A6 x.length c6) x) :
    ∃ v' w3 M', (∃ A' c', v' = .slice A' (σ.L ++ [x]).length c') ∧ (Builtin.append_ #[45, 45] 45 #[v, .slice (some ⟨w.heap.size, 0, none⟩) 1 1]).run Try.prog (w.alloc (.cells #[.slice A6 x.length c6] 25)) = .ok v' w3 ∧ w3.heap[g]? = some (.cells (σ.cells v m) 70 (0, 0)) ∧
      Ses M' B2 g m { σ with L := σ.L ++ [x] } (w3.setCell ⟨g, 0, none⟩ v') ∧ Chg M w (w3.setCell ⟨g, 0, none⟩ v') ∧ (∀ k, M k → M' k) ∧ (∀ k, M' k → M k ∨ w.heap.size ≤ k) := by
  obtain ⟨hM, hMm, hMl, hBl, v0, hb0, hQ, hE⟩ := h
  have hv : v0 = v := by
    rw [hb] at hb0
    injection hb0 with hb0
    injection hb0 with h1 _
    have := congrArg (fun a : Array Value => a[0]?) h1
    simpa [Se.cells] using this.symm
  subst hv
  have hgm : g ≠ m := by
    rintro rfl
    obtain ⟨_, ⟨_, _, h, _⟩, _⟩ := hE
    rw [hb] at h
    cases h
  have hz : (w.alloc (.cells #[.slice A6 x.length c6] 25)).heap.size = w.heap.size + 1 := World.size_alloc _ _
  have hold : ∀ k, k < w.heap.size → (w.alloc (.cells #[.slice A6 x.length c6] 25)).heap[k]? = w.heap[k]? := fun k hk => heap_alloc_old w _ hk
  have hQ1 := hQ.step (w' := w.alloc (.cells #[.slice A6 x.length c6] 25)) (fun k hk hl => .inl (hold k hl))
  have hu : (w.alloc (.cells #[.slice A6 x.length c6] 25)).cell? ⟨w.heap.size, 0, none⟩ = some (.slice A6 x.length c6) := (cell_of_row _ w.heap.size 0 _ 25 (0, 0) (heap_alloc_new w _)).trans rfl
  obtain ⟨v', w3, M', hrun, hQ3, hc, hMM, hM'⟩ := hQ1.append (fun k hk => by rw [hz]; exact Nat.lt_succ_of_lt (hMl k hk).1) hl hu (fun hk => Nat.lt_irrefl _ (hMl _ hk).1) hB (fun k hk => ⟨by rw [hz]; exact Nat.lt_succ_of_lt (hB2 k hk).1, (hB2 k hk).2⟩) (Kd.V_alloc hV _)
  have hkeep : ∀ k, k < w.heap.size → (∀ cur, w.heap[k]? ≠ some (.cells cur 25 (0, 0))) → w3.heap[k]? = w.heap[k]? := fun k hk hn =>
    (hc.block k (by rw [hz]; exact Nat.lt_succ_of_lt hk) (fun h => by
      obtain ⟨_, cur, h⟩ := h
      rw [hold k hk] at h
      exact hn cur h)).trans (hold k hk)
  have hkg : w3.heap[g]? = w.heap[g]? := hkeep g (hMl g hM).1 (fun cur h => by
    rw [hb] at h
    injection h with h
    injection h with h8 h9
    cases h9)
  have hkm : w3.heap[m]? = w.heap[m]? := hkeep m (hMl m hMm).1 (fun cur h => by
    obtain ⟨_, ⟨_, _, h', _⟩, _⟩ := hE
    rw [h'] at h
    cases h)
  have hkB : ∀ k, k < w.heap.size → ¬ M k → w3.heap[k]? = w.heap[k]? := fun k hk hn => (hc.block k (by rw [hz]; exact Nat.lt_succ_of_lt hk) (fun h => hn h.1)).trans (hold k hk)
  have hs3 : w.heap.size + 1 ≤ w3.heap.size := by rw [← hz]; exact hc.size
  have hszS : (w3.setCell ⟨g, 0, none⟩ v').heap.size = w3.heap.size := by simp [World.setCell]
  have hMB : ∀ k, M' k → ¬ B2 k := fun k hk hb2 => (hM' k hk).2.elim (fun h => (hB2 k hb2).2 h) (fun h => by have := (hB2 k hb2).1; rw [hz] at h; omega)
  have hchg : Chg M w w3 := ⟨hc.os, hc.tape, hc.output, by omega, fun k hk hn => hkB k hk hn⟩
  refine ⟨v', w3, M', (by obtain ⟨A', c', h, _⟩ := hQ3.slice; exact ⟨A', c', h⟩), hrun, hkg.trans hb, ⟨hMM g hM, hMM m hMm, fun k hk => ⟨by rw [hszS]; exact (hM' k hk).1, hMB k hk⟩, fun k hk => by rw [hszS]; have := (hB2 k hk).1; omega, v', ?_, ?_, ?_⟩, hchg.set _ _ (.inl hM), hMM, fun k hk => (hM' k hk).2.imp id (fun h => by rw [hz] at h; omega)⟩
  · rw [blk_set (hkg.trans hb) 0 v']
    rfl
  · refine hQ3.step (fun k hk hl => ?_)
    by_cases hkg2 : k = g
    · subst hkg2
      refine .inr (fun cur => ⟨?_, fun h => hMB _ (hMM _ hM) h⟩)
      rw [hkg, hb]
      intro h
      injection h with h
      injection h with h8 h9
      cases h9
    · exact .inl (Below.heap_setCell _ _ _ _ hkg2)
  · refine Em.mono (hE.step ((Below.heap_setCell _ _ _ _ (fun h => hgm h.symm)).trans hkm) (fun k hk hl => (Below.heap_setCell _ _ _ _ (show k ≠ g from fun h => (hMl g hM).2 (h ▸ hk))).trans (hkB k hl (fun h => (hMl k h).2 hk)))) hB
/-- Is this message too long? -/
def lg (x : List Int) : Bool := decide (65536 < (x.length : Int))
theorem long_w (A : Option Addr) (n c : Nat) (w : World) : Calls Try.prog 41 #[.slice A n c] w fun e w' => e = .returned (.bool (decide (65536 < (n : Int)))) ∧ w' = w := by
  obtain ⟨b, hb⟩ : ∃ b, decide (65536 < (n : Int)) = b := ⟨_, rfl⟩
  rw [hb]
  go_enter Try.func41, Try.ntmps41
  go_wp2_with fail
  go_ret
  exact ⟨rfl, rfl⟩
/-- Which place IndexFunc tells. -/
def IR (xs : List (List Int)) (w : World) (e : Ending) (w' : World) : Prop := ∃ r : Int, e = .returned (.int .i64 r) ∧ w' = w ∧ (xs.any lg = true ∧ 0 ≤ r ∨ xs.any lg = false ∧ r = -1)
theorem any_take_succ (xs : List (List Int)) (i : Nat) (h : i < xs.length) : (xs.take (i + 1)).any lg = ((xs.take i).any lg || lg (xs.getD i [])) := by
  rw [List.take_succ_eq_append_getElem h, List.any_append, List.getD_eq_getElem?_getD, List.getElem?_eq_getElem h]
  simp
theorem idxl (xs : List (List Int)) (okp : Nat → Prop) (A : Option Addr) (c : Nat) (w : World) (hV : Kd.V (Kd.slice 5 KB) 45 w 0 okp (.slice A xs.length c) xs) (hl : xs.length ≤ 140737488351232) :
    Calls Try.prog 67 #[.slice A xs.length c, .func (.func 41) #[] #[]] w (IR xs w) := by
  have HV := Lib.hid hV
  obtain ⟨n, hn⟩ : ∃ n, n = xs.length := ⟨_, rfl⟩
  rw [← hn]
  have HN := Lib.hid hn
  have hl' : n ≤ 140737488351232 := by omega
  clear hV hn hl
  go_enter Try.func67, Try.ntmps67
  go_wp2_with fail
  go_loop [8] (fun v => ∃ i : Nat, v = .int .i64 i ∧ i ≤ n ∧ Hid ((xs.take i).any lg = false)) (fun v => n - (intOf v).toNat)
  case atStart => exact ⟨0, rfl, Nat.zero_le _, Lib.hid (by simp)⟩
  case round =>
    obtain ⟨i, rfl, hi, hf⟩ := hrel
    rcases Nat.lt_or_ge i n with hlt | hge
    · obtain ⟨ad, A5, c5, x, rfl, hc, hV5, HX⟩ := V_row_at HV.out i (by rw [← HN.out]; exact hlt)
      have hi64 : (i : Int) < (n : Int) := by omega
      have hin : (n : Int) ≤ 140737488351232 := by omega
      have ht := any_take_succ xs i (by rw [← HN.out]; exact hlt)
      rw [hf.out, ← HX.out, Bool.false_or] at ht
      have HT := Lib.hid ht
      clear ht hV5
      go_wp2_with fail
      refine (long_w A5 x.length c5 _).mono ?_
      rintro e w1 ⟨rfl, rfl⟩
      cases hq : lg x with
      | true =>
        have hq2 : decide (65536 < (x.length : Int)) = true := hq
        have HQ := Lib.hid hq
        rw [hq2]
        clear hq hq2
        go_wp2_with fail
        go_ret
        refine ⟨i, rfl, rfl, .inl ⟨?_, by omega⟩⟩
        have h1 : xs = xs.take (i + 1) ++ xs.drop (i + 1) := (List.take_append_drop _ _).symm
        rw [h1, List.any_append, HT.out, HQ.out]
        rfl
      | false =>
        have hq2 : decide (65536 < (x.length : Int)) = false := hq
        have HQ := Lib.hid (HT.out.trans hq)
        rw [hq2]
        clear hq hq2
        go_wp2_with fail
        go_round
        case rel =>
          refine ⟨i + 1, ?_, by omega, HQ⟩
          go_num
        case measure => simp [intOf]; omega
    · have hin : i = n := by omega
      have hi64 : decide ((i : Int) < (n : Int)) = false := by simp; omega
      have HF : Hid (xs.any lg = false) := by
        have := hf.out
        rw [List.take_of_length_le (by rw [← HN.out]; omega)] at this
        exact Lib.hid this
      clear hf hin
      go_wp2_with fail
      go_ret
      exact ⟨-1, rfl, rfl, .inr ⟨HF.out, rfl⟩⟩
theorem conl (xs : List (List Int)) (okp : Nat → Prop) (A : Option Addr) (c : Nat) (w : World) (hV : Kd.V (Kd.slice 5 KB) 45 w 0 okp (.slice A xs.length c) xs) (hl : xs.length ≤ 140737488351232) :
    Calls Try.prog 40 #[.slice A xs.length c, .func (.func 41) #[] #[]] w fun e w' => e = .returned (.bool (xs.any lg)) ∧ w' = w := by
  have HI := Lib.hid (idxl xs okp A c w hV hl)
  obtain ⟨n, hn⟩ : ∃ n, n = xs.length := ⟨_, rfl⟩
  rw [← hn] at HI ⊢
  clear hV hl hn
  go_enter Try.func40, Try.ntmps40
  go_wp2_with fail
  refine HI.out.mono ?_
  rintro e w1 ⟨r, rfl, rfl, hr⟩
  rcases hr with ⟨h1, h2⟩ | ⟨h1, rfl⟩
  · have H1 := Lib.hid h1
    clear h1
    go_wp2_with fail
    go_ret
    exact ⟨by rw [H1.out]; rfl, rfl⟩
  · have H1 := Lib.hid h1
    clear h1
    go_wp2_with fail
    go_ret
    exact ⟨by rw [H1.out]; rfl, rfl⟩
end Go.Proofs.Ytlnhjkbhhdcdeaa
namespace Go.Proofs.Ytlnhjkbhhdcdeaa
open Go Go.RowKit Go.Proofs.YtlnhjkbhhdcdeaaW.PrintWords Go.Proofs.YtlnhjkbhhdcdeaaW.PrintLast Go.Proofs.YtlnhjkbhhdcdeaaW.PrintMore
open Go.Proofs.Ytlnhjkbhhdcdeaa.PSessionRuns (S27 k27 z27 S116 k116 z116)
set_option linter.unusedVariables false
set_option maxRecDepth 100000
set_option maxHeartbeats 4000000
attribute [local go_sem] max2_mx min2_mn max_two min_two
/-- What a call may do to the sets. -/
structure Gr (w w' : World) (M B M' B' : Nat → Prop) : Prop where
  mm : ∀ k, M k → M' k
  mn : ∀ k, M' k → M k ∨ w.heap.size ≤ k
  bb : ∀ k, B k → B' k
  bn : ∀ k, B' k → B k ∨ w.heap.size ≤ k
  chg : Chg M w w'
theorem Gr.refl (w : World) (M B : Nat → Prop) : Gr w w M B M B := ⟨fun _ h => h, fun _ h => .inl h, fun _ h => h, fun _ h => .inl h, Chg.refl _ _⟩
theorem Gr.trans {a b c : World} {M B M' B' M'' B'' : Nat → Prop} (h : Gr a b M B M' B') (k : Gr b c M' B' M'' B'') : Gr a c M B M'' B'' :=
  ⟨fun i hi => k.mm i (h.mm i hi), fun i hi => (k.mn i hi).elim (fun h1 => h.mn i h1) (fun h1 => .inr (Nat.le_trans h.chg.size h1)), fun i hi => k.bb i (h.bb i hi), fun i hi => (k.bn i hi).elim (fun h1 => h.bn i h1) (fun h1 => .inr (Nat.le_trans h.chg.size h1)), h.chg.trans k.chg h.mn⟩
theorem Gr.of_chg {w w' : World} {M B : Nat → Prop} (h : Chg M w w') : Gr w w' M B M B := ⟨fun _ h => h, fun _ h => .inl h, fun _ h => h, fun _ h => .inl h, h⟩
/-- What Send does. -/
def Se.sendF (σ : Se) (now : Int) (xs : List (List Int)) : Int × List S27 × Se :=
  if σ.ask now = 0 then
    if xs.any lg = true then (2, [], σ)
    else if 65536 < σ.L.length + xs.length then (3, [], σ)
    else (0, ({ σ with now := now, L := σ.L ++ xs } : Se).freshL, ({ σ with now := now, L := σ.L ++ xs } : Se).fresh)
  else (202, [], σ)
/-- What a call that answers with frames and an error leaves. -/
def FrP (w : World) (M B : Nat → Prop) (g m : Nat) (r : Int × List S27 × Se) (e : Ending) (w' : World) : Prop :=
  ∃ (M' B' : Nat → Prop) (A : Option Addr) (c : Nat), e = .returned (.tuple #[.slice A r.2.1.length c, .int .i64 r.1]) ∧ Ses M' B' g m r.2.2 w' ∧ Gr w w' M B M' B' ∧ Kd.V k27 27 w' 0 (fun k => w.heap.size ≤ k ∧ k < w'.heap.size ∧ ¬ M' k) (.slice A r.2.1.length c) r.2.1
theorem FrP.no {w : World} {M B : Nat → Prop} {g m : Nat} {σ : Se} (h : Ses M B g m σ w) (x : Int) : FrP w M B g m (x, [], σ) (.returned (.tuple #[.slice none 0 0, .int .i64 x])) w :=
  ⟨M, B, none, 0, rfl, h, Gr.refl _ _ _, Kd.V_nil _ _ _ _ _⟩
section
variable {M B : Nat → Prop} {g m : Nat} {σ : Se} {w : World} {n : Int}
theorem ask_two (σ : Se) (now : Int) (h : ¬ σ.ask now = 0) : σ.ask now = 202 := by
  unfold Se.ask at h ⊢
  split at h
  · exact absurd rfl h
  · rename_i h2
    rw [if_neg h2]
theorem ask_ok {σ : Se} {now : Int} (h : σ.ask now = 0) : 0 ≤ now ∧ now ≤ 1099511627776 ∧ σ.now ≤ now := by
  unfold Se.ask at h
  split at h
  · rename_i h2
    have h3 := h2.1
    unfold tok at h3
    simp at h3
    exact ⟨h3.1, h3.2, h2.2⟩
  · cases h
theorem any_lg {xs : List (List Int)} (h : ¬ xs.any lg = true) : ∀ x ∈ xs, x.length ≤ 65536 := by
  intro x hx
  have : lg x = false := by
    cases hq : lg x with
    | false => rfl
    | true => exact absurd (List.any_eq_true.2 ⟨x, hx, hq⟩) h
  unfold lg at this
  simp at this
  omega
theorem Ok.send (ok : Ok n σ) {now : Int} {xs : List (List Int)} (h1 : σ.ask now = 0) (h2 : ¬ xs.any lg = true) (h3 : ¬ 65536 < σ.L.length + xs.length) (hn : n + 65536 ≤ 1099511627776) : Ok (n + 65536) { σ with now := now, L := σ.L ++ xs } := by
  obtain ⟨a1, a2, a3⟩ := ask_ok h1
  have b1 := ok.base1
  have b2 := ok.inn1
  have b3 := ok.sent2
  refine { ok with now0 := a1, now1 := a2, sent2 := ?_, len := ?_, base1 := ?_, inn1 := ?_, big := hn, body := ?_ }
  · show σ.sent ≤ _
    rw [List.length_append]
    omega
  · show (σ.L ++ xs).length ≤ _
    rw [List.length_append]
    omega
  · show σ.base + ((σ.L ++ xs).length : Int) ≤ n + 65536
    rw [List.length_append]
    omega
  · show σ.inn + (σ.E.length : Int) ≤ n + 65536
    omega
  · intro b hb
    rcases List.mem_append.1 hb with h | h
    · exact ok.body b h
    · exact any_lg h2 b h
/-- What stands ahead of a round of Send. -/
def SQ (w : World) (M B : Nat → Prop) (g m : Nat) (σ : Se) (xs : List (List Int)) (i : Nat) (wr : World) : Prop :=
  ∃ M' B', Ses M' B' g m { σ with L := σ.L ++ xs.take i } wr ∧ Gr w wr M B M' B'
theorem send_ses (h : Ses M B g m σ w) (ok : Ok n σ) (hn : n + 65536 ≤ 1099511627776) (now : Int) (xs : List (List Int)) (okp : Nat → Prop) (A : Option Addr) (c : Nat) (hV : Kd.V (Kd.slice 5 KB) 45 w 0 okp (.slice A xs.length c) xs) (hokp : ∀ k, okp k → ¬ M k) (hl : xs.length ≤ 140737488351232) :
    Calls Try.prog 14 #[.pointer (some ⟨g, 0, none⟩), .int .i64 now, .slice A xs.length c] w (FrP w M B g m (σ.sendF now xs)) := by
  have HC := Lib.hid (conl xs okp A c w hV hl)
  have HV := Lib.hid hV
  have H := Lib.hid h
  by_cases h1 : σ.ask now = 0
  · by_cases h2 : xs.any lg = true
    · have hF : σ.sendF now xs = (2, [], σ) := by unfold Se.sendF; rw [if_pos h1, if_pos h2]
      rw [hF]
      have HA := Lib.hid h1
      have HB := Lib.hid h2
      obtain ⟨k, hk⟩ : ∃ k, k = xs.length := ⟨_, rfl⟩
      rw [← hk] at HC ⊢
      clear h ok hV h1 h2 hF hk hl
      go_enter Try.func14, Try.ntmps14
      go_wp2_with fail
      refine (ask_ses H.out now).mono ?_
      rintro e w1 ⟨rfl, rfl⟩
      rw [HA.out]
      go_wp2_with fail
      refine HC.out.mono ?_
      rintro e w1 ⟨rfl, rfl⟩
      rw [HB.out]
      go_wp2_with fail
      go_ret2
      exact FrP.no H.out 2
    · obtain ⟨A0, c0, hb, _⟩ := h.open_
      have d0 := blk_cell hb 0 (.slice A0 σ.L.length c0) rfl
      have d10 := blk_cell hb 10 (.int .i64 σ.now) rfl
      have f10 := blk_free hb 10
      have hL := ok.len
      by_cases h3 : 65536 < σ.L.length + xs.length
      · have hF : σ.sendF now xs = (3, [], σ) := by unfold Se.sendF; rw [if_pos h1, if_neg h2, if_pos h3]
        rw [hF]
        have HA := Lib.hid h1
        have HB := Lib.hid ((by simpa using h2 : xs.any lg = false))
        obtain ⟨k, hk⟩ : ∃ k, k = xs.length := ⟨_, rfl⟩
        obtain ⟨z, hz⟩ : ∃ z, z = σ.L.length := ⟨_, rfl⟩
        rw [← hk] at HC h3 hl ⊢
        rw [← hz] at h3 hL d0
        have h3' : (65536 : Int) < (z : Int) + (k : Int) := by omega
        clear h ok hV h1 h2 hF hk hb h3 hz d10 f10
        go_enter Try.func14, Try.ntmps14
        go_wp2_with fail
        refine (ask_ses H.out now).mono ?_
        rintro e w1 ⟨rfl, rfl⟩
        rw [HA.out]
        go_wp2_with fail
        refine HC.out.mono ?_
        rintro e w1 ⟨rfl, rfl⟩
        rw [HB.out]
        go_wp2_with fail
        go_ret2
        exact FrP.no H.out 3
      · have hF : σ.sendF now xs = (0, ({ σ with now := now, L := σ.L ++ xs } : Se).freshL, ({ σ with now := now, L := σ.L ++ xs } : Se).fresh) := by unfold Se.sendF; rw [if_pos h1, if_neg h2, if_neg h3]
        rw [hF]
        have OK2 := Lib.hid (ok.send h1 h2 h3 hn)
        have HLG := Lib.hid (any_lg h2)
        have HA := Lib.hid h1
        have HB := Lib.hid ((by simpa using h2 : xs.any lg = false))
        obtain ⟨k, hk⟩ : ∃ k, k = xs.length := ⟨_, rfl⟩
        obtain ⟨z, hz⟩ : ∃ z, z = σ.L.length := ⟨_, rfl⟩
        have HK := Lib.hid hk
        have HZ := Lib.hid hz
        rw [← hk] at HC h3 hl ⊢
        rw [← hz] at h3 hL d0
        have h3' : (z : Int) + (k : Int) ≤ 65536 := by omega
        obtain ⟨q, hq⟩ : ∃ q, q = σ.now := ⟨_, rfl⟩
        rw [← hq] at d10
        obtain ⟨σ1, hσ1⟩ : ∃ σ1 : Se, σ1 = { σ with now := now } := ⟨_, rfl⟩
        obtain ⟨hs1, hc1⟩ := h.cell 10 (.int .i64 now) σ1 (fun v => by rw [hσ1]; rfl) (by rw [hσ1]) (by rw [hσ1])
        have HS1 := Lib.hid hs1
        have HC1 := Lib.hid hc1
        have HSE := Lib.hid hσ1
        have HOKP := Lib.hid hokp
        clear h ok hV h1 h2 hF hk hb h3 hz hq hs1 hc1 hσ1 hokp hn
        go_enter Try.func14, Try.ntmps14
        go_wp2_with fail
        refine (ask_ses H.out now).mono ?_
        rintro e w1 ⟨rfl, rfl⟩
        rw [HA.out]
        go_wp2_with fail
        refine HC.out.mono ?_
        rintro e w1 ⟨rfl, rfl⟩
        rw [HB.out]
        go_upto_region 9 with fail
        have HV1 := Lib.hid (Kd.V_step HV.out (fun i hi hil => HC1.out.block i hil (HOKP.out i hi)))
        clear HV HC HA HB d0 d10 f10
        generalize w1.setCell ⟨g, 10, none⟩ (.int .i64 now) = W1 at *
        have hst : SQ W1 M B g m σ1 xs 0 W1 := ⟨M, B, by simpa using HS1.out, Gr.refl _ _ _⟩
        have HST := Lib.hid hst
        clear hst
        go_wp2_with fail
        go_loopw [35] (fun v wr => ∃ i : Nat, v = .int .i64 i ∧ i ≤ k ∧ Hid (SQ W1 M B g m σ1 xs i wr)) (fun v _ => k - (intOf v).toNat)
        case atStart => exact ⟨0, rfl, Nat.zero_le _, HST⟩
        case round =>
          obtain ⟨i, rfl, hi, hsq⟩ := hrel
          rcases Nat.lt_or_ge i k with hlt | hge
          · obtain ⟨M2, B2, hs, hg⟩ := hsq.out
            have hVr := Kd.V_step HV1.out (fun q hq hql => hg.chg.block q hql (HOKP.out q hq))
            obtain ⟨ad, A5, c5, x, rfl, hcx, hVx, hx⟩ := V_row_at hVr i (by rw [← HK.out]; exact hlt)
            obtain ⟨A0, c0, hb, _⟩ := hs.open_
            have hlx : x.length ≤ 65536 := HLG.out x (by rw [hx.out, List.getD_eq_getElem?_getD, List.getElem?_eq_getElem (by rw [← HK.out]; exact hlt)]; exact List.getElem_mem _)
            obtain ⟨_, _, _, _, _, hM, hMm, hMl, hBl, hgm, _⟩ := hs.open_
            have d0 := blk_cell hb 0 (.slice A0 (σ1.L ++ xs.take i).length c0) rfl
            have hlen : (σ1.L ++ xs.take i).length ≤ 70000 := by
              rw [List.length_append, List.length_take, HSE.out]
              have := HZ.out
              show σ.L.length + _ ≤ _
              omega
            have hcall : Hid (∀ d, Calls Try.prog 42 #[.slice A5 x.length c5] (wr.drewN d) fun e w2 => ∃ A6 c6 A7 c7 w3, e = .returned (.slice A6 x.length c6) ∧
                w2.cell? ⟨g, 0, none⟩ = some (.slice A0 (σ1.L ++ xs.take i).length c0) ∧ (Builtin.append_ #[45, 45] 45 #[.slice A0 (σ1.L ++ xs.take i).length c0, .slice (some ⟨w2.heap.size, 0, none⟩) 1 1]).run Try.prog (w2.alloc (.cells #[.slice A6 x.length c6] 25)) = .ok (.slice A7 (σ1.L ++ xs.take i ++ [x]).length c7) w3 ∧
                w3.cell? ⟨g, 0, none⟩ = some (.slice A0 (σ1.L ++ xs.take i).length c0) ∧ w3.frozen? ⟨g, 0, none⟩ = false ∧ SQ W1 M B g m σ1 xs (i + 1) (w3.setCell ⟨g, 0, none⟩ (.slice A7 (σ1.L ++ xs.take i ++ [x]).length c7))) := by
              refine Lib.hid (fun d => (clone_any okp A5 x.length c5 x (wr.drewN d) (Kd.V_drewN hVx d) (by omega)).mono ?_)
              rintro e w2 ⟨A6, c6, rfl, hv2, hb2⟩
              replace hb2 : Below wr.heap.size wr w2 := ⟨hb2.os, hb2.tape, hb2.output, hb2.size, hb2.block⟩
              have hs2 := hs.below hb2
              have hbb := (hb2.block g (hMl g hM).1).trans hb
              obtain ⟨v', w3, M3, ⟨A7, c7, rfl⟩, h1, h2, h3, h4, h5, h6⟩ := hs2.push (B2 := fun q => B2 q ∨ (wr.heap.size ≤ q ∧ q < w2.heap.size)) hbb hlen (fun q hq => .inl hq) (fun q hq => ⟨hq.elim (fun h => Nat.lt_of_lt_of_le (hBl q h) hb2.size) (fun h => h.2), fun hm => hq.elim (fun h => (hMl q hm).2 h) (fun h => by have := (hMl q hm).1; omega)⟩) (Kd.V_mono hv2 (fun q hq => .inr hq))
              refine ⟨A6, c6, A7, c7, w3, rfl, blk_cell hbb 0 _ rfl, h1, blk_cell h2 0 _ rfl, blk_free h2 0, M3, (fun q => B2 q ∨ (wr.heap.size ≤ q ∧ q < w2.heap.size)), ?_, ?_⟩
              · have : σ1.L ++ xs.take (i + 1) = (σ1.L ++ xs.take i) ++ [x] := by
                  rw [List.take_succ_eq_append_getElem (by rw [← HK.out]; exact hlt), List.append_assoc, hx.out, List.getD_eq_getElem?_getD, List.getElem?_eq_getElem (by rw [← HK.out]; exact hlt)]
                  rfl
                rw [this]
                exact h3
              · have hb2' : Chg M2 wr w2 := Chg.of_below hb2 _
                exact hg.trans ⟨h5, fun q hq => (h6 q hq).imp id (fun h => Nat.le_trans hb2.size h), fun q hq => .inl hq, fun q hq => hq.imp id (fun h => h.1), hb2'.trans h4 (fun q hq => .inl hq)⟩
            have hik : (i : Int) < (k : Int) := by omega
            have hk2 : (k : Int) ≤ 140737488351232 := by omega
            have HLT := Lib.hid hlt
            clear hsq hs hg hVr hVx hb hM hMm hMl hBl hgm hlx hlen hlt hi
            obtain ⟨z1, hz1⟩ : ∃ z1, z1 = (σ1.L ++ xs.take i).length := ⟨_, rfl⟩
            obtain ⟨z2, hz2⟩ : ∃ z2, z2 = (σ1.L ++ xs.take i ++ [x]).length := ⟨_, rfl⟩
            rw [← hz2, ← hz1] at hcall
            rw [← hz1] at d0
            clear hz1 hz2
            go_upto_region 12 with fail
            go_region_law (first
              | (refine step_append_run (by rfl) (.tmp 44) (.tmp 47) 45 (by rfl) (.slice A0 z1 c0) (.slice (some ⟨w2.heap.size, 0, none⟩) 1 1) (by rfl) (by rfl) (.slice A7 z2 c7) w3 HAP.out ?_)
              | (go_simp; go_at_call 42; refine (hcall.out _).mono ?_; rintro e w2 ⟨A6, c6, A7, c7, w3, rfl, s0, hap, u0, u1, hsq⟩; have sA := (fun o => Lib.cell?_alloc_some o s0); have HSQ := Lib.hid hsq; have HAP := Lib.hid hap; clear hsq hap))
            all_goals
              have hlt : i < k := HLT.out
              go_wp2_with fail
              go_roundw
              case rel =>
                refine ⟨i + 1, ?_, by omega, HSQ⟩
                go_num
              case measure => simp [intOf]; omega
          · have hi64 : decide ((i : Int) < (k : Int)) = false := by simp; omega
            have hik : i = k := by omega
            obtain ⟨M2, B2, hs, hg⟩ := hsq.out
            have he : ({ σ1 with L := σ1.L ++ xs.take i } : Se) = { σ with now := now, L := σ.L ++ xs } := by
              rw [List.take_of_length_le (by rw [← HK.out]; omega), HSE.out]
            rw [he] at hs
            have HFR := Lib.hid (fresh_ses hs OK2.out)
            have HG := Lib.hid hg
            have HS := Lib.hid hs
            clear hsq hs hg he hik
            obtain ⟨zf, hzf⟩ : ∃ zf, zf = ({ σ with now := now, L := σ.L ++ xs } : Se).freshL.length := ⟨_, rfl⟩
            have HZF := Lib.hid hzf
            rw [← hzf] at HFR
            clear hzf
            go_wp2_with fail
            refine HFR.out.mono ?_
            rintro e w3 ⟨A3, c3, rfl, h1, h2, h3⟩
            have K1 := Lib.hid h1
            have K2 := Lib.hid h2
            have K3 := Lib.hid h3
            clear h1 h2 h3
            go_wp2_with fail
            go_ret2
            refine ⟨M2, B2, A3, c3, by rw [← HZF.out]; rfl, K2.out, ?_, ?_⟩
            · exact ⟨HG.out.mm, fun q hq => (HG.out.mn q hq).imp id (fun h => Nat.le_trans HC1.out.size h), HG.out.bb, fun q hq => (HG.out.bn q hq).imp id (fun h => Nat.le_trans HC1.out.size h), (HC1.out.trans HG.out.chg (fun q hq => .inl hq)).trans K3.out (fun q hq => (HG.out.mn q hq).imp id (fun h => Nat.le_trans HC1.out.size h))⟩
            · rw [← HZF.out]
              refine Kd.V_mono K1.out (fun q hq => ⟨?_, hq.2, fun hm => ?_⟩)
              · have := HC1.out.size
                have := HG.out.chg.size
                omega
              · have := (HS.out.2.2.1 q hm).1
                have := hq.1
                omega
  · have h2 := ask_two σ now h1
    have hF : σ.sendF now xs = (202, [], σ) := by unfold Se.sendF; rw [if_neg h1]
    rw [hF]
    have HA := Lib.hid h2
    clear h ok hV h1 h2 hF hl HC
    obtain ⟨k, hk⟩ : ∃ k, k = xs.length := ⟨_, rfl⟩
    rw [← hk]
    clear hk
    go_enter Try.func14, Try.ntmps14
    go_wp2_with fail
    refine (ask_ses H.out now).mono ?_
    rintro e w1 ⟨rfl, rfl⟩
    rw [HA.out]
    go_wp2_with fail
    go_ret2
    exact FrP.no H.out 202
end
end Go.Proofs.Ytlnhjkbhhdcdeaa
namespace Go.Proofs.Ytlnhjkbhhdcdeaa
open Go Go.RowKit Go.Proofs.YtlnhjkbhhdcdeaaW.PrintWords Go.Proofs.YtlnhjkbhhdcdeaaW.PrintLast Go.Proofs.YtlnhjkbhhdcdeaaW.PrintMore
open Go.Proofs.Ytlnhjkbhhdcdeaa.PSessionRuns (S27 k27 z27 S116 k116 z116)
set_option linter.unusedVariables false
set_option maxRecDepth 100000
set_option maxHeartbeats 4000000
attribute [local go_sem] max2_mx min2_mn max_two min_two
/-- One frame without a body, in a block of its own. -/
theorem one_frame {w : World} {g : Nat} {x : S27} (hx : x.f5 = []) (hg : w.heap[g]? = some (.cells (frc x.f0 x.f1 x.f2 x.f3 x.f4 (.slice none 0 0)) 27 (0, 0))) (b : Nat) : Kd.V k27 27 w b (fun k => k = g) (.slice (some ⟨g, 0, none⟩) 1 1) [x] := by
  have hfk : Kd.FK k27 w (fun _ => False) x [.int .u8 x.f0, .int .u32 x.f1, .int .u32 x.f2, .int .u64 x.f3, .int .u64 x.f4, .slice none 0 0] := by
    have := FK_frame (x := x) (A := none) (c := 0) (w := w) (okp := fun _ => False) (by rw [hx]; exact Kd.V_nil KB 5 w 0 _)
    rw [hx] at this
    exact this
  refine Kd.V_mono (V_block (d := k27) (xs := [x]) (n := 1) (c := 1) (ok := fun _ => False) (cs := [.int .u8 x.f0, .int .u32 x.f1, .int .u32 x.f2, .int .u64 x.f3, .int .u64 x.f4, .slice none 0 0]) hg ⟨rfl, fun j p hj => ?_⟩ rfl (Nat.le_refl _) (by omega)) (fun k hk => hk.elim (fun h => h.elim) id)
  match j with
  | 0 =>
    simp at hj
    subst hj
    exact hfk
  | j + 1 => simp at hj
/-- What Tick does. -/
def Se.tickF (σ : Se) (now : Int) : Int × List S27 × Se :=
  if σ.ask now = 0 then
    if σ.set = true ∧ ¬ now < σ.tm then
      if σ.up = true then (0, ({ σ with now := now } : Se).start.seg 0 ({ σ with now := now } : Se).start.fl, ({ σ with now := now } : Se).start)
      else (0, [σ.helloF], ({ σ with now := now } : Se).start)
    else (0, [], { σ with now := now })
  else (202, [], σ)
section
variable {M B : Nat → Prop} {g m : Nat} {σ : Se} {w : World} {n : Int}
theorem Ok.now_ (ok : Ok n σ) {now : Int} (h1 : σ.ask now = 0) : Ok n { σ with now := now } := by
  obtain ⟨a1, a2, a3⟩ := ask_ok h1
  exact { ok with now0 := a1, now1 := a2 }
theorem Ok.start (ok : Ok n σ) : Ok n σ.start := { ok with }
theorem Ok.stop (ok : Ok n σ) : Ok n σ.stop := { ok with }
theorem tick_ses (h : Ses M B g m σ w) (ok : Ok n σ) (now : Int) :
    Calls Try.prog 16 #[.pointer (some ⟨g, 0, none⟩), .int .i64 now] w (FrP w M B g m (σ.tickF now)) := by
  have H := Lib.hid h
  by_cases h1 : σ.ask now = 0
  · obtain ⟨A0, c0, hb, _⟩ := h.open_
    have d10 := blk_cell hb 10 (.int .i64 σ.now) rfl
    have f10 := blk_free hb 10
    obtain ⟨q, hq⟩ : ∃ q, q = σ.now := ⟨_, rfl⟩
    rw [← hq] at d10
    obtain ⟨σ1, hσ1⟩ : ∃ σ1 : Se, σ1 = { σ with now := now } := ⟨_, rfl⟩
    obtain ⟨hs1, hc1⟩ := h.cell 10 (.int .i64 now) σ1 (fun v => by rw [hσ1]; rfl) (by rw [hσ1]) (by rw [hσ1])
    have hok1 : Ok n σ1 := by rw [hσ1]; exact ok.now_ h1
    have HA := Lib.hid h1
    have HQ := Lib.hid hσ1
    have HS1 := Lib.hid hs1
    have HC1 := Lib.hid hc1
    have OK1 := Lib.hid hok1
    have hF : σ.tickF now = if σ1.set = true ∧ ¬ now < σ1.tm then (if σ1.up = true then (0, σ1.start.seg 0 σ1.start.fl, σ1.start) else (0, [σ1.helloF], σ1.start)) else (0, [], σ1) := by
      unfold Se.tickF
      rw [if_pos h1, hσ1]
      rfl
    rw [hF]
    clear h ok hb hq hs1 hc1 hok1 hσ1 h1 hF
    by_cases h2 : σ1.set = true ∧ ¬ now < σ1.tm
    · rw [if_pos h2]
      obtain ⟨h3, h4⟩ := h2
      have H3 := Lib.hid h3
      have h5 : decide (now < σ1.tm) = false := decide_eq_false h4
      obtain ⟨tm, htm⟩ : ∃ tm, tm = σ1.tm := ⟨_, rfl⟩
      rw [← htm] at h5
      have HTM := Lib.hid htm
      by_cases h6 : σ1.up = true
      · rw [if_pos h6]
        have H6 := Lib.hid h6
        clear h3 h4 h6 htm
        go_enter Try.func16, Try.ntmps16
        go_wp2_with fail
        refine (ask_ses H.out now).mono ?_
        rintro e w1 ⟨rfl, rfl⟩
        rw [HA.out]
        go_upto_region 5 with fail
        clear d10 f10
        generalize w1.setCell ⟨g, 10, none⟩ (.int .i64 now) = W1 at *
        obtain ⟨A0, c0, hb, _⟩ := HS1.out.open_
        have d11 := blk_cell hb 11 (.bool true) (by rw [← H3.out]; rfl)
        have d12 := blk_cell hb 12 (.int .i64 tm) (by rw [HTM.out]; rfl)
        clear hb
        go_wp2_with fail
        refine (start_ses HS1.out OK1.out.now0 OK1.out.now1 (by have := OK1.out.tmr0; omega) OK1.out.tmr1).mono ?_
        rintro e w2 ⟨rfl, h7, h8, _⟩
        clear d11 d12
        obtain ⟨A0, c0, hb, _⟩ := h7.open_
        have d3 := blk_cell hb 7 (.bool true) (by rw [← H6.out]; rfl)
        obtain ⟨σ2, hσ2⟩ : ∃ σ2 : Se, σ2 = σ1.start := ⟨_, rfl⟩
        have d0 := blk_cell hb 0 (.slice A0 σ1.start.L.length c0) rfl
        have d4 := blk_cell hb 4 (.int .i64 σ1.start.win) rfl
        rw [← hσ2] at h7 d0 d4 ⊢
        have hok2 : Ok n σ2 := by rw [hσ2]; exact OK1.out.start
        have hup : σ2.up = true := by rw [hσ2]; exact H6.out
        have hfl : σ2.fl = min σ2.L.length σ2.win.toNat := by simp [Se.fl, hup]
        have g1 := hok2.win0
        have g2 := hok2.win1
        have hmn : mn (σ2.L.length : Int) σ2.win = (σ2.fl : Int) := by
          rw [hfl]
          unfold mn
          split <;> omega
        have hfl64 : σ2.fl ≤ 64 := by omega
        have hflL : σ2.fl ≤ σ2.L.length := by omega
        obtain ⟨f, hf⟩ : ∃ f : Nat, f = σ2.fl := ⟨_, rfl⟩
        obtain ⟨a, ha⟩ : ∃ a : Nat, a = σ2.L.length := ⟨_, rfl⟩
        obtain ⟨b, hb'⟩ : ∃ b : Int, b = σ2.win := ⟨_, rfl⟩
        rw [← ha] at d0 hmn hflL
        rw [← hb'] at d4 hmn
        rw [← hf] at hmn hfl64 hflL ⊢
        have HF := Lib.hid hf
        have HA2 := Lib.hid ha
        have HMN := Lib.hid hmn
        have OK2 := Lib.hid hok2
        have HS2 := Lib.hid h7
        have HE2 := Lib.hid hσ2
        have HC2 := Lib.hid (HC1.out.trans h8 (fun i hi => .inl hi))
        clear h7 h8 hb hσ2 hok2 hup hfl hmn hf ha hb' g1 g2
        go_wp2_with fail
        go_quiet (first | (go_at_call 49; refine (flying_ses g A0 a c0 b _ ?_).mono ?_; exact d0; rintro e w' ⟨rfl, rfl⟩; exact ⟨rfl, _, rfl⟩))
        rw [HMN.out]
        obtain ⟨W3, hW3⟩ : ∃ W3, W3 = w2.drewN nq := ⟨_, rfl⟩
        rw [← hW3]
        have HS3 : Hid (Ses M B g m σ2 W3) := Lib.hid (by rw [hW3]; exact HS2.out.drewN _)
        have HC3 : Hid (Chg M w1 W3) := Lib.hid (by rw [hW3]; exact HC2.out.drewN _)
        clear d0 d3 d4 hW3
        go_wp2_with fail
        go_loopw [7, 51] (fun vl vi wr => ∃ i : Nat, vi = .int .i64 i ∧ i ≤ f ∧ Hid (Kd.N k27 27 wr W3.heap.size (fun k => W3.heap.size ≤ k) vl (σ2.seg 0 i)) ∧ Hid (Below W3.heap.size W3 wr)) (fun _ vi _ => f - (intOf vi).toNat)
        case atStart => exact ⟨0, rfl, Nat.zero_le _, Lib.hid (by rw [Se.seg_self]; exact Kd.N_nil _ _ _ _ _), Lib.hid (Below.refl _ _)⟩
        case round =>
          obtain ⟨i, rfl, hi2, HN, HBL⟩ := hrel
          rcases Nat.lt_or_ge i f with hlt | hge
          · have hlt2 : (i : Int) < (f : Int) := by omega
            have hf64 : (f : Int) ≤ 64 := by omega
            have hi64 : i ≤ 64 := by omega
            have HLT := Lib.hid hlt
            have hiL : i < σ2.L.length := by rw [← HA2.out]; omega
            have hd := data_ses (HS3.out.below HBL.out) i hiL (Nat.le_trans (OK2.out.at_ i) (by omega)) (by have := OK2.out.base0; show 0 ≤ σ2.base; omega) (by have := OK2.out.base1; have := OK2.out.big; show σ2.base ≤ _; omega) (by omega)
            obtain ⟨x, hx⟩ : ∃ x : S27, x = σ2.frame i := ⟨_, rfl⟩
            have HD : Hid (Calls Try.prog 50 #[.pointer (some ⟨g, 0, none⟩), .int .i64 i] wr fun e w' => ∃ A5 c5, e = .returned (.agg #[.int .u8 x.f0, .int .u32 x.f1, .int .u32 x.f2, .int .u64 x.f3, .int .u64 x.f4, .slice A5 x.f5.length c5]) ∧ Kd.V KB 5 w' 0 (fun k => wr.heap.size ≤ k ∧ k < w'.heap.size) (.slice A5 x.f5.length c5) x.f5 ∧ Below wr.heap.size wr w') := by rw [hx]; exact Lib.hid hd
            have HX := Lib.hid hx
            have HGE := Lib.hid HBL.out.size
            have HLN : Hid ((σ2.seg 0 i).length ≤ 64) := Lib.hid (by rw [Se.seg_len]; omega)
            clear hd hiL hlt hi2 hx
            go_wp2_with fail
            refine HD.out.mono ?_
            rintro e w2 ⟨A5, c5, rfl, hv2, hb2⟩
            have HV2 := Lib.hid hv2
            have HB2 := Lib.hid hb2
            have HS2 := Lib.hid hb2.size
            clear hv2 hb2 HD
            go_wp2_with (first
              | ((with_reducible refine gate_builtin (b := .append) (xs := #[.tmp 54, .tmp 58]) rfl ?_); at_builtin; refine Kd.N_append k27 (w0 := W3) W3.heap.size rfl (.tmp 54) (.tmp 58) 42 27 (.agg #[.int .u8 0, .int .u32 0, .int .u32 0, .int .u64 0, .int .u64 0, .slice none 0 0]) 56 rfl Try.underlying42 Try.info27 rfl (by decide) (by omega) _ (σ2.seg 0 i) x [.int .u8 x.f0, .int .u32 x.f1, .int .u32 x.f2, .int .u64 x.f3, .int .u64 x.f4, .slice A5 x.f5.length c5] (fun k => W3.heap.size ≤ k) (fun k => wr.heap.size ≤ k ∧ k < w2.heap.size) rfl rfl ?bP3 ?bK3 ?bF3 ?bO3 ?bB3 ?bS3 ?bL3 ?_; (case bP3 => exact FK_frame HV2.out); (case bK3 => intro k hk; exact ⟨Nat.le_trans HGE.out hk.1, fun he => by have := Kd.N_lt HN.out k he.symm; have := hk.1; omega⟩); (case bF3 => intro k hk; have := HS2.out; have := HGE.out; omega); (case bO3 => exact Kd.N_below HN.out HB2.out); (case bB3 => exact below_then HBL.out HGE.out HB2.out); (case bS3 => have := HS2.out; have := HGE.out; omega); (case bL3 => have := HLN.out; omega); intro v3 w3 hr3 hb3 hg3 hat3; have HR3 := Lib.hid hr3; have HB3 := Lib.hid hb3; clear hr3 hb3 hg3 hat3))
            have hlt : i < f := HLT.out
            go_roundw
            case measure =>
              show f - ((i : Int) + 1).toNat < f - (i : Int).toNat
              omega
            case rel =>
              refine ⟨i + 1, rfl, by omega, ?_, HB3⟩
              rw [Se.seg_succ σ2 (Nat.zero_le i), ← HX.out]
              exact HR3
          · have hge2 : decide ((i : Int) < (f : Int)) = false := by simp; omega
            have hie : i = f := by omega
            have HIE := Lib.hid hie
            clear hie
            go_wp2_with fail
            go_ret2
            obtain ⟨A9, c9, he9⟩ := Kd.N_slice HN.out
            subst he9
            have hsz := HC3.out.size
            rw [← HE2.out, ← HF.out, ← HIE.out]
            refine ⟨M, B, A9, c9, rfl, HS3.out.below HBL.out, Gr.of_chg (HC3.out.then_below HBL.out), ?_⟩
            refine Kd.V_mono (Kd.N_V (Kd.N_bound HN.out)) (fun k hk => ⟨by have := hk.1; omega, hk.2, fun hm => ?_⟩)
            have := (HS3.out.2.2.1 k hm).1
            have := hk.1
            omega
      · rw [if_neg h6]
        have h6' : σ1.up = false := by simpa using h6
        have H6 := Lib.hid h6'
        clear h3 h4 h6 htm h6'
        go_enter Try.func16, Try.ntmps16
        go_wp2_with fail
        refine (ask_ses H.out now).mono ?_
        rintro e w1 ⟨rfl, rfl⟩
        rw [HA.out]
        go_upto_region 5 with fail
        clear d10 f10
        generalize w1.setCell ⟨g, 10, none⟩ (.int .i64 now) = W1 at *
        obtain ⟨A0, c0, hb, _⟩ := HS1.out.open_
        have d11 := blk_cell hb 11 (.bool true) (by rw [← H3.out]; rfl)
        have d12 := blk_cell hb 12 (.int .i64 tm) (by rw [HTM.out]; rfl)
        clear hb
        go_wp2_with fail
        refine (start_ses HS1.out OK1.out.now0 OK1.out.now1 (by have := OK1.out.tmr0; omega) OK1.out.tmr1).mono ?_
        rintro e w2 ⟨rfl, h7, h8, _⟩
        clear d11 d12
        obtain ⟨A0, c0, hb, _⟩ := h7.open_
        have d3 := blk_cell hb 7 (.bool false) (by rw [← H6.out]; rfl)
        have HS2 := Lib.hid h7
        have HC2 := Lib.hid (HC1.out.trans h8 (fun i hi => .inl hi))
        have hcall := hello_ses h7
        obtain ⟨x, hx⟩ : ∃ x, x = σ1.helloF := ⟨_, rfl⟩
        have hcl : Hid (Calls Try.prog 38 #[.pointer (some ⟨g, 0, none⟩)] w2 fun e w' => e = .returned (.agg #[.int .u8 x.f0, .int .u32 x.f1, .int .u32 x.f2, .int .u64 x.f3, .int .u64 x.f4, .slice none 0 0]) ∧ Below w2.heap.size w2 w') := by
          rw [hx]
          exact Lib.hid hcall
        have HX : Hid (x.f5 = []) := by rw [hx]; exact Lib.hid rfl
        have HXE := Lib.hid hx
        clear h7 h8 hb hcall hx
        go_wp2_with fail
        refine hcl.out.mono ?_
        rintro e w3 ⟨rfl, hb3⟩
        have HB3 := Lib.hid hb3
        clear hb3 hcl d3
        go_wp2_with fail
        go_ret2
        have hsz := HC2.out.size
        have hsz3 := HB3.out.size
        rw [← HXE.out]
        have hb4 : Below w2.heap.size w2 (w3.alloc (.cells (frc x.f0 x.f1 x.f2 x.f3 x.f4 (.slice none 0 0)) 27)) := below_then HB3.out hsz3 (below_alloc (Below.refl _ _) _)
        refine ⟨M, B, some ⟨w3.heap.size, 0, none⟩, 1, rfl, HS2.out.below hb4, Gr.of_chg (HC2.out.then_below hb4), ?_⟩
        refine Kd.V_mono (one_frame HX.out (heap_alloc_new w3 _) 0) (fun k hk => ⟨by omega, by rw [World.size_alloc]; omega, fun hm => ?_⟩)
        have := (HS2.out.2.2.1 k hm).1
        omega
    · rw [if_neg h2]
      obtain ⟨bs, hbs⟩ : ∃ bs, bs = σ1.set := ⟨_, rfl⟩
      obtain ⟨tm, htm⟩ : ∃ tm, tm = σ1.tm := ⟨_, rfl⟩
      obtain ⟨bt, hbt⟩ : ∃ bt, decide (now < tm) = bt := ⟨_, rfl⟩
      rw [← hbs, ← htm] at h2
      have hc : bs = false ∨ bs = true ∧ bt = true := by
        cases bs with
        | false => exact .inl rfl
        | true =>
          refine .inr ⟨rfl, ?_⟩
          rw [← hbt]
          simp at h2 ⊢
          exact h2
      have HBS := Lib.hid hbs
      have HTM := Lib.hid htm
      clear h2 hbs htm
      rcases hc with rfl | ⟨rfl, rfl⟩
      all_goals
        go_enter Try.func16, Try.ntmps16
        go_wp2_with fail
        refine (ask_ses H.out now).mono ?_
        rintro e w1 ⟨rfl, rfl⟩
        rw [HA.out]
        go_upto_region 5 with fail
        clear d10 f10
        generalize w1.setCell ⟨g, 10, none⟩ (.int .i64 now) = W1 at *
        obtain ⟨A0, c0, hb, _⟩ := HS1.out.open_
        have d11 := blk_cell hb 11 _ (by rw [Se.cells, ← HBS.out]; rfl)
        have d12 := blk_cell hb 12 (.int .i64 tm) (by rw [HTM.out]; rfl)
        clear hb
        go_wp2_with fail
        go_ret2
        exact ⟨M, B, none, 0, rfl, HS1.out, Gr.of_chg HC1.out, Kd.V_nil _ _ _ _ _⟩
  · have h2 := ask_two σ now h1
    have hF : σ.tickF now = (202, [], σ) := by unfold Se.tickF; rw [if_neg h1]
    rw [hF]
    have HA := Lib.hid h2
    clear h ok h1 h2 hF
    go_enter Try.func16, Try.ntmps16
    go_wp2_with fail
    refine (ask_ses H.out now).mono ?_
    rintro e w1 ⟨rfl, rfl⟩
    rw [HA.out]
    go_wp2_with fail
    go_ret2
    exact FrP.no H.out 202
end
end Go.Proofs.Ytlnhjkbhhdcdeaa
namespace Go.Proofs.Ytlnhjkbhhdcdeaa
open Go Go.RowKit Go.Proofs.YtlnhjkbhhdcdeaaW.PrintWords Go.Proofs.YtlnhjkbhhdcdeaaW.PrintLast Go.Proofs.YtlnhjkbhhdcdeaaW.PrintMore
open Go.Proofs.Ytlnhjkbhhdcdeaa.PSessionRuns (S27 k27 z27 S116 k116 z116)
set_option linter.unusedVariables false
set_option maxRecDepth 100000
set_option maxHeartbeats 4000000
attribute [local go_sem] max2_mx min2_mn max_two min_two
/-- May there be no session with these settings? -/
def badc (boot win tmr : Int) : Bool := (boot == 0) || decide (win < 1) || decide (64 < win) || decide (tmr < 1) || decide (1048576 < tmr)
def se0 (boot win tmr now : Int) : Se := ⟨[], 1, 0, boot, win, tmr, 0, false, 0, [], now, false, 0⟩
section
variable {w : World}
def cfc (boot win tmr : Int) : Array Value := #[.int .u32 boot, .int .i64 win, .int .i64 tmr]
theorem new_bad (boot win tmr now : Int) (h : badc boot win tmr = true) : Calls Try.prog 13 #[.agg (cfc boot win tmr), .int .i64 now] w fun e w' => e = .returned (.tuple #[.pointer none, .slice none 0 0, .int .i64 200]) ∧ w' = w.alloc (.cells (cfc boot win tmr) 39) := by
  unfold badc at h
  unfold cfc
  obtain ⟨b1, hb1⟩ : ∃ b, (boot == 0) = b := ⟨_, rfl⟩
  obtain ⟨b2, hb2⟩ : ∃ b, decide (win < 1) = b := ⟨_, rfl⟩
  obtain ⟨b3, hb3⟩ : ∃ b, decide (64 < win) = b := ⟨_, rfl⟩
  obtain ⟨b4, hb4⟩ : ∃ b, decide (tmr < 1) = b := ⟨_, rfl⟩
  obtain ⟨b5, hb5⟩ : ∃ b, decide (1048576 < tmr) = b := ⟨_, rfl⟩
  rw [hb1, hb2, hb3, hb4, hb5] at h
  have hc : b1 = true ∨ b1 = false ∧ (b2 = true ∨ b2 = false ∧ (b3 = true ∨ b3 = false ∧ (b4 = true ∨ b4 = false ∧ b5 = true))) := by
    revert h
    cases b1 <;> cases b2 <;> cases b3 <;> cases b4 <;> cases b5 <;> simp
  clear h
  rcases hc with rfl | ⟨rfl, rfl | ⟨rfl, rfl | ⟨rfl, rfl | ⟨rfl, rfl⟩⟩⟩⟩
  all_goals
    go_enter Try.func13, Try.ntmps13
    go_wp2_with fail
    go_ret3
    exact ⟨rfl, rfl⟩
theorem new_time (boot win tmr now : Int) (h : badc boot win tmr = false) (ht : tok now = false) : Calls Try.prog 13 #[.agg (cfc boot win tmr), .int .i64 now] w fun e w' => e = .returned (.tuple #[.pointer none, .slice none 0 0, .int .i64 202]) ∧ w' = w.alloc (.cells (cfc boot win tmr) 39) := by
  unfold badc at h
  unfold cfc
  simp only [Bool.or_eq_false_iff] at h
  obtain ⟨⟨⟨⟨h1, h2⟩, h3⟩, h4⟩, h5⟩ := h
  have HT := Lib.hid ht
  clear ht
  go_enter Try.func13, Try.ntmps13
  go_wp2_with fail
  refine (istime now _).mono ?_
  rintro e w1 ⟨rfl, rfl⟩
  rw [HT.out]
  go_wp2_with fail
  go_ret3
  exact ⟨rfl, rfl⟩
/-- A session that was just made. -/
def NewP (w : World) (σ : Se) (e : Ending) (w' : World) : Prop :=
  ∃ (M : Nat → Prop) (g m : Nat) (A : Option Addr), e = .returned (.tuple #[.pointer (some ⟨g, 0, none⟩), .slice A 1 1, .int .i64 0]) ∧ Ses M (fun _ => False) g m σ.start w' ∧ Below w.heap.size w w' ∧ (∀ k, M k → w.heap.size ≤ k) ∧ Kd.V k27 27 w' 0 (fun k => w.heap.size ≤ k ∧ k < w'.heap.size ∧ ¬ M k) (.slice A 1 1) [σ.start.helloF]
theorem new_ok (boot win tmr now : Int) (h : badc boot win tmr = false) (ht : tok now = true) : Calls Try.prog 13 #[.agg (cfc boot win tmr), .int .i64 now] w (NewP w (se0 boot win tmr now)) := by
  have HB : Hid (0 ≤ tmr ∧ tmr ≤ 1048576 ∧ 0 ≤ now ∧ now ≤ 1099511627776) := by
    unfold badc at h
    unfold tok at ht
    simp at h ht
    exact Lib.hid (by omega)
  unfold badc at h
  simp only [Bool.or_eq_false_iff] at h
  obtain ⟨⟨⟨⟨h1, h2⟩, h3⟩, h4⟩, h5⟩ := h
  unfold cfc
  have HT := Lib.hid ht
  have hmm := fun w : World => run_makeMap (P := Try.prog) 68 w
  clear ht
  go_enter Try.func13, Try.ntmps13
  go_wp2_with fail
  refine (istime now _).mono ?_
  rintro e w1 ⟨rfl, rfl⟩
  rw [HT.out]
  go_upto_region 6 with fail
  clear hmm
  obtain ⟨σ, hσ⟩ : ∃ σ, σ = se0 boot win tmr now := ⟨_, rfl⟩
  obtain ⟨w1, hw1⟩ : ∃ w1, w1 = w.alloc (.cells #[.int .u32 boot, .int .i64 win, .int .i64 tmr] 39) := ⟨_, rfl⟩
  obtain ⟨w2, hw2⟩ : ∃ w2, w2 = w1.alloc (.map #[] 0) := ⟨_, rfl⟩
  obtain ⟨w3, hw3⟩ : ∃ w3, w3 = w2.alloc (.cells (σ.cells (.slice none 0 0) (w.heap.size + 1)) 70) := ⟨_, rfl⟩
  have z1 : w1.heap.size = w.heap.size + 1 := by rw [hw1]; exact World.size_alloc _ _
  have z2 : w2.heap.size = w.heap.size + 2 := by rw [hw2, World.size_alloc, z1]
  have z3 : w3.heap.size = w.heap.size + 3 := by rw [hw3, World.size_alloc, z2]
  have hb1 : Below w.heap.size w w1 := by rw [hw1]; exact below_alloc (Below.refl _ _) _
  have hb2 : Below w.heap.size w w2 := below_then hb1 (by omega) (by rw [hw2]; exact below_alloc (Below.refl _ _) _)
  have hb3 : Below w.heap.size w w3 := below_then hb2 (by omega) (by rw [hw3]; exact below_alloc (Below.refl _ _) _)
  have hm : w3.heap[w.heap.size + 1]? = some (.map #[] 0) := by
    rw [hw3, heap_alloc_old w2 _ (by omega), hw2, ← z1]
    exact heap_alloc_new w1 _
  have hg : w3.heap[w.heap.size + 2]? = some (.cells (σ.cells (.slice none 0 0) (w.heap.size + 1)) 70 (0, 0)) := by
    rw [hw3, ← z2]
    exact heap_alloc_new w2 _
  have hs : Ses (fun k => k = w.heap.size + 2 ∨ k = w.heap.size + 1) (fun _ => False) (w.heap.size + 2) (w.heap.size + 1) σ w3 := by
    refine ⟨.inl rfl, .inr rfl, fun k hk => ⟨by omega, id⟩, fun _ h => h.elim, .slice none 0 0, hg, ?_, ?_⟩
    · rw [hσ]
      exact ⟨none, 0, rfl, Nat.le_refl _, by omega, fun h => by omega⟩
    · rw [hσ]
      exact ⟨[], ⟨#[], 0, hm, rfl⟩, rfl, fun i p hi => by simp [se0] at hi⟩
  have hw4 : ((w.alloc (.cells #[.int .u32 boot, .int .i64 win, .int .i64 tmr] 39)).alloc (.map #[] 0)).alloc (.cells #[.slice none 0 0, .int .u64 1, .int .i64 0, .int .u32 boot, .int .i64 win, .int .i64 tmr, .int .u32 0, .bool false, .int .u64 0, .map (some (w.heap.size + 1)), .int .i64 now, .bool false, .int .i64 0] 70) = w3 := by
    rw [hw3, hw2, hw1, hσ]
    rfl
  rw [hw4]
  have HK : Hid (σ.now = now ∧ σ.tmr = tmr) := by rw [hσ]; exact Lib.hid ⟨rfl, rfl⟩
  have HS := Lib.hid hs
  have HB3 := Lib.hid hb3
  have HE := Lib.hid hσ
  clear hw4 hw3 hw2 hw1 hs hb1 hb2 hb3 hm hg z1 z2 z3 hσ h1 h2 h3 h4 h5
  go_wp2_with fail
  refine (start_ses HS.out (by rw [HK.out.1]; exact HB.out.2.2.1) (by rw [HK.out.1]; exact HB.out.2.2.2) (by rw [HK.out.2]; exact HB.out.1) (by rw [HK.out.2]; exact HB.out.2.1)).mono ?_
  rintro e w4 ⟨rfl, h7, h8, h9⟩
  have HS2 := Lib.hid h7
  have hb4 : Below w.heap.size w w4 := HB3.out.trans (h8.below (fun k hk => by omega) (HB3.out.size))
  have HB4 := Lib.hid hb4
  have hcall := hello_ses h7
  obtain ⟨x, hx⟩ : ∃ x, x = σ.start.helloF := ⟨_, rfl⟩
  have hcl : Hid (Calls Try.prog 38 #[.pointer (some ⟨w.heap.size + 2, 0, none⟩)] w4 fun e w' => e = .returned (.agg #[.int .u8 x.f0, .int .u32 x.f1, .int .u32 x.f2, .int .u64 x.f3, .int .u64 x.f4, .slice none 0 0]) ∧ Below w4.heap.size w4 w') := by
    rw [hx]
    exact Lib.hid hcall
  have HX : Hid (x.f5 = []) := by rw [hx]; exact Lib.hid rfl
  have HXE := Lib.hid hx
  clear h7 h8 h9 hb4 hcall hx
  go_wp2_with fail
  refine hcl.out.mono ?_
  rintro e w5 ⟨rfl, hb5⟩
  have HB5 := Lib.hid hb5
  clear hb5 hcl
  go_wp2_with fail
  go_ret3
  have hsz := HB4.out.size
  have hsz5 := HB5.out.size
  have hb6 : Below w4.heap.size w4 (w5.alloc (.cells (frc x.f0 x.f1 x.f2 x.f3 x.f4 (.slice none 0 0)) 27)) := below_then HB5.out hsz5 (below_alloc (Below.refl _ _) _)
  rw [← HE.out]
  refine ⟨_, _, _, some ⟨w5.heap.size, 0, none⟩, rfl, HS2.out.below hb6, HB4.out.trans (hb6.mono hsz), fun k hk => by omega, ?_⟩
  rw [← HXE.out]
  refine Kd.V_mono (one_frame HX.out (heap_alloc_new w5 _) 0) (fun k hk => ⟨by omega, by rw [World.size_alloc]; omega, fun hm => ?_⟩)
  have := (HS2.out.2.2.1 k hm).1
  omega
end
end Go.Proofs.Ytlnhjkbhhdcdeaa
