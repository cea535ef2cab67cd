/- The law SessionFrames: which frames may be. -/
import Derived.Test.YtlnhjkbhhdcdeaaMh
import Derived.Test.YtlnhjkbhhdcdeaaOpen
namespace Go.Proofs.Ytlnhjkbhhdcdeaa
open Go Go.RowKit Go.ChangeShapes Go.WideShapes Go.Proofs.YtlnhjkbhhdcdeaaW.PrintWords Go.Proofs.YtlnhjkbhhdcdeaaW.PrintLast Go.Proofs.YtlnhjkbhhdcdeaaW.PrintMore
open Go.Proofs.Ytlnhjkbhhdcdeaa.PSessionRuns (S27 k27 z27 S116 k116 z116)
set_option linter.unusedVariables false
set_option maxRecDepth 100000
set_option maxHeartbeats 4000000
attribute [local go_sem] max2_mx min2_mn max_two min_two
/-- An argument that is a struct. -/
theorem Opens.val {α H : Type} {enc : TypeId × Value → H} {P : Program} {t : TypeId} {fs : Array Field} {d : Kd α} {ok : α → Prop} {W : World} {base b0 : Nat} {spare : Nat → Bool} {held : Bool} {v : Value} {D : DataW H} {p : List MemPlace} {r : Reach}
    (hu : P.underlying t = some (.struct fs)) (h : Opens P t d ok) (hv : Value.okWide P W r b0 t v) (ht : DataW.Trod enc P W base spare held t v D p) (hw : (D.weights P t).all (· ≤ reachBytes) = true) :
    ∃ x, (∃ cs : Array Value, v = .agg cs ∧ d.K W x cs.toList) ∧ ok x := by
  obtain ⟨cs, rfl, hsz⟩ := okWide_struct hu hv
  obtain ⟨fuel, hf⟩ := ht
  obtain ⟨x, hk, hok⟩ := h.open_ hf (by show cs.toList.length = _; rw [Array.length_toList, hsz, h.cells]) hw
  exact ⟨x, ⟨cs, rfl, hk⟩, hok⟩
theorem law_frames (v : Value) (x : Int × Int × Int × Int × Int × List Int) (w : World) (hK : ∃ cs : Array Value, v = .agg cs ∧ (Kd.pair (Kd.int .u8) (Kd.pair (Kd.int .u32) (Kd.pair (Kd.int .u32) (Kd.pair (Kd.int .u64) (Kd.pair (Kd.int .u64) (Kd.slice 5 (Kd.int .u8))))))).K w x cs.toList)
    (hok : (Lit.int .u8 x.1).wf = true ∧ (Lit.int .u32 x.2.1).wf = true ∧ (Lit.int .u32 x.2.2.1).wf = true ∧ (Lit.int .u64 x.2.2.2.1).wf = true ∧ (Lit.int .u64 x.2.2.2.2.1).wf = true ∧ (∀ b ∈ x.2.2.2.2.2, (Lit.int .u8 b).wf = true) ∧ x.2.2.2.2.2.length * 1 ≤ 140737488351232) :
    Calls Try.prog 3 #[v] w fun e w' => e = .returned (.bool true) ∧ Below w.heap.size w w' := by
  obtain ⟨cs, rfl, hk⟩ := hK
  obtain ⟨f, hf⟩ : ∃ f : S27, f = ⟨x.1, x.2.1, x.2.2.1, x.2.2.2.1, x.2.2.2.2.1, x.2.2.2.2.2⟩ := ⟨_, rfl⟩
  have hk' : k27.K w f cs.toList := by rw [hf]; exact hk
  obtain ⟨A5, c5, he, _, _⟩ := PSessionRuns.k27_open hk'
  obtain rfl : cs = #[.int .u8 f.f0, .int .u32 f.f1, .int .u32 f.f2, .int .u64 f.f3, .int .u64 f.f4, .slice A5 f.f5.length c5] := by
    rw [← Array.toList_inj, he]
  obtain ⟨x0, e0⟩ : ∃ x, x = f.f0 := ⟨_, rfl⟩
  obtain ⟨x1, e1⟩ : ∃ x, x = f.f1 := ⟨_, rfl⟩
  obtain ⟨x2, e2⟩ : ∃ x, x = f.f2 := ⟨_, rfl⟩
  obtain ⟨x3, e3⟩ : ∃ x, x = f.f3 := ⟨_, rfl⟩
  obtain ⟨x4, e4⟩ : ∃ x, x = f.f4 := ⟨_, rfl⟩
  obtain ⟨l5, e5⟩ : ∃ x, x = f.f5.length := ⟨_, rfl⟩
  rw [← e0, ← e1, ← e2, ← e3, ← e4, ← e5]
  clear hok hk hk' he hf e0 e1 e2 e3 e4 e5
  obtain ⟨ck, hck⟩ : ∃ ck, ck = chk x0 x1 x2 x3 x4 l5 := ⟨_, rfl⟩
  have hb0 : Below w.heap.size w (w.alloc (.cells #[.int .u8 x0, .int .u32 x1, .int .u32 x2, .int .u64 x3, .int .u64 x4, .slice A5 l5 c5] 27)) := below_alloc (Below.refl _ _) _
  have HC8 : Hid (∀ W, Below w.heap.size w W → Calls Try.prog 8 #[.agg #[.int .u8 x0, .int .u32 x1, .int .u32 x2, .int .u64 x3, .int .u64 x4, .slice A5 l5 c5]] W fun e w' => e = .returned (.int .i64 ck) ∧ Below w.heap.size w w' ∧ Below W.heap.size W w') := by
    refine Lib.hid (fun W hW => (check_w x0 x1 x2 x3 x4 A5 l5 c5 W).mono ?_)
    rintro e w' ⟨rfl, rfl⟩
    exact ⟨by rw [hck], below_then hW hW.size (below_alloc (Below.refl _ _) _), below_alloc (Below.refl _ _) _⟩
  have HC9 : Hid (∀ W, Below w.heap.size w W → Calls Try.prog 9 #[.agg #[.int .u8 x0, .int .u32 x1, .int .u32 x2, .int .u64 x3, .int .u64 x4, .slice A5 l5 c5]] W fun e w' => e = .returned (.int .i64 ck) ∧ Below w.heap.size w w' ∧ Below W.heap.size W w') := by
    refine Lib.hid (fun W hW => (rcheck_w x0 x1 x2 x3 x4 A5 l5 c5 W).mono ?_)
    rintro e w' ⟨rfl, rfl⟩
    exact ⟨by rw [hck], below_then hW hW.size (below_alloc (Below.refl _ _) _), below_alloc (Below.refl _ _) _⟩
  have HC10 : Hid (∀ W, Below w.heap.size w W → Calls Try.prog 10 #[] W fun e w' => e = .returned (.bool true) ∧ Below w.heap.size w w' ∧ Below W.heap.size W w') := by
    refine Lib.hid (fun W hW => (alive W).mono ?_)
    rintro e w' ⟨rfl, hb⟩
    exact ⟨rfl, below_then hW hW.size hb, hb⟩
  have hbk := heap_alloc_new w (.cells #[.int .u8 x0, .int .u32 x1, .int .u32 x2, .int .u64 x3, .int .u64 x4, .slice A5 l5 c5] 27)
  have hck2 : (ck == ck) = true := by simp
  clear hck
  go_enter Try.func3, Try.ntmps3
  go_upto_region 1 with fail
  have B0 := Lib.hid (fun d => pw_below_drewN hb0 d)
  obtain ⟨bk, hbke⟩ : ∃ bk, bk = w.heap.size := ⟨_, rfl⟩
  rw [← hbke] at hbk ⊢
  have HBK := Lib.hid hbke
  clear hbke hb0
  generalize w.alloc (.cells #[.int .u8 x0, .int .u32 x1, .int .u32 x2, .int .u64 x3, .int .u64 x4, .slice A5 l5 c5] 27) = W0 at *
  have f0 := blk_cell hbk 0 _ rfl
  have f1 := blk_cell hbk 1 _ rfl
  have f2 := blk_cell hbk 2 _ rfl
  have f3 := blk_cell hbk 3 _ rfl
  have f4 := blk_cell hbk 4 _ rfl
  have f5 := blk_cell hbk 5 _ rfl
  have kW : Hid (∀ W : World, Below W0.heap.size W0 W → W.cell? ⟨bk, 0, none⟩ = some (.int .u8 x0) ∧ W.cell? ⟨bk, 1, none⟩ = some (.int .u32 x1) ∧ W.cell? ⟨bk, 2, none⟩ = some (.int .u32 x2) ∧ W.cell? ⟨bk, 3, none⟩ = some (.int .u64 x3) ∧ W.cell? ⟨bk, 4, none⟩ = some (.int .u64 x4) ∧ W.cell? ⟨bk, 5, none⟩ = some (.slice A5 l5 c5)) :=
    Lib.hid (fun W hW => ⟨pw_cell_below hW f0, pw_cell_below hW f1, pw_cell_below hW f2, pw_cell_below hW f3, pw_cell_below hW f4, pw_cell_below hW f5⟩)
  have D0 := Lib.hid (fun d => pw_below_drewN (Below.refl W0.heap.size W0) d)
  have k1 := Lib.hid (kW.out W0 (Below.refl _ _))
  have k2 := Lib.hid (kW.out W0.drew (D0.out 1))
  have k3 := Lib.hid (kW.out (W0.drewN 1) (D0.out 1))
  clear hbk
  go_region_held3 (fun W => W.cell? ⟨bk, 0, none⟩ = some (.int .u8 x0) ∧ W.cell? ⟨bk, 1, none⟩ = some (.int .u32 x1) ∧ W.cell? ⟨bk, 2, none⟩ = some (.int .u32 x2) ∧ W.cell? ⟨bk, 3, none⟩ = some (.int .u64 x3) ∧ W.cell? ⟨bk, 4, none⟩ = some (.int .u64 x4) ∧ W.cell? ⟨bk, 5, none⟩ = some (.slice A5 l5 c5)) (first | with_reducible exact kN.out | with_reducible exact k1.out | with_reducible exact k2.out | with_reducible exact k3.out)
    (first
      | (go_simp; go_at_call 8; refine (HC8.out _ (by first | exact BN.out | exact B0.out _)).mono ?_; rintro e w3 ⟨rfl, hb, hc⟩; have DN := Lib.hid (below_then (by first | exact DN.out | exact D0.out _) (by first | exact DN.out.size | exact (D0.out 0).size) hc : Below W0.heap.size W0 w3); have kN := Lib.hid (kW.out w3 DN.out); have BN := Lib.hid hb; clear hb hc)
      | (go_simp; go_at_call 9; refine (HC9.out _ (by first | exact BN.out | exact B0.out _)).mono ?_; rintro e w3 ⟨rfl, hb, hc⟩; have DN := Lib.hid (below_then (by first | exact DN.out | exact D0.out _) (by first | exact DN.out.size | exact (D0.out 0).size) hc : Below W0.heap.size W0 w3); have kN := Lib.hid (kW.out w3 DN.out); have BN := Lib.hid hb; clear hb hc)
      | (go_simp; go_at_call 10; refine (HC10.out _ (by first | exact BN.out | exact B0.out _)).mono ?_; rintro e w3 ⟨rfl, hb, hc⟩; have DN := Lib.hid (below_then (by first | exact DN.out | exact D0.out _) (by first | exact DN.out.size | exact (D0.out 0).size) hc : Below W0.heap.size W0 w3); have kN := Lib.hid (kW.out w3 DN.out); have BN := Lib.hid hb; clear hb hc))
  all_goals
    go_wp2_with fail
    go_ret
    exact ⟨rfl, BN.out⟩
end Go.Proofs.Ytlnhjkbhhdcdeaa
