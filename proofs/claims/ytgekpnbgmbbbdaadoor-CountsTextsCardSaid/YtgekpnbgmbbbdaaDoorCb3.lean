/- For the walk of the program's Breaks: closures, variables. -/
import Derived.Test.YtgekpnbgmbbbdaaDoorCb2
namespace Go.Proofs.YtgekpnbgmbbbdaaDoor
open Go Go.RowKit Go.Shelf Go.Proofs.YtgekpnbgmbbbdaaDoorW.PrintWords Go.Proofs.YtgekpnbgmbbbdaaDoorW.PrintLast Go.Proofs.YtgekpnbgmbbbdaaDoorW.PrintMore
attribute [local go_sem] Oper.semAt_some
theorem brk1_w (m i b : Nat) (w : World) (h : w.cell? ⟨b, 0, none⟩ = some (.int .i64 m)) : Calls Tryd.prog 39 #[.int .i64 i, .pointer (some ⟨b, 0, none⟩)] w fun e w' => e = .returned (.bool (rightB m 1 i)) ∧ w' = w := by
  have hr : rightB m 1 i = ((i : Int) == (m : Int)) := by unfold rightB; rw [if_pos rfl, eq_nat]
  rw [hr]
  clear hr
  go_enter Tryd.func39, Tryd.ntmps39
  go_wp2_with fail
  go_ret
  exact ⟨rfl, rfl⟩
theorem brk2_w (m i b : Nat) (w : World) (h : w.cell? ⟨b, 0, none⟩ = some (.int .i64 m)) : Calls Tryd.prog 40 #[.int .i64 i, .pointer (some ⟨b, 0, none⟩)] w fun e w' => e = .returned (.bool (rightB m 2 i)) ∧ w' = w := by
  have hr : rightB m 2 i = decide (i ≤ m) := by unfold rightB; rw [if_neg (by decide), if_pos rfl]
  rw [hr]
  clear hr
  go_enter Tryd.func40, Tryd.ntmps40
  go_wp2_with fail
  go_ret
  exact ⟨rfl, rfl⟩
theorem brk3_w (m i b : Nat) (w : World) (h : w.cell? ⟨b, 0, none⟩ = some (.int .i64 m)) : Calls Tryd.prog 41 #[.int .i64 i, .pointer (some ⟨b, 0, none⟩)] w fun e w' => e = .returned (.bool (rightB m 3 i)) ∧ w' = w := by
  have hr : rightB m 3 i = decide (m ≤ i) := by unfold rightB; rw [if_neg (by decide), if_neg (by decide)]
  rw [hr]
  clear hr
  go_enter Tryd.func41, Tryd.ntmps41
  go_wp2_with fail
  go_ret
  exact ⟨rfl, rfl⟩
theorem load3 {w : World} {g : Nat} {v : Value} {t : TypeId} (h : Boxed w g t v) : (loadVar 3 ⟨g, 0, none⟩).run Tryd.prog w = .ok v w := by
  have hc := h.cell
  go_simp
theorem load4 {w : World} {g : Nat} {v : Value} {t : TypeId} (h : Boxed w g t v) : (loadVar 4 ⟨g, 0, none⟩).run Tryd.prog w = .ok v w := by
  have hc := h.cell
  go_simp
theorem load25 {w : World} {g : Nat} {v : Value} {t : TypeId} (h : Boxed w g t v) : (loadVar 25 ⟨g, 0, none⟩).run Tryd.prog w = .ok v w := by
  have hc := h.cell
  go_simp
theorem results_c3 {P : Program} {fn : Func} {a b c : Tmp} {A B C : TypeId} (h : fn.results = #[.cell a A, .cell b B, .cell c C]) {tmps : Array Value} {w : World} {g1 g2 g3 : Nat} {U V W : Value} (h1 : tmps.getD a undef = .pointer (some ⟨g1, 0, none⟩)) (h2 : tmps.getD b undef = .pointer (some ⟨g2, 0, none⟩)) (h3 : tmps.getD c undef = .pointer (some ⟨g3, 0, none⟩))
    (l1 : (loadVar A ⟨g1, 0, none⟩).run P w = .ok U w) (l2 : (loadVar B ⟨g2, 0, none⟩).run P w = .ok V w) (l3 : (loadVar C ⟨g3, 0, none⟩).run P w = .ok W w) :
    (results fn tmps).run P w = .ok (.tuple #[U, V, W]) w := by
  have h1' : tmps[a]?.getD undef = .pointer (some ⟨g1, 0, none⟩) := by simpa using h1
  have h2' : tmps[b]?.getD undef = .pointer (some ⟨g2, 0, none⟩) := by simpa using h2
  have h3' : tmps[c]?.getD undef = .pointer (some ⟨g3, 0, none⟩) := by simpa using h3
  simp [results, h, h1', h2', h3', asAddr, l1, l2, l3]
theorem res25 : Tryd.f25.results = #[.cell 6 3, .cell 7 4, .cell 8 25] := rfl
/-- Behind the check: the variables. -/
structure BF (t : Int) (w W : World) : Prop where
  tt : Boxed W w.heap.size 3 (.int .i64 t)
  r0 : Boxed W (w.heap.size + 1) 3 (.int .i64 0)
  r1 : Boxed W (w.heap.size + 1 + 1) 4 (.bool false)
  r2 : Boxed W (w.heap.size + 1 + 1 + 1) 25 (.int .i64 0)
  size : W.heap.size = w.heap.size + 5
  below : Below w.heap.size w W
theorem BF.made (t : Int) (c : Nat) (w : World) : BF t w (((((w.alloc (.cells #[.int .i64 t] 3)).alloc (.cells #[.int .i64 0] 3)).alloc (.cells #[.bool false] 4)).alloc (.cells #[.int .i64 0] 25)).alloc (.cells #[.int .u64 c] 24)) := by
  have h0 := ((((Boxed.new w 3 (.int .i64 t)).alloc (.cells #[.int .i64 0] 3)).alloc (.cells #[.bool false] 4)).alloc (.cells #[.int .i64 0] 25)).alloc (.cells #[.int .u64 c] 24)
  have h1 := (((Boxed.new (w.alloc (.cells #[.int .i64 t] 3)) 3 (.int .i64 0)).alloc (.cells #[.bool false] 4)).alloc (.cells #[.int .i64 0] 25)).alloc (.cells #[.int .u64 c] 24)
  have h2 := ((Boxed.new ((w.alloc (.cells #[.int .i64 t] 3)).alloc (.cells #[.int .i64 0] 3)) 4 (.bool false)).alloc (.cells #[.int .i64 0] 25)).alloc (.cells #[.int .u64 c] 24)
  have h3 := (Boxed.new (((w.alloc (.cells #[.int .i64 t] 3)).alloc (.cells #[.int .i64 0] 3)).alloc (.cells #[.bool false] 4)) 25 (.int .i64 0)).alloc (.cells #[.int .u64 c] 24)
  simp only [World.size_alloc] at h1 h2 h3
  exact ⟨h0, h1, h2, h3, by simp, below_alloc (below_alloc (below_alloc (below_alloc (below_alloc (Below.refl _ _) _) _) _) _) _⟩
theorem three_set {W : World} {B : Nat} {a0 a1 a2 : Value} (h0 : Boxed W (B + 1) 3 a0) (h1 : Boxed W (B + 1 + 1) 4 a1) (h2 : Boxed W (B + 1 + 1 + 1) 25 a2) (u0 u1 u2 : Value) :
    Boxed (((W.setCell ⟨B + 1, 0, none⟩ u0).setCell ⟨B + 1 + 1, 0, none⟩ u1).setCell ⟨B + 1 + 1 + 1, 0, none⟩ u2) (B + 1) 3 u0 ∧ Boxed (((W.setCell ⟨B + 1, 0, none⟩ u0).setCell ⟨B + 1 + 1, 0, none⟩ u1).setCell ⟨B + 1 + 1 + 1, 0, none⟩ u2) (B + 1 + 1) 4 u1 ∧
      Boxed (((W.setCell ⟨B + 1, 0, none⟩ u0).setCell ⟨B + 1 + 1, 0, none⟩ u1).setCell ⟨B + 1 + 1 + 1, 0, none⟩ u2) (B + 1 + 1 + 1) 25 u2 :=
  ⟨((h0.set u0).other (by omega) u1).other (by omega) u2, ((h1.other (by omega) u0).set u1).other (by omega) u2, ((h2.other (by omega) u0).other (by omega) u1).set u2⟩
theorem three_below {w W : World} (h : Below w.heap.size w W) (u0 u1 u2 : Value) : Below w.heap.size w (((W.setCell ⟨w.heap.size + 1, 0, none⟩ u0).setCell ⟨w.heap.size + 1 + 1, 0, none⟩ u1).setCell ⟨w.heap.size + 1 + 1 + 1, 0, none⟩ u2) :=
  ((h.setCell (p := ⟨w.heap.size + 1, 0, none⟩) (by show w.heap.size ≤ w.heap.size + 1; omega) u0).setCell (p := ⟨w.heap.size + 1 + 1, 0, none⟩) (by show w.heap.size ≤ w.heap.size + 1 + 1; omega) u1).setCell (p := ⟨w.heap.size + 1 + 1 + 1, 0, none⟩) (by show w.heap.size ≤ w.heap.size + 1 + 1 + 1; omega) u2
theorem three_free {W : World} {B : Nat} {a0 a1 a2 : Value} (h0 : Boxed W (B + 1) 3 a0) (h1 : Boxed W (B + 1 + 1) 4 a1) (h2 : Boxed W (B + 1 + 1 + 1) 25 a2) (u0 u1 : Value) :
    (W.cell? ⟨B + 1, 0, none⟩ = some a0 ∧ W.frozen? ⟨B + 1, 0, none⟩ = false) ∧ ((W.setCell ⟨B + 1, 0, none⟩ u0).cell? ⟨B + 1 + 1, 0, none⟩ = some a1 ∧ (W.setCell ⟨B + 1, 0, none⟩ u0).frozen? ⟨B + 1 + 1, 0, none⟩ = false) ∧
      (((W.setCell ⟨B + 1, 0, none⟩ u0).setCell ⟨B + 1 + 1, 0, none⟩ u1).cell? ⟨B + 1 + 1 + 1, 0, none⟩ = some a2 ∧ ((W.setCell ⟨B + 1, 0, none⟩ u0).setCell ⟨B + 1 + 1, 0, none⟩ u1).frozen? ⟨B + 1 + 1 + 1, 0, none⟩ = false) :=
  ⟨⟨h0.cell, h0.frozen⟩, ⟨(h1.other (by omega) u0).cell, (h1.other (by omega) u0).frozen⟩, ((h2.other (by omega) u0).other (by omega) u1).cell, ((h2.other (by omega) u0).other (by omega) u1).frozen⟩
theorem store_fn {W : World} {B : Nat} {v : Value} (h : Boxed W B 55 v) (fn : Fn) (cp : Array Value) : (store ⟨B, 0, none⟩ (.func fn #[] cp)).run Tryd.prog W = .ok () (W.setCell ⟨B, 0, none⟩ (.func fn #[] cp)) := by
  have h1 := h.cell
  have h2 := h.frozen
  rw [run_store Tryd.prog W _ (.func fn #[] cp) _ rfl]
  go_simp
/-- Behind the choice of the compare: its closure too, in a box. -/
structure LF (t : Int) (fv : Value) (w W1 W : World) : Prop where
  tt : Boxed W w.heap.size 3 (.int .i64 t)
  r0 : Boxed W (w.heap.size + 1) 3 (.int .i64 0)
  r1 : Boxed W (w.heap.size + 1 + 1) 4 (.bool false)
  r2 : Boxed W (w.heap.size + 1 + 1 + 1) 25 (.int .i64 0)
  hf : Boxed W W1.heap.size 55 fv
  size : W.heap.size = W1.heap.size + 1
  below : Below w.heap.size w W
theorem LF.made {t : Int} {w W1 : World} (h : BF t w W1) (fv : Value) : LF t fv w W1 ((W1.alloc (.cells #[.nilFunc] 55)).setCell ⟨W1.heap.size, 0, none⟩ fv) := by
  have hs := h.size
  exact ⟨(h.tt.alloc _).other (by omega) fv, (h.r0.alloc _).other (by omega) fv, (h.r1.alloc _).other (by omega) fv, (h.r2.alloc _).other (by omega) fv, (Boxed.new W1 55 .nilFunc).set fv, by simp, (below_alloc h.below _).setCell (p := ⟨W1.heap.size, 0, none⟩) (by show w.heap.size ≤ W1.heap.size; omega) fv⟩
theorem LF.turned {t : Int} {w W1 W : World} {fv : Value} (h : LF t fv w W1 W) (hs : W1.heap.size = w.heap.size + 5) (gv : Value) : LF t gv w W1 (W.setCell ⟨W1.heap.size, 0, none⟩ gv) :=
  ⟨h.tt.other (by omega) gv, h.r0.other (by omega) gv, h.r1.other (by omega) gv, h.r2.other (by omega) gv, h.hf.set gv, by rw [← h.size]; simp, h.below.setCell (p := ⟨W1.heap.size, 0, none⟩) (by show w.heap.size ≤ W1.heap.size; omega) gv⟩
theorem LF.first {t : Int} {w W1 : World} (h : BF t w W1) (fn : Fn) (cp : Array Value) : ∃ W2, (store ⟨W1.heap.size, 0, none⟩ (.func fn #[] cp)).run Tryd.prog (W1.alloc (.cells #[.nilFunc] 55)) = .ok () W2 ∧ LF t (.func fn #[] cp) w W1 W2 :=
  ⟨_, store_fn (Boxed.new W1 55 .nilFunc) fn cp, LF.made h _⟩
theorem LF.second {t : Int} {w W1 W : World} {fv : Value} (h : LF t fv w W1 W) (hs : W1.heap.size = w.heap.size + 5) (fn : Fn) (cp : Array Value) : ∃ W2, (store ⟨W1.heap.size, 0, none⟩ (.func fn #[] cp)).run Tryd.prog W = .ok () W2 ∧ LF t (.func fn #[] cp) w W1 W2 :=
  ⟨_, store_fn h.hf fn cp, LF.turned h hs _⟩
end Go.Proofs.YtgekpnbgmbbbdaaDoor
