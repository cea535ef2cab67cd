/- The walks of the table's small functions: at, bit, half, is, make. -/
import Derived.Test.YtbglnddjhlefnaaTb
namespace Go.Proofs.Ytbglnddjhlefnaa
open Go Go.RowKit Go.Proofs.YtbglnddjhlefnaaW.PrintWords Go.Proofs.YtbglnddjhlefnaaW.PrintLast Go.Proofs.YtbglnddjhlefnaaW.PrintMore
theorem size95 : (Try.prog.info? 95).map (·.size) = some 3 := by kernel_rfl
theorem load95 {w : World} {g : Nat} {cs : Array Value} {t : TypeId} {fr : Nat × Nat} (h : w.heap[g]? = some (.cells cs t fr)) (hs : cs.size = 3) : (loadVar 95 ⟨g, 0, none⟩).run Try.prog w = .ok (.agg cs) w :=
  run_loadVar_row w g t 95 cs fr _ h Try.underlying95 rfl (by rw [hs]; exact size95)
theorem results_c {P : Program} {fn : Func} {a : Tmp} {T : TypeId} (h : fn.results = #[.cell a T]) {tmps : Array Value} {w : World} {g : Nat} {V : Value} (hp : tmps.getD a undef = .pointer (some ⟨g, 0, none⟩)) (hl : (loadVar T ⟨g, 0, none⟩).run P w = .ok V w) :
    (results fn tmps).run P w = .ok V w := by
  have hp' : tmps[a]?.getD undef = .pointer (some ⟨g, 0, none⟩) := by simpa using hp
  simp [results, h, hp', asAddr, hl]
theorem blk_three {w : World} {g : Nat} {a0 a1 a2 : Value} {t : TypeId} (h : w.heap[g]? = some (.cells #[a0, a1, a2] t (0, 0))) (b0 b1 b2 : Value) :
    (((w.setCell ⟨g, 0, none⟩ b0).setCell ⟨g, 1, none⟩ b1).setCell ⟨g, 2, none⟩ b2).heap[g]? = some (.cells #[b0, b1, b2] t (0, 0)) := by
  have := blk_set (blk_set (blk_set h 0 b0) 1 b1) 2 b2
  simpa using this
theorem chg_three (w : World) (g : Nat) (b0 b1 b2 : Value) : Chg (fun k => k = g) w (((w.setCell ⟨g, 0, none⟩ b0).setCell ⟨g, 1, none⟩ b1).setCell ⟨g, 2, none⟩ b2) :=
  (((Chg.refl (fun k => k = g) w).set ⟨g, 0, none⟩ b0 (.inl rfl)).set ⟨g, 1, none⟩ b1 (.inl rfl)).set ⟨g, 2, none⟩ b2 (.inl rfl)
theorem field_b (a b c : Value) (w : World) : (Instr.field 95 (.agg #[a, b, c]) 0).run Try.prog w = .ok a w := by kernel_rfl
theorem field_l (a b c : Value) (w : World) : (Instr.field 95 (.agg #[a, b, c]) 1).run Try.prog w = .ok b w := by kernel_rfl
theorem field_h (a b c : Value) (w : World) : (Instr.field 95 (.agg #[a, b, c]) 2).run Try.prog w = .ok c w := by kernel_rfl
theorem res46 : Try.f46.results = #[.cell 4 95] := rfl
section
variable {g : Nat} {S : Nat → Prop} {T : Bd} {w : World}
theorem at_w (h : Tab g S T w) (a : Nat) (h2 : 2 ≤ a) (hv : Val T.N a) (hl : T.N.length ≤ 4000000000) :
    Calls Try.prog 46 #[.pointer (some ⟨g, 0, none⟩), .int .i64 a] w fun e w' => e = .returned (encN (ndAt T.N a)) ∧ Below w.heap.size w w' := by
  obtain ⟨rb, ub, kb, v, h⟩ := h
  obtain ⟨nb, cap, rfl, hS, c0, c1, c2, hc1, hc2⟩ := h.node a h2 hv
  have d4 := blk_cell h.box 4 (.slice (some ⟨nb, 0, none⟩) T.N.length cap) rfl
  have hgl := h.lt g h.sg
  have hnl := h.lt nb hS
  have hlen : a - 2 < T.N.length := by unfold Val at hv; omega
  obtain ⟨n, hn⟩ : ∃ n, n = T.N.length := ⟨_, rfl⟩
  rw [← hn] at d4 hlen hl hc1
  obtain ⟨x, hx⟩ : ∃ x, x = (ndAt T.N a).1 := ⟨_, rfl⟩
  obtain ⟨y, hy⟩ : ∃ y, y = (ndAt T.N a).2.1 := ⟨_, rfl⟩
  obtain ⟨z, hz⟩ : ∃ z, z = (ndAt T.N a).2.2 := ⟨_, rfl⟩
  rw [← hx] at c0
  rw [← hy] at c1
  rw [← hz] at c2
  have HX : Hid (ndAt T.N a = (x, y, z)) := Lib.hid (by rw [hx, hy, hz])
  have e4 := Lib.cell?_alloc_some (.cells #[.int .i64 0, .int .i64 0, .int .i64 0] 95) d4
  have e0 := Lib.cell?_alloc_some (.cells #[.int .i64 0, .int .i64 0, .int .i64 0] 95) c0
  have e1 := Lib.cell?_alloc_some (.cells #[.int .i64 0, .int .i64 0, .int .i64 0] 95) c1
  have e2 := Lib.cell?_alloc_some (.cells #[.int .i64 0, .int .i64 0, .int .i64 0] 95) c2
  have ha0 : 0 ≤ (a : Int) - 2 := by omega
  have ha1 : (a : Int) - 2 < (n : Int) := by omega
  have ha2 : ((a : Int) - 2).toNat = a - 2 := by omega
  clear h hS hx hy hz hn hv
  go_enter Try.func46, Try.ntmps46
  go_wp2_with fail
  refine bodyPost_ret_by (results_c res46 (g := w.heap.size) rfl (load95 (heap_alloc_new w _) rfl)) rfl ⟨?_, ?_⟩
  · rw [HX.out]
  · exact below_alloc (Below.refl w.heap.size w) _
set_option maxRecDepth 100000 in
theorem bit_w (h : Tab g S T w) (a : Nat) (hv : Val T.N a) (hl : T.N.length ≤ 4000000000) :
    Calls Try.prog 39 #[.pointer (some ⟨g, 0, none⟩), .int .i64 a] w fun e w' => e = .returned (.int .i64 (bitOf T.bits T.N a)) ∧ Below w.heap.size w w' := by
  rcases Nat.lt_or_ge a 2 with h2 | h2
  · obtain ⟨rb, ub, kb, v, h⟩ := h
    have d2 := blk_cell h.box 2 (.int .i64 T.bits) rfl
    rw [bitOf_end h2]
    have hd : decide ((a : Int) < 2) = true := decide_eq_true (by omega)
    obtain ⟨n, hn⟩ : ∃ n, n = T.bits := ⟨_, rfl⟩
    rw [← hn] at d2 ⊢
    clear hn h h2 hv hl
    go_enter Try.func39, Try.ntmps39
    go_wp2_with fail
    go_ret
    exact ⟨rfl, Below.refl _ _⟩
  · rw [bitOf_node h2]
    have hd : decide ((a : Int) < 2) = false := decide_eq_false (by omega)
    have HC := Lib.hid (at_w h a h2 hv hl)
    generalize ndAt T.N a = n at HC ⊢
    obtain ⟨n0, n1, n2⟩ := n
    have HC : Hid (Calls Try.prog 46 #[.pointer (some ⟨g, 0, none⟩), .int .i64 a] w fun e w' => e = .returned (.agg #[.int .i64 (n0 : Nat), .int .i64 (n1 : Nat), .int .i64 (n2 : Nat)]) ∧ Below w.heap.size w w') := HC
    show Calls Try.prog 39 #[.pointer (some ⟨g, 0, none⟩), .int .i64 a] w fun e w' => e = .returned (.int .i64 (n0 : Nat)) ∧ Below w.heap.size w w'
    have hf0 := field_b
    clear h h2 hv hl
    go_enter Try.func39, Try.ntmps39
    go_wp2_with fail
    refine HC.out.mono ?_
    rintro e w1 ⟨rfl, hb⟩
    have HB := Lib.hid hb
    clear hb
    go_wp2_with fail
    go_ret
    exact ⟨rfl, HB.out⟩
set_option maxRecDepth 100000 in
theorem half_w (h : Tab g S T w) (a bit : Nat) (hv : Val T.N a) (hl : T.N.length ≤ 4000000000) (hbit : bit < T.bits) (x : Bool) :
    Calls Try.prog 38 #[.pointer (some ⟨g, 0, none⟩), .int .i64 a, .int .i64 bit, .bool x] w fun e w' => e = .returned (.int .i64 (halfOf T.bits T.N a bit x)) ∧ Below w.heap.size w w' := by
  have HC := Lib.hid (bit_w h a hv hl)
  by_cases hb : bitOf T.bits T.N a ≠ bit
  · have he : halfOf T.bits T.N a bit x = a := by unfold halfOf; rw [if_pos hb]
    rw [he]
    have hd : ((bitOf T.bits T.N a : Int) != (bit : Int)) = true := by simp; omega
    generalize bitOf T.bits T.N a = n at HC hd
    clear h hv hl hbit hb he
    go_enter Try.func38, Try.ntmps38
    go_wp2_with fail
    refine HC.out.mono ?_
    rintro e w1 ⟨rfl, hb⟩
    have HB := Lib.hid hb
    clear hb
    go_wp2_with fail
    go_ret
    exact ⟨rfl, HB.out⟩
  · have h2 : 2 ≤ a := by
      rcases Nat.lt_or_ge a 2 with h2 | h2
      · rw [bitOf_end h2] at hb; omega
      · exact h2
    have hb' : bitOf T.bits T.N a = bit := by omega
    have HA : Hid (∀ w1, Below w.heap.size w w1 → Calls Try.prog 46 #[.pointer (some ⟨g, 0, none⟩), .int .i64 a] w1 fun e w' => e = .returned (encN (ndAt T.N a)) ∧ Below w1.heap.size w1 w') := Lib.hid (fun w1 hb1 => at_w (h.below hb1) a h2 hv hl)
    have hd : ((bit : Int) != (bit : Int)) = false := by simp
    have he : halfOf T.bits T.N a bit x = if x then (ndAt T.N a).2.2 else (ndAt T.N a).2.1 := by unfold halfOf; rw [if_neg hb]; rfl
    rw [hb'] at HC
    rw [he]
    generalize ndAt T.N a = n at HA
    obtain ⟨n0, n1, n2⟩ := n
    have HA : Hid (∀ w1, Below w.heap.size w w1 → Calls Try.prog 46 #[.pointer (some ⟨g, 0, none⟩), .int .i64 a] w1 fun e w' => e = .returned (.agg #[.int .i64 (n0 : Nat), .int .i64 (n1 : Nat), .int .i64 (n2 : Nat)]) ∧ Below w1.heap.size w1 w') := HA
    clear h hv hl hbit hb he hb'
    have hf0 := field_l
    have hf1 := field_h
    cases x
    all_goals
      go_enter Try.func38, Try.ntmps38
      go_wp2_with fail
      refine HC.out.mono ?_
      rintro e w1 ⟨rfl, hb⟩
      have HB := Lib.hid hb
      clear hb
      go_wp2_with fail
      refine (HA.out w1 HB.out).mono ?_
      rintro e w2 ⟨rfl, hb2⟩
      have HB2 := Lib.hid hb2
      clear hb2
      go_wp2_with fail
      go_ret
      exact ⟨rfl, below_trans' HB.out HB2.out HB.out.size⟩
set_option maxRecDepth 100000 in
theorem is_w (h : Tab g S T w) : Calls Try.prog 48 #[.pointer (some ⟨g, 0, none⟩)] w fun e w' => e = .returned (.bool true) ∧ w = w' := by
  obtain ⟨rb, ub, kb, v, h⟩ := h
  have d5 := blk_cell h.box 5 (.map (some kb)) rfl
  have hmn := fun (w : World) => run_neq_map_nil w 65 95 3 (some kb) Try.underlying65
  clear h
  go_enter Try.func48, Try.ntmps48
  go_wp2_with fail
  go_ret
  exact ⟨rfl, rfl⟩
end
end Go.Proofs.Ytbglnddjhlefnaa
