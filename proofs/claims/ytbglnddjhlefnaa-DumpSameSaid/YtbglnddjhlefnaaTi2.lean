/- The walk of walk, the step and the whole; list. -/
import Derived.Test.YtbglnddjhlefnaaTh
namespace Go.Proofs.Ytbglnddjhlefnaa
open Go Go.RowKit Go.Proofs.YtbglnddjhlefnaaW.PrintWords Go.Proofs.YtbglnddjhlefnaaW.PrintLast Go.Proofs.YtbglnddjhlefnaaW.PrintMore
/-- A local node's box. -/
def Bn (g1 a b c : Nat) (w : World) : Prop := w.heap[g1]? = some (.cells #[.int .i64 a, .int .i64 b, .int .i64 c] 95 (0, 0))
theorem Bn.cells {g1 a b c : Nat} {w : World} (h : Bn g1 a b c w) : w.cell? ⟨g1, 0, none⟩ = some (.int .i64 a) ∧ w.cell? ⟨g1, 1, none⟩ = some (.int .i64 b) ∧ w.cell? ⟨g1, 2, none⟩ = some (.int .i64 c) :=
  ⟨blk_cell h 0 _ rfl, blk_cell h 1 _ rfl, blk_cell h 2 _ rfl⟩
section
variable {g lb mb : Nat} {S R : Nat → Prop} {T : Bd} {w w' : World} {v : Value} {L : List Nd} {D : At}
set_option maxRecDepth 100000 in
set_option maxHeartbeats 4000000 in
theorem walk_go (g a n0 n1 n2 x1 y1 : Nat) (w : World) (L : List Nd) (D : At) (R : Nat → Prop) (P1 : Nat → World → Prop) (ha : 2 ≤ a)
    (hk : (Instr.lookup 128 (.map (some mb)) (.int .i64 (a : Int)) true).run Try.prog w = .ok (.tuple #[.int .i64 0, .bool false]) w)
    (ca : Calls Try.prog 46 #[.pointer (some ⟨g, 0, none⟩), .int .i64 a] w fun e w' => e = .returned (.agg #[.int .i64 n0, .int .i64 n1, .int .i64 n2]) ∧ Below w.heap.size w w')
    (hx : ∀ w1, Below w.heap.size w w1 → Calls Try.prog 62 #[.pointer (some ⟨g, 0, none⟩), .int .i64 n1, .pointer (some ⟨lb, 0, none⟩), .map (some mb)] (w1.alloc (.cells #[.int .i64 n0, .int .i64 n1, .int .i64 n2] 95)) fun e w' => e = .returned (.int .i64 x1) ∧ P1 w1.heap.size w' ∧ Bn w1.heap.size n0 n1 n2 w')
    (hy : ∀ g1 W1, P1 g1 W1 → Calls Try.prog 62 #[.pointer (some ⟨g, 0, none⟩), .int .i64 n2, .pointer (some ⟨lb, 0, none⟩), .map (some mb)] W1 fun e w' => e = .returned (.int .i64 y1) ∧ Bn g1 n0 n1 n2 w' ∧ ∃ v R2, LsAt lb mb v R2 L D w' ∧ ¬ R2 g1 ∧ Gr R R2 w w')
    (hl : L.length ≤ 3000000000) :
    Calls Try.prog 62 #[.pointer (some ⟨g, 0, none⟩), .int .i64 a, .pointer (some ⟨lb, 0, none⟩), .map (some mb)] w (WkP lb mb R (L.length + 2, L ++ [(n0, x1, y1)], putG D a (L.length + 2)) w) := by
  have t1 : decide ((a : Int) < 2) = false := decide_eq_false (by omega)
  have HX := Lib.hid hx
  have HY := Lib.hid hy
  have CA := Lib.hid ca
  clear ha hx hy ca
  go_enter Try.func62, Try.ntmps62
  go_wp2_with fail
  clear hk
  refine CA.out.mono ?_
  rintro e w1 ⟨rfl, b1⟩
  have HXX := Lib.hid (HX.out w1 b1)
  have hbn : Bn w1.heap.size n0 n1 n2 (w1.alloc (.cells #[.int .i64 n0, .int .i64 n1, .int .i64 n2] 95)) := heap_alloc_new w1 _
  obtain ⟨z0, z1, z2⟩ := hbn.cells
  clear hbn b1 CA HX
  go_wp2_with fail
  refine HXX.out.mono ?_
  rintro e W1 ⟨rfl, p1, bx1⟩
  obtain ⟨g1, hg1⟩ : ∃ g1, g1 = w1.heap.size := ⟨_, rfl⟩
  rw [← hg1] at p1 bx1
  have HYY := Lib.hid (HY.out g1 W1 p1)
  obtain ⟨y0, y1', y2⟩ := bx1.cells
  rw [← hg1]
  clear p1 bx1 HXX HY z0 z1 z2 hg1
  go_wp2_with fail
  refine HYY.out.mono ?_
  rintro e W2 ⟨rfl, bx2, v, R2, h2, hn2, hg2⟩
  clear HYY y0 y1' y2
  obtain ⟨x0, x1', x2⟩ := bx2.cells
  have d0 := blk_cell h2.box 0 v rfl
  have f0 := blk_free h2.box 0
  have e0 := fun o => Lib.cell?_alloc_some o d0
  obtain ⟨nb, cap, w3, q1, q2, q3, q4, q5⟩ := (h2.drewN 1).push (n0, x1, y1) (by omega)
  have d0' := blk_cell q3 0 v rfl
  have f0' := blk_free q3 0
  obtain ⟨o, ho⟩ := q4.map.put K3 Try.underlying128 (a : Int) (.int .i64 ((L.length + 2 : Nat) : Int))
  rw [al_put] at ho
  obtain ⟨W4, hW4⟩ : ∃ W4, W4 = (w3.setCell ⟨lb, 0, none⟩ (.slice (some ⟨nb, 0, none⟩) (L.length + 1) cap)).putObj mb o := ⟨_, rfl⟩
  have hup : (Instr.mapUpdate 128 (.map (some mb)) (.int .i64 (a : Int)) (.int .i64 ((L.length : Int) + 1 + 1))).run Try.prog (w3.setCell ⟨lb, 0, none⟩ (.slice (some ⟨nb, 0, none⟩) (L.length + 1) cap)) = .ok () W4 := by
    have := (ho 0).1
    rw [show (((L.length + 2 : Nat) : Int)) = (L.length : Int) + 1 + 1 by omega] at this
    rw [hW4]
    exact this
  have h4 : LsAt lb mb (.slice (some ⟨nb, 0, none⟩) (L.length + 1) cap) (fun k => R2 k ∨ k = nb) (L ++ [(n0, x1, y1)]) (putG D a (L.length + 2)) W4 := by
    have far : ∀ k, k ≠ mb → W4.heap[k]? = (w3.setCell ⟨lb, 0, none⟩ (.slice (some ⟨nb, 0, none⟩) (L.length + 1) cap)).heap[k]? := fun k hk => by rw [hW4]; exact putObj_far _ _ _ _ hk
    refine ⟨q4.rl, q4.rm, fun k hk => ?_, (far lb q4.ne.1).trans q4.box, ?_, ownsRow_step q4.row (fun k hk => far k (q4.ne.2 k hk).2), q4.rn⟩
    · rw [hW4, putObj_size]; exact q4.lt k hk
    · rw [hW4]; exact (ho 0).2
  have hg4 : Gr R (fun k => R2 k ∨ k = nb) w W4 := by
    have h1 : Gr R2 (fun k => R2 k ∨ k = nb) W2 (w3.setCell ⟨lb, 0, none⟩ (.slice (some ⟨nb, 0, none⟩) (L.length + 1) cap)) := ⟨q5.up, q5.new, ⟨q5.chg.os, q5.chg.tape, q5.chg.output, q5.chg.size, q5.chg.block⟩⟩
    have h2 := hg2.trans h1
    refine ⟨h2.up, h2.new, ?_⟩
    rw [hW4]
    exact h2.chg.trans (chg_putObj _ mb o) (fun i hi => by rw [hi]; exact h2.new mb q4.rm)
  have hlook : (Instr.lookup 128 (.map (some mb)) (.int .i64 (a : Int)) false).run Try.prog W4 = .ok (.int .i64 ((L.length + 2 : Nat) : Int)) W4 := by
    have := h4.map.look K3 Try.underlying128 (k := (a : Int)) (zero3 W4) false
    rw [al_get, getG_putG] at this
    exact this
  have z4 := blk_cell q4.box 0 (.slice (some ⟨nb, 0, none⟩) (L.length + 1) cap) rfl
  have HAP := Lib.hid q1
  have HUP := Lib.hid hup
  have H4 := Lib.hid h4
  have HG4 := Lib.hid hg4
  have HLK := Lib.hid hlook
  obtain ⟨m, hm⟩ : ∃ m, m = L.length := ⟨_, rfl⟩
  rw [← hm] at HAP HUP z4 hl
  have HM := Lib.hid hm
  clear q1 q2 q3 q4 q5 ho hup h4 hg4 hlook hW4 h2 hg2 hn2 bx2 hm
  go_upto_region 9 with fail
  go_cut [] (fun wx => wx = w3.setCell ⟨lb, 0, none⟩ (.slice (some ⟨nb, 0, none⟩) (m + 1) cap))
  case first =>
    go_region_law (first
      | (refine step_append_run (by rfl) (.tmp 43) (.tmp 49) 54 (by rfl) v (.slice (some ⟨W2.heap.size, 0, none⟩) 1 1) (by rfl) (by rfl) (.slice (some ⟨nb, 0, none⟩) (m + 1) cap) w3 HAP.out ?_))
    all_goals
      go_wp2_with fail
      go_meet
      rfl
  case rest =>
    subst hcut
    clear d0 f0 e0 d0' f0' x0 x1' x2 HAP
    generalize w3.setCell ⟨lb, 0, none⟩ (.slice (some ⟨nb, 0, none⟩) (m + 1) cap) = W3 at *
    go_wp2_with fail
    rw [HUP.out]
    clear z4
    go_wp2_with fail
    rw [HLK.out]
    go_wp2_with fail
    go_ret
    exact ⟨rfl, _, ⟨_, H4.out⟩, HG4.out⟩
theorem Gr.tab {R' : Nat → Prop} (hg : Gr R R' w w') (h : Tab g S T w) (hR : ∀ k, R k → ¬ S k) : Tab g S T w' := h.step hg.chg.size (fun k hk hl => hg.chg.block k hl (fun hr => hR k hr hk))
theorem Gr.apart {R' : Nat → Prop} (hg : Gr R R' w w') (h : Tab g S T w) (hR : ∀ k, R k → ¬ S k) : ∀ k, R' k → ¬ S k := fun k hk hs => (hg.new k hk).elim (fun h1 => hR k h1 hs) (fun h1 => by have := h.lt k hs; omega)
theorem walk_w : ∀ (f a : Nat) (L : List Nd) (D : At) (R : Nat → Prop) (w : World), Tab g S T w → WF T.bits T.N → T.N.length ≤ 4000000000 → (∀ k, R k → ¬ S k) → Ls lb mb R L D w → Val T.N a → a ≤ f → ∀ r, r = walkF T.N f a L D → r.2.1.length ≤ 3000000000 →
    Calls Try.prog 62 #[.pointer (some ⟨g, 0, none⟩), .int .i64 a, .pointer (some ⟨lb, 0, none⟩), .map (some mb)] w (WkP lb mb R r w) := by
  intro f
  induction f with
  | zero =>
    intro a L D R w h hw hN hR hL hv hf r hr hlen
    have : a = 0 := by omega
    subst this hr
    refine (walk_end 0 (by omega)).mono ?_
    rintro e w' ⟨rfl, rfl⟩
    exact ⟨rfl, R, hL, Gr.refl _ _⟩
  | succ f ih =>
    intro a L D R w h hw hN hR hL hv hf r hr hlen
    rw [walkF] at hr
    by_cases ha : a < 2
    · rw [if_pos ha] at hr
      subst hr
      refine (walk_end a ha).mono ?_
      rintro e w' ⟨rfl, rfl⟩
      exact ⟨rfl, R, hL, Gr.refl _ _⟩
    rw [if_neg ha] at hr
    cases hg : getG D a with
    | some i =>
      rw [hg] at hr
      subst hr
      obtain ⟨v, hA⟩ := hL
      refine (walk_hit a i (by omega) hA.map hg).mono ?_
      rintro e w' ⟨rfl, rfl⟩
      exact ⟨rfl, R, ⟨v, hA⟩, Gr.refl _ _⟩
    | none =>
      rw [hg] at hr
      simp only at hr
      obtain ⟨_, a1, a2, _⟩ := hw.at_ (a := a) (by omega) hv
      have vl := hv.lo hw (by omega)
      have vh := hv.hi hw (by omega)
      have hat := at_w h a (by omega) hv hN
      generalize hnd : ndAt T.N a = n at hr a1 a2 vl vh hat
      obtain ⟨n0, n1, n2⟩ := n
      have hr : r = ((walkF T.N f n2 (walkF T.N f n1 L D).2.1 (walkF T.N f n1 L D).2.2).2.1.length + 2, (walkF T.N f n2 (walkF T.N f n1 L D).2.1 (walkF T.N f n1 L D).2.2).2.1 ++ [(n0, (walkF T.N f n1 L D).1, (walkF T.N f n2 (walkF T.N f n1 L D).2.1 (walkF T.N f n1 L D).2.2).1)], putG (walkF T.N f n2 (walkF T.N f n1 L D).2.1 (walkF T.N f n1 L D).2.2).2.2 a ((walkF T.N f n2 (walkF T.N f n1 L D).2.1 (walkF T.N f n1 L D).2.2).2.1.length + 2)) := hr
      have hn1f : n1 ≤ f := by
        have h9 : n1 < a := a1
        omega
      have hn2f : n2 ≤ f := by
        have h9 : n2 < a := a2
        omega
      have hlx := walkF_len T.N f n2 (walkF T.N f n1 L D).2.1 (walkF T.N f n1 L D).2.2
      obtain ⟨x, hx⟩ : ∃ x, x = walkF T.N f n1 L D := ⟨_, rfl⟩
      rw [← hx] at hr hlx
      obtain ⟨y, hy⟩ : ∃ y, y = walkF T.N f n2 x.2.1 x.2.2 := ⟨_, rfl⟩
      rw [← hy] at hr hlx
      have hly : y.2.1.length ≤ 3000000000 := by
        rw [hr] at hlen
        simp only [List.length_append, List.length_singleton] at hlen
        omega
      rw [hr]
      obtain ⟨v, hA⟩ := hL
      have hk := hA.map.look K3 Try.underlying128 (k := (a : Int)) (zero3 w) true
      rw [al_get, hg] at hk
      refine walk_go g a n0 n1 n2 x.1 y.1 w y.2.1 y.2.2 R (fun g1 W1 => Tab g S T W1 ∧ ∃ R1, Ls lb mb R1 x.2.1 x.2.2 W1 ∧ (∀ k, R1 k → ¬ S k) ∧ ¬ R1 g1 ∧ Gr R R1 w W1 ∧ Bn g1 n0 n1 n2 W1) (by omega) hk hat ?_ ?_ hly
      · intro w1 hb
        have hb2 : Below w.heap.size w (w1.alloc (.cells #[.int .i64 n0, .int .i64 n1, .int .i64 n2] 95)) := below_alloc hb _
        have hsz : (w1.alloc (.cells #[.int .i64 n0, .int .i64 n1, .int .i64 n2] 95)).heap.size = w1.heap.size + 1 := World.size_alloc _ _
        refine (ih n1 L D R _ (h.below hb2) hw hN hR ⟨v, hA.below hb2⟩ vl hn1f x hx (by omega)).mono ?_
        rintro e W1 ⟨rfl, R1, l1, g1⟩
        have hnR : ¬ R w1.heap.size := fun hr => by have := hA.lt _ hr; have := hb.size; omega
        have hbn : Bn w1.heap.size n0 n1 n2 W1 := (g1.chg.block _ (by omega) hnR).trans (heap_alloc_new w1 _)
        refine ⟨rfl, ⟨g1.tab (h.below hb2) hR, R1, l1, g1.apart (h.below hb2) hR, fun hr => (g1.new _ hr).elim hnR (fun h => by omega), (Gr.of_below hb2 R).trans g1, hbn⟩, hbn⟩
      · rintro g1 W1 ⟨ht, R1, l1, hR1, hn1, hg1, hbn⟩
        refine (ih n2 x.2.1 x.2.2 R1 W1 ht hw hN hR1 l1 vh hn2f y hy hly).mono ?_
        rintro e W2 ⟨rfl, R2, ⟨v2, l2⟩, g2⟩
        exact ⟨rfl, (g2.chg.block _ (blk_lt' hbn) hn1).trans hbn, v2, R2, l2, fun hr => (g2.new _ hr).elim hn1 (fun h => by have := blk_lt' hbn; omega), hg1.trans g2⟩
/-- What a list is in memory. -/
def LiP (v : Value) (L : List Nd) (w w' : World) : Prop := w'.ownsRow 0 83 3 v L.length (flatN L) ∧ (∀ n, v.ownBlock = some n → w.heap.size ≤ n ∧ n < w'.heap.size) ∧ Below w.heap.size w w'
set_option maxRecDepth 100000 in
set_option maxHeartbeats 1000000 in
theorem list_w (h : Tab g S T w) (hw : WF T.bits T.N) (hN : T.N.length ≤ 4000000000) (a : Nat) (hv : Val T.N a) (hlen : (listF T.N a).length ≤ 3000000000) :
    Calls Try.prog 49 #[.pointer (some ⟨g, 0, none⟩), .int .i64 a] w fun e w' => ∃ v, e = .returned v ∧ LiP v (listF T.N a) w w' := by
  obtain ⟨W1, hW1⟩ : ∃ W1, W1 = (w.alloc (.cells #[.slice none 0 0] 54)).alloc (.map #[] 0) := ⟨_, rfl⟩
  have hmm := run_makeMap0 (w.alloc (.cells #[.slice none 0 0] 54)) 128
  have hsz0 : (w.alloc (.cells #[.slice none 0 0] 54)).heap.size = w.heap.size + 1 := World.size_alloc _ _
  rw [hsz0, ← hW1] at hmm
  have hb : Below w.heap.size w W1 := by rw [hW1]; exact below_alloc (below_alloc (Below.refl _ _) _) _
  have hsz : W1.heap.size = w.heap.size + 1 + 1 := by rw [hW1, World.size_alloc, hsz0]
  have hL : Ls w.heap.size (w.heap.size + 1) (fun k => k = w.heap.size ∨ k = w.heap.size + 1) [] [] W1 := by
    refine ⟨.slice none 0 0, .inl rfl, .inr rfl, ?_, ?_, ?_, World.ownsRow_nil _ 0 83 3, fun n hn => by cases hn⟩
    · rintro k (rfl | rfl) <;> omega
    · rw [hW1, heap_alloc_old _ _ (by omega)]
      exact heap_alloc_new w _
    · rw [hW1, ← hsz0]
      exact MapG.made _ _
  have hR : ∀ k, (k = w.heap.size ∨ k = w.heap.size + 1) → ¬ S k := by
    rintro k (rfl | rfl) hs
    · exact Nat.lt_irrefl _ (h.lt _ hs)
    · have := h.lt _ hs; omega
  have HC := Lib.hid (walk_w a a [] [] _ W1 (h.below hb) hw hN hR hL hv (Nat.le_refl _) _ rfl hlen)
  have HB := Lib.hid hb
  have HS := Lib.hid hsz
  have HL : Hid (listF T.N a = (walkF T.N a a [] []).2.1) := Lib.hid rfl
  generalize listF T.N a = L at HL ⊢
  generalize walkF T.N a a [] [] = r at HC HL
  have hL2 := HL.out
  subst hL2
  clear h hw hN hv hlen hb hsz hsz0 hL hR HL hW1
  go_enter Try.func49, Try.ntmps49
  go_wp2_with fail
  refine HC.out.mono ?_
  rintro e w' ⟨rfl, R', ⟨v, l2⟩, g2⟩
  have d0 := blk_cell l2.box 0 v rfl
  have L2 := Lib.hid l2
  have G2 := Lib.hid g2
  clear l2 g2
  go_wp2_with fail
  go_ret
  refine ⟨v, rfl, L2.out.row, fun n hn => ⟨?_, L2.out.lt n (L2.out.rn n hn)⟩, ?_⟩
  · have := HS.out
    rcases G2.out.new n (L2.out.rn n hn) with (h | h) | h <;> omega
  · exact ((Chg.of_below HB.out (fun _ => False)).trans G2.out.chg (fun i hi => .inr (by rcases hi with h | h <;> omega))).below (fun _ h => h.elim) (Nat.le_refl _)
end
end Go.Proofs.Ytbglnddjhlefnaa
