/- The document's table; Write; made; awake of layer 4; DumpNobody. -/
import Derived.Test.YtbglnddjhlefnaaWw
namespace Go.Proofs.Ytbglnddjhlefnaa
open Go Go.RowKit Go.Proofs.YtbglnddjhlefnaaW.PrintWords Go.Proofs.YtbglnddjhlefnaaW.PrintLast Go.Proofs.YtbglnddjhlefnaaW.PrintMore
theorem Try.info4 : (Try.prog.info? 4).map (fun i => (i.zero, i.size, i.bytes)) = some (some (.bool false), 1, 1) := by kernel_rfl
/-- The document's table: its width, its limit, its nodes, what is used, what was told. -/
structure Rd where
  bits : Nat
  lim : Nat
  N : List Nd
  used : List Bool
  told : List Bool
abbrev Rd.cells (T : Rd) (vN vU vT : Value) : Array Value := #[.int .i64 T.bits, .int .i64 T.lim, vN, vU, vT]
structure RTabAt (g : Nat) (vN vU vT : Value) (S : Nat → Prop) (T : Rd) (w : World) : Prop where
  sg : S g
  lt : ∀ k, S k → k < w.heap.size
  box : w.heap[g]? = some (.cells (T.cells vN vU vT) 111 (0, 0))
  rowN : w.ownsRow 0 83 3 vN T.N.length (flatN T.N)
  rowU : w.ownsRow 0 4 1 vU T.used.length (T.used.map Value.bool)
  rowT : w.ownsRow 0 4 1 vT T.told.length (T.told.map Value.bool)
  nN : ∀ n, vN.ownBlock = some n → S n
  nU : ∀ n, vU.ownBlock = some n → S n
  nT : ∀ n, vT.ownBlock = some n → S n
  ut : ∀ n, vU.ownBlock = some n → vT.ownBlock ≠ some n
/-- A table whose rows are as long as each other. -/
def RTab (g : Nat) (S : Nat → Prop) (T : Rd) (w : World) : Prop := ∃ vN vU vT, RTabAt g vN vU vT S T w ∧ T.used.length = T.N.length ∧ T.told.length = T.N.length
theorem own_type {w : World} {e : TypeId} {size n : Nat} {v : Value} {xs : List Value} (h : w.ownsRow 0 e size v n xs) (k : Nat) (hk : v.ownBlock = some k) : ∃ cur, w.heap[k]? = some (.cells cur e (0, 0)) := by
  rcases h.2 with ⟨rfl, _⟩ | ⟨q, cap, cur, rfl, _, hc, _⟩
  · cases hk
  · simp only [Value.ownBlock, Option.some.injEq] at hk
    exact ⟨cur, hk ▸ hc⟩
theorem own_slice {w : World} {e : TypeId} {size n : Nat} {v : Value} {xs : List Value} (h : w.ownsRow 0 e size v n xs) : ∃ A c, v = .slice A n c := by
  rcases h.2 with ⟨rfl, h0⟩ | ⟨q, cap, cur, rfl, _⟩
  · exact ⟨none, 0, by rw [h0]⟩
  · exact ⟨_, _, rfl⟩
section
variable {g : Nat} {vN vU vT : Value} {S S' : Nat → Prop} {T : Rd} {w w' : World}
theorem RTabAt.step (h : RTabAt g vN vU vT S T w) (hs : w.heap.size ≤ w'.heap.size) (hb : ∀ k, S k → k < w.heap.size → w'.heap[k]? = w.heap[k]?) : RTabAt g vN vU vT S T w' := by
  have hb' : ∀ k, S k → w'.heap[k]? = w.heap[k]? := fun k hk => hb k hk (h.lt k hk)
  exact ⟨h.sg, fun k hk => Nat.lt_of_lt_of_le (h.lt k hk) hs, (hb' g h.sg).trans h.box, ownsRow_step h.rowN (fun k hk => hb' k (h.nN k hk)), ownsRow_step h.rowU (fun k hk => hb' k (h.nU k hk)), ownsRow_step h.rowT (fun k hk => hb' k (h.nT k hk)), h.nN, h.nU, h.nT, h.ut⟩
theorem RTab.step (h : RTab g S T w) (hs : w.heap.size ≤ w'.heap.size) (hb : ∀ k, S k → k < w.heap.size → w'.heap[k]? = w.heap[k]?) : RTab g S T w' := by
  obtain ⟨vN, vU, vT, h, h1, h2⟩ := h
  exact ⟨vN, vU, vT, h.step hs hb, h1, h2⟩
theorem RTab.below (h : RTab g S T w) (hb : Below w.heap.size w w') : RTab g S T w' := h.step hb.size (fun k _ hl => hb.block k hl)
theorem RTab.drewN (h : RTab g S T w) (n : Nat) : RTab g S T (w.drewN n) := h.step (Nat.le_refl _) (fun _ _ _ => rfl)
theorem RTabAt.below (h : RTabAt g vN vU vT S T w) (hb : Below w.heap.size w w') : RTabAt g vN vU vT S T w' := h.step hb.size (fun k _ hl => hb.block k hl)
theorem RTab.lt (h : RTab g S T w) : ∀ k, S k → k < w.heap.size := by
  obtain ⟨vN, vU, vT, h, _⟩ := h
  exact h.lt
theorem RTab.sg (h : RTab g S T w) : S g := by
  obtain ⟨vN, vU, vT, h, _⟩ := h
  exact h.sg
theorem two_types {b : Nat} {c1 c2 : Array Value} {t1 t2 : TypeId} (h1 : w.heap[b]? = some (.cells c1 t1 (0, 0))) (h2 : w.heap[b]? = some (.cells c2 t2 (0, 0))) : t1 = t2 := by
  rw [h1] at h2
  injection h2 with h2
  injection h2
theorem RTabAt.apart (h : RTabAt g vN vU vT S T w) : (∀ n, vN.ownBlock = some n → n ≠ g ∧ vU.ownBlock ≠ some n ∧ vT.ownBlock ≠ some n) ∧ (∀ n, vU.ownBlock = some n → n ≠ g) ∧ ∀ n, vT.ownBlock = some n → n ≠ g := by
  refine ⟨fun n hn => ⟨fun e => ?_, fun e => ?_, fun e => ?_⟩, fun n hn e => ?_, fun n hn e => ?_⟩
  · obtain ⟨c, hc⟩ := own_type h.rowN n hn
    have := two_types hc (e ▸ h.box)
    cases this
  · obtain ⟨c, hc⟩ := own_type h.rowN n hn
    obtain ⟨c2, hc2⟩ := own_type h.rowU n e
    have := two_types hc hc2
    cases this
  · obtain ⟨c, hc⟩ := own_type h.rowN n hn
    obtain ⟨c2, hc2⟩ := own_type h.rowT n e
    have := two_types hc hc2
    cases this
  · obtain ⟨c, hc⟩ := own_type h.rowU n hn
    have := two_types hc (e ▸ h.box)
    cases this
  · obtain ⟨c, hc⟩ := own_type h.rowT n hn
    have := two_types hc (e ▸ h.box)
    cases this
/-- The node in place i. -/
theorem row_node {v : Value} {N : List Nd} (h : w.ownsRow 0 83 3 v N.length (flatN N)) (i : Nat) (n : Nd) (hi : N[i]? = some n) : ∃ nb cap, v = .slice (some ⟨nb, 0, none⟩) N.length cap ∧ w.cell? ⟨nb, i * 3, none⟩ = some (.int .i64 n.1) ∧ w.cell? ⟨nb, i * 3 + 1, none⟩ = some (.int .i64 n.2.1) ∧ w.cell? ⟨nb, i * 3 + 2, none⟩ = some (.int .i64 n.2.2) := by
  have hlen := (List.getElem?_eq_some_iff.1 hi).1
  rcases h.2 with ⟨_, h0⟩ | ⟨q, cap, cur, rfl, _, hc, hcap, hm, hcs, htk⟩
  · omega
  refine ⟨q, cap, rfl, ?_, ?_, ?_⟩
  all_goals
    rw [cell_of_row w q _ cur 83 (0, 0) hc]
    obtain ⟨q1, q2, q3⟩ := flatN_at N i _ hi
    rw [← htk] at q1 q2 q3
    rw [List.getElem?_take, Array.getElem?_toList] at q1 q2 q3
    rw [if_pos (by omega)] at q1 q2 q3
    assumption
set_option maxRecDepth 100000 in
theorem rbit_w (h : RTab g S T w) (a : Nat) (hv : Val T.N a) (hl : T.N.length ≤ 4000000000) :
    Calls Try.prog 69 #[.pointer (some ⟨g, 0, none⟩), .int .i64 a] w fun e w' => e = .returned (.int .i64 (bitOf T.bits T.N a)) ∧ w = w' := by
  obtain ⟨vN, vU, vT, h, _⟩ := h
  rcases Nat.lt_or_ge a 2 with h2 | h2
  · have d0 := blk_cell h.box 0 (.int .i64 T.bits) rfl
    rw [bitOf_end h2]
    have hd : decide ((a : Int) < 2) = true := decide_eq_true (by omega)
    obtain ⟨n, hn⟩ : ∃ n, n = T.bits := ⟨_, rfl⟩
    rw [← hn] at d0 ⊢
    clear hn h h2 hv hl
    go_enter Try.func69, Try.ntmps69
    go_wp2_with fail
    go_ret
    exact ⟨rfl, rfl⟩
  · rw [bitOf_node h2]
    have hd : decide ((a : Int) < 2) = false := decide_eq_false (by omega)
    have hlen : a - 2 < T.N.length := by unfold Val at hv; omega
    obtain ⟨nb, cap, rfl, c0, c1, c2⟩ := row_node h.rowN (a - 2) _ (ndAt_some h2 hv)
    have d2 := blk_cell h.box 2 (.slice (some ⟨nb, 0, none⟩) T.N.length cap) rfl
    show Calls Try.prog 69 #[.pointer (some ⟨g, 0, none⟩), .int .i64 a] w fun e w' => e = .returned (.int .i64 ((ndAt T.N a).1 : Nat)) ∧ w = w'
    obtain ⟨n, hn⟩ : ∃ n, n = T.N.length := ⟨_, rfl⟩
    rw [← hn] at d2 hlen hl
    generalize (ndAt T.N a).1 = x at c0 ⊢
    have ha0 : 0 ≤ (a : Int) - 2 := by omega
    have ha1 : (a : Int) - 2 < (n : Int) := by omega
    have ha2 : ((a : Int) - 2).toNat = a - 2 := by omega
    clear h c1 c2 hn hv
    go_enter Try.func69, Try.ntmps69
    go_wp2_with fail
    go_ret
    exact ⟨rfl, rfl⟩
set_option maxRecDepth 100000 in
theorem rhalf_w (h : RTab g S T w) (a bit : Nat) (hv : Val T.N a) (hl : T.N.length ≤ 4000000000) (hbit : bit < T.bits) (x : Bool) :
    Calls Try.prog 70 #[.pointer (some ⟨g, 0, none⟩), .int .i64 a, .int .i64 bit, .bool x] w fun e w' => e = .returned (.int .i64 (halfOf T.bits T.N a bit x)) ∧ w = w' := by
  have HC := Lib.hid (rbit_w h a hv hl)
  by_cases hb : bitOf T.bits T.N a ≠ bit
  · have he : halfOf T.bits T.N a bit x = a := by unfold halfOf; rw [if_pos hb]
    rw [he]
    have hd : ((bitOf T.bits T.N a : Int) != (bit : Int)) = true := by simp; omega
    generalize bitOf T.bits T.N a = n at HC hd
    clear h hv hl hbit hb he
    go_enter Try.func70, Try.ntmps70
    go_wp2_with fail
    refine HC.out.mono ?_
    rintro e w1 ⟨rfl, rfl⟩
    go_wp2_with fail
    go_ret
    exact ⟨rfl, rfl⟩
  · have h2 : 2 ≤ a := by
      rcases Nat.lt_or_ge a 2 with h2 | h2
      · rw [bitOf_end h2] at hb; omega
      · exact h2
    have hb' : bitOf T.bits T.N a = bit := by omega
    have hd : ((bit : Int) != (bit : Int)) = false := by simp
    have he : halfOf T.bits T.N a bit x = if x then (ndAt T.N a).2.2 else (ndAt T.N a).2.1 := by unfold halfOf; rw [if_neg hb]; rfl
    obtain ⟨vN, vU, vT, h, _⟩ := h
    have hlen : a - 2 < T.N.length := by unfold Val at hv; omega
    obtain ⟨nb, cap, rfl, c0, c1, c2⟩ := row_node h.rowN (a - 2) _ (ndAt_some h2 hv)
    have d2 := blk_cell h.box 2 (.slice (some ⟨nb, 0, none⟩) T.N.length cap) rfl
    rw [hb'] at HC
    rw [he]
    obtain ⟨n, hn⟩ : ∃ n, n = T.N.length := ⟨_, rfl⟩
    rw [← hn] at d2 hlen hl
    generalize (ndAt T.N a).2.1 = y at c1 ⊢
    generalize (ndAt T.N a).2.2 = z at c2 ⊢
    have ha0 : 0 ≤ (a : Int) - 2 := by omega
    have ha1 : (a : Int) - 2 < (n : Int) := by omega
    have ha2 : ((a : Int) - 2).toNat = a - 2 := by omega
    clear h hv hbit hb he hb' hn c0
    cases x
    all_goals
      go_enter Try.func70, Try.ntmps70
      go_wp2_with fail
      refine HC.out.mono ?_
      rintro e w1 ⟨rfl, rfl⟩
      go_wp2_with fail
      go_ret
      exact ⟨rfl, rfl⟩
end
end Go.Proofs.Ytbglnddjhlefnaa
namespace Go.Proofs.Ytbglnddjhlefnaa
open Go Go.RowKit Go.Proofs.YtbglnddjhlefnaaW.PrintWords Go.Proofs.YtbglnddjhlefnaaW.PrintLast Go.Proofs.YtbglnddjhlefnaaW.PrintMore
section
variable {w w' : World} {v : Value}
/-- What an append to a row of its own did. -/
structure Ap (v : Value) (n : Nat) (nb cap : Nat) (e : TypeId) (size : Nat) (xs : List Value) (w w3 : World) : Prop where
  row : w3.ownsRow 0 e size (.slice (some ⟨nb, 0, none⟩) (n + 1) cap) (n + 1) xs
  who : v.ownBlock = some nb ∨ w.heap.size ≤ nb
  lt : nb < w3.heap.size
  chg : Chg (fun k => v.ownBlock = some k) w w3
theorem node_push {N : List Nd} (h : w.ownsRow 0 83 3 v N.length (flatN N)) (b lo hi : Nat) (hl : N.length ≤ 4000000000) :
    ∃ nb cap w3, (Builtin.append_ #[54, 54] 54 #[v, .slice (some ⟨w.heap.size, 0, none⟩) 1 1]).run Try.prog (w.alloc (.cells #[.int .i64 b, .int .i64 lo, .int .i64 hi] 83)) = .ok (.slice (some ⟨nb, 0, none⟩) (N.length + 1) cap) w3 ∧ Ap v N.length nb cap 83 3 (flatN (N ++ [(b, lo, hi)])) w w3 := by
  obtain ⟨i0, hinf, hzz⟩ := Option.map_eq_some_iff.1 Try.info83
  simp only [Prod.mk.injEq] at hzz
  have hbx := heap_alloc_new w (.cells #[.int .i64 b, .int .i64 lo, .int .i64 hi] 83)
  have h1 : (w.alloc (.cells #[.int .i64 b, .int .i64 lo, .int .i64 hi] 83)).ownsRow 0 83 3 v N.length (flatN N) := ownsRow_step h (fun k hk => by
    obtain ⟨c, hc⟩ := own_type h k hk
    exact heap_alloc_old w _ (blk_lt' hc))
  have hnews : ∀ (j : Nat) (u : Value), [Value.int .i64 b, .int .i64 lo, .int .i64 hi][j]? = some u → (w.alloc (.cells #[.int .i64 b, .int .i64 lo, .int .i64 hi] 83)).cell? ((⟨w.heap.size, 0, none⟩ : Addr).add j) = some u := by
    intro j u hj
    rw [add_at, cell_of_row _ w.heap.size _ _ 83 (0, 0) hbx, Nat.zero_add]
    match j, hj with
    | 0, hj => exact hj
    | 1, hj => exact hj
    | 2, hj => exact hj
  obtain ⟨v', w3, hrun, hown, hgr, hnil, hwho⟩ := run_append_own_at (P := Try.prog) (w.alloc (.cells #[.int .i64 b, .int .i64 lo, .int .i64 hi] 83)) 0 54 54 83 i0 _ 3 24 Try.underlying54 hinf hzz.1 hzz.2.1 hzz.2.2 rfl (by omega) v N.length (flatN N) h1
    ⟨w.heap.size, 0, none⟩ 1 1 [.int .i64 b, .int .i64 lo, .int .i64 hi] rfl hnews (by simp [Value.oneCell']) (by simp only [maxLen]; omega) (by omega) (Nat.zero_le _)
  have hsz : (w.alloc (.cells #[.int .i64 b, .int .i64 lo, .int .i64 hi] 83)).heap.size = w.heap.size + 1 := World.size_alloc _ _
  rcases hown.2 with ⟨_, h0⟩ | ⟨nb, cap, cur, rfl, _, hh, hnc, hcm, hcs, htk⟩
  · omega
  have hs3 : w.heap.size ≤ w3.heap.size := by have := hgr.size; omega
  refine ⟨nb, cap, w3, hrun, ?_, ?_, (Array.getElem?_eq_some_iff.1 hh).1, hgr.os, hgr.tape, hgr.output, hs3, fun k hk hn => (hgr.block k (by omega) (fun e => hn e.symm)).trans (heap_alloc_old w _ hk)⟩
  · rw [flatN_snoc]
    exact hown
  · rcases hwho with he | he
    · exact .inl he.symm
    · simp only [Value.ownBlock, Option.some.injEq] at he
      exact .inr (by rw [he, hsz]; omega)
theorem bool_push {l : List Bool} (h : w.ownsRow 0 4 1 v l.length (l.map Value.bool)) (x : Bool) (hl : l.length ≤ 4000000000) :
    ∃ nb cap w3, (Builtin.append_ #[109, 109] 109 #[v, .slice (some ⟨w.heap.size, 0, none⟩) 1 1]).run Try.prog (w.alloc (.cells #[.bool x] 4)) = .ok (.slice (some ⟨nb, 0, none⟩) (l.length + 1) cap) w3 ∧ Ap v l.length nb cap 4 1 ((l ++ [x]).map Value.bool) w w3 := by
  obtain ⟨i0, hinf, hzz⟩ := Option.map_eq_some_iff.1 Try.info4
  simp only [Prod.mk.injEq] at hzz
  have hbx := heap_alloc_new w (.cells #[.bool x] 4)
  have h1 : (w.alloc (.cells #[.bool x] 4)).ownsRow 0 4 1 v l.length (l.map Value.bool) := ownsRow_step h (fun k hk => by
    obtain ⟨c, hc⟩ := own_type h k hk
    exact heap_alloc_old w _ (blk_lt' hc))
  have hnews : ∀ (j : Nat) (u : Value), [Value.bool x][j]? = some u → (w.alloc (.cells #[.bool x] 4)).cell? ((⟨w.heap.size, 0, none⟩ : Addr).add j) = some u := by
    intro j u hj
    rw [add_at, cell_of_row _ w.heap.size _ _ 4 (0, 0) hbx, Nat.zero_add]
    match j, hj with
    | 0, hj => exact hj
  obtain ⟨v', w3, hrun, hown, hgr, hnil, hwho⟩ := run_append_own_at (P := Try.prog) (w.alloc (.cells #[.bool x] 4)) 0 109 109 4 i0 _ 1 1 Try.underlying109 hinf hzz.1 hzz.2.1 hzz.2.2 rfl (by omega) v l.length (l.map Value.bool) h1
    ⟨w.heap.size, 0, none⟩ 1 1 [.bool x] rfl hnews (by simp [Value.oneCell']) (by simp only [maxLen]; omega) (by omega) (Nat.zero_le _)
  have hsz : (w.alloc (.cells #[.bool x] 4)).heap.size = w.heap.size + 1 := World.size_alloc _ _
  rcases hown.2 with ⟨_, h0⟩ | ⟨nb, cap, cur, rfl, _, hh, hnc, hcm, hcs, htk⟩
  · omega
  have hs3 : w.heap.size ≤ w3.heap.size := by have := hgr.size; omega
  refine ⟨nb, cap, w3, hrun, ?_, ?_, (Array.getElem?_eq_some_iff.1 hh).1, hgr.os, hgr.tape, hgr.output, hs3, fun k hk hn => (hgr.block k (by omega) (fun e => hn e.symm)).trans (heap_alloc_old w _ hk)⟩
  · rw [List.map_append]
    exact hown
  · rcases hwho with he | he
    · exact .inl he.symm
    · simp only [Value.ownBlock, Option.some.injEq] at he
      exact .inr (by rw [he, hsz]; omega)
end
section
variable {g : Nat} {vN vU vT : Value} {S S' : Nat → Prop} {T : Rd} {w w' : World}
theorem RTabAt.gb (h : RTabAt g vN vU vT S T w) {v : Value} (hv : v = vN ∨ v = vU ∨ v = vT) : (∀ n, v.ownBlock = some n → S n) ∧ v.ownBlock ≠ some g := by
  obtain ⟨a1, a2, a3⟩ := h.apart
  rcases hv with rfl | rfl | rfl
  · exact ⟨h.nN, fun e => (a1 g e).1 rfl⟩
  · exact ⟨h.nU, fun e => a2 g e rfl⟩
  · exact ⟨h.nT, fun e => a3 g e rfl⟩
/-- What is common to the three appends. -/
theorem RTabAt.ap (h : RTabAt g vN vU vT S T w) {v : Value} (hv : v = vN ∨ v = vU ∨ v = vT) {n nb cap size i : Nat} {e : TypeId} {xs : List Value} {w3 : World} (ha : Ap v n nb cap e size xs w w3) (he : e ≠ 111) (u : Value) :
    w3.heap[g]? = some (.cells (T.cells vN vU vT) 111 (0, 0)) ∧ nb ≠ g ∧ Gr S (fun k => S k ∨ k = nb) w (w3.setCell ⟨g, i, none⟩ u) ∧ (∀ k, k ≠ g → (w3.setCell ⟨g, i, none⟩ u).heap[k]? = w3.heap[k]?) ∧ (∀ k, S k ∨ k = nb → k < (w3.setCell ⟨g, i, none⟩ u).heap.size) := by
  obtain ⟨b1, b2⟩ := h.gb hv
  have hg3 : w3.heap[g]? = some (.cells (T.cells vN vU vT) 111 (0, 0)) := (ha.chg.block g (h.lt g h.sg) b2).trans h.box
  have hsz : (w3.setCell ⟨g, i, none⟩ u).heap.size = w3.heap.size := by simp [World.setCell]
  have hs3 := ha.chg.size
  refine ⟨hg3, ?_, ⟨fun k hk => .inl hk, ?_, ?_⟩, fun k hk => Below.heap_setCell _ _ _ _ hk, ?_⟩
  · intro e2
    obtain ⟨c, hc⟩ := own_type ha.row nb rfl
    exact he (two_types hc (e2 ▸ hg3))
  · rintro k (hk | rfl)
    · exact .inl hk
    · exact ha.who.imp (b1 _) id
  · exact (ha.chg.mono (fun k hk => b1 k hk)).set _ _ (.inl h.sg)
  · rintro k (hk | rfl)
    · rw [hsz]; have := h.lt k hk; omega
    · rw [hsz]; exact ha.lt
theorem RTabAt.pushN (h : RTabAt g vN vU vT S T w) (b lo hi : Nat) (hl : T.N.length ≤ 4000000000) :
    ∃ nb cap w3, (Builtin.append_ #[54, 54] 54 #[vN, .slice (some ⟨w.heap.size, 0, none⟩) 1 1]).run Try.prog (w.alloc (.cells #[.int .i64 b, .int .i64 lo, .int .i64 hi] 83)) = .ok (.slice (some ⟨nb, 0, none⟩) (T.N.length + 1) cap) w3 ∧ w3.heap[g]? = some (.cells (T.cells vN vU vT) 111 (0, 0)) ∧
      ∃ S', RTabAt g (.slice (some ⟨nb, 0, none⟩) (T.N.length + 1) cap) vU vT S' { T with N := T.N ++ [(b, lo, hi)] } (w3.setCell ⟨g, 2, none⟩ (.slice (some ⟨nb, 0, none⟩) (T.N.length + 1) cap)) ∧ Gr S S' w (w3.setCell ⟨g, 2, none⟩ (.slice (some ⟨nb, 0, none⟩) (T.N.length + 1) cap)) := by
  obtain ⟨nb, cap, w3, hrun, ha⟩ := node_push h.rowN b lo hi hl
  obtain ⟨q1, q2, q3, q4, q5⟩ := h.ap (.inl rfl) ha (by decide) (i := 2) (.slice (some ⟨nb, 0, none⟩) (T.N.length + 1) cap)
  obtain ⟨a1, a2, a3⟩ := h.apart
  refine ⟨nb, cap, w3, hrun, q1, _, ⟨.inl h.sg, q5, ?_, ?_, ?_, ?_, ?_, fun n hn => .inl (h.nU n hn), fun n hn => .inl (h.nT n hn), h.ut⟩, q3⟩
  · exact blk_set q1 2 _
  · rw [show (T.N ++ [(b, lo, hi)]).length = T.N.length + 1 by simp]
    exact ownsRow_step ha.row (fun k hk => by simp only [Value.ownBlock, Option.some.injEq] at hk; exact q4 k (hk ▸ q2))
  · exact ownsRow_step h.rowU (fun k hk => (q4 k (a2 k hk)).trans (ha.chg.block k (h.lt k (h.nU k hk)) (fun e => (a1 k e).2.1 hk)))
  · exact ownsRow_step h.rowT (fun k hk => (q4 k (a3 k hk)).trans (ha.chg.block k (h.lt k (h.nT k hk)) (fun e => (a1 k e).2.2 hk)))
  · intro n hn
    simp only [Value.ownBlock, Option.some.injEq] at hn
    exact .inr hn.symm
theorem RTabAt.pushU (h : RTabAt g vN vU vT S T w) (x : Bool) (hl : T.used.length ≤ 4000000000) :
    ∃ nb cap w3, (Builtin.append_ #[109, 109] 109 #[vU, .slice (some ⟨w.heap.size, 0, none⟩) 1 1]).run Try.prog (w.alloc (.cells #[.bool x] 4)) = .ok (.slice (some ⟨nb, 0, none⟩) (T.used.length + 1) cap) w3 ∧ w3.heap[g]? = some (.cells (T.cells vN vU vT) 111 (0, 0)) ∧
      ∃ S', RTabAt g vN (.slice (some ⟨nb, 0, none⟩) (T.used.length + 1) cap) vT S' { T with used := T.used ++ [x] } (w3.setCell ⟨g, 3, none⟩ (.slice (some ⟨nb, 0, none⟩) (T.used.length + 1) cap)) ∧ Gr S S' w (w3.setCell ⟨g, 3, none⟩ (.slice (some ⟨nb, 0, none⟩) (T.used.length + 1) cap)) := by
  obtain ⟨nb, cap, w3, hrun, ha⟩ := bool_push h.rowU x hl
  obtain ⟨q1, q2, q3, q4, q5⟩ := h.ap (.inr (.inl rfl)) ha (by decide) (i := 3) (.slice (some ⟨nb, 0, none⟩) (T.used.length + 1) cap)
  obtain ⟨a1, a2, a3⟩ := h.apart
  refine ⟨nb, cap, w3, hrun, q1, _, ⟨.inl h.sg, q5, ?_, ?_, ?_, ?_, fun n hn => .inl (h.nN n hn), ?_, fun n hn => .inl (h.nT n hn), ?_⟩, q3⟩
  · exact blk_set q1 3 _
  · exact ownsRow_step h.rowN (fun k hk => (q4 k (a1 k hk).1).trans (ha.chg.block k (h.lt k (h.nN k hk)) (fun e => (a1 k hk).2.1 e)))
  · rw [show (T.used ++ [x]).length = T.used.length + 1 by simp]
    exact ownsRow_step ha.row (fun k hk => by simp only [Value.ownBlock, Option.some.injEq] at hk; exact q4 k (hk ▸ q2))
  · exact ownsRow_step h.rowT (fun k hk => (q4 k (a3 k hk)).trans (ha.chg.block k (h.lt k (h.nT k hk)) (fun e => h.ut k e hk)))
  · intro n hn
    simp only [Value.ownBlock, Option.some.injEq] at hn
    exact .inr hn.symm
  · intro n hn e
    simp only [Value.ownBlock, Option.some.injEq] at hn
    subst hn
    rcases ha.who with he | he
    · exact h.ut _ he e
    · have := h.lt _ (h.nT _ e); omega
theorem RTabAt.pushT (h : RTabAt g vN vU vT S T w) (x : Bool) (hl : T.told.length ≤ 4000000000) :
    ∃ nb cap w3, (Builtin.append_ #[109, 109] 109 #[vT, .slice (some ⟨w.heap.size, 0, none⟩) 1 1]).run Try.prog (w.alloc (.cells #[.bool x] 4)) = .ok (.slice (some ⟨nb, 0, none⟩) (T.told.length + 1) cap) w3 ∧ w3.heap[g]? = some (.cells (T.cells vN vU vT) 111 (0, 0)) ∧
      ∃ S', RTabAt g vN vU (.slice (some ⟨nb, 0, none⟩) (T.told.length + 1) cap) S' { T with told := T.told ++ [x] } (w3.setCell ⟨g, 4, none⟩ (.slice (some ⟨nb, 0, none⟩) (T.told.length + 1) cap)) ∧ Gr S S' w (w3.setCell ⟨g, 4, none⟩ (.slice (some ⟨nb, 0, none⟩) (T.told.length + 1) cap)) := by
  obtain ⟨nb, cap, w3, hrun, ha⟩ := bool_push h.rowT x hl
  obtain ⟨q1, q2, q3, q4, q5⟩ := h.ap (.inr (.inr rfl)) ha (by decide) (i := 4) (.slice (some ⟨nb, 0, none⟩) (T.told.length + 1) cap)
  obtain ⟨a1, a2, a3⟩ := h.apart
  refine ⟨nb, cap, w3, hrun, q1, _, ⟨.inl h.sg, q5, ?_, ?_, ?_, ?_, fun n hn => .inl (h.nN n hn), fun n hn => .inl (h.nU n hn), ?_, ?_⟩, q3⟩
  · exact blk_set q1 4 _
  · exact ownsRow_step h.rowN (fun k hk => (q4 k (a1 k hk).1).trans (ha.chg.block k (h.lt k (h.nN k hk)) (fun e => (a1 k hk).2.2 e)))
  · exact ownsRow_step h.rowU (fun k hk => (q4 k (a2 k hk)).trans (ha.chg.block k (h.lt k (h.nU k hk)) (fun e => h.ut k hk e)))
  · rw [show (T.told ++ [x]).length = T.told.length + 1 by simp]
    exact ownsRow_step ha.row (fun k hk => by simp only [Value.ownBlock, Option.some.injEq] at hk; exact q4 k (hk ▸ q2))
  · intro n hn
    simp only [Value.ownBlock, Option.some.injEq] at hn
    exact .inr hn.symm
  · intro n hn e
    simp only [Value.ownBlock, Option.some.injEq] at e
    subst e
    rcases ha.who with he | he
    · exact h.ut _ hn he
    · have := h.lt _ (h.nU _ hn); omega
end
end Go.Proofs.Ytbglnddjhlefnaa
namespace Go.Proofs.Ytbglnddjhlefnaa
open Go Go.RowKit Go.Proofs.YtbglnddjhlefnaaW.PrintWords Go.Proofs.YtbglnddjhlefnaaW.PrintLast Go.Proofs.YtbglnddjhlefnaaW.PrintMore
theorem posOf_first {n : Nd} : ∀ {N : List Nd} {i : Nat}, N[i]? = some n → (∀ j, j < i → N[j]? ≠ some n) → posOf n N = some i
  | [], i, h, _ => by simp at h
  | x :: N, 0, h, _ => by
    rw [List.getElem?_cons_zero] at h
    injection h with h
    rw [posOf, if_pos h]
  | x :: N, i + 1, h, hj => by
    have h0 := hj 0 (by omega)
    rw [List.getElem?_cons_zero] at h0
    rw [posOf, if_neg (fun e => h0 (by rw [e])), posOf_first (i := i) (by simpa using h) (fun j hji => by simpa using hj (j + 1) (by omega))]
    rfl
theorem posOf_nowhere {n : Nd} : ∀ {N : List Nd}, (∀ j, j < N.length → N[j]? ≠ some n) → posOf n N = none
  | [], _ => rfl
  | x :: N, hj => by
    have h0 := hj 0 (by simp)
    rw [List.getElem?_cons_zero] at h0
    rw [posOf, if_neg (fun e => h0 (by rw [e])), posOf_nowhere (fun j hji => by simpa using hj (j + 1) (by simpa using hji))]
    rfl
/-- The table with more nodes. -/
def growR (T : Rd) (N : List Nd) : Rd := { T with N := N, used := T.used ++ List.replicate (N.length - T.N.length) false, told := T.told ++ List.replicate (N.length - T.N.length) false }
theorem growR_self (T : Rd) : growR T T.N = T := by
  unfold growR
  simp
theorem growR_grow (T : Rd) (N1 N2 : List Nd) (h1 : T.N.length ≤ N1.length) (h2 : N1.length ≤ N2.length) : growR (growR T N1) N2 = growR T N2 := by
  unfold growR
  simp only [List.append_assoc, List.replicate_append_replicate]
  rw [show N1.length - T.N.length + (N2.length - N1.length) = N2.length - T.N.length by omega]
theorem growR_one (T : Rd) (n : Nd) : growR T (T.N ++ [n]) = { T with N := T.N ++ [n], used := T.used ++ [false], told := T.told ++ [false] } := by
  unfold growR
  rw [show (T.N ++ [n]).length - T.N.length = 1 by simp]
  rfl
section
variable {g : Nat} {S : Nat → Prop} {T : Rd} {w : World}
set_option maxRecDepth 100000 in
theorem rnode_same (b a : Nat) :
    Calls Try.prog 55 #[.pointer (some ⟨g, 0, none⟩), .int .i64 b, .int .i64 a, .int .i64 a] w fun e w' => e = .returned (.int .i64 a) ∧ w = w' := by
  have hd : ((a : Int) == (a : Int)) = true := by simp
  go_enter Try.func55, Try.ntmps55
  go_wp2_with fail
  go_ret
  exact ⟨rfl, rfl⟩
set_option maxRecDepth 100000 in
set_option maxHeartbeats 4000000 in
theorem rnode_w (h : RTab g S T w) (b lo hi : Nat) (hl : T.N.length ≤ 4000000000) (r : Nat × List Nd) (hr : r = mkN T.N b lo hi) :
    Calls Try.prog 55 #[.pointer (some ⟨g, 0, none⟩), .int .i64 b, .int .i64 lo, .int .i64 hi] w fun e w' => ∃ S', e = .returned (.int .i64 r.1) ∧ RTab g S' (growR T r.2) w' ∧ Gr S S' w w' := by
  by_cases hne : lo = hi
  · subst hne
    have : r = (lo, T.N) := by rw [hr]; unfold mkN; rw [if_pos rfl]
    subst this
    refine (rnode_same b lo).mono ?_
    rintro e w' ⟨rfl, rfl⟩
    exact ⟨S, rfl, by rw [growR_self]; exact h, Gr.refl _ _⟩
  have HR : Hid (∀ i, posOf (b, lo, hi) T.N = some i → r = (i + 2, T.N)) := Lib.hid (fun i hi2 => by rw [hr]; unfold mkN; rw [if_neg hne, hi2])
  have HRN : Hid (posOf (b, lo, hi) T.N = none → r = (T.N.length + 2, T.N ++ [(b, lo, hi)])) := Lib.hid (fun hp => by rw [hr]; unfold mkN; rw [if_neg hne, hp])
  have hd : ((lo : Int) == (hi : Int)) = false := by simp; omega
  obtain ⟨vN, vU, vT, h, hu, ht⟩ := h
  have HL := Lib.hid hl
  have H := Lib.hid h
  have HU := Lib.hid hu
  have HT := Lib.hid ht
  obtain ⟨A, c, rfl⟩ := own_slice h.rowN
  have d2 := blk_cell h.box 2 (.slice A T.N.length c) rfl
  obtain ⟨n, hn⟩ : ∃ n, n = T.N.length := ⟨_, rfl⟩
  rw [← hn] at d2 hl
  have HN := Lib.hid hn
  clear h hr hne hu ht hn
  go_enter Try.func55, Try.ntmps55
  go_wp2_with fail
  go_loopw [9] (fun v9 wr => ∃ i : Nat, v9 = .int .i64 i ∧ i ≤ n ∧ Hid (∀ j, j < i → T.N[j]? ≠ some (b, lo, hi)) ∧ wr = w) (fun v9 _ => n - (intOf v9).toNat)
  case atStart => exact ⟨0, rfl, Nat.zero_le _, Lib.hid (fun j hj => by omega), rfl⟩
  case round =>
    obtain ⟨i, rfl, hi2, hrel, rfl⟩ := hrel
    by_cases hlt : i < n
    · have hi64 : (i : Int) < (n : Int) := by omega
      have hi64b : decide ((i : Int) < (n : Int)) = true := decide_eq_true hi64
      have hi0 : (0 : Int) ≤ (i : Int) := by omega
      have hnn : (n : Int) ≤ 4000000000 := by omega
      have hil : i < T.N.length := by rw [← HN.out]; exact hlt
      have hat : T.N[i]? = some T.N[i] := List.getElem?_eq_getElem hil
      generalize T.N[i] = m at hat
      obtain ⟨nb, cap, hv, c0, c1, c2⟩ := row_node H.out.rowN i m hat
      injection hv with hv _ _
      subst hv
      obtain ⟨x, y, z⟩ := m
      have HAT := Lib.hid hat
      simp only at c0 c1 c2
      clear hat hil
      by_cases hx : x = b
      · have t1 : ((x : Int) == (b : Int)) = true := by simp [hx]
        by_cases hy : y = lo
        · have t2 : ((y : Int) == (lo : Int)) = true := by simp [hy]
          by_cases hz : z = hi
          · have t3 : ((z : Int) == (hi : Int)) = true := by simp [hz]
            have HE : Hid (r = (i + 2, T.N)) := Lib.hid (HR.out i (posOf_first (by rw [HAT.out, hx, hy, hz]) hrel.out))
            clear hx hy hz
            go_wp2_with fail
            go_ret
            refine ⟨by rw [HE.out]; go_num, S, ?_, Gr.refl _ _⟩
            rw [HE.out, growR_self]
            exact ⟨_, _, _, H.out, HU.out, HT.out⟩
          · have t3 : ((z : Int) == (hi : Int)) = false := by simp; omega
            have HX : Hid (∀ j, j < i + 1 → T.N[j]? ≠ some (b, lo, hi)) := Lib.hid (fun j hj => by
              rcases Nat.lt_succ_iff_lt_or_eq.1 hj with h | h
              · exact hrel.out j h
              · rw [h, HAT.out]; simp; omega)
            clear hrel hx hy
            go_wp2_with fail
            go_roundw
            case rel => exact ⟨i + 1, by go_num, by omega, HX, trivial⟩
            case measure => simp [intOf]; omega
        · have t2 : ((y : Int) == (lo : Int)) = false := by simp; omega
          have HX : Hid (∀ j, j < i + 1 → T.N[j]? ≠ some (b, lo, hi)) := Lib.hid (fun j hj => by
            rcases Nat.lt_succ_iff_lt_or_eq.1 hj with h | h
            · exact hrel.out j h
            · rw [h, HAT.out]; simp; omega)
          clear hrel hx
          go_wp2_with fail
          go_roundw
          case rel => exact ⟨i + 1, by go_num, by omega, HX, trivial⟩
          case measure => simp [intOf]; omega
      · have t1 : ((x : Int) == (b : Int)) = false := by simp; omega
        have HX : Hid (∀ j, j < i + 1 → T.N[j]? ≠ some (b, lo, hi)) := Lib.hid (fun j hj => by
          rcases Nat.lt_succ_iff_lt_or_eq.1 hj with h | h
          · exact hrel.out j h
          · rw [h, HAT.out]; simp; omega)
        clear hrel
        go_wp2_with fail
        go_roundw
        case rel => exact ⟨i + 1, by go_num, by omega, HX, trivial⟩
        case measure => simp [intOf]; omega
    · have hi64b : decide ((i : Int) < (n : Int)) = false := decide_eq_false (by omega)
      have hi64c : decide (i < n) = false := decide_eq_false hlt
      have HE : Hid (r = (T.N.length + 2, T.N ++ [(b, lo, hi)])) := Lib.hid (HRN.out (posOf_nowhere (fun j hj => hrel.out j (by have := HN.out; omega))))
      obtain ⟨nb, cap, w3, e1, e2, S1, e3, e4⟩ := H.out.pushN b lo hi HL.out
      rw [← HN.out] at e1 e3 e4
      have k2 := blk_cell e2 2 (.slice A T.N.length c) rfl
      rw [← HN.out] at k2
      have f2 := blk_free e2 2
      have E1 := Lib.hid e1
      have E3 := Lib.hid e3
      have E4 := Lib.hid e4
      have z2 := fun o => Lib.cell?_alloc_some o d2
      clear hrel HR HRN e1 e2 e3 e4
      go_upto_region 9 with (at_builtin; refine wpList_append_run _ rfl (.tmp 63) (.tmp 68) 54 rfl (.slice A n c) (.slice (some ⟨_, 0, none⟩) 1 1) rfl rfl (.slice (some ⟨nb, 0, none⟩) (n + 1) cap) w3 E1.out ?_)
      generalize w3.setCell ⟨g, 2, none⟩ (.slice (some ⟨nb, 0, none⟩) (n + 1) cap) = W1 at E3 E4 ⊢
      have hl2 : T.used.length ≤ 4000000000 := by rw [HU.out]; exact HL.out
      have hl3 : T.told.length ≤ 4000000000 := by rw [HT.out]; exact HL.out
      obtain ⟨nb2, cap2, w4, e1, e2, S2, e3, e4⟩ := E3.out.pushU false hl2
      have d3 := blk_cell E3.out.box 3 vU rfl
      have z3 := fun o => Lib.cell?_alloc_some o d3
      have k3 := blk_cell e2 3 vU rfl
      have f3 := blk_free e2 3
      have E21 := Lib.hid e1
      have E23 := Lib.hid e3
      have E24 := Lib.hid e4
      clear e1 e2 e3 e4 k2 f2 z2 d2 E1
      go_upto_region 10 with (at_builtin; refine wpList_append_run _ rfl (.tmp 76) (.tmp 77) 109 rfl vU (.slice (some ⟨_, 0, none⟩) 1 1) rfl rfl (.slice (some ⟨nb2, 0, none⟩) (T.used.length + 1) cap2) w4 E21.out ?_)
      generalize w4.setCell ⟨g, 3, none⟩ (.slice (some ⟨nb2, 0, none⟩) (T.used.length + 1) cap2) = W2 at E23 E24 ⊢
      obtain ⟨nb3, cap3, w5, e1, e2, S3, e3, e4⟩ := E23.out.pushT false hl3
      have d4 := blk_cell E23.out.box 4 vT rfl
      have z4 := fun o => Lib.cell?_alloc_some o d4
      have k4 := blk_cell e2 4 vT rfl
      have f4 := blk_free e2 4
      have E31 := Lib.hid e1
      have E33 := Lib.hid e3
      have E34 := Lib.hid e4
      clear e1 e2 e3 e4 k3 f3 z3 d3 E21
      go_upto_region 11 with (at_builtin; refine wpList_append_run _ rfl (.tmp 85) (.tmp 86) 109 rfl vT (.slice (some ⟨_, 0, none⟩) 1 1) rfl rfl (.slice (some ⟨nb3, 0, none⟩) (T.told.length + 1) cap3) w5 E31.out ?_)
      generalize w5.setCell ⟨g, 4, none⟩ (.slice (some ⟨nb3, 0, none⟩) (T.told.length + 1) cap3) = W3 at E33 E34 ⊢
      have y2 := blk_cell E33.out.box 2 (.slice (some ⟨nb, 0, none⟩) (n + 1) cap) rfl
      have hnn : (n : Int) ≤ 4000000000 := by omega
      clear k4 f4 z4 d4 E31
      go_wp2_with fail
      go_ret
      refine ⟨by rw [HE.out, ← HN.out]; go_num, S3, ?_, (E4.out.trans E24.out).trans E34.out⟩
      rw [HE.out, growR_one]
      refine ⟨_, _, _, E33.out, ?_, ?_⟩
      · simp [HU.out]
      · simp [HT.out]
end
end Go.Proofs.Ytbglnddjhlefnaa
namespace Go.Proofs.Ytbglnddjhlefnaa
open Go Go.RowKit Go.Proofs.YtbglnddjhlefnaaW.PrintWords Go.Proofs.YtbglnddjhlefnaaW.PrintLast Go.Proofs.YtbglnddjhlefnaaW.PrintMore
theorem Try.info133 : (Try.prog.info? 133).map (fun i => (i.zero, i.size, i.bytes)) = some (some (.agg #[.int .i64 0, .int .i64 0, .int .i64 0, .int .i64 0]), 4, 32) := by kernel_rfl
abbrev DnE := Nd × Nat
def flatD (D : Dn) : List Value := D.flatMap (fun p => [.int .i64 p.1.1, .int .i64 p.1.2.1, .int .i64 p.1.2.2, .int .i64 p.2])
theorem flatD_snoc (D : Dn) (p : DnE) : flatD (D ++ [p]) = flatD D ++ [.int .i64 p.1.1, .int .i64 p.1.2.1, .int .i64 p.1.2.2, .int .i64 p.2] := by simp [flatD]
theorem flatD_at : ∀ (D : Dn) (i : Nat) (p : DnE), D[i]? = some p → (flatD D)[i * 4]? = some (.int .i64 p.1.1) ∧ (flatD D)[i * 4 + 1]? = some (.int .i64 p.1.2.1) ∧ (flatD D)[i * 4 + 2]? = some (.int .i64 p.1.2.2) ∧ (flatD D)[i * 4 + 3]? = some (.int .i64 p.2)
  | x :: D, 0, p, h => by simp at h; subst h; simp [flatD]
  | x :: D, i + 1, p, h => by
    have := flatD_at D i p (by simpa using h)
    have e : flatD (x :: D) = [.int .i64 x.1.1, .int .i64 x.1.2.1, .int .i64 x.1.2.2, .int .i64 x.2] ++ flatD D := by simp [flatD]
    rw [e, show (i + 1) * 4 = i * 4 + 4 by omega, show i * 4 + 4 + 1 = (i * 4 + 1) + 4 by omega, show i * 4 + 4 + 2 = (i * 4 + 2) + 4 by omega, show i * 4 + 4 + 3 = (i * 4 + 3) + 4 by omega]
    exact this
theorem getG_first {k : Nd} {r : Nat} : ∀ {D : Dn} {i : Nat}, D[i]? = some (k, r) → (∀ (j : Nat) (p : DnE), j < i → D[j]? = some p → p.1 ≠ k) → getG D k = some r
  | [], i, h, _ => by simp at h
  | x :: D, 0, h, _ => by
    rw [List.getElem?_cons_zero] at h
    injection h with h
    rw [getG, h, if_pos rfl]
  | x :: D, i + 1, h, hj => by
    have h0 := hj 0 x (by omega) (by simp)
    rw [getG, if_neg h0]
    exact getG_first (i := i) (by simpa using h) (fun j p hji hp => hj (j + 1) p (by omega) (by simpa using hp))
theorem getG_nowhere {k : Nd} : ∀ {D : Dn}, (∀ (j : Nat) (p : DnE), D[j]? = some p → p.1 ≠ k) → getG D k = none
  | [], _ => rfl
  | x :: D, hj => by
    rw [getG, if_neg (hj 0 x (by simp))]
    exact getG_nowhere (fun j p hp => hj (j + 1) p (by simpa using hp))
theorem getG_none_mem {k : Nd} : ∀ {D : Dn}, getG D k = none → ∀ p ∈ D, p.1 ≠ k
  | x :: D, h, p, hp => by
    rw [getG] at h
    split at h
    · cases h
    · rename_i hx
      rcases List.mem_cons.1 hp with rfl | hp
      · exact hx
      · exact getG_none_mem h p hp
/-- What was reckoned, in memory: db its box, R its blocks. -/
structure Mem (db : Nat) (v : Value) (R : Nat → Prop) (D : Dn) (w : World) : Prop where
  box : w.heap[db]? = some (.cells #[v] 119 (0, 0))
  row : w.ownsRow 0 133 4 v D.length (flatD D)
  rn : ∀ n, v.ownBlock = some n → R n
  rd : R db
  lt : ∀ k, R k → k < w.heap.size
section
variable {g db : Nat} {v : Value} {S S' R : Nat → Prop} {T : Rd} {D : Dn} {w w' : World}
theorem Mem.step (h : Mem db v R D w) (hs : w.heap.size ≤ w'.heap.size) (hb : ∀ k, R k → w'.heap[k]? = w.heap[k]?) : Mem db v R D w' :=
  ⟨(hb db h.rd).trans h.box, ownsRow_step h.row (fun k hk => hb k (h.rn k hk)), h.rn, h.rd, fun k hk => Nat.lt_of_lt_of_le (h.lt k hk) hs⟩
theorem Mem.at_ (h : Mem db v R D w) (i : Nat) (p : DnE) (hi : D[i]? = some p) : ∃ nb cap, v = .slice (some ⟨nb, 0, none⟩) D.length cap ∧ w.cell? ⟨nb, i * 4, none⟩ = some (.int .i64 p.1.1) ∧ w.cell? ⟨nb, i * 4 + 1, none⟩ = some (.int .i64 p.1.2.1) ∧ w.cell? ⟨nb, i * 4 + 2, none⟩ = some (.int .i64 p.1.2.2) ∧ w.cell? ⟨nb, i * 4 + 3, none⟩ = some (.int .i64 p.2) := by
  have hlen := (List.getElem?_eq_some_iff.1 hi).1
  rcases h.row.2 with ⟨_, h0⟩ | ⟨q, cap, cur, rfl, _, hc, hcap, hm, hcs, htk⟩
  · omega
  refine ⟨q, cap, rfl, ?_, ?_, ?_, ?_⟩
  all_goals
    rw [cell_of_row w q _ cur 133 (0, 0) hc]
    obtain ⟨q1, q2, q3, q4⟩ := flatD_at D i _ hi
    rw [← htk] at q1 q2 q3 q4
    rw [List.getElem?_take, Array.getElem?_toList] at q1 q2 q3 q4
    rw [if_pos (by omega)] at q1 q2 q3 q4
    assumption
theorem Mem.push (h : Mem db v R D w) (a b c r : Nat) (hl : D.length ≤ 4000000000) :
    ∃ nb k cap w3, (Builtin.append_ #[117, 117] 117 #[v, .slice (some ⟨w.heap.size, 0, none⟩) 1 1]).run Try.prog (w.alloc (.cells #[.int .i64 a, .int .i64 b, .int .i64 c, .int .i64 r] 133)) = .ok (.slice (some ⟨nb, 0, none⟩) k cap) w3 ∧ w3.heap[db]? = some (.cells #[v] 119 (0, 0)) ∧
      ∃ R', Mem db (.slice (some ⟨nb, 0, none⟩) k cap) R' (D ++ [((a, b, c), r)]) (w3.setCell ⟨db, 0, none⟩ (.slice (some ⟨nb, 0, none⟩) k cap)) ∧ Gr R R' w (w3.setCell ⟨db, 0, none⟩ (.slice (some ⟨nb, 0, none⟩) k cap)) := by
  obtain ⟨i0, hinf, hzz⟩ := Option.map_eq_some_iff.1 Try.info133
  simp only [Prod.mk.injEq] at hzz
  have hbx := heap_alloc_new w (.cells #[.int .i64 a, .int .i64 b, .int .i64 c, .int .i64 r] 133)
  have h1 : (w.alloc (.cells #[.int .i64 a, .int .i64 b, .int .i64 c, .int .i64 r] 133)).ownsRow 0 133 4 v D.length (flatD D) := ownsRow_step h.row (fun k hk => heap_alloc_old w _ (h.lt k (h.rn k hk)))
  have hnews : ∀ (j : Nat) (u : Value), [Value.int .i64 a, .int .i64 b, .int .i64 c, .int .i64 r][j]? = some u → (w.alloc (.cells #[.int .i64 a, .int .i64 b, .int .i64 c, .int .i64 r] 133)).cell? ((⟨w.heap.size, 0, none⟩ : Addr).add j) = some u := by
    intro j u hj
    rw [add_at, cell_of_row _ w.heap.size _ _ 133 (0, 0) hbx, Nat.zero_add]
    match j, hj with
    | 0, hj => exact hj
    | 1, hj => exact hj
    | 2, hj => exact hj
    | 3, hj => exact hj
  obtain ⟨v', w3, hrun, hown, hgr, hnil, hwho⟩ := run_append_own_at (P := Try.prog) (w.alloc (.cells #[.int .i64 a, .int .i64 b, .int .i64 c, .int .i64 r] 133)) 0 117 117 133 i0 _ 4 32 Try.underlying117 hinf hzz.1 hzz.2.1 hzz.2.2 rfl (by omega) v D.length (flatD D) h1
    ⟨w.heap.size, 0, none⟩ 1 1 [.int .i64 a, .int .i64 b, .int .i64 c, .int .i64 r] rfl hnews (by simp [Value.oneCell']) (by simp only [maxLen]; omega) (by omega) (Nat.zero_le _)
  have hsz : (w.alloc (.cells #[.int .i64 a, .int .i64 b, .int .i64 c, .int .i64 r] 133)).heap.size = w.heap.size + 1 := World.size_alloc _ _
  rcases hown.2 with ⟨_, h0⟩ | ⟨nb, cap, cur, rfl, _, hh, hnc, hcm, hcs, htk⟩
  · omega
  have hs3 : w.heap.size ≤ w3.heap.size := by have := hgr.size; omega
  have hvd : v.ownBlock ≠ some db := fun e => by
    obtain ⟨c, hc⟩ := own_type h.row db e
    have := two_types hc h.box
    cases this
  have hold : ∀ k, k < w.heap.size → v.ownBlock ≠ some k → w3.heap[k]? = w.heap[k]? := fun k hk hn => (hgr.block k (by omega) (fun e => hn e.symm)).trans (heap_alloc_old w _ hk)
  have hd3 : w3.heap[db]? = some (.cells #[v] 119 (0, 0)) := (hold db (h.lt db h.rd) hvd).trans h.box
  have hnd : nb ≠ db := fun e => by
    have := two_types hh (e ▸ hd3)
    cases this
  refine ⟨nb, _, cap, w3, hrun, hd3, fun k => R k ∨ k = nb, ⟨?_, ?_, ?_, .inl h.rd, ?_⟩, fun k hk => .inl hk, ?_, ?_⟩
  · exact blk_set hd3 0 _
  · rw [flatD_snoc, show (D ++ [((a, b, c), r)]).length = D.length + 1 by simp]
    exact ownsRow_step hown (fun k hk => by simp only [Value.ownBlock, Option.some.injEq] at hk; exact Below.heap_setCell _ _ _ _ (hk ▸ hnd))
  · intro n hn
    simp only [Value.ownBlock, Option.some.injEq] at hn
    exact .inr hn.symm
  · have hz : ∀ u, (w3.setCell ⟨db, 0, none⟩ u).heap.size = w3.heap.size := fun u => by simp [World.setCell]
    rintro k (hk | rfl)
    · rw [hz]; have := h.lt k hk; omega
    · rw [hz]; exact (Array.getElem?_eq_some_iff.1 hh).1
  · rintro k (hk | rfl)
    · exact .inl hk
    · rcases hwho with he | he
      · exact .inl (h.rn _ he.symm)
      · simp only [Value.ownBlock, Option.some.injEq] at he
        exact .inr (by rw [he, hsz]; omega)
  · exact (⟨hgr.os, hgr.tape, hgr.output, hs3, fun k hk hn => hold k hk (fun e => hn (h.rn k e))⟩ : Chg R w w3).set _ _ (.inl h.rd)
/-- The table and what was reckoned. -/
def RM (g db : Nat) (S : Nat → Prop) (T : Rd) (D : Dn) (w : World) : Prop :=
  ∃ S1 R1 v, RTab g S1 T w ∧ Mem db v R1 D w ∧ (∀ k, S1 k → S k) ∧ (∀ k, R1 k → S k ∧ ¬ S1 k)
set_option maxRecDepth 100000 in
theorem rite_one (b c : Nat) : Calls Try.prog 58 #[.pointer (some ⟨g, 0, none⟩), .pointer (some ⟨db, 0, none⟩), .int .i64 1, .int .i64 b, .int .i64 c] w fun e w' => e = .returned (.int .i64 b) ∧ w = w' := by
  go_enter Try.func58, Try.ntmps58
  go_wp2_with fail
  go_ret
  exact ⟨rfl, rfl⟩
set_option maxRecDepth 100000 in
theorem rite_eq (a b : Nat) (ha : a ≠ 1) : Calls Try.prog 58 #[.pointer (some ⟨g, 0, none⟩), .pointer (some ⟨db, 0, none⟩), .int .i64 a, .int .i64 b, .int .i64 b] w fun e w' => e = .returned (.int .i64 b) ∧ w = w' := by
  have h1 : ((a : Int) == 1) = false := by simp; omega
  have h2 : ((b : Int) == (b : Int)) = true := by simp
  go_enter Try.func58, Try.ntmps58
  go_wp2_with fail
  go_ret
  exact ⟨rfl, rfl⟩
set_option maxRecDepth 100000 in
theorem rite_zero (b c : Nat) (hb : b ≠ c) : Calls Try.prog 58 #[.pointer (some ⟨g, 0, none⟩), .pointer (some ⟨db, 0, none⟩), .int .i64 0, .int .i64 b, .int .i64 c] w fun e w' => e = .returned (.int .i64 c) ∧ w = w' := by
  have h2 : ((b : Int) == (c : Int)) = false := by simp; omega
  go_enter Try.func58, Try.ntmps58
  go_wp2_with fail
  go_ret
  exact ⟨rfl, rfl⟩
end
end Go.Proofs.Ytbglnddjhlefnaa
namespace Go.Proofs.Ytbglnddjhlefnaa
open Go Go.RowKit Go.Proofs.YtbglnddjhlefnaaW.PrintWords Go.Proofs.YtbglnddjhlefnaaW.PrintLast Go.Proofs.YtbglnddjhlefnaaW.PrintMore
theorem min2' (P : Program) (ts : Array TypeId) (t : TypeId) (x y : Int) (W : World) : (Builtin.min_ ts t #[.int .i64 x, .int .i64 y]).run P W = .ok (.int .i64 (mn x y)) W := by
  simp [Builtin.min_, min2_mn]
section
variable {g db : Nat} {v : Value} {S S' R : Nat → Prop} {T : Rd} {D : Dn} {w w' : World}
set_option maxRecDepth 100000 in
set_option maxHeartbeats 4000000 in
theorem rite_hit (a b c r : Nat) (hM : Mem db v R D w) (h1 : a ≠ 1) (h0 : a ≠ 0) (hb : b ≠ c) (hD : D.length ≤ 4000000000) (hg : getG D (a, b, c) = some r) :
    Calls Try.prog 58 #[.pointer (some ⟨g, 0, none⟩), .pointer (some ⟨db, 0, none⟩), .int .i64 a, .int .i64 b, .int .i64 c] w fun e w' => e = .returned (.int .i64 r) ∧ w = w' := by
  have t1 : ((a : Int) == 1) = false := by simp; omega
  have t2 : ((b : Int) == (c : Int)) = false := by simp; omega
  have t3 : ((a : Int) == 0) = false := by simp; omega
  obtain ⟨A, c0, rfl⟩ := own_slice hM.row
  have d0 := blk_cell hM.box 0 (.slice A D.length c0) rfl
  obtain ⟨n, hn⟩ : ∃ n, n = D.length := ⟨_, rfl⟩
  rw [← hn] at d0 hD
  have HN := Lib.hid hn
  have HM := Lib.hid hM
  have HG := Lib.hid hg
  clear hM h1 h0 hb hn hg
  go_enter Try.func58, Try.ntmps58
  go_wp2_with fail
  go_loopw [11] (fun v11 wr => ∃ i : Nat, v11 = .int .i64 i ∧ i ≤ n ∧ Hid (∀ (j : Nat) (p : DnE), j < i → D[j]? = some p → p.1 ≠ (a, b, c)) ∧ wr = w) (fun v11 _ => n - (intOf v11).toNat)
  case atStart => exact ⟨0, rfl, Nat.zero_le _, Lib.hid (fun j p hj => by omega), rfl⟩
  case round =>
    obtain ⟨i, rfl, hi2, hrel, rfl⟩ := hrel
    have hlt : i < n := by
      rcases Nat.lt_or_ge i n with h | h
      · exact h
      · have := getG_nowhere (k := (a, b, c)) (D := D) (fun j p hp => hrel.out j p (by have := (List.getElem?_eq_some_iff.1 hp).1; have := HN.out; omega) hp)
        rw [HG.out] at this
        cases this
    have hi64 : (i : Int) < (n : Int) := by omega
    have hi64b : decide ((i : Int) < (n : Int)) = true := decide_eq_true hi64
    have hi0 : (0 : Int) ≤ (i : Int) := by omega
    have hnn : (n : Int) ≤ 4000000000 := by omega
    have hil : i < D.length := by rw [← HN.out]; exact hlt
    have hat : D[i]? = some D[i] := List.getElem?_eq_getElem hil
    generalize D[i] = m at hat
    obtain ⟨nb, cap, hv, c0, c1, c2, c3⟩ := HM.out.at_ i m hat
    injection hv with hv _ _
    subst hv
    obtain ⟨⟨x, y, z⟩, q⟩ := m
    have HAT := Lib.hid hat
    simp only at c0 c1 c2 c3
    clear hat hil
    have HX : Hid ((x, y, z) ≠ (a, b, c) → ∀ (j : Nat) (p : DnE), j < i + 1 → D[j]? = some p → p.1 ≠ (a, b, c)) := Lib.hid (fun hne j p hj hp => by
      rcases Nat.lt_succ_iff_lt_or_eq.1 hj with h | h
      · exact hrel.out j p h hp
      · rw [h, HAT.out] at hp
        injection hp with hp
        rw [← hp]
        exact hne)
    by_cases hx : x = a
    · have u1 : ((x : Int) == (a : Int)) = true := by simp [hx]
      by_cases hy : y = b
      · have u2 : ((y : Int) == (b : Int)) = true := by simp [hy]
        by_cases hz : z = c
        · have u3 : ((z : Int) == (c : Int)) = true := by simp [hz]
          have hq : r = q := by
            have := getG_first (k := (a, b, c)) (r := q) (D := D) (i := i) (by rw [HAT.out, hx, hy, hz]) hrel.out
            rw [HG.out] at this
            injection this
          subst hq
          clear hx hy hz hrel
          go_wp2_with fail
          go_ret
          exact ⟨rfl, rfl⟩
        · have u3 : ((z : Int) == (c : Int)) = false := by simp; omega
          have HX2 := Lib.hid (HX.out (by simp; omega))
          clear hrel hx hy HX
          go_wp2_with fail
          go_roundw
          case rel => exact ⟨i + 1, by go_num, by omega, HX2, trivial⟩
          case measure => simp [intOf]; omega
      · have u2 : ((y : Int) == (b : Int)) = false := by simp; omega
        have HX2 := Lib.hid (HX.out (by simp; omega))
        clear hrel hx HX
        go_wp2_with fail
        go_roundw
        case rel => exact ⟨i + 1, by go_num, by omega, HX2, trivial⟩
        case measure => simp [intOf]; omega
    · have u1 : ((x : Int) == (a : Int)) = false := by simp; omega
      have HX2 := Lib.hid (HX.out (by simp; omega))
      clear hrel HX
      go_wp2_with fail
      go_roundw
      case rel => exact ⟨i + 1, by go_num, by omega, HX2, trivial⟩
      case measure => simp [intOf]; omega
set_option maxRecDepth 100000 in
set_option maxHeartbeats 4000000 in
/-- The walk where nothing was reckoned yet: what the calls do is handed in. -/
theorem rite_go (a b c bit pa pb pc xa xb xc ya yb yc x1 y1 m1 : Nat) (w : World) (P1 P2 P3 : World → Prop) (Po : Ending → World → Prop) (hM : Mem db v R D w) (h1 : a ≠ 1) (h0 : a ≠ 0) (hb : b ≠ c) (hD : D.length ≤ 4000000000) (hg : getG D (a, b, c) = none)
    (hmin : mn (pa : Int) (mn (pb : Int) pc) = bit)
    (ca : Calls Try.prog 69 #[.pointer (some ⟨g, 0, none⟩), .int .i64 a] w fun e w' => e = .returned (.int .i64 pa) ∧ w = w')
    (cb : Calls Try.prog 69 #[.pointer (some ⟨g, 0, none⟩), .int .i64 b] w fun e w' => e = .returned (.int .i64 pb) ∧ w = w')
    (cc : Calls Try.prog 69 #[.pointer (some ⟨g, 0, none⟩), .int .i64 c] w fun e w' => e = .returned (.int .i64 pc) ∧ w = w')
    (da : Calls Try.prog 70 #[.pointer (some ⟨g, 0, none⟩), .int .i64 a, .int .i64 bit, .bool false] w fun e w' => e = .returned (.int .i64 xa) ∧ w = w')
    (db_ : Calls Try.prog 70 #[.pointer (some ⟨g, 0, none⟩), .int .i64 b, .int .i64 bit, .bool false] w fun e w' => e = .returned (.int .i64 xb) ∧ w = w')
    (dc : Calls Try.prog 70 #[.pointer (some ⟨g, 0, none⟩), .int .i64 c, .int .i64 bit, .bool false] w fun e w' => e = .returned (.int .i64 xc) ∧ w = w')
    (hx : Calls Try.prog 58 #[.pointer (some ⟨g, 0, none⟩), .pointer (some ⟨db, 0, none⟩), .int .i64 xa, .int .i64 xb, .int .i64 xc] w fun e w' => e = .returned (.int .i64 x1) ∧ P1 w')
    (ea : ∀ W, P1 W → Calls Try.prog 70 #[.pointer (some ⟨g, 0, none⟩), .int .i64 a, .int .i64 bit, .bool true] W fun e w' => e = .returned (.int .i64 ya) ∧ W = w')
    (eb : ∀ W, P1 W → Calls Try.prog 70 #[.pointer (some ⟨g, 0, none⟩), .int .i64 b, .int .i64 bit, .bool true] W fun e w' => e = .returned (.int .i64 yb) ∧ W = w')
    (ec : ∀ W, P1 W → Calls Try.prog 70 #[.pointer (some ⟨g, 0, none⟩), .int .i64 c, .int .i64 bit, .bool true] W fun e w' => e = .returned (.int .i64 yc) ∧ W = w')
    (hy : ∀ W, P1 W → Calls Try.prog 58 #[.pointer (some ⟨g, 0, none⟩), .pointer (some ⟨db, 0, none⟩), .int .i64 ya, .int .i64 yb, .int .i64 yc] W fun e w' => e = .returned (.int .i64 y1) ∧ P2 w')
    (hm : ∀ W, P2 W → Calls Try.prog 55 #[.pointer (some ⟨g, 0, none⟩), .int .i64 bit, .int .i64 x1, .int .i64 y1] W fun e w' => e = .returned (.int .i64 m1) ∧ P3 w')
    (hp : ∀ W, P3 W → ∃ u nb k cap w3, W.heap[db]? = some (.cells #[u] 119 (0, 0)) ∧ (Builtin.append_ #[117, 117] 117 #[u, .slice (some ⟨W.heap.size, 0, none⟩) 1 1]).run Try.prog (W.alloc (.cells #[.int .i64 a, .int .i64 b, .int .i64 c, .int .i64 m1] 133)) = .ok (.slice (some ⟨nb, 0, none⟩) k cap) w3 ∧ w3.heap[db]? = some (.cells #[u] 119 (0, 0)) ∧ Po (.returned (.int .i64 m1)) (w3.setCell ⟨db, 0, none⟩ (.slice (some ⟨nb, 0, none⟩) k cap))) :
    Calls Try.prog 58 #[.pointer (some ⟨g, 0, none⟩), .pointer (some ⟨db, 0, none⟩), .int .i64 a, .int .i64 b, .int .i64 c] w Po := by
  have t1 : ((a : Int) == 1) = false := by simp; omega
  have t2 : ((b : Int) == (c : Int)) = false := by simp; omega
  have t3 : ((a : Int) == 0) = false := by simp; omega
  obtain ⟨A, c0, rfl⟩ := own_slice hM.row
  have d0 := blk_cell hM.box 0 (.slice A D.length c0) rfl
  obtain ⟨n, hn⟩ : ∃ n, n = D.length := ⟨_, rfl⟩
  rw [← hn] at d0 hD
  have HN := Lib.hid hn
  have HM := Lib.hid hM
  have HG := Lib.hid hg
  have HMIN := Lib.hid hmin
  have CA := Lib.hid ca
  have CB := Lib.hid cb
  have CC := Lib.hid cc
  have DA := Lib.hid da
  have DB := Lib.hid db_
  have DC := Lib.hid dc
  have HX := Lib.hid hx
  have EA := Lib.hid ea
  have EB := Lib.hid eb
  have EC := Lib.hid ec
  have HY := Lib.hid hy
  have HMK := Lib.hid hm
  have HP := Lib.hid hp
  clear hM h1 h0 hb hn hg hmin ca cb cc da db_ dc hx ea eb ec hy hm hp
  go_enter Try.func58, Try.ntmps58
  go_wp2_with fail
  go_loopw [11] (fun v11 wr => ∃ i : Nat, v11 = .int .i64 i ∧ i ≤ n ∧ wr = w) (fun v11 _ => n - (intOf v11).toNat)
  case atStart => exact ⟨0, rfl, Nat.zero_le _, rfl⟩
  case round =>
    obtain ⟨i, rfl, hi2, rfl⟩ := hrel
    by_cases hlt : i < n
    · have hi64 : (i : Int) < (n : Int) := by omega
      have hi64b : decide ((i : Int) < (n : Int)) = true := decide_eq_true hi64
      have hi0 : (0 : Int) ≤ (i : Int) := by omega
      have hnn : (n : Int) ≤ 4000000000 := by omega
      have hil : i < D.length := by rw [← HN.out]; exact hlt
      have hat : D[i]? = some D[i] := List.getElem?_eq_getElem hil
      generalize D[i] = m at hat
      obtain ⟨nb, cap, hv, c0, c1, c2, c3⟩ := HM.out.at_ i m hat
      injection hv with hv _ _
      subst hv
      obtain ⟨⟨x, y, z⟩, q⟩ := m
      have hne : (x, y, z) ≠ (a, b, c) := fun e => by
        have hk := (getG_none_mem HG.out) _ (List.mem_of_getElem? hat)
        exact hk e
      simp only at c0 c1 c2 c3
      clear hat hil CA CB CC DA DB DC HX EA EB EC HY HMK HP
      by_cases hx : x = a
      · have u1 : ((x : Int) == (a : Int)) = true := by simp [hx]
        by_cases hy : y = b
        · have u2 : ((y : Int) == (b : Int)) = true := by simp [hy]
          have u3 : ((z : Int) == (c : Int)) = false := by
            have : z ≠ c := fun e => hne (by rw [hx, hy, e])
            simp; omega
          clear hx hy hne
          go_wp2_with fail
          go_roundw
          case rel => exact ⟨i + 1, by go_num, by omega, trivial⟩
          case measure => simp [intOf]; omega
        · have u2 : ((y : Int) == (b : Int)) = false := by simp; omega
          clear hx hne
          go_wp2_with fail
          go_roundw
          case rel => exact ⟨i + 1, by go_num, by omega, trivial⟩
          case measure => simp [intOf]; omega
      · have u1 : ((x : Int) == (a : Int)) = false := by simp; omega
        clear hne
        go_wp2_with fail
        go_roundw
        case rel => exact ⟨i + 1, by go_num, by omega, trivial⟩
        case measure => simp [intOf]; omega
    · have hi64b : decide ((i : Int) < (n : Int)) = false := decide_eq_false (by omega)
      have hi64c : decide (i < n) = false := decide_eq_false hlt
      have hmin3 := min2' Try.prog #[3, 3] 3 pb pc
      have hmin4 := min2' Try.prog #[3, 3] 3 pa (mn (pb : Int) pc)
      rw [HMIN.out] at hmin4
      go_wp2_with fail
      refine CA.out.mono ?_
      rintro e w1 ⟨rfl, rfl⟩
      go_wp2_with fail
      refine CB.out.mono ?_
      rintro e w1 ⟨rfl, rfl⟩
      go_wp2_with fail
      refine CC.out.mono ?_
      rintro e w1 ⟨rfl, rfl⟩
      go_wp2_with fail
      clear hmin3 hmin4
      refine DA.out.mono ?_
      rintro e w1 ⟨rfl, rfl⟩
      go_wp2_with fail
      refine DB.out.mono ?_
      rintro e w1 ⟨rfl, rfl⟩
      go_wp2_with fail
      refine DC.out.mono ?_
      rintro e w1 ⟨rfl, rfl⟩
      go_wp2_with fail
      refine HX.out.mono ?_
      rintro e W1 ⟨rfl, p1⟩
      have PP1 := Lib.hid p1
      clear p1 d0 CA CB CC DA DB DC HX
      go_wp2_with fail
      refine (EA.out _ PP1.out).mono ?_
      rintro e w1 ⟨rfl, rfl⟩
      go_wp2_with fail
      refine (EB.out _ PP1.out).mono ?_
      rintro e w1 ⟨rfl, rfl⟩
      go_wp2_with fail
      refine (EC.out _ PP1.out).mono ?_
      rintro e w1 ⟨rfl, rfl⟩
      go_wp2_with fail
      refine (HY.out _ PP1.out).mono ?_
      rintro e W2 ⟨rfl, p2⟩
      have PP2 := Lib.hid p2
      clear p2 PP1 EA EB EC HY
      go_wp2_with fail
      refine (HMK.out _ PP2.out).mono ?_
      rintro e W3 ⟨rfl, p3⟩
      obtain ⟨u, nb, k, cap, w3, g1, g2, g3, g4⟩ := HP.out _ p3
      have k0 := blk_cell g1 0 u rfl
      have k1 := blk_cell g3 0 u rfl
      have f1 := blk_free g3 0
      have z0 := fun o => Lib.cell?_alloc_some o k0
      have G2 := Lib.hid g2
      have G4 := Lib.hid g4
      clear p3 PP2 HMK HP g1 g2 g3 g4
      go_wp2_with (at_builtin; refine wpList_append_run _ rfl (.tmp 128) (.tmp 134) 117 rfl u (.slice (some ⟨_, 0, none⟩) 1 1) rfl rfl (.slice (some ⟨nb, 0, none⟩) k cap) w3 G2.out ?_)
      exact G4.out
end
end Go.Proofs.Ytbglnddjhlefnaa
namespace Go.Proofs.Ytbglnddjhlefnaa
open Go Go.RowKit Go.Proofs.YtbglnddjhlefnaaW.PrintWords Go.Proofs.YtbglnddjhlefnaaW.PrintLast Go.Proofs.YtbglnddjhlefnaaW.PrintMore
/-- How many are reckoned, how many nodes are new. -/
theorem iteF_count (bits : Nat) : ∀ (f a b c : Nat) (N : List Nd) (D : Dn), D.length ≤ (iteF false bits f a b c N D).2.2.length ∧ (iteF false bits f a b c N D).2.2.length + 1 ≤ D.length + 2 ^ f ∧ (iteF false bits f a b c N D).2.1.length + 1 ≤ N.length + 2 ^ f := by
  intro f
  induction f with
  | zero => intro a b c N D; simp [iteF]
  | succ f ih =>
    intro a b c N D
    have hp : 2 ^ (f + 1) = 2 ^ f + 2 ^ f := by rw [Nat.pow_succ]; omega
    have hp1 : 1 ≤ 2 ^ f := Nat.one_le_two_pow
    rw [iteF]
    by_cases h1 : a = 1 ∨ b = c
    · rw [if_pos h1]; simp only; omega
    rw [if_neg h1]
    by_cases h2 : a = 0
    · rw [if_pos h2]; simp only; omega
    rw [if_neg h2, if_neg (by simp)]
    cases getG D (a, b, c) with
    | some x => simp only; omega
    | none =>
      simp only
      generalize lowBit bits N a b c = bit
      have X := ih (halfOf bits N a bit false) (halfOf bits N b bit false) (halfOf bits N c bit false) N D
      generalize iteF false bits f (halfOf bits N a bit false) (halfOf bits N b bit false) (halfOf bits N c bit false) N D = x at X
      have Y := ih (halfOf bits x.2.1 a bit true) (halfOf bits x.2.1 b bit true) (halfOf bits x.2.1 c bit true) x.2.1 x.2.2
      generalize iteF false bits f (halfOf bits x.2.1 a bit true) (halfOf bits x.2.1 b bit true) (halfOf bits x.2.1 c bit true) x.2.1 x.2.2 = y at Y
      have hm := mkN_len y.2.1 bit x.1 y.1
      simp only [Bool.false_eq_true, if_false, List.length_append, List.length_cons, List.length_nil]
      omega
/-- The table and what was reckoned. -/
structure RP (g db : Nat) (S R : Nat → Prop) (T : Rd) (D : Dn) (w : World) : Prop where
  tab : RTab g S T w
  mem : ∃ v, Mem db v R D w
  ap : ∀ k, R k → ¬ S k
/-- What a call did. -/
structure RG (S R S' R' : Nat → Prop) (w w' : World) : Prop where
  new1 : ∀ k, S' k → S k ∨ w.heap.size ≤ k
  new2 : ∀ k, R' k → R k ∨ w.heap.size ≤ k
  chg : Chg (fun k => S k ∨ R k) w w'
section
variable {g db : Nat} {S S' S2 R R' R2 : Nat → Prop} {T T' : Rd} {D D' : Dn} {w w' w2 : World}
theorem RG.refl (S R : Nat → Prop) (w : World) : RG S R S R w w := ⟨fun _ h => .inl h, fun _ h => .inl h, Chg.refl _ w⟩
theorem RG.trans (h : RG S R S' R' w w') (k : RG S' R' S2 R2 w' w2) : RG S R S2 R2 w w2 :=
  ⟨fun i hi => (k.new1 i hi).elim (h.new1 i) (fun h2 => .inr (Nat.le_trans h.chg.size h2)), fun i hi => (k.new2 i hi).elim (h.new2 i) (fun h2 => .inr (Nat.le_trans h.chg.size h2)),
    h.chg.trans k.chg (fun i hi => hi.elim (fun h1 => (h.new1 i h1).imp .inl id) (fun h1 => (h.new2 i h1).imp .inr id))⟩
theorem RP.tabGr (h : RP g db S R T D w) (ht : RTab g S' T' w') (hg : Gr S S' w w') : RP g db S' R T' D w' ∧ RG S R S' R w w' := by
  obtain ⟨v, hm⟩ := h.mem
  refine ⟨⟨ht, ⟨v, hm.step hg.chg.size (fun k hk => hg.chg.block k (hm.lt k hk) (h.ap k hk))⟩, fun k hk hs => (hg.new k hs).elim (h.ap k hk) (fun h2 => by have := hm.lt k hk; omega)⟩, hg.new, fun _ h => .inl h, ?_⟩
  exact hg.chg.mono (fun k hk => .inl hk)
theorem RP.memGr {v : Value} (h : RP g db S R T D w) (hm : Mem db v R' D' w') (hg : Gr R R' w w') : RP g db S R' T D' w' ∧ RG S R S R' w w' := by
  refine ⟨⟨h.tab.step hg.chg.size (fun k hk hl => hg.chg.block k hl (fun hr => h.ap k hr hk)), ⟨v, hm⟩, fun k hk hs => (hg.new k hk).elim (fun hr => h.ap k hr hs) (fun h2 => by have := h.tab.lt k hs; omega)⟩, fun _ h => .inl h, hg.new, ?_⟩
  exact hg.chg.mono (fun k hk => .inr hk)
end
set_option maxRecDepth 100000 in
set_option maxHeartbeats 4000000 in
theorem rite_w {g db : Nat} : ∀ (f a b c : Nat) (S R : Nat → Prop) (T : Rd) (D : Dn) (w : World), RP g db S R T D w → WF T.bits T.N → DOk T.bits T.N D → Val T.N a → Val T.N b → Val T.N c → T.bits < f + lowBit T.bits T.N a b c →
    ∀ r, r = iteF false T.bits f a b c T.N D → r.2.1.length ≤ 4000000000 → r.2.2.length ≤ 4000000000 → Calls Try.prog 58 #[.pointer (some ⟨g, 0, none⟩), .pointer (some ⟨db, 0, none⟩), .int .i64 a, .int .i64 b, .int .i64 c] w fun e w' => e = .returned (.int .i64 r.1) ∧ ∃ S' R', RP g db S' R' (growR T r.2.1) r.2.2 w' ∧ RG S R S' R' w w' := by
  intro f
  induction f with
  | zero =>
    intro a b c S R T D w _ hw _ ha _ _ hf
    have := hw.bit_le ha
    have := (lowBit_le (bits := T.bits) (N := T.N) (a := a) (b := b) (c := c)).1
    omega
  | succ f ih =>
    intro a b c S R T D w h hw hok ha hb hc hf r hr hlen hdl
    have OK := iteF_ok false (f + 1) a b c T.N D hw hok ha hb hc hf
    have CN := iteF_count T.bits (f + 1) a b c T.N D
    rw [← hr] at OK CN
    have hl0 : T.N.length ≤ 4000000000 := Nat.le_trans OK.pre.length_le hlen
    have hd0 : D.length ≤ 4000000000 := Nat.le_trans CN.1 hdl
    rw [iteF] at hr
    by_cases h1 : a = 1 ∨ b = c
    · rw [if_pos h1] at hr
      subst hr
      by_cases h2 : a = 1
      · subst h2
        refine (rite_one b c).mono ?_
        rintro e w' ⟨rfl, rfl⟩
        exact ⟨rfl, S, R, by rw [growR_self]; exact h, RG.refl _ _ _⟩
      · obtain rfl : b = c := h1.elim (fun e => absurd e h2) id
        refine (rite_eq a b h2).mono ?_
        rintro e w' ⟨rfl, rfl⟩
        exact ⟨rfl, S, R, by rw [growR_self]; exact h, RG.refl _ _ _⟩
    rw [if_neg h1] at hr
    by_cases h2 : a = 0
    · rw [if_pos h2] at hr
      subst hr h2
      refine (rite_zero b c (fun e => h1 (.inr e))).mono ?_
      rintro e w' ⟨rfl, rfl⟩
      exact ⟨rfl, S, R, by rw [growR_self]; exact h, RG.refl _ _ _⟩
    rw [if_neg h2, if_neg (by simp)] at hr
    have hne1 : a ≠ 1 := fun e => h1 (.inl e)
    have hne2 : b ≠ c := fun e => h1 (.inr e)
    obtain ⟨v, hM⟩ := h.mem
    cases hg : getG D (a, b, c) with
    | some x =>
      rw [hg] at hr
      subst hr
      refine (rite_hit a b c x hM hne1 h2 hne2 hd0 hg).mono ?_
      rintro e w' ⟨rfl, rfl⟩
      exact ⟨rfl, S, R, by rw [growR_self]; exact h, RG.refl _ _ _⟩
    | none =>
      rw [hg] at hr
      simp only at hr
      have ha2 : 2 ≤ a := by omega
      obtain ⟨l1, l2, l3⟩ := lowBit_le (bits := T.bits) (N := T.N) (a := a) (b := b) (c := c)
      have hl : lowBit T.bits T.N a b c < T.bits := Nat.lt_of_le_of_lt l1 (hw.bit_lt ha2 ha)
      have hmin : mn (bitOf T.bits T.N a : Nat) (mn (bitOf T.bits T.N b : Nat) (bitOf T.bits T.N c : Nat)) = (lowBit T.bits T.N a b c : Nat) := by unfold lowBit mn; omega
      have k0 := lowBit_half hw ha hb hc hl false
      obtain ⟨bit, hbit⟩ : ∃ bit, bit = lowBit T.bits T.N a b c := ⟨_, rfl⟩
      rw [← hbit] at k0 l1 l2 l3 hl hf hr hmin
      have X := iteF_ok false f (halfOf T.bits T.N a bit false) (halfOf T.bits T.N b bit false) (halfOf T.bits T.N c bit false) T.N D hw hok (ha.half hw bit hl _) (hb.half hw bit hl _) (hc.half hw bit hl _) (by omega)
      have ihx := ih (halfOf T.bits T.N a bit false) (halfOf T.bits T.N b bit false) (halfOf T.bits T.N c bit false) S R T D w h hw hok (ha.half hw bit hl _) (hb.half hw bit hl _) (hc.half hw bit hl _) (by omega) _ rfl
      generalize iteF false T.bits f (halfOf T.bits T.N a bit false) (halfOf T.bits T.N b bit false) (halfOf T.bits T.N c bit false) T.N D = x at X hr ihx
      have ha1 := ha.pre X.pre
      have hb1 := hb.pre X.pre
      have hc1 := hc.pre X.pre
      have e1 := lowBit_pre (bits := T.bits) X.pre ha hb hc
      rw [← hbit] at e1
      have k1 := lowBit_half X.wf ha1 hb1 hc1 (by rw [e1]; exact hl) true
      rw [e1] at k1
      have Y := iteF_ok false f (halfOf T.bits x.2.1 a bit true) (halfOf T.bits x.2.1 b bit true) (halfOf T.bits x.2.1 c bit true) x.2.1 x.2.2 X.wf X.dok (ha1.half X.wf bit hl _) (hb1.half X.wf bit hl _) (hc1.half X.wf bit hl _) (by omega)
      have YC := iteF_count T.bits f (halfOf T.bits x.2.1 a bit true) (halfOf T.bits x.2.1 b bit true) (halfOf T.bits x.2.1 c bit true) x.2.1 x.2.2
      have ihy := fun S1 R1 w1 (h1 : RP g db S1 R1 (growR T x.2.1) x.2.2 w1) => ih (halfOf T.bits x.2.1 a bit true) (halfOf T.bits x.2.1 b bit true) (halfOf T.bits x.2.1 c bit true) S1 R1 (growR T x.2.1) x.2.2 w1 h1 X.wf X.dok (ha1.half X.wf bit hl _) (hb1.half X.wf bit hl _) (hc1.half X.wf bit hl _) (by show T.bits < f + lowBit T.bits x.2.1 _ _ _; omega) _ rfl
      have hxg : ∀ N2, x.2.1.length ≤ N2.length → growR (growR T x.2.1) N2 = growR T N2 := fun N2 hN2 => growR_grow T x.2.1 N2 X.pre.length_le hN2
      have ebits : (growR T x.2.1).bits = T.bits := rfl
      have eN : (growR T x.2.1).N = x.2.1 := rfl
      simp only [ebits, eN] at ihy
      generalize iteF false T.bits f (halfOf T.bits x.2.1 a bit true) (halfOf T.bits x.2.1 b bit true) (halfOf T.bits x.2.1 c bit true) x.2.1 x.2.2 = y at Y hr ihy YC
      have hmk : r.1 = (mkN y.2.1 bit x.1 y.1).1 ∧ r.2.1 = (mkN y.2.1 bit x.1 y.1).2 ∧ r.2.2 = y.2.2 ++ [((a, b, c), (mkN y.2.1 bit x.1 y.1).1)] := by rw [hr]; exact ⟨rfl, rfl, rfl⟩
      have hmp := (mkN_pre (N := y.2.1) bit x.1 y.1).length_le
      have hyl : y.2.1.length ≤ 4000000000 := Nat.le_trans (by rw [hmk.2.1]; exact hmp) hlen
      have hxl : x.2.1.length ≤ 4000000000 := Nat.le_trans Y.pre.length_le hyl
      have hydl : y.2.2.length ≤ 4000000000 := by
        have := hmk.2.2
        rw [this, List.length_append] at hdl
        omega
      have hxdl : x.2.2.length ≤ 4000000000 := Nat.le_trans YC.1 hydl
      have hyg : ∀ N2, y.2.1.length ≤ N2.length → growR (growR T y.2.1) N2 = growR T N2 := fun N2 hN2 => growR_grow T y.2.1 N2 (Nat.le_trans X.pre.length_le Y.pre.length_le) hN2
      refine rite_go a b c bit _ _ _ _ _ _ (halfOf T.bits x.2.1 a bit true) (halfOf T.bits x.2.1 b bit true) (halfOf T.bits x.2.1 c bit true) x.1 y.1 r.1 w
        (fun W => ∃ S1 R1, RP g db S1 R1 (growR T x.2.1) x.2.2 W ∧ RG S R S1 R1 w W) (fun W => ∃ S1 R1, RP g db S1 R1 (growR T y.2.1) y.2.2 W ∧ RG S R S1 R1 w W) (fun W => ∃ S1 R1, RP g db S1 R1 (growR T r.2.1) y.2.2 W ∧ RG S R S1 R1 w W) _
        hM hne1 h2 hne2 hd0 hg hmin (rbit_w h.tab a ha hl0) (rbit_w h.tab b hb hl0) (rbit_w h.tab c hc hl0) (rhalf_w h.tab a bit ha hl0 hl false) (rhalf_w h.tab b bit hb hl0 hl false) (rhalf_w h.tab c bit hc hl0 hl false) ?_
        (fun W1 h1 => ?_) (fun W1 h1 => ?_) (fun W1 h1 => ?_) (fun W1 h1 => ?_) (fun W2 h2 => ?_) (fun W3 h3 => ?_)
      · exact ihx hxl hxdl
      · obtain ⟨S1, R1, q1, q2⟩ := h1
        exact rhalf_w q1.tab a bit ha1 hxl hl true
      · obtain ⟨S1, R1, q1, q2⟩ := h1
        exact rhalf_w q1.tab b bit hb1 hxl hl true
      · obtain ⟨S1, R1, q1, q2⟩ := h1
        exact rhalf_w q1.tab c bit hc1 hxl hl true
      · obtain ⟨S1, R1, q1, q2⟩ := h1
        refine (ihy S1 R1 W1 q1 hyl hydl).mono ?_
        rintro e w' ⟨rfl, S2, R2, p1, p2⟩
        rw [hxg _ Y.pre.length_le] at p1
        exact ⟨rfl, S2, R2, p1, q2.trans p2⟩
      · obtain ⟨S1, R1, q1, q2⟩ := h2
        refine (rnode_w q1.tab bit x.1 y.1 hyl (mkN y.2.1 bit x.1 y.1) rfl).mono ?_
        rintro e w' ⟨S2, rfl, p1, p2⟩
        rw [hyg _ hmp, ← hmk.2.1] at p1
        obtain ⟨p3, p4⟩ := q1.tabGr p1 p2
        exact ⟨by rw [hmk.1], S2, R1, p3, q2.trans p4⟩
      · obtain ⟨S1, R1, q1, q2⟩ := h3
        obtain ⟨u, hu⟩ := q1.mem
        obtain ⟨nb, k, cap, w3, p1, p2, R2, p3, p4⟩ := hu.push a b c r.1 hydl
        obtain ⟨p5, p6⟩ := q1.memGr p3 p4
        rw [hmk.2.2, ← hmk.1]
        exact ⟨u, nb, k, cap, w3, hu.box, p1, p2, rfl, S1, R2, p5, q2.trans p6⟩
end Go.Proofs.Ytbglnddjhlefnaa
namespace Go.Proofs.Ytbglnddjhlefnaa
open Go Go.RowKit Go.Proofs.YtbglnddjhlefnaaW.PrintWords Go.Proofs.YtbglnddjhlefnaaW.PrintLast Go.Proofs.YtbglnddjhlefnaaW.PrintMore
theorem app_nil (q : Nat) (w : World) : (Builtin.append_ #[109, 109] 109 #[.slice (some ⟨q, 0, none⟩) 0 0, .slice none 0 0]).run Try.prog w = .ok (.slice (some ⟨q, 0, none⟩) 0 0) w := by
  go_simp
def newR (bits lim : Nat) : Rd := ⟨bits, lim, [], [], []⟩
/-- A row of bools, whole. -/
def Bo (u : Value) (l : List Bool) (w : World) : Prop := w.ownsRow 0 4 1 u l.length (l.map Value.bool)
section
variable {g ub : Nat} {u : Value} {l : List Bool} {S : Nat → Prop} {T : Rd} {w w' : World}
theorem Bo.cell {ub c : Nat} {n : Nat} (h : Bo (.slice (some ⟨ub, 0, none⟩) n c) l w) (i : Nat) (x : Bool) (hi : l[i]? = some x) : w.cell? ⟨ub, i, none⟩ = some (.bool x) ∧ w.frozen? ⟨ub, i, none⟩ = false := by
  have hil := (List.getElem?_eq_some_iff.1 hi).1
  rcases h.2 with ⟨_, h0⟩ | ⟨q, cap, cur, hv, _, hc, hcap, hm, hcs, htk⟩
  · omega
  injection hv with h1 _ _
  injection h1 with h1
  injection h1 with h1
  subst h1
  refine ⟨?_, blk_free hc i⟩
  rw [cell_of_row w ub i cur 4 (0, 0) hc]
  have hk : (l.map Value.bool)[i]? = some (Value.bool x) := by rw [List.getElem?_map, hi]; rfl
  rw [← htk, List.getElem?_take, if_pos (by omega), Array.getElem?_toList] at hk
  exact hk
theorem Bo.set {ub c : Nat} {n : Nat} (h : Bo (.slice (some ⟨ub, 0, none⟩) n c) l w) (i : Nat) (x : Bool) (hi : i < l.length) : Bo (.slice (some ⟨ub, 0, none⟩) n c) (l.set i x) (w.setCell ⟨ub, i, none⟩ (.bool x)) := by
  rcases h.2 with ⟨_, h0⟩ | ⟨q, cap, cur, hv, hb, hc, hcap, hm, hcs, htk⟩
  · omega
  injection hv with h1 h2 h3
  injection h1 with h1
  injection h1 with h1
  subst h1 h2 h3
  refine ⟨by simp, .inr ⟨ub, c, cur.setIfInBounds i (.bool x), by rw [List.length_set], hb, blk_set hc i _, by rw [List.length_set]; exact hcap, hm, by simpa using hcs, ?_⟩⟩
  rw [List.length_set, Array.toList_setIfInBounds, List.take_set, htk, List.map_set]
theorem Bo.step (h : Bo u l w) (hb : ∀ k, u.ownBlock = some k → w'.heap[k]? = w.heap[k]?) : Bo u l w' := ownsRow_step h hb
set_option maxRecDepth 100000 in
theorem rnew_w (b m : Nat) (h1 : 1 ≤ b) (h2 : b ≤ 128) (h3 : m ≤ 1048576) : Calls Try.prog 32 #[.int .i64 b, .int .i64 m] w fun e w' => e = .returned (.tuple #[.pointer (some ⟨w.heap.size, 0, none⟩), .int .i64 0]) ∧ RTab w.heap.size (fun k => k = w.heap.size) (newR b m) w' ∧ Below w.heap.size w w' := by
  have t1 : decide ((b : Int) < 1) = false := decide_eq_false (by omega)
  have t2 : decide ((128 : Int) < b) = false := decide_eq_false (by omega)
  have t3 : decide ((m : Int) < 0) = false := decide_eq_false (by omega)
  have t4 : decide ((1048576 : Int) < m) = false := decide_eq_false (by omega)
  have t5 : decide (128 < b) = false := decide_eq_false (by omega)
  have t6 : decide (1048576 < m) = false := decide_eq_false (by omega)
  have t7 : decide (b < 1) = false := decide_eq_false (by omega)
  clear h1 h2 h3
  go_enter Try.func32, Try.ntmps32
  go_wp2_with fail
  go_ret2
  refine ⟨rfl, ⟨.slice none 0 0, .slice none 0 0, .slice none 0 0, ⟨rfl, ?_, heap_alloc_new w _, World.ownsRow_nil _ 0 83 3, World.ownsRow_nil _ 0 4 1, World.ownsRow_nil _ 0 4 1, (fun n hn => by cases hn), (fun n hn => by cases hn), (fun n hn => by cases hn), (fun n hn => by cases hn)⟩, rfl, rfl⟩, below_alloc (Below.refl _ _) _⟩
  rintro k rfl
  rw [World.size_alloc]
  omega
set_option maxRecDepth 100000 in
theorem rnew_bad (b : Int) (m : Int) (h : b < 1 ∨ 128 < b) : Calls Try.prog 32 #[.int .i64 b, .int .i64 m] w fun e w' => e = .returned (.tuple #[.pointer none, .int .i64 1]) ∧ w = w' := by
  rcases h with h | h
  · have t1 : decide (b < 1) = true := decide_eq_true h
    clear h
    go_enter Try.func32, Try.ntmps32
    go_wp2_with fail
    go_ret2
    exact ⟨rfl, rfl⟩
  · have t1 : decide (b < 1) = false := decide_eq_false (by omega)
    have t2 : decide (128 < b) = true := decide_eq_true h
    clear h
    go_enter Try.func32, Try.ntmps32
    go_wp2_with fail
    go_ret2
    exact ⟨rfl, rfl⟩
/-- What a call of mark did. -/
def MkP (u : Value) (n : Nat) (w : World) (e : Ending) (w' : World) : Prop := e = .returned (.tuple #[]) ∧ ∃ l, l.length = n ∧ Bo u l w' ∧ Chg (fun k => u.ownBlock = some k) w w'
set_option maxRecDepth 100000 in
theorem mark_end (a n c : Nat) (ha : a < 2) : Calls Try.prog 68 #[.pointer (some ⟨g, 0, none⟩), .int .i64 a, .slice (some ⟨ub, 0, none⟩) n c] w fun e w' => e = .returned (.tuple #[]) ∧ w = w' := by
  have t1 : decide ((a : Int) < 2) = true := decide_eq_true (by omega)
  clear ha
  go_enter Try.func68, Try.ntmps68
  go_wp2_with fail
  exact bodyPost_ret_by (results_none rfl _ _ _) rfl ⟨rfl, rfl⟩
set_option maxRecDepth 100000 in
theorem mark_hit (a n c : Nat) (h2 : 2 ≤ a) (hn : a - 2 < n) (hn2 : n ≤ 4000000000) (h0 : w.cell? ⟨ub, a - 2, none⟩ = some (.bool true)) : Calls Try.prog 68 #[.pointer (some ⟨g, 0, none⟩), .int .i64 a, .slice (some ⟨ub, 0, none⟩) n c] w fun e w' => e = .returned (.tuple #[]) ∧ w = w' := by
  have t1 : decide ((a : Int) < 2) = false := decide_eq_false (by omega)
  have ha0 : 0 ≤ (a : Int) - 2 := by omega
  have ha1 : (a : Int) - 2 < (n : Int) := by omega
  have ha2 : ((a : Int) - 2).toNat = a - 2 := by omega
  clear h2 hn
  go_enter Try.func68, Try.ntmps68
  go_wp2_with fail
  exact bodyPost_ret_by (results_none rfl _ _ _) rfl ⟨rfl, rfl⟩
set_option maxRecDepth 100000 in
set_option maxHeartbeats 2000000 in
theorem mark_go (a n c x lo hi nb m cap : Nat) (P1 : World → Prop) (Po : Ending → World → Prop) (h2 : 2 ≤ a) (hn : a - 2 < n) (hn2 : n ≤ 4000000000) (hm : a - 2 < m) (h0 : w.cell? ⟨ub, a - 2, none⟩ = some (.bool false)) (f0 : w.frozen? ⟨ub, a - 2, none⟩ = false)
    (ht : ∀ W, (W = w.setCell ⟨ub, a - 2, none⟩ (.bool true) ∨ P1 W) → W.cell? ⟨g, 2, none⟩ = some (.slice (some ⟨nb, 0, none⟩) m cap) ∧ W.cell? ⟨nb, (a - 2) * 3, none⟩ = some (.int .i64 x) ∧ W.cell? ⟨nb, (a - 2) * 3 + 1, none⟩ = some (.int .i64 lo) ∧ W.cell? ⟨nb, (a - 2) * 3 + 2, none⟩ = some (.int .i64 hi))
    (c1 : Calls Try.prog 68 #[.pointer (some ⟨g, 0, none⟩), .int .i64 lo, .slice (some ⟨ub, 0, none⟩) n c] (w.setCell ⟨ub, a - 2, none⟩ (.bool true)) fun e w' => e = .returned (.tuple #[]) ∧ P1 w')
    (c2 : ∀ W, P1 W → Calls Try.prog 68 #[.pointer (some ⟨g, 0, none⟩), .int .i64 hi, .slice (some ⟨ub, 0, none⟩) n c] W fun e w' => e = .returned (.tuple #[]) ∧ Po (.returned (.tuple #[])) w') :
    Calls Try.prog 68 #[.pointer (some ⟨g, 0, none⟩), .int .i64 a, .slice (some ⟨ub, 0, none⟩) n c] w Po := by
  have t1 : decide ((a : Int) < 2) = false := decide_eq_false (by omega)
  have ha0 : 0 ≤ (a : Int) - 2 := by omega
  have ha1 : (a : Int) - 2 < (n : Int) := by omega
  have ha3 : (a : Int) - 2 < (m : Int) := by omega
  have ha2 : ((a : Int) - 2).toNat = a - 2 := by omega
  have HT := Lib.hid ht
  have C1 := Lib.hid c1
  have C2 := Lib.hid c2
  clear ht c1 c2 h2 hn hm
  go_enter Try.func68, Try.ntmps68
  go_upto_region 2 with fail
  obtain ⟨W0, hW0⟩ : ∃ W0, W0 = w.setCell ⟨ub, a - 2, none⟩ (.bool true) := ⟨_, rfl⟩
  rw [← hW0] at C1 HT ⊢
  obtain ⟨k0, k1, k2, k3⟩ := HT.out W0 (.inl rfl)
  clear h0 f0 hW0
  go_wp2_with fail
  refine C1.out.mono ?_
  rintro e W1 ⟨rfl, p1⟩
  obtain ⟨q0, q1, q2, q3⟩ := HT.out W1 (.inr p1)
  have CC := Lib.hid (C2.out W1 p1)
  clear k0 k1 k2 k3 p1 C1 C2 HT
  go_wp2_with fail
  refine CC.out.mono ?_
  rintro e W2 ⟨rfl, p2⟩
  have PP := Lib.hid p2
  clear p2 CC
  go_wp2_with fail
  go_end0
  exact PP.out
/-- Facts of the document's table, out of its structure. -/
theorem RTabAt.nodeAt {vN vU vT : Value} (h : RTabAt g vN vU vT S T w) (a : Nat) (h2 : 2 ≤ a) (hv : Val T.N a) : ∃ nb cap, vN = .slice (some ⟨nb, 0, none⟩) T.N.length cap ∧ w.cell? ⟨g, 2, none⟩ = some (.slice (some ⟨nb, 0, none⟩) T.N.length cap) ∧ w.cell? ⟨nb, (a - 2) * 3, none⟩ = some (.int .i64 (ndAt T.N a).1) ∧ w.cell? ⟨nb, (a - 2) * 3 + 1, none⟩ = some (.int .i64 (ndAt T.N a).2.1) ∧ w.cell? ⟨nb, (a - 2) * 3 + 2, none⟩ = some (.int .i64 (ndAt T.N a).2.2) := by
  obtain ⟨nb, cap, rfl, c0, c1, c2⟩ := row_node h.rowN (a - 2) _ (ndAt_some h2 hv)
  exact ⟨nb, cap, rfl, blk_cell h.box 2 _ rfl, c0, c1, c2⟩
theorem mark_w {vN vU vT : Value} {n c : Nat} (hw : WF T.bits T.N) (hN : T.N.length ≤ 4000000000) (hub : ¬ S ub) : ∀ (a : Nat) (l : List Bool) (w : World), RTabAt g vN vU vT S T w → Val T.N a → l.length = T.N.length → n = T.N.length → Bo (.slice (some ⟨ub, 0, none⟩) n c) l w →
    Calls Try.prog 68 #[.pointer (some ⟨g, 0, none⟩), .int .i64 a, .slice (some ⟨ub, 0, none⟩) n c] w (MkP (.slice (some ⟨ub, 0, none⟩) n c) T.N.length w) := by
  intro a
  induction a using Nat.strongRecOn with
  | ind a ih =>
    intro l w h hv hl hn hB
    rcases Nat.lt_or_ge a 2 with h2 | h2
    · refine (mark_end a n c h2).mono ?_
      rintro e w' ⟨rfl, rfl⟩
      exact ⟨rfl, l, hl, hB, Chg.refl _ _⟩
    have hal : a - 2 < T.N.length := by unfold Val at hv; omega
    have hat : l[a - 2]? = some l[a - 2] := List.getElem?_eq_getElem (by omega)
    generalize l[a - 2] = x at hat
    obtain ⟨x0, x1⟩ := hB.cell (a - 2) x hat
    cases x with
    | true =>
      refine (mark_hit a n c h2 (by omega) (by omega) x0).mono ?_
      rintro e w' ⟨rfl, rfl⟩
      exact ⟨rfl, l, hl, hB, Chg.refl _ _⟩
    | false =>
      obtain ⟨q1, q2, q3, q4, q5, q6⟩ := hw.at_ h2 hv
      obtain ⟨nb, cap, hvN, _⟩ := h.nodeAt a h2 hv
      have hB1 := hB.set (a - 2) true (by omega)
      have hl1 : (l.set (a - 2) true).length = T.N.length := by rw [List.length_set]; exact hl
      have far : ∀ k, k ≠ ub → (w.setCell ⟨ub, a - 2, none⟩ (.bool true)).heap[k]? = w.heap[k]? := fun k hk => Below.heap_setCell _ _ _ _ hk
      have hsz : (w.setCell ⟨ub, a - 2, none⟩ (.bool true)).heap.size = w.heap.size := by simp [World.setCell]
      have hc0 : Chg (fun k => (Value.slice (some ⟨ub, 0, none⟩) n c).ownBlock = some k) w (w.setCell ⟨ub, a - 2, none⟩ (.bool true)) := (Chg.refl _ _).set _ _ (.inl rfl)
      have stay : ∀ W, Chg (fun k => (Value.slice (some ⟨ub, 0, none⟩) n c).ownBlock = some k) w W → RTabAt g vN vU vT S T W := fun W hW => h.step hW.size (fun k hk hkl => hW.block k hkl (fun e => by
        simp only [Value.ownBlock, Option.some.injEq] at e
        exact hub (e ▸ hk)))
      refine mark_go a n c (ndAt T.N a).1 (ndAt T.N a).2.1 (ndAt T.N a).2.2 nb T.N.length cap (fun W => ∃ l, l.length = T.N.length ∧ Bo (.slice (some ⟨ub, 0, none⟩) n c) l W ∧ Chg (fun k => (Value.slice (some ⟨ub, 0, none⟩) n c).ownBlock = some k) w W) _ h2 (by omega) (by omega) hal x0 x1 (fun W hW => ?_) ?_ (fun W hW => ?_)
      · have hR : RTabAt g vN vU vT S T W := by
          rcases hW with rfl | ⟨l2, _, _, hW⟩
          · exact stay _ hc0
          · exact stay _ hW
        obtain ⟨nb2, cap2, e1, e2⟩ := hR.nodeAt a h2 hv
        rw [hvN] at e1
        injection e1 with e1 _ e3
        injection e1 with e1
        injection e1 with e1
        subst e1 e3
        exact e2
      · refine (ih (ndAt T.N a).2.1 q2 (l.set (a - 2) true) _ (stay _ hc0) (hv.lo hw h2) hl1 hn hB1).mono ?_
        rintro e w' ⟨rfl, l2, p1, p2, p3⟩
        exact ⟨rfl, l2, p1, p2, hc0.trans p3 (fun i hi => .inl hi)⟩
      · obtain ⟨l2, p1, p2, p3⟩ := hW
        refine (ih (ndAt T.N a).2.2 q3 l2 W (stay _ p3) (hv.hi hw h2) p1 hn p2).mono ?_
        rintro e w' ⟨rfl, l3, r1, r2, r3⟩
        exact ⟨rfl, rfl, l3, r1, r2, p3.trans r3 (fun i hi => .inl hi)⟩
/-- A new row of bools as another one. -/
theorem bool_copy {v : Value} (hB : Bo v l w) (hl : l.length ≤ 4000000000) (hlt : ∀ k, v.ownBlock = some k → k < w.heap.size) : ∃ ub c w3, (Builtin.append_ #[109, 109] 109 #[.slice (some ⟨w.heap.size, 0, none⟩) 0 0, v]).run Try.prog (w.alloc (.cells #[] 4)) = .ok (.slice (some ⟨ub, 0, none⟩) l.length c) w3 ∧ Bo (.slice (some ⟨ub, 0, none⟩) l.length c) l w3 ∧ w.heap.size ≤ ub ∧ Below w.heap.size w w3 := by
  have hb0 := below_alloc (Below.refl w.heap.size w) (.cells #[] 4)
  rcases hB.2 with ⟨rfl, h0⟩ | ⟨q, cap, cur, rfl, _, hc, hcap, hm, hcs, htk⟩
  · have hl0 : l = [] := List.eq_nil_of_length_eq_zero h0
    subst hl0
    refine ⟨w.heap.size, 0, _, app_nil _ _, ?_, Nat.le_refl _, hb0⟩
    exact World.ownsRow_lit (base := 0) (e := 4) (size := 1) w #[] 0 (Nat.zero_le _) (by simp [maxLen]) (by simp)
  · obtain ⟨i0, hinf, hzz⟩ := Option.map_eq_some_iff.1 Try.info4
    simp only [Prod.mk.injEq] at hzz
    have hown0 : (w.alloc (.cells #[] 4)).ownsRow w.heap.size 4 1 (.slice (some ⟨w.heap.size, 0, none⟩) 0 0) 0 [] := World.ownsRow_lit (base := w.heap.size) (e := 4) (size := 1) w #[] 0 (Nat.le_refl _) (by simp [maxLen]) (by simp)
    have hql := hlt q rfl
    have hnews : ∀ (j : Nat) (x : Value), (l.map Value.bool)[j]? = some x → (w.alloc (.cells #[] 4)).cell? ((⟨q, 0, none⟩ : Addr).add j) = some x := by
      intro j x hj
      have hjl : j < l.length := by have := (List.getElem?_eq_some_iff.1 hj).1; simpa using this
      rw [add_at, cell_of_row _ q _ cur 4 (0, 0) ((heap_alloc_old w _ hql).trans hc), Nat.zero_add]
      rw [← htk, List.getElem?_take, if_pos (by omega), Array.getElem?_toList] at hj
      exact hj
    have hsz : (w.alloc (.cells #[] 4)).heap.size = w.heap.size + 1 := World.size_alloc _ _
    obtain ⟨v', w3, hrun, hown, hgr, hnil, hwho⟩ := run_append_own_at (P := Try.prog) (w.alloc (.cells #[] 4)) w.heap.size 109 109 4 i0 _ 1 1 Try.underlying109 hinf hzz.1 hzz.2.1 hzz.2.2 rfl (by omega) (.slice (some ⟨w.heap.size, 0, none⟩) 0 0) 0 [] hown0
      ⟨q, 0, none⟩ l.length cap (l.map Value.bool) (by simp) hnews (by intro x hx; obtain ⟨y, _, rfl⟩ := List.mem_map.1 hx; rfl) (by simp only [maxLen]; omega) (by omega) (by omega)
    rw [Nat.zero_add, List.nil_append] at hown
    have hbw : Below w.heap.size w w3 := by
      refine ⟨hgr.os, hgr.tape, hgr.output, ?_, fun k hk => (hgr.block k (by omega) (fun e => ?_)).trans (heap_alloc_old w _ hk)⟩
      · have := hgr.size; omega
      · simp only [Value.ownBlock, Option.some.injEq] at e
        omega
    rcases hown.2 with ⟨hv', _⟩ | ⟨q', cap', cur', rfl, hq, hc', hcap', hm', hcs', htk'⟩
    · have := (hnil.1 hv').1
      injection this with h1 _ _
      cases h1
    · exact ⟨q', cap', w3, hrun, ⟨hown.1, .inr ⟨q', cap', cur', rfl, Nat.zero_le _, hc', hcap', hm', hcs', htk'⟩⟩, hq, hbw⟩
end
end Go.Proofs.Ytbglnddjhlefnaa
namespace Go.Proofs.Ytbglnddjhlefnaa
open Go Go.RowKit Go.Proofs.YtbglnddjhlefnaaW.PrintWords Go.Proofs.YtbglnddjhlefnaaW.PrintLast Go.Proofs.YtbglnddjhlefnaaW.PrintMore
/-- The table behind a tell: what is used is another row. -/
def tellR (T : Rd) (a : Nat) (l : List Bool) : Rd := { T with used := l, told := if 2 ≤ a then T.told.set (a - 2) true else T.told }
section
variable {g : Nat} {S : Nat → Prop} {T : Rd} {w w' : World}
/-- The last steps of tell. -/
theorem RTabAt.used {vN vU vT u : Value} {l : List Bool} (h : RTabAt g vN vU vT S T w) (hB : Bo u l w) (hu : ∀ k, u.ownBlock = some k → ¬ S k ∧ k < w.heap.size) : RTabAt g vN u vT (fun k => S k ∨ u.ownBlock = some k) { T with used := l } (w.setCell ⟨g, 3, none⟩ u) := by
  obtain ⟨a1, a2, a3⟩ := h.apart
  have far : ∀ k, k ≠ g → (w.setCell ⟨g, 3, none⟩ u).heap[k]? = w.heap[k]? := fun k hk => Below.heap_setCell _ _ _ _ hk
  have hsz : (w.setCell ⟨g, 3, none⟩ u).heap.size = w.heap.size := by simp [World.setCell]
  refine ⟨.inl h.sg, ?_, ?_, ?_, ?_, ?_, fun n hn => .inl (h.nN n hn), fun n hn => .inr hn, fun n hn => .inl (h.nT n hn), ?_⟩
  · rintro k (hk | hk)
    · rw [hsz]; exact h.lt k hk
    · rw [hsz]; exact (hu k hk).2
  · exact blk_set h.box 3 u
  · exact ownsRow_step h.rowN (fun k hk => far k (a1 k hk).1)
  · exact hB.step (fun k hk => far k (fun e => (hu k hk).1 (e ▸ h.sg)))
  · exact ownsRow_step h.rowT (fun k hk => far k (a3 k hk))
  · intro n hn e
    exact (hu n hn).1 (h.nT n e)
theorem RTabAt.tolds {vN vU : Value} {tb n c : Nat} (h : RTabAt g vN vU (.slice (some ⟨tb, 0, none⟩) n c) S T w) (i : Nat) (hi : i < T.told.length) : RTabAt g vN vU (.slice (some ⟨tb, 0, none⟩) n c) S { T with told := T.told.set i true } (w.setCell ⟨tb, i, none⟩ (.bool true)) := by
  obtain ⟨a1, a2, a3⟩ := h.apart
  have far : ∀ k, k ≠ tb → (w.setCell ⟨tb, i, none⟩ (.bool true)).heap[k]? = w.heap[k]? := fun k hk => Below.heap_setCell _ _ _ _ hk
  have hsz : (w.setCell ⟨tb, i, none⟩ (.bool true)).heap.size = w.heap.size := by simp [World.setCell]
  refine ⟨h.sg, fun k hk => by rw [hsz]; exact h.lt k hk, (far g (fun e => a3 tb rfl e.symm)).trans h.box, ownsRow_step h.rowN (fun k hk => far k (fun e => (a1 k hk).2.2 (by rw [e]; rfl))), ownsRow_step h.rowU (fun k hk => far k (fun e => h.ut k hk (by rw [e]; rfl))), ?_, h.nN, h.nU, h.nT, h.ut⟩
  exact Bo.set (show Bo _ T.told w from h.rowT) i true hi
theorem count_le (l : List Bool) : l.countP id ≤ l.length := List.countP_le_length
theorem count_step (l : List Bool) (i : Nat) (x : Bool) (h : l[i]? = some x) : (l.take (i + 1)).countP id = (l.take i).countP id + (if x then 1 else 0) := by
  rw [List.take_add_one, h, List.countP_append]
  cases x <;> simp
set_option maxRecDepth 100000 in
set_option maxHeartbeats 4000000 in
theorem rtell_w (h : RTab g S T w) (hw : WF T.bits T.N) (a : Nat) (hv : Val T.N a) (hlim : T.N.length ≤ T.lim) (hl : T.lim ≤ 4000000000) :
    Calls Try.prog 56 #[.pointer (some ⟨g, 0, none⟩), .int .i64 a] w fun e w' => e = .returned (.tuple #[.int .i64 a, .int .i64 0]) ∧ ∃ l S', RTab g S' (tellR T a l) w' ∧ Gr S S' w w' := by
  obtain ⟨vN, vU, vT, h, hu, ht⟩ := h
  obtain ⟨ub, c, w3, e1, e2, e3, e4⟩ := bool_copy (show Bo vU T.used w from h.rowU) (by omega) (fun k hk => h.lt k (h.nU k hk))
  rw [hu] at e1 e2
  have hub : ¬ S ub := fun hs => by have := h.lt ub hs; omega
  have h3 := h.below e4
  have MK := Lib.hid (mark_w (c := c) hw (by omega) hub a T.used w3 h3 hv hu rfl e2)
  have d3 := blk_cell h.box 3 vU rfl
  have z3 := fun o => Lib.cell?_alloc_some o d3
  have E1 := Lib.hid e1
  have HP : Hid (∀ w4, Chg (fun k => (Value.slice (some ⟨ub, 0, none⟩) T.N.length c).ownBlock = some k) w3 w4 → RTabAt g vN vU vT S T w4) := Lib.hid (fun w4 hc => h3.step hc.size (fun k hk hkl => hc.block k hkl (fun e => by
    simp only [Value.ownBlock, Option.some.injEq] at e
    exact hub (e ▸ hk))))
  have HG : Hid (∀ w4, Chg (fun k => (Value.slice (some ⟨ub, 0, none⟩) T.N.length c).ownBlock = some k) w3 w4 → Below w.heap.size w w4 ∧ ub < w4.heap.size ∧ w.heap.size ≤ ub ∧ ¬ S ub) := Lib.hid (fun w4 hc => by
    obtain ⟨cc, hcc⟩ := own_type e2 ub rfl
    have hul := blk_lt' hcc
    exact ⟨e4.trans (hc.below (fun k hk => by simp only [Value.ownBlock, Option.some.injEq] at hk; omega) e4.size), by have := hc.size; omega, e3, hub⟩)
  have HU := Lib.hid hu
  have HT := Lib.hid ht
  have HV := Lib.hid hv
  have HL := Lib.hid hlim
  obtain ⟨n, hn⟩ : ∃ n, n = T.N.length := ⟨_, rfl⟩
  rw [← hn] at E1 MK HP HG
  have hn2 : n ≤ 4000000000 := by omega
  have HN := Lib.hid hn
  have hlm : n ≤ T.lim := by omega
  clear e1 e2 e3 e4 h3 hub h hu ht hv hw hlim hn d3
  go_enter Try.func56, Try.ntmps56
  go_wp2_with (at_builtin; refine wpList_append_run _ rfl (.tmp 9) (.tmp 13) 109 rfl (.slice (some ⟨_, 0, none⟩) 0 0) vU rfl rfl (.slice (some ⟨ub, 0, none⟩) n c) w3 E1.out ?_)
  refine MK.out.mono ?_
  rintro e w4 ⟨rfl, l, hll, hB, hc⟩
  have H4 := Lib.hid (HP.out w4 hc)
  have G4 := Lib.hid (HG.out w4 hc)
  have LL := Lib.hid hll
  have BO := Lib.hid hB
  have k1 := blk_cell H4.out.box 1 (.int .i64 T.lim) rfl
  have k3 := blk_free H4.out.box 3
  have k3' := blk_cell H4.out.box 3 vU rfl
  clear hc HP HG MK E1 z3 hB hll
  obtain ⟨lim, hlim⟩ : ∃ lim, lim = T.lim := ⟨_, rfl⟩
  rw [← hlim] at k1 hlm hl
  clear hlim
  go_wp2_with fail
  go_loopw [7, 8] (fun v7 v8 wr => ∃ i : Nat, v7 = .int .i64 ((l.take i).countP id : Nat) ∧ v8 = .int .i64 i ∧ i ≤ n ∧ wr = w4) (fun _ v8 _ => n - (intOf v8).toNat)
  case atStart => exact ⟨0, rfl, rfl, Nat.zero_le _, rfl⟩
  case round =>
    obtain ⟨i, rfl, rfl, hi2, rfl⟩ := hrel
    by_cases hlt : i < n
    · have hi64 : (i : Int) < (n : Int) := by omega
      have hi64b : decide ((i : Int) < (n : Int)) = true := decide_eq_true hi64
      have hi0 : (0 : Int) ≤ (i : Int) := by omega
      have hnn : (n : Int) ≤ 4000000000 := by omega
      obtain ⟨x, hat⟩ : ∃ x, l[i]? = some x := ⟨_, List.getElem?_eq_getElem (by rw [LL.out]; exact hlt)⟩
      obtain ⟨c0, _⟩ := BO.out.cell i x hat
      have hcs := count_step l i x hat
      have hct : (l.take i).countP id ≤ i := Nat.le_trans (List.countP_le_length) (by rw [List.length_take]; omega)
      have HC := Lib.hid hcs
      generalize (l.take i).countP id = ct at hcs hct HC ⊢
      have hcti : (ct : Int) ≤ 4000000000 := by omega
      clear hat hcs
      cases x with
      | true =>
        go_wp2_with fail
        go_roundw
        case rel => exact ⟨i + 1, by rw [HC.out]; go_num, by go_num, by omega, trivial⟩
        case measure => simp [intOf]; omega
      | false =>
        go_wp2_with fail
        go_roundw
        case rel => exact ⟨i + 1, by rw [HC.out]; go_num, by go_num, by omega, trivial⟩
        case measure => simp [intOf]; omega
    · have hi64b : decide ((i : Int) < (n : Int)) = false := decide_eq_false (by omega)
      have hi64c : decide (i < n) = false := decide_eq_false hlt
      have hct : (l.take i).countP id ≤ n := Nat.le_trans (List.countP_le_length) (by rw [List.length_take]; omega)
      generalize (l.take i).countP id = ct at hct ⊢
      have t1 : decide ((lim : Int) < (ct : Int)) = false := decide_eq_false (by omega)
      have t2 : decide (lim < ct) = false := decide_eq_false (by omega)
      have HR := Lib.hid (H4.out.used BO.out (fun k hk => by
        simp only [Value.ownBlock, Option.some.injEq] at hk
        subst hk
        exact ⟨G4.out.2.2.2, G4.out.2.1⟩))
      have HGR : Hid (Gr S (fun k => S k ∨ (Value.slice (some ⟨ub, 0, none⟩) n c).ownBlock = some k) w (wr.setCell ⟨g, 3, none⟩ (.slice (some ⟨ub, 0, none⟩) n c))) := Lib.hid ⟨fun k hk => .inl hk, fun k hk => hk.imp id (fun e => by simp only [Value.ownBlock, Option.some.injEq] at e; have := G4.out.2.2.1; omega), (Chg.of_below G4.out.1 S).set _ _ (.inl H4.out.sg)⟩
      clear hct
      rcases Nat.lt_or_ge a 2 with h2 | h2
      · have t3 : decide (2 ≤ (a : Int)) = false := decide_eq_false (by omega)
        have t4 : decide (2 ≤ a) = false := decide_eq_false (by omega)
        have HA := Lib.hid h2
        clear h2
        go_wp2_with fail
        go_ret2
        refine ⟨rfl, l, _, ?_, HGR.out⟩
        have e : tellR T a l = { T with used := l } := by unfold tellR; rw [if_neg (by have := HA.out; omega)]
        rw [e]
        exact ⟨_, _, _, HR.out, LL.out.trans HN.out, HT.out⟩
      · have t3 : decide (2 ≤ (a : Int)) = true := decide_eq_true (by omega)
        have t4 : decide (2 ≤ a) = true := decide_eq_true (by omega)
        have hal : a - 2 < n := by have := HV.out; unfold Val at this; have := HN.out; omega
        have ha0 : 0 ≤ (a : Int) - 2 := by omega
        have ha1 : (a : Int) - 2 < (n : Int) := by omega
        have ha2 : ((a : Int) - 2).toNat = a - 2 := by omega
        have htl : a - 2 < T.told.length := by have := HT.out; have := HN.out; omega
        obtain ⟨x, htat⟩ : ∃ x, T.told[a - 2]? = some x := ⟨_, List.getElem?_eq_getElem htl⟩
        obtain ⟨tb, c2, htv⟩ : ∃ tb c2, vT = .slice (some ⟨tb, 0, none⟩) n c2 := by
          rcases H4.out.rowT.2 with ⟨_, h0⟩ | ⟨q, cap, cur, hv, _⟩
          · omega
          · exact ⟨q, cap, by rw [hv, HT.out, HN.out]⟩
        subst htv
        have k4 := blk_cell HR.out.box 4 (.slice (some ⟨tb, 0, none⟩) n c2) rfl
        obtain ⟨c0, f0⟩ := Bo.cell (show Bo _ T.told _ from HR.out.rowT) (a - 2) x htat
        have HR2 := Lib.hid (HR.out.tolds (a - 2) htl)
        have HGR2 := Lib.hid (HGR.out.chg.set ⟨tb, a - 2, none⟩ (.bool true) (.inl (H4.out.nT tb rfl)))
        have HUP := Lib.hid HGR.out.new
        have HA := Lib.hid h2
        clear h2 htat htl hal
        go_upto_region 12 with fail
        generalize wr.setCell ⟨g, 3, none⟩ (.slice (some ⟨ub, 0, none⟩) n c) = W1 at k4 c0 f0 HR2 HGR2 HUP ⊢
        clear HR HGR k1 k3 k3'
        go_wp2_with fail
        go_ret2
        refine ⟨rfl, l, _, ?_, ⟨fun k hk => .inl hk, HUP.out, HGR2.out⟩⟩
        have e : tellR T a l = { T with used := l, told := T.told.set (a - 2) true } := by unfold tellR; rw [if_pos HA.out]
        rw [e]
        exact ⟨_, _, _, HR2.out, LL.out.trans HN.out, by rw [List.length_set]; exact HT.out⟩
end
end Go.Proofs.Ytbglnddjhlefnaa
namespace Go.Proofs.Ytbglnddjhlefnaa
open Go Go.RowKit Go.Proofs.YtbglnddjhlefnaaW.PrintWords Go.Proofs.YtbglnddjhlefnaaW.PrintLast Go.Proofs.YtbglnddjhlefnaaW.PrintMore
/-- Is c among the first j letters? -/
def amg (z : List UInt8) (j : Nat) (c : UInt8) : Bool := (z.take j).any (fun x => c == x)
theorem amg_step (z : List UInt8) (j : Nat) (c x : UInt8) (h : z[j]? = some x) : amg z (j + 1) c = (amg z j c || c == x) := by
  unfold amg
  rw [List.take_add_one, h, List.any_append]
  simp
theorem u8_beq (x y : UInt8) : ((x.toNat : Int) == (y.toNat : Int)) = (x == y) := by
  rw [Bool.eq_iff_iff, beq_iff_eq, beq_iff_eq]
  exact ⟨fun e => UInt8.toNat_inj.1 (Int.ofNat_inj.1 e), fun e => by rw [e]⟩
/-- Is each letter of the first i among them? -/
def allL (z s : List UInt8) (i : Nat) : Bool := (s.take i).all (fun c => amg z z.length c)
theorem allL_step (z s : List UInt8) (i : Nat) (c : UInt8) (h : s[i]? = some c) : allL z s (i + 1) = (allL z s i && amg z z.length c) := by
  unfold allL
  rw [List.take_add_one, h, List.all_append]
  simp
theorem allL_false (z s : List UInt8) (i : Nat) (h : allL z s i = false) : s.all (fun c => amg z z.length c) = false := by
  rw [← List.take_append_drop i s, List.all_append]
  unfold allL at h
  rw [h]
  rfl
theorem allL_all (z s : List UInt8) : allL z s s.length = s.all (fun c => amg z z.length c) := by
  unfold allL
  rw [List.take_length]
section
variable {w : World}
set_option maxRecDepth 100000 in
theorem letters_len (s z : ByteArray) (n : Nat) (h : s.size ≠ n) : Calls Try.prog 54 #[.string s, .int .i64 n, .string z] w fun e w' => e = .returned (.bool false) ∧ ∃ d, w' = w.drewN d := by
  have t1 : ((s.size : Int) != (n : Int)) = true := by simp; omega
  clear h
  go_enter Try.func54, Try.ntmps54
  go_wp2_with fail
  go_ret
  exact ⟨rfl, 0, rfl⟩
set_option maxRecDepth 100000 in
set_option maxHeartbeats 4000000 in
theorem letters_w (s z : ByteArray) (n : Nat) (h : s.size = n) (hn : n ≤ 1000000) (hz : z.size ≤ 100) : Calls Try.prog 54 #[.string s, .int .i64 n, .string z] w fun e w' => e = .returned (.bool (s.data.toList.all (fun c => amg z.data.toList z.data.toList.length c))) ∧ ∃ d, w' = w.drewN d := by
  have t1 : ((s.size : Int) != (n : Int)) = false := by simp; omega
  obtain ⟨ans, hans⟩ : ∃ ans, ans = s.data.toList.all (fun c => amg z.data.toList z.data.toList.length c) := ⟨_, rfl⟩
  rw [← hans]
  have HA := Lib.hid hans
  have hsl : s.data.toList.length = s.size := rfl
  have hzl : z.data.toList.length = z.size := rfl
  have HSL := Lib.hid hsl
  have HZL := Lib.hid hzl
  clear hans hsl hzl
  go_enter Try.func54, Try.ntmps54
  go_wp2_with fail
  go_loopw [7] (fun v7 wr => ∃ i d : Nat, v7 = .int .i64 i ∧ i ≤ s.size ∧ Hid (allL z.data.toList s.data.toList i = true) ∧ wr = w.drewN d) (fun v7 _ => s.size - (intOf v7).toNat)
  case atStart => exact ⟨0, 0, rfl, Nat.zero_le _, Lib.hid rfl, rfl⟩
  case round =>
    obtain ⟨i, d, rfl, hi2, hrel, rfl⟩ := hrel
    have HREL := hrel
    by_cases hlt : i < s.size
    · have hi64 : (i : Int) < (s.size : Int) := by omega
      have hi64b : decide ((i : Int) < (s.size : Int)) = true := decide_eq_true hi64
      have hi0 : (0 : Int) ≤ (i : Int) := by omega
      have hin : (s.size : Int) ≤ 1000000 := by omega
      obtain ⟨hj, hsj⟩ := byte_at (s := s) (k := i) (by rw [HSL.out]; exact hlt)
      have hat : s.data.toList[i]? = some s[i] := by rw [hsj]; exact List.getElem?_eq_getElem _
      have HSTEP := Lib.hid (allL_step z.data.toList s.data.toList i s[i] hat)
      clear hat hsj
      go_wp2_with fail
      go_loopw [8, 9] (fun v8 v9 wr => ∃ j d : Nat, v8 = .bool (amg z.data.toList j s[i]) ∧ v9 = .int .i64 j ∧ j ≤ z.size ∧ wr = w.drewN d) (fun _ v9 _ => z.size - (intOf v9).toNat)
      case atStart => exact ⟨0, d, rfl, rfl, Nat.zero_le _, rfl⟩
      case round =>
        obtain ⟨j, d2, rfl, rfl, hj2, rfl⟩ := hrel
        by_cases hjlt : j < z.size
        · have hj64 : (j : Int) < (z.size : Int) := by omega
          have hj64b : decide ((j : Int) < (z.size : Int)) = true := decide_eq_true hj64
          have hj0 : (0 : Int) ≤ (j : Int) := by omega
          have hjn : (z.size : Int) ≤ 100 := by omega
          obtain ⟨hk, hzk⟩ := byte_at (s := z) (k := j) (by rw [HZL.out]; exact hjlt)
          have hat : z.data.toList[j]? = some z[j] := by rw [hzk]; exact List.getElem?_eq_getElem _
          have HST := Lib.hid (amg_step z.data.toList j s[i] z[j] hat)
          have hbq := u8_beq s[i] z[j]
          clear hat hzk HSTEP
          cases hc : amg z.data.toList j s[i] with
          | true =>
            go_wp2_with fail
            go_quiet (fail)
            go_wp2_with fail
            go_roundw
            case rel => exact ⟨j + 1, _, by rw [HST.out, hc]; rfl, by go_num, by omega, rfl⟩
            case measure => simp [intOf]; omega
          | false =>
            cases hc2 : (s[i] == z[j]) with
            | true =>
              rw [hc2] at hbq
              go_wp2_with fail
              go_quiet (fail)
              go_wp2_with fail
              go_roundw
              case rel => exact ⟨j + 1, _, by rw [HST.out, hc, hc2]; rfl, by go_num, by omega, rfl⟩
              case measure => simp [intOf]; omega
            | false =>
              rw [hc2] at hbq
              go_wp2_with fail
              go_quiet (fail)
              go_wp2_with fail
              go_roundw
              case rel => exact ⟨j + 1, _, by rw [HST.out, hc, hc2]; rfl, by go_num, by omega, rfl⟩
              case measure => simp [intOf]; omega
        · have hj64b : decide ((j : Int) < (z.size : Int)) = false := decide_eq_false (by omega)
          have hj64c : decide (j < z.size) = false := decide_eq_false hjlt
          have hjz : j = z.data.toList.length := by rw [HZL.out]; omega
          have HJ := Lib.hid hjz
          clear hjz
          cases hc : amg z.data.toList j s[i] with
          | true =>
            have HX : Hid (allL z.data.toList s.data.toList (i + 1) = true) := Lib.hid (by rw [HSTEP.out, ← HJ.out, hc, HREL.out]; rfl)
            go_wp2_with fail
            go_roundw
            case rel => exact ⟨i + 1, _, by go_num, by omega, HX, rfl⟩
            case measure => simp [intOf]; omega
          | false =>
            have HX : Hid (ans = false) := Lib.hid (by rw [HA.out]; exact allL_false _ _ (i + 1) (by rw [HSTEP.out, ← HJ.out, hc]; simp))
            go_wp2_with fail
            go_ret
            exact ⟨by rw [HX.out]; rfl, d2, rfl⟩
    · have hi64b : decide ((i : Int) < (s.size : Int)) = false := decide_eq_false (by omega)
      have hi64c : decide (i < s.size) = false := decide_eq_false hlt
      have HX : Hid (ans = true) := Lib.hid (by rw [HA.out, ← allL_all, HSL.out, show s.size = i by omega]; exact hrel.out)
      clear hrel
      go_wp2_with fail
      go_ret
      exact ⟨by rw [HX.out]; rfl, d, rfl⟩
end
end Go.Proofs.Ytbglnddjhlefnaa
namespace Go.Proofs.Ytbglnddjhlefnaa
open Go Go.RowKit Go.Proofs.YtbglnddjhlefnaaW.PrintWords Go.Proofs.YtbglnddjhlefnaaW.PrintLast Go.Proofs.YtbglnddjhlefnaaW.PrintMore
/-- Was a number told? -/
def okD (T : Rd) (a : Nat) : Prop := a < 2 ∨ T.told[a - 2]? = some true
/-- What a call on a table did, without what stays. -/
structure Gs (S S' : Nat → Prop) (w w' : World) : Prop where
  new : ∀ k, S' k → S k ∨ w.heap.size ≤ k
  chg : Chg S w w'
theorem Gr.gs {S S' : Nat → Prop} {w w' : World} (h : Gr S S' w w') : Gs S S' w w' := ⟨h.new, h.chg⟩
theorem Gs.refl (S : Nat → Prop) (w : World) : Gs S S w w := ⟨fun _ h => .inl h, Chg.refl S w⟩
theorem Gs.trans {S S' S2 : Nat → Prop} {w w' w2 : World} (h : Gs S S' w w') (k : Gs S' S2 w' w2) : Gs S S2 w w2 :=
  ⟨fun i hi => (k.new i hi).elim (h.new i) (fun h2 => .inr (Nat.le_trans h.chg.size h2)), h.chg.trans k.chg h.new⟩
theorem Gs.of_below {S : Nat → Prop} {w w' : World} (h : Below w.heap.size w w') : Gs S S w w' := ⟨fun _ h => .inl h, Chg.of_below h S⟩
theorem Own.gs {B : Nat} {S S' : Nat → Prop} {w0 w w' : World} (h : Own B S w0 w) (hB : B ≤ w0.heap.size) (hg : Gs S S' w w') : Own B S' w0 w' := by
  have hs := h.bw.size
  exact ⟨fun k hk => (hg.new k hk).elim (h.bl k) (fun h2 => by omega), h.bw.trans (hg.chg.below h.bl (by omega))⟩
theorem letters_abc (s : List UInt8) : s.all (fun c => amg [48, 49, 120] 3 c) = lettersOk s := by
  unfold lettersOk
  congr 1
  funext c
  simp [amg]
section
variable {g : Nat} {S : Nat → Prop} {T : Rd} {w : World} {okp : Nat → Prop} {A : Option Addr} {c : Nat} {l : List Nat}
theorem V_intD {e b : Nat} {ok : Nat → Prop} {A : Option Addr} {n c : Nat} {xs : List Int} (h : Kd.V KI e w b ok (.slice A n c) xs) (i : Nat) (hi : i < xs.length) :
    ∃ ad, A = some ad ∧ w.cell? (ad.add i) = some (.int .i64 (xs.getD i 0)) := by
  obtain ⟨hn, hl, hF⟩ := Kd.V_at h
  obtain ⟨ad, c, e, hs, hr, hcell, hok⟩ := Kd.F_get hF 0 (i : Int) (by omega) (by omega)
  have hr' : c = [Value.int .i64 (xs.getD ((i : Int)).toNat 0)] := Kd.FK_now hr
  subst hr'
  have := hcell 0 _ rfl
  exact ⟨ad, e, by simpa [Kd.int, Kd.scalar] using this⟩
set_option maxRecDepth 100000 in
set_option maxHeartbeats 4000000 in
theorem right_w (h : RTab g S T w) (hN : T.N.length ≤ 4000000000) (hV : Kd.V KI 26 w 0 okp (.slice A l.length c) (l.map (fun n : Nat => (n : Int)))) (hl : l.length ≤ 1000000) (hok : ∀ b ∈ l, okD T b) :
    Calls Try.prog 57 #[.pointer (some ⟨g, 0, none⟩), .slice A l.length c] w fun e w' => e = .returned (.bool true) ∧ w = w' := by
  obtain ⟨vN, vU, vT, h, hu, ht⟩ := h
  have H := Lib.hid h
  have HV := Lib.hid hV
  have HO := Lib.hid hok
  have HT := Lib.hid ht
  have HNL := Lib.hid hN
  obtain ⟨n, hn⟩ : ∃ n, n = l.length := ⟨_, rfl⟩
  rw [← hn] at HV hl ⊢
  have HN := Lib.hid hn
  clear h hV hok ht hu hn hN
  go_enter Try.func57, Try.ntmps57
  go_wp2_with fail
  go_loopw [5] (fun v5 wr => ∃ i : Nat, v5 = .int .i64 i ∧ i ≤ n ∧ wr = w) (fun v5 _ => n - (intOf v5).toNat)
  case atStart => exact ⟨0, rfl, Nat.zero_le _, rfl⟩
  case round =>
    obtain ⟨i, rfl, hi2, rfl⟩ := hrel
    by_cases hlt : i < n
    · have hi64 : (i : Int) < (n : Int) := by omega
      have hi64b : decide ((i : Int) < (n : Int)) = true := decide_eq_true hi64
      have hi0 : (0 : Int) ≤ (i : Int) := by omega
      have hnn : (n : Int) ≤ 1000000 := by omega
      obtain ⟨ad, rfl, hc⟩ := V_intD HV.out i (by rw [List.length_map, ← HN.out]; exact hlt)
      have hgd : (l.map (fun n : Nat => (n : Int))).getD i 0 = ((l.getD i 0 : Nat) : Int) := by
        rw [List.getD_eq_getElem?_getD, List.getD_eq_getElem?_getD, List.getElem?_map]
        cases l[i]? <;> rfl
      rw [hgd] at hc
      have hmem : l.getD i 0 ∈ l := by
        rw [List.getD_eq_getElem?_getD, List.getElem?_eq_getElem (by rw [← HN.out]; exact hlt)]
        exact List.getElem_mem _
      have hoa := HO.out _ hmem
      generalize l.getD i 0 = a at hc hoa
      have t1 : decide ((a : Int) < 0) = false := decide_eq_false (by omega)
      clear hmem hgd
      rcases Nat.lt_or_ge a 2 with h2 | h2
      · have t2 : decide (2 ≤ (a : Int)) = false := decide_eq_false (by omega)
        have t3 : decide (2 ≤ a) = false := decide_eq_false (by omega)
        clear hoa h2
        go_wp2_with fail
        go_roundw
        case rel => exact ⟨i + 1, by go_num, by omega, trivial⟩
        case measure => simp [intOf]; omega
      · have t2 : decide (2 ≤ (a : Int)) = true := decide_eq_true (by omega)
        have t3 : decide (2 ≤ a) = true := decide_eq_true (by omega)
        have htl := hoa.resolve_left (by omega)
        have hal := (List.getElem?_eq_some_iff.1 htl).1
        obtain ⟨tb, c2, htv⟩ : ∃ tb c2, vT = .slice (some ⟨tb, 0, none⟩) T.told.length c2 := by
          rcases H.out.rowT.2 with ⟨_, h0⟩ | ⟨q, cap, cur, hv, _⟩
          · omega
          · exact ⟨q, cap, hv⟩
        subst htv
        obtain ⟨c0, _⟩ := Bo.cell (show Bo _ T.told _ from H.out.rowT) (a - 2) true htl
        have k4 := blk_cell H.out.box 4 (.slice (some ⟨tb, 0, none⟩) T.told.length c2) rfl
        have hml : T.told.length ≤ 4000000000 := by rw [HT.out]; exact HNL.out
        generalize T.told.length = m at k4 hal hml
        have ha0 : 0 ≤ (a : Int) - 2 := by omega
        have ha1 : (a : Int) - 2 < (m : Int) := by omega
        have ha2 : ((a : Int) - 2).toNat = a - 2 := by omega
        have ha3 : decide ((m : Int) ≤ (a : Int) - 2) = false := decide_eq_false (by omega)
        clear hoa htl h2
        go_wp2_with fail
        go_roundw
        case rel => exact ⟨i + 1, by go_num, by omega, trivial⟩
        case measure => simp [intOf]; omega
    · have hi64b : decide ((i : Int) < (n : Int)) = false := decide_eq_false (by omega)
      have hi64c : decide (i < n) = false := decide_eq_false hlt
      go_wp2_with fail
      go_ret
      exact ⟨rfl, rfl⟩
/-- Cube's answer where it refuses. -/
theorem rcube_bad (h : RTab g S T w) (s : ByteArray) (hs : s.size ≠ T.bits ∨ lettersOk s.data.toList = false) (hb : T.bits ≤ 128) :
    Calls Try.prog 33 #[.pointer (some ⟨g, 0, none⟩), .string s] w fun e w' => e = .returned (.tuple #[.int .i64 0, .int .i64 21]) ∧ ∃ d, w' = w.drewN d := by
  have HL : Hid (Calls Try.prog 54 #[.string s, .int .i64 T.bits, .string ⟨#[48, 49, 120]⟩] w fun e w' => e = .returned (.bool false) ∧ ∃ d, w' = w.drewN d) := Lib.hid (by
    by_cases hl : s.size = T.bits
    · have := letters_w (w := w) s ⟨#[48, 49, 120]⟩ T.bits hl (by omega) (by decide)
      have e : s.data.toList.all (fun c => amg [48, 49, 120] 3 c) = false := by rw [letters_abc]; exact hs.resolve_left (by simp [hl])
      rw [show (s.data.toList.all (fun c => amg (ByteArray.mk #[48, 49, 120]).data.toList (ByteArray.mk #[48, 49, 120]).data.toList.length c)) = false from e] at this
      exact this
    · exact letters_len s _ T.bits hl)
  obtain ⟨vN, vU, vT, h, _⟩ := h
  have d0 := blk_cell h.box 0 (.int .i64 T.bits) rfl
  clear h hs hb
  go_enter Try.func33, Try.ntmps33
  go_wp2_with fail
  refine HL.out.mono ?_
  rintro e w1 ⟨rfl, d, rfl⟩
  go_wp2_with fail
  go_ret2
  exact ⟨rfl, d, rfl⟩
set_option maxRecDepth 100000 in
set_option maxHeartbeats 4000000 in
theorem rcube_w (h : RTab g S T w) (hw : WF T.bits T.N) (s : ByteArray) (hs : s.size = T.bits) (hlo : lettersOk s.data.toList = true) (hb : T.bits ≤ 128) (hN : (cubeG T.N s.data.toList 0).2.length ≤ T.lim) (hN2 : T.N.length ≤ 2000000000) (hlim : T.lim ≤ 4000000000) :
    Calls Try.prog 33 #[.pointer (some ⟨g, 0, none⟩), .string s] w fun e w' => ∃ a N1 l S', e = .returned (.tuple #[.int .i64 (a : Nat), .int .i64 0]) ∧ cubeG T.N s.data.toList 0 = (some a, N1) ∧ RTab g S' (tellR (growR T N1) a l) w' ∧ Gs S S' w w' := by
  have HL : Hid (Calls Try.prog 54 #[.string s, .int .i64 T.bits, .string ⟨#[48, 49, 120]⟩] w fun e w' => e = .returned (.bool true) ∧ ∃ d, w' = w.drewN d) := Lib.hid (by
    have := letters_w (w := w) s ⟨#[48, 49, 120]⟩ T.bits hs (by omega) (by decide)
    have e : s.data.toList.all (fun c => amg [48, 49, 120] 3 c) = true := by rw [letters_abc]; exact hlo
    rw [show (s.data.toList.all (fun c => amg (ByteArray.mk #[48, 49, 120]).data.toList (ByteArray.mk #[48, 49, 120]).data.toList.length c)) = true from e] at this
    exact this)
  have HB : Hid (∀ k a N1, k ≤ s.size → cubeG T.N (s.data.toList.drop k) k = (some a, N1) → N1.length ≤ T.N.length + 128 ∧ T.N.length ≤ N1.length ∧ WF T.bits N1 ∧ Val N1 a) := Lib.hid (fun k a N1 hk hc => by
    have hsl : s.data.toList.length = s.size := rfl
    have OK := cubeG_ok hw (s.data.toList.drop k) k (by rw [List.length_drop, hsl]; omega)
    rw [hc] at OK
    have h1 : N1.length ≤ T.N.length + (s.data.toList.drop k).length := OK.new
    rw [List.length_drop, hsl] at h1
    exact ⟨by omega, OK.pre.length_le, OK.wf, (OK.val a rfl).1⟩)
  have HLO : Hid (∀ k (hk : k < s.size), s[k] = 48 ∨ s[k] = 49 ∨ s[k] = 120) := Lib.hid (fun k hk => by
    unfold lettersOk at hlo
    have := List.all_eq_true.1 hlo s[k] (by
      have : s[k] = s.data.toList[k] := rfl
      rw [this]
      exact List.getElem_mem _)
    simpa using this)
  have H0 := Lib.hid h
  obtain ⟨vN, vU, vT, h, _⟩ := h
  have d0 := blk_cell h.box 0 (.int .i64 T.bits) rfl
  have hsz : s.size ≤ 128 := by omega
  have HNL := Lib.hid hN
  have HN2 := Lib.hid hN2
  have HLIM := Lib.hid hlim
  clear h hs hlo hb hw hN hlim hN2
  go_enter Try.func33, Try.ntmps33
  go_wp2_with fail
  refine HL.out.mono ?_
  rintro e w1 ⟨rfl, d, rfl⟩
  have HST : Hid (∃ N1 S', cubeG T.N (s.data.toList.drop s.size) s.size = (some 1, N1) ∧ RTab g S' (growR T N1) (w.drewN d) ∧ Gs S S' w (w.drewN d)) := Lib.hid ⟨T.N, S, by rw [show s.data.toList.drop s.size = [] from List.drop_of_length_le (Nat.le_refl _)]; rfl, by rw [growR_self]; exact H0.out.drewN d, ⟨fun _ h => .inl h, (Chg.refl S w).drewN d⟩⟩
  clear HL d0 H0
  generalize w.drewN d = w1 at HST ⊢
  go_wp2_with fail
  go_loopw [6, 7] (fun v6 v7 wr => ∃ k a : Nat, k ≤ s.size ∧ v7 = .int .i64 ((k : Int) - 1) ∧ v6 = .int .i64 a ∧ Hid (∃ N1 S', cubeG T.N (s.data.toList.drop k) k = (some a, N1) ∧ RTab g S' (growR T N1) wr ∧ Gs S S' w wr)) (fun _ v7 _ => (intOf v7 + 1).toNat)
  case atStart => exact ⟨s.size, 1, Nat.le_refl _, rfl, rfl, HST⟩
  case round =>
    clear HST
    obtain ⟨k, a, hk, rfl, rfl, hrel⟩ := hrel
    obtain ⟨N1, S', g1, g2, g3⟩ := hrel.out
    obtain ⟨b1, b2, b3, b4⟩ := HB.out k a N1 hk g1
    rcases Nat.eq_zero_or_pos k with hk0 | hk0
    · subst hk0
      rw [List.drop_zero] at g1
      have HTELL := Lib.hid (rtell_w g2 b3 a b4 (by show N1.length ≤ T.lim; have h9 := HNL.out; rw [g1] at h9; exact h9) HLIM.out)
      have G1 := Lib.hid g1
      have G3 := Lib.hid g3
      clear g1 g2 g3 b1 b2 b3 b4 hrel HB HLO
      go_wp2_with fail
      refine HTELL.out.mono ?_
      rintro e w2 ⟨rfl, l, S2, q1, q2⟩
      have Q1 := Lib.hid q1
      have Q2 := Lib.hid (G3.out.trans q2.gs)
      clear q1 q2 HTELL G3
      go_wp2_with fail
      go_ret2
      exact ⟨a, N1, l, S2, rfl, G1.out, Q1.out, Q2.out⟩
    · obtain ⟨j, rfl⟩ : ∃ j, k = j + 1 := ⟨k - 1, by omega⟩
      rw [show ((j + 1 : Nat) : Int) - 1 = (j : Int) by omega]
      obtain ⟨hj, hsj⟩ := byte_at (s := s) (k := j) (by show j < s.size; omega)
      have hstep : cubeG T.N (s.data.toList.drop j) j = (if s[j] = 48 then (some (mkN N1 j a 0).1, (mkN N1 j a 0).2) else if s[j] = 49 then (some (mkN N1 j 0 a).1, (mkN N1 j 0 a).2) else if s[j] = 120 then (some a, N1) else (none, N1)) := by
        rw [List.drop_eq_getElem_cons (show j < s.data.toList.length from hj), cubeG, g1, hsj]
      have hlen1 : N1.length ≤ 4000000000 := by have := HN2.out; omega
      have HMA : Hid (Calls Try.prog 55 #[.pointer (some ⟨g, 0, none⟩), .int .i64 j, .int .i64 a, .int .i64 0] wr fun e w' => ∃ S2, e = .returned (.int .i64 (mkN N1 j a 0).1) ∧ RTab g S2 (growR T (mkN N1 j a 0).2) w' ∧ Gr S' S2 wr w') := Lib.hid (by
        have := rnode_w g2 j a 0 hlen1 (mkN N1 j a 0) rfl
        rw [growR_grow T N1 _ b2 (mkN_pre (N := N1) j a 0).length_le] at this
        exact this)
      have HMB : Hid (Calls Try.prog 55 #[.pointer (some ⟨g, 0, none⟩), .int .i64 j, .int .i64 0, .int .i64 a] wr fun e w' => ∃ S2, e = .returned (.int .i64 (mkN N1 j 0 a).1) ∧ RTab g S2 (growR T (mkN N1 j 0 a).2) w' ∧ Gr S' S2 wr w') := Lib.hid (by
        have := rnode_w g2 j 0 a hlen1 (mkN N1 j 0 a) rfl
        rw [growR_grow T N1 _ b2 (mkN_pre (N := N1) j 0 a).length_le] at this
        exact this)
      have HSTEP := Lib.hid hstep
      have G2 := Lib.hid g2
      have G3 := Lib.hid g3
      have hlo := HLO.out j hj
      have hj0 : (0 : Int) ≤ (j : Int) := by omega
      have hj1 : (j : Int) < (s.size : Int) := by omega
      clear g1 g2 g3 b1 b2 b3 b4 hlen1 hrel hstep hsj HB HLO
      obtain ⟨ch, hch⟩ : ∃ ch, ch = s[j] := ⟨_, rfl⟩
      rw [← hch] at hlo
      rcases hlo with c0 | c1 | c2
      · have u0 : ((ch.toNat : Int) == 48) = true := by rw [c0]; rfl
        have HR2 := Lib.hid (show cubeG T.N (s.data.toList.drop j) j = (some (mkN N1 j a 0).1, (mkN N1 j a 0).2) by rw [HSTEP.out, ← hch, if_pos c0])
        rw [hch] at u0
        clear c0 hch HSTEP HMB
        go_wp2_with fail
        refine HMA.out.mono ?_
        rintro e w2 ⟨S2, rfl, q1, q2⟩
        have HR3 : Hid (∃ N1_1 S', cubeG T.N (s.data.toList.drop j) j = (some (mkN N1 j a 0).1, N1_1) ∧ RTab g S' (growR T N1_1) w2 ∧ Gs S S' w w2) := Lib.hid ⟨_, S2, HR2.out, q1, G3.out.trans q2.gs⟩
        clear q1 q2
        go_wp2_with fail
        go_roundw
        case rel => exact ⟨j, _, by omega, rfl, rfl, HR3⟩
        case measure => simp [intOf]
      · have u0 : ((ch.toNat : Int) == 48) = false := by rw [c1]; rfl
        have u1 : ((ch.toNat : Int) == 49) = true := by rw [c1]; rfl
        have HR2 := Lib.hid (show cubeG T.N (s.data.toList.drop j) j = (some (mkN N1 j 0 a).1, (mkN N1 j 0 a).2) by rw [HSTEP.out, ← hch, if_neg (by rw [c1]; decide), if_pos c1])
        rw [hch] at u0 u1
        clear c1 hch HSTEP HMA
        go_wp2_with fail
        refine HMB.out.mono ?_
        rintro e w2 ⟨S2, rfl, q1, q2⟩
        have HR3 : Hid (∃ N1_1 S', cubeG T.N (s.data.toList.drop j) j = (some (mkN N1 j 0 a).1, N1_1) ∧ RTab g S' (growR T N1_1) w2 ∧ Gs S S' w w2) := Lib.hid ⟨_, S2, HR2.out, q1, G3.out.trans q2.gs⟩
        clear q1 q2
        go_wp2_with fail
        go_roundw
        case rel => exact ⟨j, _, by omega, rfl, rfl, HR3⟩
        case measure => simp [intOf]
      · have u0 : ((ch.toNat : Int) == 48) = false := by rw [c2]; rfl
        have u1 : ((ch.toNat : Int) == 49) = false := by rw [c2]; rfl
        have HR3 : Hid (∃ N1 S', cubeG T.N (s.data.toList.drop j) j = (some a, N1) ∧ RTab g S' (growR T N1) wr ∧ Gs S S' w wr) := Lib.hid ⟨N1, S', by rw [HSTEP.out, ← hch, if_neg (by rw [c2]; decide), if_neg (by rw [c2]; decide), if_pos c2], G2.out, G3.out⟩
        rw [hch] at u0 u1
        clear c2 hch HSTEP HMA HMB
        go_wp2_with fail
        go_roundw
        case rel => exact ⟨j, _, by omega, rfl, rfl, HR3⟩
        case measure => simp [intOf]
end
end Go.Proofs.Ytbglnddjhlefnaa
namespace Go.Proofs.Ytbglnddjhlefnaa
open Go Go.RowKit Go.Proofs.YtbglnddjhlefnaaW.PrintWords Go.Proofs.YtbglnddjhlefnaaW.PrintLast Go.Proofs.YtbglnddjhlefnaaW.PrintMore
/-- The document's union. -/
def foldD (bits : Nat) : List Nd → Nat → List Nat → Nat × List Nd
  | N, a, [] => (a, N)
  | N, a, b :: l =>
    let r := iteF false bits (bits + 1) b 1 a N []
    foldD bits r.2.1 r.1 l
theorem foldD_snoc (bits : Nat) : ∀ (l : List Nat) (N : List Nd) (a b : Nat), foldD bits N a (l ++ [b]) = let r := iteF false bits (bits + 1) b 1 (foldD bits N a l).1 (foldD bits N a l).2 []; (r.1, r.2.1)
  | [], N, a, b => rfl
  | c :: l, N, a, b => by
    rw [List.cons_append, foldD, foldD_snoc bits l]
    rfl
structure FoldDOk (bits : Nat) (N : List Nd) (a : Nat) (l : List Nat) (x : Nat × List Nd) : Prop where
  pre : N <+: x.2
  wf : WF bits x.2
  val : Val x.2 x.1
  sem : ∀ h, sem x.2 x.1 h = (sem N a h || l.any (fun b => sem N b h))
  len : x.2.length ≤ N.length + l.length * 2 ^ (bits + 1)
theorem foldD_ok {bits : Nat} : ∀ (l : List Nat) (N : List Nd) (a : Nat), WF bits N → Val N a → (∀ b ∈ l, Val N b) → FoldDOk bits N a l (foldD bits N a l) := by
  intro l
  induction l with
  | nil => intro N a w ha _; exact ⟨List.prefix_refl _, w, ha, fun h => by simp [foldD], by simp [foldD]⟩
  | cons b l ih =>
    intro N a w ha hl
    have hb := hl b List.mem_cons_self
    have O := iteF_ok false (bits + 1) b 1 a N [] w (fun p hp => by cases hp) hb (val1 N) ha (by omega)
    have C := iteF_count bits (bits + 1) b 1 a N []
    rw [foldD]
    generalize iteF false bits (bits + 1) b 1 a N [] = r at O C
    have I := ih r.2.1 r.1 O.wf O.val (fun c hc => (hl c (List.mem_cons_of_mem _ hc)).pre O.pre)
    refine ⟨O.pre.trans I.pre, I.wf, I.val, fun h => ?_, ?_⟩
    · rw [I.sem, O.sem, sem_pre w O.pre O.wf b hb, sem_pre w O.pre O.wf a ha, sem_one, List.any_cons]
      have : l.any (fun c => sem r.2.1 c h) = l.any (fun c => sem N c h) := by
        rw [Bool.eq_iff_iff, List.any_eq_true, List.any_eq_true]
        refine exists_congr (fun c => and_congr_right (fun hc => ?_))
        rw [sem_pre w O.pre O.wf c (hl c (List.mem_cons_of_mem _ hc))]
      rw [this]
      cases sem N b h <;> cases sem N a h <;> simp
    · have h1 := I.len
      have h2 := C.2.2
      rw [List.length_cons, Nat.add_mul, Nat.one_mul]
      omega
theorem foldD_take {bits : Nat} (l : List Nat) (i : Nat) (N : List Nd) (a : Nat) (w : WF bits N) (ha : Val N a) (hl : ∀ b ∈ l, Val N b) : (foldD bits N a (l.take i)).2.length ≤ (foldD bits N a l).2.length := by
  have key : ∀ (l1 l2 : List Nat) (N : List Nd) (a : Nat), WF bits N → Val N a → (∀ b ∈ l1 ++ l2, Val N b) → (foldD bits N a l1).2.length ≤ (foldD bits N a (l1 ++ l2)).2.length := by
    intro l1
    induction l1 with
    | nil => intro l2 N a w ha hl; exact (foldD_ok l2 N a w ha hl).pre.length_le
    | cons b l1 ih =>
      intro l2 N a w ha hl
      have hb := hl b (by simp)
      have O := iteF_ok false (bits + 1) b 1 a N [] w (fun p hp => by cases hp) hb (val1 N) ha (by omega)
      rw [List.cons_append, foldD, foldD]
      exact ih l2 _ _ O.wf O.val (fun c hc => (hl c (by simp at hc ⊢; exact .inr hc)).pre O.pre)
  have := key (l.take i) (l.drop i) N a w ha (by rw [List.take_append_drop]; exact hl)
  rw [List.take_append_drop] at this
  exact this
theorem okD_val {T : Rd} {a : Nat} (h : okD T a) (ht : T.told.length = T.N.length) : Val T.N a := by
  rcases h with h | h
  · unfold Val; omega
  · have := (List.getElem?_eq_some_iff.1 h).1
    unfold Val; omega
section
variable {g : Nat} {S : Nat → Prop} {T : Rd} {w : World} {okp : Nat → Prop} {A : Option Addr} {c : Nat} {l : List Nat}
set_option maxRecDepth 100000 in
set_option maxHeartbeats 4000000 in
theorem ror_w (h : RTab g S T w) (hw : WF T.bits T.N) (hb : T.bits ≤ 20) (hV : Kd.V KI 26 w 0 okp (.slice A l.length c) (l.map (fun n : Nat => (n : Int)))) (hl : l.length ≤ 1000000) (hok : ∀ b ∈ l, okD T b) (hS : ∀ k, okp k → ¬ S k ∧ k < w.heap.size)
    (hlen : (foldD T.bits T.N 0 l).2.length ≤ T.lim) (hlim : T.lim ≤ 4000000000) :
    Calls Try.prog 34 #[.pointer (some ⟨g, 0, none⟩), .slice A l.length c] w fun e w' => e = .returned (.tuple #[.int .i64 (foldD T.bits T.N 0 l).1, .int .i64 0]) ∧ ∃ l2 S', RTab g S' (tellR (growR T (foldD T.bits T.N 0 l).2) (foldD T.bits T.N 0 l).1 l2) w' ∧ Gs S S' w w' := by
  have htold : T.told.length = T.N.length := by
    obtain ⟨_, _, _, _, _, ht⟩ := h
    exact ht
  have hval : ∀ b ∈ l, Val T.N b := fun b hb => okD_val (hok b hb) htold
  have OKL := foldD_ok l T.N 0 hw (val0 _) hval
  have hNl : T.N.length ≤ 4000000000 := Nat.le_trans OKL.pre.length_le (Nat.le_trans hlen hlim)
  have HRT := Lib.hid (right_w h hNl hV hl hok)
  have HV : Hid (∀ S' W, Gs S S' w W → Kd.V KI 26 W 0 okp (.slice A l.length c) (l.map (fun n : Nat => (n : Int)))) := Lib.hid (fun S' W hg => Kd.V_step hV (fun k hk hkl => hg.chg.block k hkl (hS k hk).1))
  have hp : 2 ^ (T.bits + 1) ≤ 2 ^ 21 := Nat.pow_le_pow_right (by omega) (by omega)
  have HIT : Hid (∀ i a N1 S' (wr : World), (hi : i < l.length) → foldD T.bits T.N 0 (l.take i) = (a, N1) → RTab g S' (growR T N1) wr → Gs S S' w wr →
      Calls Try.prog 58 #[.pointer (some ⟨g, 0, none⟩), .pointer (some ⟨wr.heap.size, 0, none⟩), .int .i64 (l.getD i 0 : Nat), .int .i64 1, .int .i64 a] (wr.alloc (.cells #[.slice none 0 0] 119)) fun e w' => ∃ a2 N2 S2, e = .returned (.int .i64 (a2 : Nat)) ∧ foldD T.bits T.N 0 (l.take (i + 1)) = (a2, N2) ∧ RTab g S2 (growR T N2) w' ∧ Gs S S2 w w') := Lib.hid (fun i a N1 S' wr hi hfd ht hg => by
    have hvi : ∀ b ∈ l.take i, Val T.N b := fun b hb => hval b (List.mem_of_mem_take hb)
    have OK := foldD_ok (l.take i) T.N 0 hw (val0 _) hvi
    rw [hfd] at OK
    have o1 : WF T.bits N1 := OK.wf
    have o2 : Val N1 a := OK.val
    have o3 : T.N <+: N1 := OK.pre
    have hat : l[i]? = some (l.getD i 0) := by rw [List.getD_eq_getElem?_getD, List.getElem?_eq_getElem hi]; rfl
    have hmem : l.getD i 0 ∈ l := List.mem_of_getElem? hat
    have hsn : foldD T.bits T.N 0 (l.take (i + 1)) = ((iteF false T.bits (T.bits + 1) (l.getD i 0) 1 a N1 []).1, (iteF false T.bits (T.bits + 1) (l.getD i 0) 1 a N1 []).2.1) := by
      rw [List.take_add_one, hat, show (some (l.getD i 0)).toList = [l.getD i 0] from rfl, foldD_snoc, hfd]
    have htk := foldD_take l (i + 1) T.N 0 hw (val0 _) hval
    rw [hsn] at htk
    have hcn := iteF_count T.bits (T.bits + 1) (l.getD i 0) 1 a N1 []
    have hbx := heap_alloc_new wr (.cells #[.slice none 0 0] 119)
    have hba := below_alloc (Below.refl _ wr) (.cells #[.slice none 0 0] 119)
    have hsz : (wr.alloc (.cells #[.slice none 0 0] 119)).heap.size = wr.heap.size + 1 := World.size_alloc _ _
    have hRP : RP g wr.heap.size S' (fun k => k = wr.heap.size) (growR T N1) [] (wr.alloc (.cells #[.slice none 0 0] 119)) :=
      ⟨ht.below hba, ⟨.slice none 0 0, hbx, World.ownsRow_nil _ 0 133 4, fun n hn => (by cases hn), rfl, fun k hk => by rw [hk, hsz]; omega⟩, fun k hk hs => by have := ht.lt k hs; omega⟩
    have hdl : (iteF false T.bits (T.bits + 1) (l.getD i 0) 1 a N1 []).2.2.length ≤ 4000000000 := by
      have := hcn.2.1
      simp only [List.length_nil] at this
      omega
    refine (rite_w (T.bits + 1) (l.getD i 0) 1 a S' (fun k => k = wr.heap.size) (growR T N1) [] _ hRP o1 (fun p hp => by cases hp) ((hval _ hmem).pre o3) (val1 _) o2 (by show T.bits < T.bits + 1 + _; omega) _ rfl (by show (iteF false T.bits (T.bits + 1) (l.getD i 0) 1 a N1 []).2.1.length ≤ _; simp only at htk; omega) hdl).mono ?_
    rintro e w' ⟨rfl, S2, R2, p1, p2⟩
    have OX := iteF_ok false (T.bits + 1) (l.getD i 0) 1 a N1 [] o1 (fun p hp => by cases hp) ((hval _ hmem).pre o3) (val1 _) o2 (by omega)
    refine ⟨_, _, S2, rfl, hsn, ?_, hg.trans ⟨fun k hk => (p2.new1 k hk).imp id (fun h => by omega), ?_⟩⟩
    · have : RTab g S2 (growR (growR T N1) (iteF false T.bits (T.bits + 1) (l.getD i 0) 1 a N1 []).2.1) w' := p1.tab
      rw [growR_grow T N1 _ o3.length_le OX.pre.length_le] at this
      exact this
    · exact ((Chg.refl S' wr).alloc _).trans p2.chg (fun k hk => hk.imp id (fun h => by omega)))
  have HTE : Hid (∀ a N1 S' (wr : World), foldD T.bits T.N 0 l = (a, N1) → RTab g S' (growR T N1) wr → Calls Try.prog 56 #[.pointer (some ⟨g, 0, none⟩), .int .i64 a] wr fun e w' => e = .returned (.tuple #[.int .i64 a, .int .i64 0]) ∧ ∃ l S2, RTab g S2 (tellR (growR T N1) a l) w' ∧ Gr S' S2 wr w') := Lib.hid (fun a N1 S' wr hfd ht => by
    have OK := OKL
    rw [hfd] at OK hlen
    exact rtell_w ht OK.wf a OK.val hlen hlim)
  have H0 := Lib.hid h
  obtain ⟨n, hn⟩ : ∃ n, n = l.length := ⟨_, rfl⟩
  rw [← hn] at HRT HV hl ⊢
  have HN := Lib.hid hn
  obtain ⟨X, hX⟩ : ∃ X, X = foldD T.bits T.N 0 l := ⟨_, rfl⟩
  rw [← hX]
  have HX := Lib.hid hX
  clear h hw hb hV hok hS hlen hlim hval OKL hNl htold hp hX hn
  go_enter Try.func34, Try.ntmps34
  go_wp2_with fail
  refine HRT.out.mono ?_
  rintro e w1 ⟨rfl, rfl⟩
  have HST : Hid (∃ N1 S', foldD T.bits T.N 0 (l.take 0) = (0, N1) ∧ RTab g S' (growR T N1) w ∧ Gs S S' w w) := Lib.hid ⟨T.N, S, rfl, by rw [growR_self]; exact H0.out, Gs.refl _ _⟩
  clear HRT H0
  go_wp2_with fail
  go_loopw [6, 7] (fun v6 v7 wr => ∃ i a : Nat, v6 = .int .i64 a ∧ v7 = .int .i64 i ∧ i ≤ n ∧ Hid (∃ N1 S', foldD T.bits T.N 0 (l.take i) = (a, N1) ∧ RTab g S' (growR T N1) wr ∧ Gs S S' w wr)) (fun _ v7 _ => n - (intOf v7).toNat)
  case atStart => exact ⟨0, 0, rfl, rfl, Nat.zero_le _, HST⟩
  case round =>
    clear HST
    obtain ⟨i, a, rfl, rfl, hi2, hrel⟩ := hrel
    obtain ⟨N1, S', g1, g2, g3⟩ := hrel.out
    by_cases hlt : i < n
    · have hi64 : (i : Int) < (n : Int) := by omega
      have hi64b : decide ((i : Int) < (n : Int)) = true := decide_eq_true hi64
      have hi0 : (0 : Int) ≤ (i : Int) := by omega
      have hnn : (n : Int) ≤ 1000000 := by omega
      obtain ⟨ad, rfl, hc⟩ := V_intD (HV.out S' wr g3) i (by rw [List.length_map, ← HN.out]; exact hlt)
      have hgd : (l.map (fun n : Nat => (n : Int))).getD i 0 = ((l.getD i 0 : Nat) : Int) := by
        rw [List.getD_eq_getElem?_getD, List.getD_eq_getElem?_getD, List.getElem?_map]
        cases l[i]? <;> rfl
      rw [hgd] at hc
      have HI := Lib.hid (HIT.out i a N1 S' wr (by rw [← HN.out]; exact hlt) g1 g2 g3)
      have e0 := fun o => Lib.cell?_alloc_some o hc
      generalize l.getD i 0 = b at hc HI e0
      clear g1 g2 g3 hrel hgd HIT HTE hc
      go_wp2_with fail
      refine HI.out.mono ?_
      rintro e w2 ⟨a2, N2, S2, rfl, q1, q2, q3⟩
      have HR2 : Hid (∃ N1 S', foldD T.bits T.N 0 (l.take (i + 1)) = (a2, N1) ∧ RTab g S' (growR T N1) w2 ∧ Gs S S' w w2) := Lib.hid ⟨N2, S2, q1, q2, q3⟩
      clear q1 q2 q3 HI e0
      go_wp2_with fail
      go_roundw
      case rel => exact ⟨i + 1, a2, rfl, by go_num, by omega, HR2⟩
      case measure => simp [intOf]; omega
    · have hi64b : decide ((i : Int) < (n : Int)) = false := decide_eq_false (by omega)
      have hi64c : decide (i < n) = false := decide_eq_false hlt
      rw [List.take_of_length_le (by have := HN.out; omega)] at g1
      have HT := Lib.hid (HTE.out a N1 S' wr g1 g2)
      have hXe : X = (a, N1) := HX.out.trans g1
      have G3 := Lib.hid g3
      subst hXe
      clear g1 g2 g3 hrel HIT HTE
      go_wp2_with fail
      refine HT.out.mono ?_
      rintro e w2 ⟨rfl, l2, S2, q1, q2⟩
      have Q1 := Lib.hid q1
      have Q2 := Lib.hid (G3.out.trans q2.gs)
      clear q1 q2 HT G3
      go_wp2_with fail
      go_ret2
      exact ⟨rfl, l2, S2, Q1.out, Q2.out⟩
end
end Go.Proofs.Ytbglnddjhlefnaa
namespace Go.Proofs.Ytbglnddjhlefnaa
open Go Go.RowKit Go.Proofs.YtbglnddjhlefnaaW.PrintWords Go.Proofs.YtbglnddjhlefnaaW.PrintLast Go.Proofs.YtbglnddjhlefnaaW.PrintMore
def u8v (c : UInt8) : Value := .int .u8 (c.toNat : Nat)
def be4 (n : Nat) : List UInt8 := [UInt8.ofNat (n / 16777216), UInt8.ofNat (n / 65536), UInt8.ofNat (n / 256), UInt8.ofNat n]
def nodeB (n : Nd) : List UInt8 := UInt8.ofNat n.1 :: (be4 n.2.1 ++ be4 n.2.2)
/-- What Write writes. -/
def writeB (bits : Nat) (L : List Nd) (a : Nat) : List UInt8 := (UInt8.ofNat bits :: be4 L.length) ++ if L.length = 0 then [UInt8.ofNat a] else L.flatMap nodeB
theorem u8v_of (x : Nat) (y : Int) (h : y = ((x % 256 : Nat) : Int)) : u8v (UInt8.ofNat x) = .int .u8 y := by
  unfold u8v
  rw [h]
  congr 1
/-- A row of bytes that grows. -/
def BRow (v : Value) (l : List UInt8) (w : World) : Prop := w.ownsRow 0 5 1 v l.length (l.map u8v)
section
variable {w w' : World} {v : Value} {l : List UInt8}
theorem bpush {q : Nat} {cs : Array Value} (h : BRow v l w) (news : List UInt8) (hq : w.heap[q]? = some (.cells cs 5 (0, 0))) (hcs : cs = (news.map u8v).toArray) (h0 : 0 < news.length) (hl : l.length + news.length ≤ 100000000000000) :
    ∃ nb cap w3, (Builtin.append_ #[29, 29] 29 #[v, .slice (some ⟨q, 0, none⟩) news.length news.length]).run Try.prog w = .ok (.slice (some ⟨nb, 0, none⟩) (l ++ news).length cap) w3 ∧ BRow (.slice (some ⟨nb, 0, none⟩) (l ++ news).length cap) (l ++ news) w3 ∧ (v.ownBlock = some nb ∨ w.heap.size ≤ nb) ∧ Chg (fun k => v.ownBlock = some k) w w3 := by
  subst hcs
  obtain ⟨i0, hinf, hzz⟩ := Option.map_eq_some_iff.1 Try.info5
  simp only [Prod.mk.injEq] at hzz
  have hnews : ∀ (j : Nat) (u : Value), (news.map u8v)[j]? = some u → w.cell? ((⟨q, 0, none⟩ : Addr).add j) = some u := by
    intro j u hj
    rw [add_at, cell_of_row _ q _ _ 5 (0, 0) hq, Nat.zero_add]
    rw [List.getElem?_toArray]
    exact hj
  obtain ⟨v', w3, hrun, hown, hgr, hnil, hwho⟩ := run_append_own_at (P := Try.prog) w 0 29 29 5 i0 _ 1 1 Try.underlying29 hinf hzz.1 hzz.2.1 hzz.2.2 rfl (by omega) v l.length (l.map u8v) h
    ⟨q, 0, none⟩ news.length news.length (news.map u8v) (by simp) hnews (by intro x hx; obtain ⟨y, _, rfl⟩ := List.mem_map.1 hx; rfl) (by simp only [maxLen]; omega) (by omega) (Nat.zero_le _)
  rcases hown.2 with ⟨_, h0⟩ | ⟨nb, cap, cur, rfl, _, hh, hnc, hcm, hcs, htk⟩
  · omega
  refine ⟨nb, cap, w3, by rw [hrun, List.length_append], ?_, ?_, hgr.os, hgr.tape, hgr.output, hgr.size, fun k hk hn => hgr.block k hk (fun e => hn e.symm)⟩
  · unfold BRow
    rw [List.length_append, List.map_append]
    exact hown
  · rcases hwho with he | he
    · exact .inl he.symm
    · simp only [Value.ownBlock, Option.some.injEq] at he
      exact .inr (by omega)
/-- One more piece, out of a new block. -/
theorem bnew (h : BRow v l w) (news : List UInt8) (cs : Array Value) (hcs : cs = (news.map u8v).toArray) (h0 : 0 < news.length) (hl : l.length + news.length ≤ 100000000000000) :
    ∃ nb cap w3, (Builtin.append_ #[29, 29] 29 #[v, .slice (some ⟨w.heap.size, 0, none⟩) news.length news.length]).run Try.prog (w.alloc (.cells cs 5)) = .ok (.slice (some ⟨nb, 0, none⟩) (l ++ news).length cap) w3 ∧ BRow (.slice (some ⟨nb, 0, none⟩) (l ++ news).length cap) (l ++ news) w3 ∧ (v.ownBlock = some nb ∨ w.heap.size ≤ nb) ∧ Chg (fun k => v.ownBlock = some k) w w3 := by
  have h1 : BRow v l (w.alloc (.cells cs 5)) := ownsRow_step h (fun k hk => by
    obtain ⟨c, hc⟩ := own_type h k hk
    exact heap_alloc_old w _ (blk_lt' hc))
  obtain ⟨nb, cap, w3, q1, q2, q3, q4⟩ := bpush h1 news (heap_alloc_new w _) hcs h0 hl
  have hsz : (w.alloc (.cells cs 5)).heap.size = w.heap.size + 1 := World.size_alloc _ _
  exact ⟨nb, cap, w3, q1, q2, q3.imp id (fun h => by omega), ((Chg.refl _ w).alloc _).trans q4 (fun i hi => .inl hi)⟩
set_option maxRecDepth 100000 in
theorem four_w (n : Nat) (hn : n < 4294967296) : Calls Try.prog 35 #[.int .i64 n] w fun e w' => e = .returned (.slice (some ⟨w.heap.size, 0, none⟩) 4 4) ∧ w' = w.alloc (.cells ((be4 n).map u8v).toArray 5) := by
  have e : ((be4 n).map u8v).toArray = #[.int .u8 ((n : Int) / 16777216 % 256), .int .u8 ((n : Int) / 65536 % 256), .int .u8 ((n : Int) / 256 % 256), .int .u8 ((n : Int) % 256)] := by
    unfold be4
    simp only [List.map_cons, List.map_nil]
    rw [u8v_of _ ((n : Int) / 16777216 % 256) (by omega), u8v_of _ ((n : Int) / 65536 % 256) (by omega), u8v_of _ ((n : Int) / 256 % 256) (by omega), u8v_of _ ((n : Int) % 256) (by omega)]
  rw [e]
  have hn2 := hn
  clear e hn hn2
  go_enter Try.func35, Try.ntmps35
  go_wp2_with fail
  go_ret
  exact ⟨rfl, rfl⟩
end
end Go.Proofs.Ytbglnddjhlefnaa
namespace Go.Proofs.Ytbglnddjhlefnaa
open Go Go.RowKit Go.Proofs.YtbglnddjhlefnaaW.PrintWords Go.Proofs.YtbglnddjhlefnaaW.PrintLast Go.Proofs.YtbglnddjhlefnaaW.PrintMore
section
variable {g : Nat} {S : Nat → Prop} {T : Bd} {w w' : World} {v : Value}
/-- Are a list's numbers small? -/
def SmL (L : List Nd) : Prop := L.length ≤ 1000000 ∧ ∀ n ∈ L, n.1 < 256 ∧ n.2.1 < 4294967296 ∧ n.2.2 < 4294967296
/-- The bytes, under way. -/
structure WrR (B : Nat) (vL : Value) (L : List Nd) (u : Value) (b : List UInt8) (w wr : World) : Prop where
  row : BRow u b wr
  big : ∀ k, u.ownBlock = some k → B ≤ k
  bw : Below B w wr
  lrow : wr.ownsRow 0 83 3 vL L.length (flatN L)
theorem WrR.below {B : Nat} {vL u : Value} {L : List Nd} {b : List UInt8} {w wr w2 : World} (h : WrR B vL L u b w wr) (hB : B ≤ wr.heap.size) (hb : Below wr.heap.size wr w2) : WrR B vL L u b w w2 :=
  ⟨ownsRow_step h.row (fun k hk => by obtain ⟨c, hc⟩ := own_type h.row k hk; exact hb.block k (blk_lt' hc)), h.big, below_trans' h.bw hb hB, ownsRow_step h.lrow (fun k hk => by obtain ⟨c, hc⟩ := own_type h.lrow k hk; exact hb.block k (blk_lt' hc))⟩
theorem WrR.push {B : Nat} {vL u : Value} {L : List Nd} {b : List UInt8} {w wr : World} (h : WrR B vL L u b w wr) (hB : B ≤ wr.heap.size) (news : List UInt8) (cs : Array Value) (hcs : cs = (news.map u8v).toArray) (h0 : 0 < news.length) (hl : b.length + news.length ≤ 100000000000000) :
    ∃ u' w3, (Builtin.append_ #[29, 29] 29 #[u, .slice (some ⟨wr.heap.size, 0, none⟩) news.length news.length]).run Try.prog (wr.alloc (.cells cs 5)) = .ok u' w3 ∧ WrR B vL L u' (b ++ news) w w3 ∧ B ≤ w3.heap.size ∧ (∀ (k : Nat) (cs2 : Array Value), wr.heap[k]? = some (Obj.cells cs2 83 (0, 0)) → w3.heap[k]? = some (Obj.cells cs2 83 (0, 0))) := by
  obtain ⟨nb, cap, w3, q1, q2, q3, q4⟩ := bnew h.row news cs hcs h0 hl
  have hu : ∀ (k : Nat) (cs2 : Array Value), wr.heap[k]? = some (Obj.cells cs2 83 (0, 0)) → u.ownBlock ≠ some k := fun k cs2 hk e => by
    obtain ⟨c, hc⟩ := own_type h.row k e
    have := two_types hk hc
    cases this
  refine ⟨_, w3, q1, ⟨q2, ?_, h.bw.trans (q4.below (fun k hk => h.big k hk) hB), ?_⟩, Nat.le_trans hB q4.size, fun k cs2 hk => (q4.block k (blk_lt' hk) (hu k cs2 hk)).trans hk⟩
  · intro k hk
    simp only [Value.ownBlock, Option.some.injEq] at hk
    subst hk
    exact q3.elim (h.big _) (fun h2 => by omega)
  · exact ownsRow_step h.lrow (fun k hk => by
      obtain ⟨c, hc⟩ := own_type h.lrow k hk
      exact q4.block k (blk_lt' hc) (hu k c hc))
/-- What Write did. -/
def WtP (b : List UInt8) (w : World) (e : Ending) (w' : World) : Prop := ∃ u, e = .returned (.tuple #[u, .int .i64 0]) ∧ BRow u b w' ∧ (∀ k, u.ownBlock = some k → w.heap.size ≤ k) ∧ Below w.heap.size w w'
theorem nodeB_len (n : Nd) : (nodeB n).length = 9 := rfl
theorem flat_len : ∀ L : List Nd, (L.flatMap nodeB).length = L.length * 9
  | [] => rfl
  | n :: L => by rw [List.flatMap_cons, List.length_append, flat_len L, nodeB_len, List.length_cons]; omega
set_option maxRecDepth 100000 in
set_option maxHeartbeats 4000000 in
theorem write_w (h : Tab g S T w) (hf : Fine T) (hN : T.N.length ≤ 4000000000) (a : Nat) (hok : okR T.refs (a : Int) = true) (hL : SmL (listF T.N a)) (hae : (listF T.N a).length = 0 → a < 2) :
    Calls Try.prog 10 #[.pointer (some ⟨g, 0, none⟩), .int .i64 a] w (WtP (writeB T.bits (listF T.N a) a) w) := by
  have HLI := Lib.hid (List_w h hf hN a hok (by have := hL.1; omega))
  have HBI := Lib.hid (fun w1 (hb : Below w.heap.size w w1) => Bits_w (h.below hb))
  generalize listF T.N a = L at HLI hL hae ⊢
  have hb2 := hf.b2
  generalize T.bits = bits at HBI hb2 ⊢
  have HSM := Lib.hid hL
  obtain ⟨n, hn⟩ : ∃ n, n = L.length := ⟨_, rfl⟩
  have hn6 : n ≤ 1000000 := by rw [hn]; exact hL.1
  have HN := Lib.hid hn
  have HAE := Lib.hid hae
  clear h hf hN hok hL hn hae
  go_enter Try.func10, Try.ntmps10
  go_wp2_with fail
  refine HLI.out.mono ?_
  rintro e w1 ⟨vL, rfl, r1, r2, r3⟩
  obtain ⟨A, c, rfl⟩ := own_slice r1
  rw [← HN.out] at r1
  have HB1 := Lib.hid r3
  have HBC := Lib.hid (HBI.out w1 r3)
  have HR1 : Hid (w1.ownsRow 0 83 3 (.slice A n c) L.length (flatN L)) := Lib.hid (by rw [← HN.out]; exact r1)
  clear r1 r2 r3 HLI HBI
  rw [← HN.out]
  go_wp2_with fail
  refine HBC.out.mono ?_
  rintro e w2 ⟨rfl, rfl⟩
  go_wp2_with fail
  have hl0 := below_alloc (Below.refl w1.heap.size w1) (.cells #[.int .u8 bits] 5)
  have hsz0 : (w1.alloc (.cells #[.int .u8 bits] 5)).heap.size = w1.heap.size + 1 := World.size_alloc _ _
  have hbr : BRow (.slice (some ⟨w1.heap.size, 0, none⟩) 1 1) [UInt8.ofNat bits] (w1.alloc (.cells #[.int .u8 bits] 5)) := by
    have := World.ownsRow_lit (base := 0) (e := 5) (size := 1) w1 #[.int .u8 bits] 1 (Nat.zero_le _) (by simp [maxLen]) (by simp)
    unfold BRow
    rw [List.map_cons, List.map_nil, u8v_of bits bits (by omega)]
    exact this
  have HW1 : Hid (WrR w.heap.size (.slice A n c) L (.slice (some ⟨w1.heap.size, 0, none⟩) 1 1) [UInt8.ofNat bits] w (w1.alloc (.cells #[.int .u8 bits] 5))) := Lib.hid ⟨hbr, fun k hk => by simp only [Value.ownBlock, Option.some.injEq] at hk; have := HB1.out.size; omega, below_trans' HB1.out hl0 HB1.out.size, ownsRow_step HR1.out (fun k hk => by obtain ⟨c, hc⟩ := own_type HR1.out k hk; exact hl0.block k (blk_lt' hc))⟩
  have HS1 : Hid (w.heap.size ≤ (w1.alloc (.cells #[.int .u8 bits] 5)).heap.size) := Lib.hid (by have := HB1.out.size; omega)
  clear hl0 hsz0 hbr HBC
  generalize w1.alloc (.cells #[.int .u8 bits] 5) = W1 at HW1 HS1 ⊢
  refine (four_w n (by omega)).mono ?_
  rintro e W2 ⟨rfl, rfl⟩
  obtain ⟨u0, w3, e1, e2, e3, _⟩ := HW1.out.push HS1.out (be4 n) _ rfl (by simp [be4]) (by simp [be4])
  have E1 : Hid ((Builtin.append_ #[29, 29] 29 #[.slice (some ⟨w1.heap.size, 0, none⟩) 1 1, .slice (some ⟨W1.heap.size, 0, none⟩) 4 4]).run Try.prog (W1.alloc (.cells ((be4 n).map u8v).toArray 5)) = .ok u0 w3) := Lib.hid e1
  have E2 := Lib.hid e2
  have E3 := Lib.hid e3
  clear e1 e2 e3
  generalize ((be4 n).map u8v).toArray = cs4 at E1 ⊢
  go_upto_region 5 with (at_builtin; refine wpList_append_run _ rfl (.tmp 23) (.tmp 26) 29 rfl (.slice (some ⟨_, 0, none⟩) 1 1) (.slice (some ⟨_, 0, none⟩) 4 4) rfl rfl u0 w3 E1.out ?_)
  clear E1 HW1 HS1
  have E2 : Hid (WrR w.heap.size (.slice A n c) L u0 (UInt8.ofNat bits :: be4 n) w w3) := E2
  rcases Nat.eq_zero_or_pos n with hn0 | hn0
  · subst hn0
    have ha2 := HAE.out HN.out.symm
    have ha3 : (a : Int) < 256 := by omega
    have ha4 : (0 : Int) ≤ (a : Int) := by omega
    obtain ⟨u1, w4, e1, e2, e3, _⟩ := E2.out.push E3.out [UInt8.ofNat a] #[.int .u8 a] (by rw [List.map_cons, List.map_nil, u8v_of a a (by omega)]) (by simp) (by simp [be4])
    have E11 : Hid ((Builtin.append_ #[29, 29] 29 #[u0, .slice (some ⟨w3.heap.size, 0, none⟩) 1 1]).run Try.prog (w3.alloc (.cells #[.int .u8 a] 5)) = .ok u1 w4) := Lib.hid e1
    have E12 := Lib.hid e2
    have HB : Hid (writeB bits L a = (UInt8.ofNat bits :: be4 0) ++ [UInt8.ofNat a]) := Lib.hid (by unfold writeB; rw [← HN.out, if_pos rfl])
    clear e1 e2 e3 E2 E3 ha2
    go_wp2_with (at_builtin; refine wpList_append_run _ rfl (.tmp 31) (.tmp 34) 29 rfl u0 (.slice (some ⟨_, 0, none⟩) 1 1) rfl rfl u1 w4 E11.out ?_)
    go_ret2
    rw [HB.out]
    exact ⟨u1, rfl, E12.out.row, E12.out.big, E12.out.bw⟩
  · have t1 : ((n : Int) == 0) = false := by simp; omega
    have hnn : (n : Int) ≤ 1000000 := by omega
    have HB : Hid (writeB bits L a = (UInt8.ofNat bits :: be4 n) ++ L.flatMap nodeB) := Lib.hid (by unfold writeB; rw [← HN.out, if_neg (by omega)])
    have hbl : (UInt8.ofNat bits :: be4 n).length = 5 := rfl
    have HBL := Lib.hid hbl
    obtain ⟨hd, hhd⟩ : ∃ hd, hd = UInt8.ofNat bits :: be4 n := ⟨_, rfl⟩
    rw [← hhd] at HBL E2 HB
    have HST : Hid (WrR w.heap.size (.slice A n c) L u0 (hd ++ (L.take 0).flatMap nodeB) w w3 ∧ w.heap.size ≤ w3.heap.size) := Lib.hid ⟨by rw [List.take_zero, List.flatMap_nil, List.append_nil]; exact E2.out, E3.out⟩
    clear E2 E3 hhd hbl HB1 HR1
    go_wp2_with fail
    go_loopw [8, 38] (fun v8 v38 wr => ∃ (i : Nat) (u : Value), u = v8 ∧ v38 = .int .i64 i ∧ i ≤ n ∧ Hid (WrR w.heap.size (.slice A n c) L u (hd ++ (L.take i).flatMap nodeB) w wr ∧ w.heap.size ≤ wr.heap.size)) (fun _ v38 _ => n - (intOf v38).toNat)
    case atStart => exact ⟨0, _, rfl, rfl, Nat.zero_le _, HST⟩
    case round =>
      clear HST
      obtain ⟨i, u, rfl, rfl, hi2, hrel⟩ := hrel
      by_cases hlt : i < n
      · have hi64 : (i : Int) < (n : Int) := by omega
        have hi64b : decide ((i : Int) < (n : Int)) = true := decide_eq_true hi64
        have hi0 : (0 : Int) ≤ (i : Int) := by omega
        obtain ⟨m, hat⟩ : ∃ m, L[i]? = some m := ⟨_, List.getElem?_eq_getElem (by rw [← HN.out]; exact hlt)⟩
        obtain ⟨nb, cap, hv, c0, c1, c2⟩ := row_node hrel.out.1.lrow i m hat
        obtain ⟨s1, s2, s3⟩ := HSM.out.2 m (List.mem_of_getElem? hat)
        have htk : (L.take (i + 1)).flatMap nodeB = (L.take i).flatMap nodeB ++ nodeB m := by
          rw [List.take_add_one, hat, List.flatMap_append]
          simp
        injection hv with hv hv2 hv3
        subst hv
        clear hv2 hv3
        obtain ⟨x, y, z⟩ := m
        have HTK := Lib.hid htk
        simp only at c0 c1 c2 s1 s2 s3
        have hx1 : (x : Int) < 256 := by omega
        have hx0 : (0 : Int) ≤ (x : Int) := by omega
        clear htk hat
        go_upto_region 10 with fail
        have hbx := heap_alloc_new wr (.cells #[.int .i64 x, .int .i64 y, .int .i64 z] 83)
        have hR0 := hrel.out.1.below hrel.out.2 (below_alloc (Below.refl _ wr) (.cells #[.int .i64 x, .int .i64 y, .int .i64 z] 83))
        have hs0 : w.heap.size ≤ (wr.alloc (.cells #[.int .i64 x, .int .i64 y, .int .i64 z] 83)).heap.size := by rw [World.size_alloc]; have := hrel.out.2; omega
        have hfl : ((L.take i).flatMap nodeB).length ≤ 9000000 := by rw [flat_len, List.length_take]; omega
        have HFL := Lib.hid hfl
        generalize (L.take i).flatMap nodeB = fl at hR0 HTK HFL
        generalize wr.heap.size = q at hbx ⊢
        generalize wr.alloc (.cells #[.int .i64 x, .int .i64 y, .int .i64 z] 83) = W0 at hbx hR0 hs0 ⊢
        have b0 := blk_cell hbx 0 (.int .i64 x) rfl
        obtain ⟨u1, w4, e1, e2, e3, e4⟩ := hR0.push hs0 [UInt8.ofNat x] #[.int .u8 x] (by rw [List.map_cons, List.map_nil, u8v_of x x (by omega)]) (by simp) (by have := HFL.out; have := HBL.out; simp; omega)
        have E11 : Hid ((Builtin.append_ #[29, 29] 29 #[u, .slice (some ⟨W0.heap.size, 0, none⟩) 1 1]).run Try.prog (W0.alloc (.cells #[.int .u8 x] 5)) = .ok u1 w4) := Lib.hid e1
        have E12 := Lib.hid e2
        have E13 := Lib.hid e3
        have hbx4 := e4 q _ hbx
        have b1 := blk_cell hbx4 1 (.int .i64 y) rfl
        have HBX4 := Lib.hid hbx4
        clear e1 e2 e3 e4 hbx hbx4 hR0 hs0 hfl c0 c1 c2 hrel
        go_upto_region 11 with (at_builtin; refine wpList_append_run _ rfl (.tmp 42) (.tmp 46) 29 rfl u (.slice (some ⟨_, 0, none⟩) 1 1) rfl rfl u1 w4 E11.out ?_)
        go_wp2_with fail
        refine (four_w y s2).mono ?_
        rintro e W4 ⟨rfl, rfl⟩
        obtain ⟨u2, w5, e1, e2, e3, e4⟩ := E12.out.push E13.out (be4 y) _ rfl (by simp [be4]) (by have := HFL.out; have := HBL.out; simp [be4]; omega)
        have E21 : Hid ((Builtin.append_ #[29, 29] 29 #[u1, .slice (some ⟨w4.heap.size, 0, none⟩) 4 4]).run Try.prog (w4.alloc (.cells ((be4 y).map u8v).toArray 5)) = .ok u2 w5) := Lib.hid e1
        have E22 := Lib.hid e2
        have E23 := Lib.hid e3
        have hbx5 := e4 q _ HBX4.out
        have b2 := blk_cell hbx5 2 (.int .i64 z) rfl
        clear e1 e2 e3 e4 b0 b1 hbx5 E11
        generalize ((be4 y).map u8v).toArray = cs5 at E21 ⊢
        go_upto_region 12 with (at_builtin; refine wpList_append_run _ rfl (.tmp 48) (.tmp 51) 29 rfl u1 (.slice (some ⟨_, 0, none⟩) 4 4) rfl rfl u2 w5 E21.out ?_)
        go_wp2_with fail
        refine (four_w z s3).mono ?_
        rintro e W5 ⟨rfl, rfl⟩
        obtain ⟨u3, w6, e1, e2, e3, e4⟩ := E22.out.push E23.out (be4 z) _ rfl (by simp [be4]) (by have := HFL.out; have := HBL.out; simp [be4]; omega)
        have E31 : Hid ((Builtin.append_ #[29, 29] 29 #[u2, .slice (some ⟨w5.heap.size, 0, none⟩) 4 4]).run Try.prog (w5.alloc (.cells ((be4 z).map u8v).toArray 5)) = .ok u3 w6) := Lib.hid e1
        have HNX : Hid (WrR w.heap.size (.slice (some ⟨nb, 0, none⟩) n c) L u3 (hd ++ (L.take (i + 1)).flatMap nodeB) w w6 ∧ w.heap.size ≤ w6.heap.size) := Lib.hid ⟨by
          have h := e2
          rw [HTK.out]
          simpa [nodeB, List.append_assoc] using h, e3⟩
        clear e1 e2 e3 e4 b2 E21
        generalize ((be4 z).map u8v).toArray = cs6 at E31 ⊢
        go_wp2_with (at_builtin; refine wpList_append_run _ rfl (.tmp 53) (.tmp 56) 29 rfl u2 (.slice (some ⟨_, 0, none⟩) 4 4) rfl rfl u3 w6 E31.out ?_)
        go_roundw
        case rel => exact ⟨i + 1, _, rfl, by go_num, by omega, HNX⟩
        case measure => simp [intOf]; omega
      · have hi64b : decide ((i : Int) < (n : Int)) = false := decide_eq_false (by omega)
        have hi64c : decide (i < n) = false := decide_eq_false hlt
        have HE := Lib.hid hrel.out.1
        rw [List.take_of_length_le (by have := HN.out; omega)] at HE
        clear hrel
        go_wp2_with fail
        go_ret2
        rw [HB.out]
        exact ⟨u, rfl, HE.out.row, HE.out.big, HE.out.bw⟩
end
end Go.Proofs.Ytbglnddjhlefnaa
namespace Go.Proofs.Ytbglnddjhlefnaa
open Go Go.RowKit Go.Proofs.YtbglnddjhlefnaaW.PrintWords Go.Proofs.YtbglnddjhlefnaaW.PrintLast Go.Proofs.YtbglnddjhlefnaaW.PrintMore
theorem results_tmp5 {fn : Func} {t u v x y : Tmp} (h : fn.results = #[.tmp t, .tmp u, .tmp v, .tmp x, .tmp y]) (tmps : Array Value) (P : Program) (w : World) :
    (results fn tmps).run P w = .ok (.tuple #[tmps.getD t undef, tmps.getD u undef, tmps.getD v undef, tmps.getD x undef, tmps.getD y undef]) w := by
  simp [results, h]
macro "go_ret5" : tactic => `(tactic|
  ((try simp only [Exit.inBlock, Exit.then]); refine bodyPost_ret (results_tmp5 rfl _ _ _) rfl ?_))
/-- What a round does: both refuse the cube, or all is told. -/
def Round (w0 : World) (g gr : Nat) (x : ByteArray) (a r : Nat) (wr : World) (Nx : Nat → Nat → World → Prop) : Prop :=
  (∃ Q1 : World → Prop, (Calls Try.prog 16 #[.pointer (some ⟨g, 0, none⟩), .string x] wr fun e w' => e = .returned (.tuple #[.int .i64 0, .int .i64 21]) ∧ Q1 w' ∧ Below w0.heap.size w0 w') ∧
    ∀ w1, Q1 w1 → Calls Try.prog 33 #[.pointer (some ⟨gr, 0, none⟩), .string x] w1 fun e w' => e = .returned (.tuple #[.int .i64 0, .int .i64 21]) ∧ Nx a r w') ∨
  (∃ (c d : Nat) (Q1 Q2 Q3 : World → Prop) (a2 r2 : Nat), (Calls Try.prog 16 #[.pointer (some ⟨g, 0, none⟩), .string x] wr fun e w' => e = .returned (.tuple #[.int .i64 c, .int .i64 0]) ∧ Q1 w' ∧ Below w0.heap.size w0 w') ∧
    (∀ w1, Q1 w1 → Calls Try.prog 33 #[.pointer (some ⟨gr, 0, none⟩), .string x] w1 fun e w' => e = .returned (.tuple #[.int .i64 d, .int .i64 0]) ∧ Q2 w') ∧
    (∀ w2, Q2 w2 → Calls Try.prog 14 #[.pointer (some ⟨g, 0, none⟩), .slice (some ⟨w2.heap.size, 0, none⟩) 2 2] (w2.alloc (.cells #[.int .i64 a, .int .i64 c] 26)) fun e w' => e = .returned (.tuple #[.int .i64 a2, .int .i64 0]) ∧ Q3 w') ∧
    (∀ w3, Q3 w3 → Calls Try.prog 34 #[.pointer (some ⟨gr, 0, none⟩), .slice (some ⟨w3.heap.size, 0, none⟩) 2 2] (w3.alloc (.cells #[.int .i64 r, .int .i64 d] 26)) fun e w' => e = .returned (.tuple #[.int .i64 r2, .int .i64 0]) ∧ Nx a2 r2 w'))
section
variable {w : World}
set_option maxRecDepth 100000 in
set_option maxHeartbeats 4000000 in
theorem made_go (bits lim : Nat) (A : Option Addr) (c : Nat) (xs : List ByteArray) (I : Nat → Nat → Nat → Nat → Nat → World → Prop) (hb : bits ≤ 16)
    (hn1 : Calls Try.prog 19 #[.int .i64 bits, .int .i64 lim] w fun e w' => ∃ g gr, e = .returned (.tuple #[.pointer (some ⟨g, 0, none⟩), .int .i64 0]) ∧ Calls Try.prog 32 #[.int .i64 bits, .int .i64 lim] w' fun e w2 => e = .returned (.tuple #[.pointer (some ⟨gr, 0, none⟩), .int .i64 0]) ∧ I g gr 0 0 0 w2)
    (hV : ∀ wr, Below w.heap.size w wr → Kd.V Kd.string 9 wr 0 (fun k => k < w.heap.size) (.slice A xs.length c) xs) (hIB : ∀ g gr i a r wr, I g gr i a r wr → Below w.heap.size w wr) (hl : xs.length ≤ 140737488351232)
    (hr : ∀ g gr i a r wr, I g gr i a r wr → i < xs.length → i < 12 → Round w g gr (xs.getD i ⟨#[]⟩) a r wr (fun a2 r2 w' => I g gr (i + 1) a2 r2 w')) :
    Calls Try.prog 9 #[.int .i64 bits, .int .i64 lim, .slice A xs.length c] w fun e w' => ∃ g gr a r : Nat, e = .returned (.tuple #[.pointer (some ⟨g, 0, none⟩), .pointer (some ⟨gr, 0, none⟩), .int .i64 a, .int .i64 r, .bool true]) ∧ I g gr (min xs.length 12) a r w' := by
  have HN1 := Lib.hid hn1
  have HV := Lib.hid hV
  have HR := Lib.hid hr
  have HIB := Lib.hid hIB
  have t0 : decide ((16 : Int) < bits) = false := decide_eq_false (by omega)
  have t1 : decide (16 < bits) = false := decide_eq_false (by omega)
  obtain ⟨n, hn⟩ : ∃ n, n = xs.length := ⟨_, rfl⟩
  rw [← hn] at HV HR hl ⊢
  have HN := Lib.hid hn
  clear hn1 hV hr hb hn hIB
  go_enter Try.func9, Try.ntmps9
  go_wp2_with fail
  refine HN1.out.mono ?_
  rintro e w1 ⟨g, gr, rfl, hn2⟩
  have HN2 := Lib.hid hn2
  clear hn2 HN1
  go_wp2_with fail
  refine HN2.out.mono ?_
  rintro e w2 ⟨rfl, hI⟩
  have HI := Lib.hid hI
  clear hI HN2
  go_wp2_with fail
  go_loopw [15, 16, 18] (fun v15 v16 v18 wr => ∃ i a r : Nat, v15 = .int .i64 a ∧ v16 = .int .i64 r ∧ v18 = .int .i64 i ∧ i ≤ n ∧ i ≤ 12 ∧ Hid (I g gr i a r wr)) (fun _ _ v18 _ => n - (intOf v18).toNat)
  case atStart => exact ⟨0, 0, 0, rfl, rfl, rfl, Nat.zero_le _, by omega, HI⟩
  case round =>
    clear HI
    obtain ⟨i, a, r, rfl, rfl, rfl, hi2, hi12, hrel⟩ := hrel
    by_cases hgo : i < n ∧ i < 12
    · obtain ⟨hlt, hlt2⟩ := hgo
      have hi64 : (i : Int) < (n : Int) := by omega
      have hi64b : decide ((i : Int) < (n : Int)) = true := decide_eq_true hi64
      have hi12a : (i : Int) < 12 := by omega
      have hi12b : decide ((i : Int) < 12) = true := decide_eq_true hi12a
      have hi12c : decide (i < 12) = true := decide_eq_true hlt2
      obtain ⟨ad, x, rfl, hc, HX, hbl⟩ := V_str (HV.out wr (HIB.out g gr i a r wr hrel.out)) i (by rw [← HN.out]; exact hlt)
      have hrd := HR.out g gr i a r wr hrel.out hlt hlt2
      rw [← HX.out] at hrd
      have HBI := Lib.hid (HIB.out g gr i a r wr hrel.out)
      have hblk : (ad.add i).block < w.heap.size := by
        have : (ad.add i).block = ad.block := by unfold Addr.add; split <;> rfl
        rw [this]; exact hbl
      have HCK : Hid (∀ w1, Below w.heap.size w w1 → w1.cell? (ad.add i) = some (.string x)) := Lib.hid (fun w1 hb => by
        have h1 : w1.heap[(ad.add i).block]? = wr.heap[(ad.add i).block]? := (hb.block _ hblk).trans (HBI.out.block _ hblk).symm
        exact (World.cell?_of_block h1).trans hc)
      have hnn : (n : Int) ≤ 140737488351232 := by omega
      have hi0 : (0 : Int) ≤ (i : Int) := by omega
      rcases hrd with ⟨Q1, c1, c2⟩ | ⟨cc, d, Q1, Q2, Q3, a2, r2, c1, c2, c3, c4⟩
      · have C1 := Lib.hid c1
        have C2 := Lib.hid c2
        clear c1 c2 hrel hblk hbl
        go_wp2_with fail
        refine C1.out.mono ?_
        rintro e w3 ⟨rfl, q1, qb⟩
        have k1 := HCK.out w3 qb
        have CC := Lib.hid (C2.out w3 q1)
        clear q1 qb C1 C2 hc HCK
        go_wp2_with fail
        refine CC.out.mono ?_
        rintro e w4 ⟨rfl, q2⟩
        have Q := Lib.hid q2
        clear q2 CC k1
        go_wp2_with fail
        go_roundw
        case rel => exact ⟨i + 1, a, r, rfl, rfl, by go_num, by omega, by omega, Q⟩
        case measure => simp [intOf]; omega
      · have C1 := Lib.hid c1
        have C2 := Lib.hid c2
        have C3 := Lib.hid c3
        have C4 := Lib.hid c4
        clear c1 c2 c3 c4 hrel hblk hbl
        go_wp2_with fail
        refine C1.out.mono ?_
        rintro e w3 ⟨rfl, q1, qb⟩
        have k1 := HCK.out w3 qb
        have CC := Lib.hid (C2.out w3 q1)
        clear q1 qb C1 C2 hc HCK
        go_wp2_with fail
        refine CC.out.mono ?_
        rintro e w4 ⟨rfl, q2⟩
        have CC3 := Lib.hid (C3.out w4 q2)
        clear q2 CC k1 C3
        go_wp2_with fail
        refine CC3.out.mono ?_
        rintro e w5 ⟨rfl, q3⟩
        have CC4 := Lib.hid (C4.out w5 q3)
        clear q3 CC3 C4
        go_wp2_with fail
        refine CC4.out.mono ?_
        rintro e w6 ⟨rfl, q4⟩
        have Q := Lib.hid q4
        clear q4 CC4
        go_wp2_with fail
        go_roundw
        case rel => exact ⟨i + 1, a2, r2, rfl, rfl, by go_num, by omega, by omega, Q⟩
        case measure => simp [intOf]; omega
    · have hx : (decide ((i : Int) < (n : Int)) = false ∧ decide (i < n) = false) ∨ (((i : Int) < (n : Int)) ∧ decide ((i : Int) < 12) = false ∧ decide (i < 12) = false) := by
        by_cases hin : i < n
        · right
          have h30 : ¬ i < 12 := fun h => hgo ⟨hin, h⟩
          exact ⟨by omega, decide_eq_false (by omega), decide_eq_false h30⟩
        · left
          exact ⟨decide_eq_false (by omega), decide_eq_false hin⟩
      have hmin : min n 12 = i := by omega
      have HI : Hid (I g gr (min n 12) a r wr) := Lib.hid (by rw [hmin]; exact hrel.out)
      clear hrel hgo hmin
      rcases hx with ⟨x1, x2⟩ | ⟨x1, x2, x3⟩
      all_goals
        go_wp2_with fail
        go_ret5
        exact ⟨g, gr, a, r, rfl, HI.out⟩
end
end Go.Proofs.Ytbglnddjhlefnaa
namespace Go.Proofs.Ytbglnddjhlefnaa
open Go Go.RowKit Go.Proofs.YtbglnddjhlefnaaW.PrintWords Go.Proofs.YtbglnddjhlefnaaW.PrintLast Go.Proofs.YtbglnddjhlefnaaW.PrintMore
def aqN : List Nd := [(1, 0, 1), (0, 0, 2)]
def aq1 : Bd := ⟨2, 10, aqN, [3], [2, 3]⟩
def aq2 : Bd := ⟨2, 10, aqN, [3, 3], [2, 3]⟩
theorem aq_1 : cubeR (newB 2 10) [49, 49] = (3, 0, aq1) := by kernel_rfl
theorem aq_2 : foldR aq1 false [0, 3] = (3, 0, aq2) := by kernel_rfl
theorem aq_3 : listF aqN 3 = [(1, 0, 1), (0, 0, 2)] := by kernel_rfl
theorem aq_4 : cubeG [] [49, 49] 0 = (some 3, aqN) := by kernel_rfl
theorem aq_5 : foldD 2 aqN 0 [0, 3] = (3, aqN) := by kernel_rfl
theorem aq_6 : writeB 2 [(1, 0, 1), (0, 0, 2)] 3 = [2, 0, 0, 0, 2, 1, 0, 0, 0, 0, 0, 0, 0, 1, 0, 0, 0, 0, 0, 0, 0, 0, 2] := by kernel_rfl
theorem fine0 : Fine (newB 2 10) := Fine.new (b := 2) (l := 10) (by omega) (by omega) (by omega)
theorem fineq1 : Fine aq1 := by have := fine0.cube [49, 49]; rw [aq_1] at this; exact this
theorem fineq2 : Fine aq2 := by
  have := fineq1.fold false [0, 3] (fun b hb => by simp at hb; unfold Val aq1 aqN; simp; omega)
  rw [aq_2] at this
  exact this
section
variable {g gr : Nat} {S Sr : Nat → Prop} {w wr : World}
theorem aqCube (h : Tab g S (newB 2 10) w) : Calls Try.prog 16 #[.pointer (some ⟨g, 0, none⟩), .string ⟨#[49, 49]⟩] w fun e w' => e = .returned (.tuple #[.int .i64 (3 : Nat), .int .i64 0]) ∧ ∃ S', Tab g S' aq1 w' ∧ Gr S S' w w' := by
  have := cube_w h fine0.wf ⟨#[49, 49]⟩ rfl (by decide) (by decide) (by decide) (by simp [newB]) (fun a N1 hc => ?_)
  · rw [show (ByteArray.mk #[49, 49]).data.toList = [49, 49] from rfl, aq_1] at this
    exact this
  · have hc : cubeG [] [49, 49] 0 = (some a, N1) := hc
    rw [aq_4] at hc
    simp only [Prod.mk.injEq, Option.some.injEq] at hc
    obtain ⟨rfl, rfl⟩ := hc
    show 0 + _ ≤ 10
    decide
theorem aqOr (h : Tab g S aq1 w) : Calls Try.prog 14 #[.pointer (some ⟨g, 0, none⟩), .slice (some ⟨w.heap.size, 0, none⟩) 2 2] (w.alloc (.cells #[.int .i64 (0 : Nat), .int .i64 (3 : Nat)] 26)) fun e w' => e = .returned (.tuple #[.int .i64 (3 : Nat), .int .i64 0]) ∧ ∃ S', Tab g S' aq2 w' ∧ Gr S S' w w' := by
  have := Or2_w h fineq1 0 3 (by decide) (by decide) (by decide)
  rw [aq_2] at this
  exact this
/-- Two tables side by side. -/
structure Two (g gr : Nat) (S Sr : Nat → Prop) (T : Bd) (R : Rd) (w wr : World) : Prop where
  tab : Tab g S T wr
  rtab : RTab gr Sr R wr
  own : Own w.heap.size S w wr
  rown : Own w.heap.size Sr w wr
  ap : ∀ k, Sr k → ¬ S k
theorem Two.tabGr {T T' : Bd} {R : Rd} {S' : Nat → Prop} {w' : World} (h : Two g gr S Sr T R w wr) (ht : Tab g S' T' w') (hg : Gr S S' wr w') : Two g gr S' Sr T' R w w' := by
  have h2 := h.own.gr (Nat.le_refl _) hg
  exact ⟨ht, h.rtab.step hg.chg.size (fun k hk hkl => hg.chg.block k hkl (h.ap k hk)), h2, ⟨h.rown.bl, h2.bw⟩, fun k hk hs => (hg.new k hs).elim (h.ap k hk) (fun h2 => by have := h.rtab.lt k hk; omega)⟩
theorem Two.rtabGs {T : Bd} {R R' : Rd} {S' : Nat → Prop} {w' : World} (h : Two g gr S Sr T R w wr) (ht : RTab gr S' R' w') (hg : Gs Sr S' wr w') : Two g gr S S' T R' w w' := by
  have h2 := h.rown.gs (Nat.le_refl _) hg
  exact ⟨h.tab.step hg.chg.size (fun k hk hkl => hg.chg.block k hkl (fun hr => h.ap k hr hk)), ht, ⟨h.own.bl, h2.bw⟩, h2, fun k hk hs => (hg.new k hk).elim (fun hr => h.ap k hr hs) (fun h2 => by have := h.tab.lt k hs; omega)⟩
/-- made, of the one cube 11. -/
theorem aqMade (w : World) (q : Nat) (hq : Kd.V Kd.string 9 w 0 (fun k => k < w.heap.size) (.slice (some ⟨q, 0, none⟩) 1 1) [⟨#[49, 49]⟩]) :
    Calls Try.prog 9 #[.int .i64 2, .int .i64 10, .slice (some ⟨q, 0, none⟩) 1 1] w fun e w' => ∃ g gr a r : Nat, e = .returned (.tuple #[.pointer (some ⟨g, 0, none⟩), .pointer (some ⟨gr, 0, none⟩), .int .i64 a, .int .i64 r, .bool true]) ∧ a = 3 ∧ Below w.heap.size w w' ∧ ∃ S, Tab g S aq2 w' ∧ Own w.heap.size S w w' := by
  refine (made_go 2 10 (some ⟨q, 0, none⟩) 1 [⟨#[49, 49]⟩] (fun g gr i a r wr => (i = 0 ∧ a = 0 ∧ r = 0 ∧ ∃ S Sr, Two g gr S Sr (newB 2 10) (newR 2 10) w wr) ∨ (i = 1 ∧ a = 3 ∧ ∃ S Sr T, Two g gr S Sr aq2 T w wr)) (by omega) ?_ (fun wr hb => Kd.V_step hq (fun k hk _ => hb.block k hk)) ?_ (by show 1 ≤ 140737488351232; omega) ?_).mono ?_
  · refine (New_w (w := w) 2 10 (by omega) (by omega) (by omega)).mono ?_
    rintro e w1 ⟨g, S, rfl, h1, h2, h3⟩
    refine ⟨g, w1.heap.size, rfl, (rnew_w 2 10 (by omega) (by omega) (by omega)).mono ?_⟩
    rintro e w2 ⟨rfl, r1, r2⟩
    have hs := h3.size
    refine ⟨rfl, .inl ⟨rfl, rfl, rfl, S, _, h1.below r2, r1, ⟨h2, below_trans' h3 r2 hs⟩, ⟨fun k hk => by rw [hk]; exact hs, below_trans' h3 r2 hs⟩, fun k hk hS => by have := h1.lt k hS; omega⟩⟩
  · rintro g gr i a r wr (⟨_, _, _, S, Sr, h⟩ | ⟨_, _, S, Sr, T, h⟩)
    · exact h.own.bw
    · exact h.own.bw
  · rintro g gr i a r wr (⟨rfl, rfl, rfl, S, Sr, h⟩ | ⟨rfl, _⟩) hi hi2
    · refine .inr ⟨3, 3, fun w1 => ∃ S Sr, Two g gr S Sr aq1 (newR 2 10) w w1, fun w1 => ∃ S Sr l, Two g gr S Sr aq1 (tellR (growR (newR 2 10) aqN) 3 l) w w1, fun w1 => ∃ S Sr l, Two g gr S Sr aq2 (tellR (growR (newR 2 10) aqN) 3 l) w w1, 3, 3, ?_, ?_, ?_, ?_⟩
      · refine (aqCube h.tab).mono ?_
        rintro e w1 ⟨rfl, S1, q1, q2⟩
        have h1 := h.tabGr q1 q2
        exact ⟨rfl, ⟨S1, Sr, h1⟩, h1.own.bw⟩
      · rintro w1 ⟨S1, Sr1, h1⟩
        refine (rcube_w h1.rtab ⟨List.nodup_nil, fun i n hi => by simp [newR] at hi⟩ ⟨#[49, 49]⟩ rfl (by decide) (by decide) (by show (cubeG [] [49, 49] 0).2.length ≤ 10; rw [aq_4]; decide) (by decide) (by decide)).mono ?_
        rintro e w2 ⟨a, N1, l, S2, rfl, hc, q1, q2⟩
        have hc : cubeG [] [49, 49] 0 = (some a, N1) := hc
        rw [aq_4] at hc
        simp only [Prod.mk.injEq, Option.some.injEq] at hc
        obtain ⟨rfl, rfl⟩ := hc
        exact ⟨rfl, S1, S2, l, h1.rtabGs q1 q2⟩
      · rintro w1 ⟨S1, Sr1, l, h1⟩
        refine (aqOr h1.tab).mono ?_
        rintro e w2 ⟨rfl, S2, q1, q2⟩
        exact ⟨rfl, S2, Sr1, l, h1.tabGr q1 q2⟩
      · rintro w1 ⟨S1, Sr1, l, h1⟩
        have hba := below_alloc (Below.refl _ w1) (.cells #[.int .i64 (0 : Nat), .int .i64 (3 : Nat)] 26)
        have hsz : (w1.alloc (.cells #[.int .i64 (0 : Nat), .int .i64 (3 : Nat)] 26)).heap.size = w1.heap.size + 1 := World.size_alloc _ _
        have hwf : WF (tellR (growR (newR 2 10) aqN) 3 l).bits (tellR (growR (newR 2 10) aqN) 3 l).N := fineq1.wf
        refine (ror_w (l := [0, 3]) (A := some ⟨w1.heap.size, 0, none⟩) (c := 2) (h1.rtab.below hba) hwf (by show 2 ≤ 20; omega) (new_refs [0, 3] [.int .i64 (0 : Nat), .int .i64 (3 : Nat)] rfl w1 (by simp) w1.heap.size 2 rfl rfl) (by decide) ?_ ?_ (by show (foldD 2 aqN 0 [0, 3]).2.length ≤ 10; rw [aq_5]; decide) (by show 10 ≤ 4000000000; omega)).mono ?_
        · intro b hb
          simp at hb
          rcases hb with rfl | rfl
          · exact .inl (by omega)
          · exact .inr rfl
        · rintro k rfl
          exact ⟨fun hs => by have := h1.rtab.lt _ hs; omega, by rw [hsz]; omega⟩
        · rintro e w2 ⟨rfl, l2, S2, q1, q2⟩
          have hf : foldD (tellR (growR (newR 2 10) aqN) 3 l).bits (tellR (growR (newR 2 10) aqN) 3 l).N 0 [0, 3] = (3, aqN) := aq_5
          rw [hf] at q1 ⊢
          exact ⟨rfl, .inr ⟨rfl, rfl, S1, S2, _, h1.rtabGs q1 ⟨fun k hk => (q2.new k hk).imp id (fun h => by omega), ((Chg.refl _ w1).alloc _).trans q2.chg (fun i hi => .inl hi)⟩⟩⟩
    · simp at hi
  · rintro e w' ⟨g, gr, a, r, rfl, (⟨h0, _⟩ | ⟨_, ha, S, Sr, T, h⟩)⟩
    · simp at h0
    · exact ⟨g, gr, a, r, rfl, ha, h.own.bw, S, h.tab, h.own⟩
end
end Go.Proofs.Ytbglnddjhlefnaa
namespace Go.Proofs.Ytbglnddjhlefnaa
open Go Go.RowKit Go.Proofs.YtbglnddjhlefnaaW.PrintWords Go.Proofs.YtbglnddjhlefnaaW.PrintLast Go.Proofs.YtbglnddjhlefnaaW.PrintMore
def aqB : List UInt8 := [2, 0, 0, 0, 2, 1, 0, 0, 0, 0, 0, 0, 0, 1, 0, 0, 0, 0, 0, 0, 0, 0, 2]
theorem aq_lit : (aqB.map (fun c : UInt8 => Value.int .u8 (c.toNat : Nat))).toArray = #[.int .u8 2, .int .u8 0, .int .u8 0, .int .u8 0, .int .u8 2, .int .u8 1, .int .u8 0, .int .u8 0, .int .u8 0, .int .u8 0, .int .u8 0, .int .u8 0, .int .u8 0, .int .u8 1, .int .u8 0, .int .u8 0, .int .u8 0, .int .u8 0, .int .u8 0, .int .u8 0, .int .u8 0, .int .u8 0, .int .u8 2] := by kernel_rfl
section
variable {w : World}
theorem str_one (w : World) (s : ByteArray) : Kd.V Kd.string 9 (w.alloc (.cells #[.string s] 9)) 0 (fun k => k < (w.alloc (.cells #[.string s] 9)).heap.size) (.slice (some ⟨w.heap.size, 0, none⟩) 1 1) [s] := by
  have hr : Reps (Kd.FK Kd.string (w.alloc (.cells #[.string s] 9)) (fun k => k = w.heap.size)) 1 [s] [.string s] := Reps.one (show Kd.FK Kd.string _ _ s [.string s] from fun _ _ => rfl) (Reps.none _ _)
  exact Kd.V_mono (V_block (heap_alloc_new w (.cells #[.string s] 9)) hr rfl (Nat.le_refl _) (by decide)) (fun k hk => by
    have : k = w.heap.size := hk.elim id id
    rw [this, World.size_alloc]
    omega)
/-- A row of bytes as a text. -/
theorem brow_conv {u : Value} {l : List UInt8} (h : BRow u l w) (hl : 0 < l.length) : ∃ nb c, u = .slice (some ⟨nb, 0, none⟩) l.length c ∧ (convert 29 9 (.slice (some ⟨nb, 0, none⟩) l.length c)).run Try.prog w = .ok (strV l) w := by
  rcases h.2 with ⟨_, h0⟩ | ⟨q, cap, cur, rfl, hb, hc, hcap, hm, hcs, htk⟩
  · omega
  refine ⟨q, cap, rfl, run_convert_bytes_back w 29 9 5 ⟨q, 0, none⟩ cap l Try.underlying29 Try.underlying5 Try.underlying9 (fun j hj => ?_)⟩
  rw [add_at, Nat.zero_add, cell_of_row w q j cur 5 (0, 0) hc]
  have hk : (l.map u8v)[j]? = some (u8v l[j]) := by rw [List.getElem?_map, List.getElem?_eq_getElem hj]; rfl
  rw [← htk, List.getElem?_take, if_pos (by omega), Array.getElem?_toList] at hk
  exact hk
set_option maxRecDepth 100000 in
set_option maxHeartbeats 4000000 in
theorem awake4_w (w : World) : Calls Try.prog 8 #[] w fun e w' => e = .returned (.bool true) ∧ Below w.heap.size w w' := by
  have HM := Lib.hid (aqMade (w.alloc (.cells #[.string ⟨#[49, 49]⟩] 9)) w.heap.size (str_one w ⟨#[49, 49]⟩))
  have HBA := Lib.hid (below_alloc (Below.refl w.heap.size w) (.cells #[.string ⟨#[49, 49]⟩] 9))
  go_enter Try.func8, Try.ntmps8
  go_wp2_with fail
  refine HM.out.mono ?_
  rintro e w1 ⟨g, gr, a, r, rfl, rfl, hb, S, ht, _⟩
  have HB1 := Lib.hid (below_trans' HBA.out hb HBA.out.size)
  have hls : listF aq2.N 3 = [(1, 0, 1), (0, 0, 2)] := aq_3
  have HW : Hid (Calls Try.prog 10 #[.pointer (some ⟨g, 0, none⟩), .int .i64 3] w1 (WtP aqB w1)) := Lib.hid (by
    have := write_w ht fineq2 (by decide) 3 (by decide) (by rw [hls]; exact ⟨by decide, by decide⟩) (by rw [hls]; decide)
    rw [hls] at this
    rw [show writeB aq2.bits [(1, 0, 1), (0, 0, 2)] 3 = aqB from aq_6] at this
    exact this)
  clear hb ht hls HM HBA
  go_wp2_with fail
  refine HW.out.mono ?_
  rintro e w2 ⟨u, rfl, q1, q2, q3⟩
  obtain ⟨nb, c, rfl, hcv⟩ := brow_conv q1 (by decide)
  have hcv2 : (convert 29 9 (.slice (some ⟨w2.heap.size, 0, none⟩) 23 23)).run Try.prog (w2.alloc (.cells #[.int .u8 2, .int .u8 0, .int .u8 0, .int .u8 0, .int .u8 2, .int .u8 1, .int .u8 0, .int .u8 0, .int .u8 0, .int .u8 0, .int .u8 0, .int .u8 0, .int .u8 0, .int .u8 1, .int .u8 0, .int .u8 0, .int .u8 0, .int .u8 0, .int .u8 0, .int .u8 0, .int .u8 0, .int .u8 0, .int .u8 2] 5)) = .ok (strV aqB) (w2.alloc (.cells #[.int .u8 2, .int .u8 0, .int .u8 0, .int .u8 0, .int .u8 2, .int .u8 1, .int .u8 0, .int .u8 0, .int .u8 0, .int .u8 0, .int .u8 0, .int .u8 0, .int .u8 0, .int .u8 1, .int .u8 0, .int .u8 0, .int .u8 0, .int .u8 0, .int .u8 0, .int .u8 0, .int .u8 0, .int .u8 0, .int .u8 2] 5)) := by
    have hb : By w2.heap.size aqB (w2.alloc (.cells #[.int .u8 2, .int .u8 0, .int .u8 0, .int .u8 0, .int .u8 2, .int .u8 1, .int .u8 0, .int .u8 0, .int .u8 0, .int .u8 0, .int .u8 0, .int .u8 0, .int .u8 0, .int .u8 1, .int .u8 0, .int .u8 0, .int .u8 0, .int .u8 0, .int .u8 0, .int .u8 0, .int .u8 0, .int .u8 0, .int .u8 2] 5)) := by
      unfold By
      rw [aq_lit]
      exact heap_alloc_new w2 _
    exact hb.conv 23
  have HB2 := Lib.hid (below_trans' HB1.out q3 HB1.out.size)
  have HB3 := Lib.hid (fun o => below_alloc HB2.out o)
  rw [show aqB.length = 23 from rfl] at hcv ⊢
  unfold strV at hcv hcv2
  generalize ByteArray.mk aqB.toArray = sv at hcv hcv2
  clear q1 q2 q3 HW
  go_wp2_with fail
  go_ret
  exact ⟨rfl, HB3.out _⟩
end
end Go.Proofs.Ytbglnddjhlefnaa
namespace Go.Proofs.Ytbglnddjhlefnaa
open Go Go.RowKit Go.Proofs.YtbglnddjhlefnaaW.PrintWords Go.Proofs.YtbglnddjhlefnaaW.PrintLast Go.Proofs.YtbglnddjhlefnaaW.PrintMore
section
variable {g : Nat} {S : Nat → Prop} {T : Bd} {w w' : World} {p : Option Addr}
/-- List fails. -/
theorem write_fail (p : Option Addr) (a k : Int) (hk : (k != 0) = true) (h : Calls Try.prog 24 #[.pointer p, .int .i64 a] w fun e w' => e = .returned (.tuple #[.slice none 0 0, .int .i64 k]) ∧ Below w.heap.size w w') : Calls Try.prog 10 #[.pointer p, .int .i64 a] w fun e w' => e = .returned (.tuple #[.slice none 0 0, .int .i64 k]) ∧ Below w.heap.size w w' := by
  have H := Lib.hid h
  clear h
  go_enter Try.func10, Try.ntmps10
  go_wp2_with fail
  refine H.out.mono ?_
  rintro e w1 ⟨rfl, hb⟩
  have HB := Lib.hid hb
  clear hb
  go_wp2_with fail
  go_ret2
  exact ⟨rfl, HB.out⟩
theorem size_fail (p : Option Addr) (a k : Int) (hk : (k != 0) = true) (h : Calls Try.prog 24 #[.pointer p, .int .i64 a] w fun e w' => e = .returned (.tuple #[.slice none 0 0, .int .i64 k]) ∧ Below w.heap.size w w') : Calls Try.prog 30 #[.pointer p, .int .i64 a] w fun e w' => e = .returned (.tuple #[.int .i64 0, .int .i64 k]) ∧ Below w.heap.size w w' := by
  have H := Lib.hid (write_fail p a k hk h)
  clear h
  go_enter Try.func30, Try.ntmps30
  go_wp2_with fail
  refine H.out.mono ?_
  rintro e w1 ⟨rfl, hb⟩
  have HB := Lib.hid hb
  clear hb
  go_wp2_with fail
  go_ret2
  exact ⟨rfl, HB.out⟩
theorem move_nob1 (h : Nob p w) (q : Option Addr) (v : Value) : Calls Try.prog 31 #[.pointer p, .pointer q, v] w fun e w' => e = .returned (.tuple #[.slice none 0 0, .int .i64 4]) ∧ w = w' := by
  have H := Lib.hid (Bits_nob h)
  clear h
  go_enter Try.func31, Try.ntmps31
  go_wp2_with fail
  refine H.out.mono ?_
  rintro e w1 ⟨rfl, rfl⟩
  go_wp2_with fail
  go_ret2
  exact ⟨rfl, rfl⟩
theorem move_nob2 (ht : Tab g S T w) (hb : 1 ≤ T.bits) (h : Nob p w) (v : Value) : Calls Try.prog 31 #[.pointer (some ⟨g, 0, none⟩), .pointer p, v] w fun e w' => e = .returned (.tuple #[.slice none 0 0, .int .i64 4]) ∧ w = w' := by
  have H := Lib.hid (Bits_nob h)
  have H1 := Lib.hid (Bits_w ht)
  have t1 : ((T.bits : Int) == 0) = false := by simp; omega
  generalize T.bits = b at H1 t1
  clear h ht hb
  go_enter Try.func31, Try.ntmps31
  go_wp2_with fail
  refine H1.out.mono ?_
  rintro e w1 ⟨rfl, rfl⟩
  go_wp2_with fail
  refine H.out.mono ?_
  rintro e w1 ⟨rfl, rfl⟩
  go_wp2_with fail
  go_ret2
  exact ⟨rfl, rfl⟩
theorem results_ccc {P : Program} {fn : Func} {a b c : Tmp} {A B C : TypeId} (h : fn.results = #[.cell a A, .cell b B, .cell c C]) {tmps : Array Value} {w : World} {ga gb gc : Nat} {VA VB VC : Value} (pa : tmps.getD a undef = .pointer (some ⟨ga, 0, none⟩)) (pb : tmps.getD b undef = .pointer (some ⟨gb, 0, none⟩)) (pc : tmps.getD c undef = .pointer (some ⟨gc, 0, none⟩))
    (la : (loadVar A ⟨ga, 0, none⟩).run P w = .ok VA w) (lb : (loadVar B ⟨gb, 0, none⟩).run P w = .ok VB w) (lc : (loadVar C ⟨gc, 0, none⟩).run P w = .ok VC w) :
    (results fn tmps).run P w = .ok (.tuple #[VA, VB, VC]) w := by
  have pa' : tmps[a]?.getD undef = .pointer (some ⟨ga, 0, none⟩) := by simpa using pa
  have pb' : tmps[b]?.getD undef = .pointer (some ⟨gb, 0, none⟩) := by simpa using pb
  have pc' : tmps[c]?.getD undef = .pointer (some ⟨gc, 0, none⟩) := by simpa using pc
  simp [results, h, pa', pb', pc', asAddr, la, lb, lc]
theorem load26 {g : Nat} {x : Int} (hc : w.cell? ⟨g, 0, none⟩ = some (.int .i64 x)) : (loadVar 26 ⟨g, 0, none⟩).run Try.prog w = .ok (.int .i64 x) w := by
  go_simp
theorem load3 {g : Nat} {x : Int} (hc : w.cell? ⟨g, 0, none⟩ = some (.int .i64 x)) : (loadVar 3 ⟨g, 0, none⟩).run Try.prog w = .ok (.int .i64 x) w := by
  go_simp
theorem load30' {g : Nat} {x : Int} (hc : w.cell? ⟨g, 0, none⟩ = some (.int .i64 x)) : (loadVar 30 ⟨g, 0, none⟩).run Try.prog w = .ok (.int .i64 x) w := by
  go_simp
set_option maxRecDepth 100000 in
theorem read_nob (h : Nob p w) (v : Value) : Calls Try.prog 29 #[.pointer p, v] w fun e w' => e = .returned (.tuple #[.int .i64 0, .int .i64 0, .int .i64 4]) ∧ Below w.heap.size w w' := by
  have hb0 : Below w.heap.size w (((w.alloc (.cells #[.int .i64 0] 26)).alloc (.cells #[.int .i64 0] 3)).alloc (.cells #[.int .i64 0] 30)) := below_alloc (below_alloc (below_alloc (Below.refl _ _) _) _) _
  have H := Lib.hid (Bits_nob (h.step hb0))
  have HB := Lib.hid hb0
  clear h hb0
  go_enter_defers Try.func29, Try.ntmps29
  go_wp2_with fail
  refine H.out.mono ?_
  rintro e w1 ⟨rfl, rfl⟩
  go_wp2_with fail
  have a1 := heap_alloc_new w (.cells #[.int .i64 0] 26)
  have a2 := heap_alloc_new (w.alloc (.cells #[.int .i64 0] 26)) (.cells #[.int .i64 0] 3)
  have a3 := heap_alloc_new ((w.alloc (.cells #[.int .i64 0] 26)).alloc (.cells #[.int .i64 0] 3)) (.cells #[.int .i64 4] 30)
  have s1 : (w.alloc (.cells #[.int .i64 0] 26)).heap.size = w.heap.size + 1 := World.size_alloc _ _
  have s2 : ((w.alloc (.cells #[.int .i64 0] 26)).alloc (.cells #[.int .i64 0] 3)).heap.size = w.heap.size + 1 + 1 := by rw [World.size_alloc, s1]
  rw [s1] at a2
  rw [s2] at a3
  have b1 : (((w.alloc (.cells #[.int .i64 0] 26)).alloc (.cells #[.int .i64 0] 3)).alloc (.cells #[.int .i64 4] 30)).heap[w.heap.size]? = some (.cells #[.int .i64 0] 26 (0, 0)) := (heap_alloc_old _ _ (by omega)).trans ((heap_alloc_old _ _ (by omega)).trans a1)
  have b2 : (((w.alloc (.cells #[.int .i64 0] 26)).alloc (.cells #[.int .i64 0] 3)).alloc (.cells #[.int .i64 4] 30)).heap[w.heap.size + 1]? = some (.cells #[.int .i64 0] 3 (0, 0)) := (heap_alloc_old _ _ (by omega)).trans a2
  exact ⟨_, results_ccc rfl rfl rfl rfl (load26 (blk_cell b1 0 _ rfl)) (load3 (blk_cell b2 0 _ rfl)) (load30' (blk_cell a3 0 _ rfl)), rfl, below_alloc (below_alloc (below_alloc (Below.refl _ _) _) _) _⟩
/-- The two tables that nobody made, under way. -/
structure NbD (g : Nat) (S : Nat → Prop) (T : Bd) (gz sb : Nat) (w wr : World) : Prop where
  tab : Tab g S T wr
  z : wr.heap[gz]? = some (.cells #[.map none, .map none, .int .i64 0, .int .i64 0, .slice none 0 0, .map none] 67 (0, 0))
  s : wr.heap[sb]? = some (.cells #[.pointer none, .pointer (some ⟨gz, 0, none⟩)] 24 (0, 0))
  b : Below w.heap.size w wr
theorem NbD.below {gz sb : Nat} {wr : World} (h : NbD g S T gz sb w wr) (hb : Below wr.heap.size wr w') : NbD g S T gz sb w w' :=
  ⟨h.tab.below hb, (hb.block gz (blk_lt' h.z)).trans h.z, (hb.block sb (blk_lt' h.s)).trans h.s, below_trans' h.b hb h.b.size⟩
theorem NbD.at_ {gz sb : Nat} {wr : World} (h : NbD g S T gz sb w wr) (i : Nat) (hi : i < 2) : ∃ p, wr.cell? ⟨sb, i, none⟩ = some (.pointer p) ∧ ∀ w', NbD g S T gz sb w w' → Nob p w' := by
  match i, hi with
  | 0, _ => exact ⟨none, blk_cell h.s 0 _ rfl, fun w' _ => .inl rfl⟩
  | 1, _ => exact ⟨some ⟨gz, 0, none⟩, blk_cell h.s 1 _ rfl, fun w' h' => .inr ⟨gz, rfl, h'.z⟩⟩
set_option maxRecDepth 100000 in
set_option maxHeartbeats 8000000 in
theorem dumpnob_w (v : Value) (bad : Int) (w : World) : Calls Try.prog 7 #[v, .int .i64 bad] w fun e w' => e = .returned (.bool true) ∧ Below w.heap.size w w' := by
  have HN : Hid (Calls Try.prog 19 #[.int .i64 3, .int .i64 9] w fun e w' => ∃ g S, e = .returned (.tuple #[.pointer (some ⟨g, 0, none⟩), .int .i64 0]) ∧ Tab g S (newB 3 9) w' ∧ (∀ k, S k → w.heap.size ≤ k) ∧ Below w.heap.size w w') := Lib.hid (New_w (w := w) 3 9 (by omega) (by omega) (by omega))
  have HAW := Lib.hid awake4_w
  go_enter Try.func7, Try.ntmps7
  go_wp2_with fail
  refine HN.out.mono ?_
  rintro e w1 ⟨g, S, rfl, q1, _, q3⟩
  obtain ⟨W0, hW0⟩ : ∃ W0, W0 = (w1.alloc (.cells #[.map none, .map none, .int .i64 0, .int .i64 0, .slice none 0 0, .map none] 67)).alloc (.cells #[.pointer none, .pointer (some ⟨w1.heap.size, 0, none⟩)] 24) := ⟨_, rfl⟩
  have HST : Hid (NbD g S (newB 3 9) w1.heap.size (w1.heap.size + 1) w W0) := Lib.hid (by
    have hb2 : Below w1.heap.size w1 W0 := by rw [hW0]; exact below_alloc (below_alloc (Below.refl _ _) _) _
    refine ⟨q1.below hb2, ?_, ?_, below_trans' q3 hb2 q3.size⟩
    · rw [hW0, heap_alloc_old _ _ (by rw [World.size_alloc]; omega)]
      exact heap_alloc_new w1 _
    · have := heap_alloc_new (w1.alloc (.cells #[.map none, .map none, .int .i64 0, .int .i64 0, .slice none 0 0, .map none] 67)) (.cells #[.pointer none, .pointer (some ⟨w1.heap.size, 0, none⟩)] 24)
      rw [World.size_alloc] at this
      rw [hW0]
      exact this)
  have HW0 := Lib.hid hW0
  clear q1 q3 HN hW0
  go_wp2_with fail
  rw [← HW0.out]
  generalize w1.heap.size + 1 = sb at HST ⊢
  generalize w1.heap.size = gz at HST ⊢
  clear HW0
  go_loopw [40] (fun v40 wr => ∃ i : Nat, v40 = .int .i64 i ∧ i ≤ 2 ∧ Hid (NbD g S (newB 3 9) gz sb w wr)) (fun v40 _ => 2 - (intOf v40).toNat)
  case atStart => exact ⟨0, rfl, by omega, HST⟩
  case round =>
    clear HST
    obtain ⟨i, rfl, hi, hrel⟩ := hrel
    rcases Nat.lt_or_ge i 2 with hlt | hge
    · obtain ⟨p, hp, hnob⟩ := hrel.out.at_ i hlt
      have NOB := Lib.hid hnob
      have hi2 : (i : Int) < 2 := by omega
      have hi2d : decide ((i : Int) < 2) = true := decide_eq_true hi2
      have hi2n : decide (i < 2) = true := decide_eq_true hlt
      clear hnob
      go_wp2_with fail
      refine (write_fail p 0 4 rfl (List_nob (NOB.out _ hrel.out) 0)).mono ?_
      rintro e w2 ⟨rfl, hb⟩
      have R1 := Lib.hid (hrel.out.below hb)
      clear hb hp
      go_wp2_with fail
      refine (read_nob (NOB.out _ R1.out) v).mono ?_
      rintro e w3 ⟨rfl, hb⟩
      have R2 := Lib.hid (R1.out.below hb)
      clear hb
      go_wp2_with fail
      refine (size_fail p 1 4 rfl (List_nob (NOB.out _ R2.out) 1)).mono ?_
      rintro e w4 ⟨rfl, hb⟩
      have R3 := Lib.hid (R2.out.below hb)
      clear hb
      go_wp2_with fail
      refine (move_nob1 (NOB.out _ R3.out) _ _).mono ?_
      rintro e w5 ⟨rfl, rfl⟩
      go_wp2_with fail
      refine (move_nob2 R3.out.tab (by decide) (NOB.out _ R3.out) _).mono ?_
      rintro e w5 ⟨rfl, rfl⟩
      go_wp2_with fail
      go_roundw
      case rel => exact ⟨i + 1, by go_num, by omega, R3⟩
      case measure => simp [intOf]; omega
    · have hi2d : decide ((i : Int) < 2) = false := decide_eq_false (by omega)
      have hi2n : decide (i < 2) = false := decide_eq_false (by omega)
      have HBW := Lib.hid hrel.out.b
      cases hx0 : (bad == 0) with
      | true =>
        clear hrel
        go_wp2_with fail
        refine (HAW.out wr).mono ?_
        rintro e w2 ⟨rfl, hb⟩
        have HB := Lib.hid (below_trans' HBW.out hb HBW.out.size)
        clear hb
        go_wp2_with fail
        go_ret
        exact ⟨rfl, HB.out⟩
      | false =>
        cases hx1 : (bad == 1) with
        | true =>
          clear hrel
          go_wp2_with fail
          refine (HAW.out wr).mono ?_
          rintro e w2 ⟨rfl, hb⟩
          have HB := Lib.hid (below_trans' HBW.out hb HBW.out.size)
          clear hb
          go_wp2_with fail
          go_ret
          exact ⟨rfl, HB.out⟩
        | false =>
          have hok : ([bad] : List Int).all (okR (newB 3 9).refs) = false := by simp [okR, inS, newB]; simpa using And.intro hx0 hx1
          have TB := Lib.hid hrel.out.tab
          have OK := Lib.hid hok
          clear hrel hok
          go_wp2_with fail
          refine (write_fail _ bad 22 rfl (List_bad TB.out bad OK.out)).mono ?_
          rintro e w2 ⟨rfl, hb⟩
          have TB2 := Lib.hid (TB.out.below hb)
          have HB := Lib.hid (below_trans' HBW.out hb HBW.out.size)
          clear hb
          go_wp2_with fail
          refine (size_fail _ bad 22 rfl (List_bad TB2.out bad OK.out)).mono ?_
          rintro e w3 ⟨rfl, hb⟩
          have HB2 := Lib.hid (below_trans' HB.out hb HB.out.size)
          clear hb
          go_wp2_with fail
          refine (HAW.out w3).mono ?_
          rintro e w4 ⟨rfl, hb⟩
          have HB3 := Lib.hid (below_trans' HB2.out hb HB2.out.size)
          clear hb
          go_wp2_with fail
          go_ret
          exact ⟨rfl, HB3.out⟩
theorem dumpnob_law (v : Value) (xs : List Int) (bad : Int) (w : World) (_ : Kd.V (Kd.int .u8) 5 w 0 (fun k => k < w.heap.size) v xs) (_ : (∀ x ∈ xs, (Lit.int .u8 x).wf = true) ∧ xs.length * 1 ≤ 140737488351232) (_ : (Lit.int .i64 bad).wf = true) :
    Calls Try.prog 7 #[v, .int .i64 bad] w fun e w' => e = .returned (.bool true) ∧ Below w.heap.size w w' := dumpnob_w v bad w
end
end Go.Proofs.Ytbglnddjhlefnaa
