/- The walk of walk: a function's nodes into a list. -/
import Derived.Test.YtbglnddjhlefnaaTg
import Derived.Test.YtbglnddjhlefnaaPf
namespace Go.Proofs.Ytbglnddjhlefnaa
open Go Go.RowKit Go.Proofs.YtbglnddjhlefnaaW.PrintWords Go.Proofs.YtbglnddjhlefnaaW.PrintLast Go.Proofs.YtbglnddjhlefnaaW.PrintMore
theorem Try.info83 : (Try.prog.info? 83).map (fun i => (i.zero, i.size, i.bytes)) = some (some (.agg #[.int .i64 0, .int .i64 0, .int .i64 0]), 3, 24) := by kernel_rfl
/-- Which numbers stand where, in memory. -/
def al (D : At) : List (Int × Value) := D.map (fun p => ((p.1 : Int), Value.int .i64 p.2))
theorem al_get (D : At) (k : Nat) : getG (al D) (k : Int) = (getG D k).map (fun r => Value.int .i64 r) := by
  induction D with
  | nil => rfl
  | cons p D ih =>
    show getG (((p.1 : Int), Value.int .i64 p.2) :: al D) (k : Int) = _
    rw [getG, getG]
    by_cases h : p.1 = k
    · rw [if_pos h, if_pos (by rw [h])]; rfl
    · rw [if_neg h, if_neg (fun e => h (by omega))]; exact ih
theorem al_put (D : At) (k : Nat) (r : Nat) : putG (al D) (k : Int) (.int .i64 r) = al (putG D k r) := by
  induction D with
  | nil => rfl
  | cons p D ih =>
    show putG (((p.1 : Int), Value.int .i64 p.2) :: al D) (k : Int) _ = _
    rw [putG, putG]
    by_cases h : p.1 = k
    · rw [if_pos h, if_pos (by rw [h])]; rfl
    · rw [if_neg h, if_neg (fun e => h (by omega)), ih]; rfl
/-- The list that grows, and the map beside it: lb the list's variable, mb the map. -/
structure LsAt (lb mb : Nat) (v : Value) (R : Nat → Prop) (L : List Nd) (D : At) (w : World) : Prop where
  rl : R lb
  rm : R mb
  lt : ∀ k, R k → k < w.heap.size
  box : w.heap[lb]? = some (.cells #[v] 54 (0, 0))
  map : MapG w mb encI (al D)
  row : w.ownsRow 0 83 3 v L.length (flatN L)
  rn : ∀ n, v.ownBlock = some n → R n
def Ls (lb mb : Nat) (R : Nat → Prop) (L : List Nd) (D : At) (w : World) : Prop := ∃ v, LsAt lb mb v R L D w
section
variable {g lb mb : Nat} {S R : Nat → Prop} {T : Bd} {w w' : World} {v : Value} {L : List Nd} {D : At}
theorem LsAt.step (h : LsAt lb mb v R L D w) (hs : w.heap.size ≤ w'.heap.size) (hb : ∀ k, R k → k < w.heap.size → w'.heap[k]? = w.heap[k]?) : LsAt lb mb v R L D w' := by
  have hb' : ∀ k, R k → w'.heap[k]? = w.heap[k]? := fun k hk => hb k hk (h.lt k hk)
  exact ⟨h.rl, h.rm, fun k hk => Nat.lt_of_lt_of_le (h.lt k hk) hs, (hb' lb h.rl).trans h.box, h.map.step (hb' mb h.rm), ownsRow_step h.row (fun k hk => hb' k (h.rn k hk)), h.rn⟩
theorem LsAt.below (h : LsAt lb mb v R L D w) (hb : Below w.heap.size w w') : LsAt lb mb v R L D w' := h.step hb.size (fun k _ hl => hb.block k hl)
theorem LsAt.drewN (h : LsAt lb mb v R L D w) (n : Nat) : LsAt lb mb v R L D (w.drewN n) := h.step (Nat.le_refl _) (fun _ _ _ => rfl)
theorem Ls.below (h : Ls lb mb R L D w) (hb : Below w.heap.size w w') : Ls lb mb R L D w' := by
  obtain ⟨v, h⟩ := h
  exact ⟨v, h.below hb⟩
theorem LsAt.ne (h : LsAt lb mb v R L D w) : lb ≠ mb ∧ ∀ n, v.ownBlock = some n → n ≠ lb ∧ n ≠ mb := by
  refine ⟨fun e => h.map.no_cells _ _ _ (e ▸ h.box), fun n hn => ?_⟩
  obtain ⟨cur, hc⟩ : ∃ cur, w.heap[n]? = some (.cells cur 83 (0, 0)) := by
    rcases h.row.2 with ⟨rfl, _⟩ | ⟨q, cap, cur, rfl, _, hc, _⟩
    · cases hn
    · simp [Value.ownBlock] at hn
      exact ⟨cur, hn ▸ hc⟩
  refine ⟨fun e => ?_, fun e => h.map.no_cells _ _ _ (e ▸ hc)⟩
  have hb := h.box
  rw [← e, hc] at hb
  injection hb with hb
  injection hb with _ hb
  cases hb
/-- One more node in the list. -/
theorem LsAt.push (h : LsAt lb mb v R L D w) (n : Nd) (hl : L.length ≤ 4000000000) :
    ∃ nb cap w3, (Builtin.append_ #[54, 54] 54 #[v, .slice (some ⟨w.heap.size, 0, none⟩) 1 1]).run Try.prog (w.alloc (.cells #[.int .i64 n.1, .int .i64 n.2.1, .int .i64 n.2.2] 83)) = .ok (.slice (some ⟨nb, 0, none⟩) (L.length + 1) cap) w3 ∧
      Chg R w w3 ∧ w3.heap[lb]? = some (.cells #[v] 54 (0, 0)) ∧
      LsAt lb mb (.slice (some ⟨nb, 0, none⟩) (L.length + 1) cap) (fun k => R k ∨ k = nb) (L ++ [n]) D (w3.setCell ⟨lb, 0, none⟩ (.slice (some ⟨nb, 0, none⟩) (L.length + 1) cap)) ∧
      Gr R (fun k => R k ∨ k = nb) w (w3.setCell ⟨lb, 0, none⟩ (.slice (some ⟨nb, 0, none⟩) (L.length + 1) cap)) := by
  obtain ⟨i0, hinf, hzz⟩ := Option.map_eq_some_iff.1 Try.info83
  simp only [Prod.mk.injEq] at hzz
  have h1 := h.below (below_alloc (Below.refl _ _) (.cells #[.int .i64 n.1, .int .i64 n.2.1, .int .i64 n.2.2] 83))
  have hbx := heap_alloc_new w (.cells #[.int .i64 n.1, .int .i64 n.2.1, .int .i64 n.2.2] 83)
  have hnews : ∀ (j : Nat) (u : Value), [Value.int .i64 n.1, .int .i64 n.2.1, .int .i64 n.2.2][j]? = some u → (w.alloc (.cells #[.int .i64 n.1, .int .i64 n.2.1, .int .i64 n.2.2] 83)).cell? ((⟨w.heap.size, 0, none⟩ : Addr).add j) = some u := by
    intro j u hj
    rw [add_at, cell_of_row _ w.heap.size _ _ 83 (0, 0) hbx, Nat.zero_add]
    match j, hj with
    | 0, hj => exact hj
    | 1, hj => exact hj
    | 2, hj => exact hj
  obtain ⟨v', w3, hrun, hown, hgr, hnil, hwho⟩ := run_append_own_at (P := Try.prog) (w.alloc (.cells #[.int .i64 n.1, .int .i64 n.2.1, .int .i64 n.2.2] 83)) 0 54 54 83 i0 _ 3 24 Try.underlying54 hinf hzz.1 hzz.2.1 hzz.2.2 rfl (by omega) v L.length (flatN L) h1.row
    ⟨w.heap.size, 0, none⟩ 1 1 [.int .i64 n.1, .int .i64 n.2.1, .int .i64 n.2.2] rfl hnews (by simp [Value.oneCell']) (by simp only [maxLen]; omega) (by omega) (Nat.zero_le _)
  have hsz : (w.alloc (.cells #[.int .i64 n.1, .int .i64 n.2.1, .int .i64 n.2.2] 83)).heap.size = w.heap.size + 1 := World.size_alloc _ _
  rcases hown.2 with ⟨_, h0⟩ | ⟨nb, cap, cur, rfl, _, hh, hnc, hcm, hcs, htk⟩
  · omega
  have hown' : ∀ k, k < w.heap.size → v.ownBlock ≠ some k → w3.heap[k]? = w.heap[k]? := fun k hk hn => (hgr.block k (by omega) (fun e => hn e.symm)).trans (heap_alloc_old w _ hk)
  have hln : v.ownBlock ≠ some lb := fun e => (h.ne.2 lb e).1 rfl
  have hmn : v.ownBlock ≠ some mb := fun e => (h.ne.2 mb e).2 rfl
  have hb3 : w3.heap[lb]? = some (.cells #[v] 54 (0, 0)) := (hown' lb (h.lt lb h.rl) hln).trans h.box
  have hm3 : MapG w3 mb encI (al D) := h.map.step (hown' mb (h.lt mb h.rm) hmn)
  have hnl : nb ≠ lb := by
    intro e
    rw [e, hb3] at hh
    injection hh with hh
    injection hh with _ hh
    cases hh
  have hnm : nb ≠ mb := fun e => hm3.no_cells _ _ _ (e ▸ hh)
  have hs3 : w.heap.size ≤ w3.heap.size := by have := hgr.size; omega
  have hchg : Chg R w w3 := ⟨hgr.os, hgr.tape, hgr.output, hs3, fun k hk hn => hown' k hk (fun e => hn (h.rn k e))⟩
  have hnew : R nb ∨ w.heap.size ≤ nb := by
    rcases hwho with he | he
    · exact .inl (h.rn nb he.symm)
    · simp only [Value.ownBlock, Option.some.injEq] at he
      exact .inr (by rw [he, hsz]; omega)
  have hnlt : nb < w3.heap.size := (Array.getElem?_eq_some_iff.1 hh).1
  have hsize : (w3.setCell ⟨lb, 0, none⟩ (.slice (some ⟨nb, 0, none⟩) (L.length + 1) cap)).heap.size = w3.heap.size := by simp [World.setCell]
  have far : ∀ k, k ≠ lb → (w3.setCell ⟨lb, 0, none⟩ (.slice (some ⟨nb, 0, none⟩) (L.length + 1) cap)).heap[k]? = w3.heap[k]? := fun k hk => Below.heap_setCell _ _ _ _ hk
  have hlenN : (L ++ [n]).length = L.length + 1 := by simp
  refine ⟨nb, cap, w3, hrun, hchg, hb3, ⟨.inl h.rl, .inl h.rm, ?_, ?_, hm3.step (far mb (fun e => h.ne.1 e.symm)), ?_, ?_⟩, fun k hk => .inl hk, ?_, hchg.set _ _ (.inl h.rl)⟩
  · rintro k (hk | rfl)
    · rw [hsize]; exact Nat.lt_of_lt_of_le (h.lt k hk) hs3
    · rw [hsize]; exact hnlt
  · rw [blk_set hb3 0]
    rfl
  · refine ownsRow_step (w := w3) ?_ (fun k hk => ?_)
    · rw [hlenN, flatN_snoc]
      exact hown
    · simp only [Value.ownBlock, Option.some.injEq] at hk
      subst hk
      exact far nb hnl
  · intro k hk
    simp only [Value.ownBlock, Option.some.injEq] at hk
    exact .inr hk.symm
  · rintro k (hk | rfl)
    · exact .inl hk
    · exact hnew
/-- What a call of walk did. -/
def WkP (lb mb : Nat) (R : Nat → Prop) (r : Nat × List Nd × At) (w : World) (e : Ending) (w' : World) : Prop :=
  e = .returned (.int .i64 r.1) ∧ ∃ R', Ls lb mb R' r.2.1 r.2.2 w' ∧ Gr R R' w w'
set_option maxRecDepth 100000 in
theorem walk_end (a : Nat) (ha : a < 2) : Calls Try.prog 62 #[.pointer (some ⟨g, 0, none⟩), .int .i64 a, .pointer (some ⟨lb, 0, none⟩), .map (some mb)] w fun e w' => e = .returned (.int .i64 a) ∧ w = w' := by
  have t1 : decide ((a : Int) < 2) = true := decide_eq_true (by omega)
  clear ha
  go_enter Try.func62, Try.ntmps62
  go_wp2_with fail
  go_ret
  exact ⟨rfl, rfl⟩
set_option maxRecDepth 100000 in
theorem walk_hit (a i : Nat) (ha : 2 ≤ a) (hm : MapG w mb encI (al D)) (hg : getG D a = some i) : Calls Try.prog 62 #[.pointer (some ⟨g, 0, none⟩), .int .i64 a, .pointer (some ⟨lb, 0, none⟩), .map (some mb)] w fun e w' => e = .returned (.int .i64 i) ∧ w = w' := by
  have t1 : decide ((a : Int) < 2) = false := decide_eq_false (by omega)
  have hk := hm.look K3 Try.underlying128 (k := (a : Int)) (zero3 w) true
  rw [al_get, hg] at hk
  have hk : (Instr.lookup 128 (.map (some mb)) (.int .i64 (a : Int)) true).run Try.prog w = .ok (.tuple #[.int .i64 i, .bool true]) w := hk
  clear ha hm hg
  go_enter Try.func62, Try.ntmps62
  go_wp2_with fail
  go_ret
  exact ⟨rfl, rfl⟩
end
end Go.Proofs.Ytbglnddjhlefnaa
