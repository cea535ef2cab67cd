/- The document's session in memory, in plain Lean. -/
import Derived.Test.YtlnhjkbhhdcdeaaMh
namespace Go.Proofs.Ytlnhjkbhhdcdeaa
open Go Go.RowKit Go.Proofs.YtlnhjkbhhdcdeaaW.PrintWords Go.Proofs.YtlnhjkbhhdcdeaaW.PrintLast Go.Proofs.YtlnhjkbhhdcdeaaW.PrintMore
open Go.Proofs.Ytlnhjkbhhdcdeaa.PSessionRuns (S27 k27 z27 S116 k116 z116)
set_option linter.unusedVariables false
abbrev kB : Kd (List Int) := Kd.slice 5 KB
abbrev kE : Kd (Int × List Int) := Kd.pair (Kd.int .u64) (Kd.slice 5 (Kd.int .u8))
theorem Try.info116 : (Try.prog.info? 116).map (fun i => (i.zero, i.size, i.bytes)) = some (some (.agg #[.int .u64 0, .slice none 0 0]), 2, 32) := by kernel_rfl
/-- The cells of the document's session. -/
def rcs (σ : Se) (vL vE vO vG : Value) : Array Value := #[.int .u32 σ.boot, .int .i64 σ.win, .int .i64 σ.tmr, .int .i64 σ.now, .int .u32 σ.peer, .bool σ.up, vL, .int .u64 (σ.base - 1), .int .i64 σ.sent, .int .u64 σ.inn, vE, .bool σ.set, .int .i64 σ.tm, vO, vG]
/-- The document's session: lab 1 is only read, 4 its block, 5 to 8 its rows. -/
structure RS (p : Nat) (lab : Nat → Nat) (σ : Se) (out : List S27) (got : List (List Int)) (vL vE vO vG : Value) (w : World) : Prop where
  lim : ∀ k, lab k ≠ 0 → k < w.heap.size
  at_ : lab p = 4
  blk : w.heap[p]? = some (.cells (rcs σ vL vE vO vG) 61 (0, 0))
  L : Row kB 25 w lab 5 vL σ.L
  E : Row kE 116 w lab 6 vE σ.E
  O : Row k27 27 w lab 7 vO out
  G : Row kB 25 w lab 8 vG got
section
variable {α : Type} {d : Kd α} {e : Nat} {w w1 w' : World} {lab lab' : Nat → Nat} {a c : Nat} {v v1 : Value} {xs ys : List α}
/-- A new row in the place of an elder one. -/
theorem Row.instead (lim : ∀ k, lab k ≠ 0 → k < w.heap.size) (h : Row d e w lab c v xs) (hc : 2 ≤ c) (hN : Kd.N d e w1 w.heap.size (fun k => lab k = 1 ∨ some k = v.ownBlock ∨ w.heap.size ≤ k) v1 ys) (hb : Below w.heap.size w w1) :
    ∃ lab', Lb c lab lab' w w1 ∧ Row d e w1 lab' c v1 ys ∧ ∀ k, lab k = 1 ∨ some k = v.ownBlock → lab' k = 1 := by
  classical
  have hlt := Kd.N_lt hN
  have hbs := Kd.N_base hN
  have ho := h.2
  have hol := Kd.N_lt h.1
  obtain ⟨lab', hl⟩ : ∃ lab' : Nat → Nat, lab' = fun k => if k < w.heap.size then (if some k = v.ownBlock then 1 else lab k) else if some k = v1.ownBlock then c else if k < w1.heap.size then 1 else 0 := ⟨_, rfl⟩
  have hdrop : ∀ k, some k = v.ownBlock → lab' k = 1 := fun k hk => by rw [hl]; simp only [if_pos (hol k hk.symm), if_pos hk]
  have hold : ∀ k, k < w.heap.size → some k ≠ v.ownBlock → lab' k = lab k := fun k hk hn => by rw [hl]; simp only [if_pos hk, if_neg hn]
  have hown : ∀ k, v1.ownBlock = some k → lab' k = c := fun k hk => by
    have := hbs k hk
    rw [hl]
    simp only [if_neg (by omega : ¬ k < w.heap.size), if_pos hk.symm]
  have hnew : ∀ k, w.heap.size ≤ k → k < w1.heap.size → some k ≠ v1.ownBlock → lab' k = 1 := fun k h1 h2 h3 => by rw [hl]; simp only [if_neg (by omega : ¬ k < w.heap.size), if_neg h3, if_pos h2]
  have hno : ∀ k, w1.heap.size ≤ k → lab' k = 0 := fun k h1 => by
    have := hb.size
    rw [hl]
    simp only [if_neg (by omega : ¬ k < w.heap.size), if_neg (fun he => by have := hlt k he.symm; omega : ¬ some k = v1.ownBlock), if_neg (by omega : ¬ k < w1.heap.size)]
  refine ⟨lab', ⟨fun k hk => ?_, fun k hk => ?_, fun k hk => ?_, hb.size, hb.os, hb.tape, hb.output, fun k hk _ => hb.block k hk⟩, ⟨Kd.N_mono (Kd.N_bound (Kd.N_lower hN (Nat.zero_le _))) (fun k hk => ?_), hown⟩, fun k hk => ?_⟩
  · by_cases h3 : some k = v.ownBlock
    · exact .inr ⟨ho k h3.symm, hdrop k h3⟩
    · exact .inl (hold k hk h3)
  · rcases Nat.lt_or_ge k w1.heap.size with q | q
    · by_cases h3 : some k = v1.ownBlock
      · exact .inl (hown k h3.symm)
      · exact .inr (.inl (hnew k hk q h3))
    · exact .inr (.inr (hno k q))
  · rcases Nat.lt_or_ge k w1.heap.size with q | q
    · exact q
    · exact absurd (hno k q) hk
  · by_cases h3 : some k = v1.ownBlock
    · exact .inr h3
    · refine .inl ?_
      by_cases h4 : some k = v.ownBlock
      · exact hdrop k h4
      · rcases Nat.lt_or_ge k w.heap.size with q | q
        · rw [hold k q h4]
          exact hk.1.elim id (fun h => h.elim (fun h => absurd h h4) (fun h => by omega))
        · exact hnew k q hk.2 h3
  · rcases hk with h1 | h1
    · by_cases h4 : some k = v.ownBlock
      · exact hdrop k h4
      · rw [hold k (lim k (by omega)) h4]
        exact h1
    · exact hdrop k h1
end
section
variable {p : Nat} {lab lab' : Nat → Nat} {σ σ' : Se} {out : List S27} {got : List (List Int)} {vL vE vO vG v1 : Value} {w w' w1 : World} {c : Nat}
theorem RS.below (A : RS p lab σ out got vL vE vO vG w) (hb : Below w.heap.size w w') : RS p lab σ out got vL vE vO vG w' := by
  have hp := A.lim p (by rw [A.at_]; omega)
  exact ⟨fun k hk => Nat.lt_of_lt_of_le (A.lim k hk) hb.size, A.at_, (hb.block p hp).trans A.blk, ⟨Kd.N_below A.L.1 hb, A.L.2⟩, ⟨Kd.N_below A.E.1 hb, A.E.2⟩, ⟨Kd.N_below A.O.1 hb, A.O.2⟩, ⟨Kd.N_below A.G.1 hb, A.G.2⟩⟩
theorem RS.drewN (A : RS p lab σ out got vL vE vO vG w) (n : Nat) : RS p lab σ out got vL vE vO vG (w.drewN n) := A.below (pw_below_drewN (Below.refl _ _) n)
theorem RS.blk_lb (A : RS p lab σ out got vL vE vO vG w) (L : Lb c lab lab' w w') (hc : c ≠ 4) : lab' p = 4 ∧ w'.heap[p]? = some (.cells (rcs σ vL vE vO vG) 61 (0, 0)) := by
  have hp := A.lim p (by rw [A.at_]; omega)
  refine ⟨?_, (L.same p hp (by rw [A.at_]; exact Ne.symm hc)).trans A.blk⟩
  rcases L.old p hp with q | q
  · exact q.trans A.at_
  · have := A.at_
    omega
/-- Something made that is only read from now on. -/
theorem RS.made (A : RS p lab σ out got vL vE vO vG w) (hb : Below w.heap.size w w') : ∃ lab', Lb 100 lab lab' w w' ∧ RS p lab' σ out got vL vE vO vG w' ∧ (∀ k, k < w.heap.size → lab' k = lab k) ∧ ∀ k, w.heap.size ≤ k → k < w'.heap.size → lab' k = 1 := by
  obtain ⟨lab', hl⟩ : ∃ lab' : Nat → Nat, lab' = fun k => if k < w.heap.size then lab k else if k < w'.heap.size then 1 else 0 := ⟨_, rfl⟩
  have hold : ∀ k, k < w.heap.size → lab' k = lab k := fun k hk => by rw [hl]; simp only [if_pos hk]
  have hnew : ∀ k, w.heap.size ≤ k → k < w'.heap.size → lab' k = 1 := fun k h1 h2 => by rw [hl]; simp only [if_neg (by omega : ¬ k < w.heap.size), if_pos h2]
  have hno : ∀ k, w'.heap.size ≤ k → lab' k = 0 := fun k h1 => by
    have := hb.size
    rw [hl]
    simp only [if_neg (by omega : ¬ k < w.heap.size), if_neg (by omega : ¬ k < w'.heap.size)]
  have L : Lb 100 lab lab' w w' := ⟨fun k hk => .inl (hold k hk), fun k hk => by
      rcases Nat.lt_or_ge k w'.heap.size with q | q
      · exact .inr (.inl (hnew k hk q))
      · exact .inr (.inr (hno k q)), fun k hk => by
      rcases Nat.lt_or_ge k w'.heap.size with q | q
      · exact q
      · exact absurd (hno k q) hk, hb.size, hb.os, hb.tape, hb.output, fun k hk _ => hb.block k hk⟩
  obtain ⟨e1, e2⟩ := A.blk_lb L (by omega)
  exact ⟨lab', L, ⟨L.lim, e1, e2, A.L.lb L (by omega) (by omega), A.E.lb L (by omega) (by omega), A.O.lb L (by omega) (by omega), A.G.lb L (by omega) (by omega)⟩, hold, hnew⟩
/-- The session's own cells are written, anyhow. -/
theorem RS.turnp (A : RS p lab σ out got vL vE vO vG w) (hz : w'.heap.size = w.heap.size) (ho : w'.os = w.os) (ht : w'.tape = w.tape) (hu : w'.output = w.output) (hsame : ∀ k, k ≠ p → w'.heap[k]? = w.heap[k]?)
    (hblk : w'.heap[p]? = some (.cells (rcs σ' vL vE vO vG) 61 (0, 0))) (h1 : σ'.L = σ.L) (h2 : σ'.E = σ.E) : RS p lab σ' out got vL vE vO vG w' ∧ Ls lab lab w w' := by
  have L : Lb 4 lab lab w w' := ⟨fun _ _ => .inl rfl, fun k hk => by
      by_cases h1 : lab k = 0
      · exact .inr (.inr h1)
      · have := A.lim k h1
        omega, fun k hk => by rw [hz]; exact A.lim k hk, by rw [hz]; exact Nat.le_refl _, ho, ht, hu, fun k _ hk => hsame k (fun he => hk (by rw [he]; exact A.at_))⟩
  exact ⟨⟨L.lim, A.at_, hblk, by rw [h1]; exact A.L.lb L (by omega) (by omega), by rw [h2]; exact A.E.lb L (by omega) (by omega), A.O.lb L (by omega) (by omega), A.G.lb L (by omega) (by omega)⟩, L.ls (by omega)⟩
/-- One cell is written. -/
theorem RS.cell (A : RS p lab σ out got vL vE vO vG w) (j : Nat) (u : Value) (hc : (rcs σ vL vE vO vG).setIfInBounds j u = rcs σ' vL vE vO vG) (h1 : σ'.L = σ.L) (h2 : σ'.E = σ.E) : RS p lab σ' out got vL vE vO vG (w.setCell ⟨p, j, none⟩ u) ∧ Ls lab lab w (w.setCell ⟨p, j, none⟩ u) :=
  A.turnp (by simp [World.setCell]) rfl rfl rfl (fun k hk => Below.heap_setCell _ _ _ _ hk) (by rw [blk_set A.blk j, hc]) h1 h2
/-- The row of 5 has turned, and is stored. -/
theorem RS.setL (A : RS p lab σ out got vL vE vO vG w) {ys : List (List Int)} (L : Lb 5 lab lab' w w1) (R : Row kB 25 w1 lab' 5 v1 ys) :
    Ls lab lab' w (w1.setCell ⟨p, 6, none⟩ v1) ∧ w1.heap[p]? = some (.cells (rcs σ vL vE vO vG) 61 (0, 0)) ∧ RS p lab' { σ with L := ys } out got v1 vE vO vG (w1.setCell ⟨p, 6, none⟩ v1) := by
  obtain ⟨e1, e2⟩ := A.blk_lb L (by omega)
  have L2 := Lb.put lab' w1 ⟨p, 6, none⟩ v1 L.lim e1
  refine ⟨(L.ls (by omega)).trans (L2.ls (by omega)), e2, L2.lim, e1, ?_, R.lb L2 (by omega) (by omega), (A.E.lb L (by omega) (by omega)).lb L2 (by omega) (by omega), (A.O.lb L (by omega) (by omega)).lb L2 (by omega) (by omega), (A.G.lb L (by omega) (by omega)).lb L2 (by omega) (by omega)⟩
  rw [blk_set e2]
  rfl
/-- The row of 6 has turned, and is stored. -/
theorem RS.setE (A : RS p lab σ out got vL vE vO vG w) {ys : List (Int × List Int)} (L : Lb 6 lab lab' w w1) (R : Row kE 116 w1 lab' 6 v1 ys) :
    Ls lab lab' w (w1.setCell ⟨p, 10, none⟩ v1) ∧ w1.heap[p]? = some (.cells (rcs σ vL vE vO vG) 61 (0, 0)) ∧ RS p lab' { σ with E := ys } out got vL v1 vO vG (w1.setCell ⟨p, 10, none⟩ v1) := by
  obtain ⟨e1, e2⟩ := A.blk_lb L (by omega)
  have L2 := Lb.put lab' w1 ⟨p, 10, none⟩ v1 L.lim e1
  refine ⟨(L.ls (by omega)).trans (L2.ls (by omega)), e2, L2.lim, e1, ?_, (A.L.lb L (by omega) (by omega)).lb L2 (by omega) (by omega), R.lb L2 (by omega) (by omega), (A.O.lb L (by omega) (by omega)).lb L2 (by omega) (by omega), (A.G.lb L (by omega) (by omega)).lb L2 (by omega) (by omega)⟩
  rw [blk_set e2]
  rfl
/-- The row of 7 has turned, and is stored. -/
theorem RS.setO (A : RS p lab σ out got vL vE vO vG w) {ys : List S27} (L : Lb 7 lab lab' w w1) (R : Row k27 27 w1 lab' 7 v1 ys) :
    Ls lab lab' w (w1.setCell ⟨p, 13, none⟩ v1) ∧ w1.heap[p]? = some (.cells (rcs σ vL vE vO vG) 61 (0, 0)) ∧ RS p lab' σ ys got vL vE v1 vG (w1.setCell ⟨p, 13, none⟩ v1) := by
  obtain ⟨e1, e2⟩ := A.blk_lb L (by omega)
  have L2 := Lb.put lab' w1 ⟨p, 13, none⟩ v1 L.lim e1
  refine ⟨(L.ls (by omega)).trans (L2.ls (by omega)), e2, L2.lim, e1, ?_, (A.L.lb L (by omega) (by omega)).lb L2 (by omega) (by omega), (A.E.lb L (by omega) (by omega)).lb L2 (by omega) (by omega), R.lb L2 (by omega) (by omega), (A.G.lb L (by omega) (by omega)).lb L2 (by omega) (by omega)⟩
  rw [blk_set e2]
  rfl
/-- The row of 8 has turned, and is stored. -/
theorem RS.setG (A : RS p lab σ out got vL vE vO vG w) {ys : List (List Int)} (L : Lb 8 lab lab' w w1) (R : Row kB 25 w1 lab' 8 v1 ys) :
    Ls lab lab' w (w1.setCell ⟨p, 14, none⟩ v1) ∧ w1.heap[p]? = some (.cells (rcs σ vL vE vO vG) 61 (0, 0)) ∧ RS p lab' σ out ys vL vE vO v1 (w1.setCell ⟨p, 14, none⟩ v1) := by
  obtain ⟨e1, e2⟩ := A.blk_lb L (by omega)
  have L2 := Lb.put lab' w1 ⟨p, 14, none⟩ v1 L.lim e1
  refine ⟨(L.ls (by omega)).trans (L2.ls (by omega)), e2, L2.lim, e1, ?_, (A.L.lb L (by omega) (by omega)).lb L2 (by omega) (by omega), (A.E.lb L (by omega) (by omega)).lb L2 (by omega) (by omega), (A.O.lb L (by omega) (by omega)).lb L2 (by omega) (by omega), R.lb L2 (by omega) (by omega)⟩
  rw [blk_set e2]
  rfl
end
/-- What comes of a call of the document's session. -/
def RP (p : Nat) (lab : Nat → Nat) (w : World) (σ' : Se) (out' : List S27) (got' : List (List Int)) (w' : World) : Prop :=
  ∃ lab' vL vE vO vG, RS p lab' σ' out' got' vL vE vO vG w' ∧ Ls lab lab' w w'
end Go.Proofs.Ytlnhjkbhhdcdeaa
