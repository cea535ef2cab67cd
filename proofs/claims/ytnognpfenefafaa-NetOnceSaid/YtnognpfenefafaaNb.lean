/- Small words of the net's walks: the two nets' states, the place of a number, the tail of a row cleared. -/
import Derived.Test.YtnognpfenefafaaGen
import Derived.Test.YtnognpfenefafaaPNetRunsx0
namespace Go.Proofs.YtnognpfenefafaaW.PrintWords
open Go.RowKit
namespace Kd
theorem R_tail {α : Type} (d : Kd α) {e base g n c o : Nat} {W : World} {xs : List α} {ok : Nat → Prop} (HO : d.R e W base ok (.slice (some ⟨g, 0, none⟩) n c) xs) (news : List Value) (h1 : n * d.sz ≤ o) (h2 : o + news.length ≤ c * d.sz) :
    d.R e (W.setCells g o news) base ok (.slice (some ⟨g, 0, none⟩) n c) xs ∧ W.grownBy (W.setCells g o news) (some g) := by
  obtain ⟨hn, hnc, _⟩ := R_reads' HO
  obtain ⟨hok, inner, hown, hr⟩ := HO
  rcases hown.2 with ⟨hv, _⟩ | ⟨g', cap', cur, hv, hb, hh, h4, hcm, hcs, htake⟩
  · cases hv
  injection hv with ha _ hc
  injection ha with ha
  injection ha with hg
  subst hg; subst hc
  obtain ⟨cur', h3, h4', h5⟩ := setCells_row news o W cur hh (by omega)
  obtain ⟨s1, s2, s3, s4⟩ := setCells_same g news o W
  have hfar : ∀ k', k' ≠ g → (W.setCells g o news).heap[k']? = W.heap[k']? := fun k' hk' => setCells_far news _ k' hk'
  have hgo : some g = (Value.slice (some ⟨g, 0, none⟩) n c).ownBlock := by simp [Value.ownBlock]
  refine ⟨⟨hok, inner, ⟨hown.1, .inr ⟨g, c, cur', by rw [hn], hb, h3, h4, hcm, by rw [h4', hcs], ?_⟩⟩, hr.imp_ (fun p q hp => d.M_move (fun k' hk' => hfar k' (fun he => hk'.2 (by rw [← hgo, he]))) hp)⟩, ⟨s1, s2, s3, by rw [s4]; exact Nat.le_refl _, fun k' _ hk' => hfar k' (fun he => hk' (by rw [he]))⟩⟩
  rw [← htake, h5, ← hn, List.append_assoc, List.take_append_of_le_length (by rw [List.length_take, Array.length_toList]; omega), List.take_take, Nat.min_eq_left h1]
theorem S_tail {α : Type} (d : Kd α) {e base g n c o : Nat} {W : World} {xs : List α} {ok : Nat → Prop} (HO : Kd.S d e W base ok (.slice (some ⟨g, 0, none⟩) n c) xs) (news : List Value) (h1 : n * d.sz ≤ o) (h2 : o + news.length ≤ c * d.sz) :
    Kd.S d e (W.setCells g o news) base ok (.slice (some ⟨g, 0, none⟩) n c) xs ∧ W.grownBy (W.setCells g o news) (some g) := by
  obtain ⟨f, h⟩ := HO
  obtain ⟨a, b⟩ := R_tail (tag f d) h news h1 h2
  exact ⟨⟨f, a⟩, b⟩
end Kd
end Go.Proofs.YtnognpfenefafaaW.PrintWords
namespace Go.Proofs.Ytnognpfenefafaa
open Go.RowKit Go.Proofs.YtnognpfenefafaaW.PrintWords Go.Proofs.YtnognpfenefafaaW.PrintLast Go.Proofs.YtnognpfenefafaaW.PrintMore
open Go.Proofs.Ytnognpfenefafaa.PNetRuns (S39 S73 k39 k73 z39 z73)
theorem Try.info5 : (Try.prog.info? 5).map (fun i => (i.zero, i.size, i.bytes)) = some (some (.int .u8 0), 1, 1) := by kernel_rfl
theorem Try.info69 : (Try.prog.info? 69).map (fun i => (i.zero, i.size, i.bytes)) = some (some (.agg #[.int .i64 0, .int .i64 0, .int .i64 0, .int .i64 0, .bool false, .slice none 0 0]), 6, 64) := by kernel_rfl
theorem Try.info73 : (Try.prog.info? 73).map (fun i => (i.zero, i.size, i.bytes)) = some (some (.agg #[.int .i64 0, .int .i64 0, .int .i64 0, .int .i64 0, .bool false, .slice none 0 0]), 6, 64) := by kernel_rfl
theorem Try.info39 : (Try.prog.info? 39).map (fun i => (i.zero, i.size, i.bytes)) = some (some (.agg #[.int .i64 0, .int .i64 0, .int .i64 0, .int .i64 0, .bool false]), 5, 40) := by kernel_rfl
/-- The program's net. -/
def No (S : Nat → Prop) (g : Nat) (dev last : Int) (ps : List S73) (W : World) : Prop :=
  S g ∧ (∀ k, S k → k < W.heap.size) ∧ ∃ v, W.heap[g]? = some (.cells #[.int .i64 dev, .int .i64 last, v] 54 (0, 0)) ∧ Kd.S k73 69 W 0 (fun k => S k ∧ k ≠ g) v ps
/-- The document's net. -/
def Rn (S : Nat → Prop) (g : Nat) (dev last : Int) (ps : List S73) (W : World) : Prop :=
  S g ∧ (∀ k, S k → k < W.heap.size) ∧ ∃ v, W.heap[g]? = some (.cells #[.int .i64 dev, .int .i64 last, v] 34 (0, 0)) ∧ Kd.S k73 73 W 0 (fun k => S k ∧ k ≠ g) v ps
theorem No.step {S : Nat → Prop} {g : Nat} {dev last : Int} {ps : List S73} {w w' : World} (h : No S g dev last ps w) (hs : w.heap.size ≤ w'.heap.size) (hm : ∀ k, S k → k < w.heap.size → w'.heap[k]? = w.heap[k]?) : No S g dev last ps w' := by
  obtain ⟨h1, h2, v, h3, h4⟩ := h
  exact ⟨h1, fun k hk => Nat.lt_of_lt_of_le (h2 k hk) hs, v, (hm g h1 (h2 g h1)).trans h3, Kd.S_step h4 (fun k hk hl => hm k hk.1 hl)⟩
theorem Rn.step {S : Nat → Prop} {g : Nat} {dev last : Int} {ps : List S73} {w w' : World} (h : Rn S g dev last ps w) (hs : w.heap.size ≤ w'.heap.size) (hm : ∀ k, S k → k < w.heap.size → w'.heap[k]? = w.heap[k]?) : Rn S g dev last ps w' := by
  obtain ⟨h1, h2, v, h3, h4⟩ := h
  exact ⟨h1, fun k hk => Nat.lt_of_lt_of_le (h2 k hk) hs, v, (hm g h1 (h2 g h1)).trans h3, Kd.S_step h4 (fun k hk hl => hm k hk.1 hl)⟩
/-- The first place of a number. -/
def fnd (ps : List S73) (id : Int) : Nat := ps.findIdx (fun p => p.f0.f0 == id)
theorem fnd_at {ps : List S73} {id : Int} {i : Nat} (hi : i < ps.length) (h : i ≤ fnd ps id) (he : (ps.getD i z73).f0.f0 = id) : fnd ps id = i := by
  rw [List.getD_eq_getElem?_getD, List.getElem?_eq_getElem hi, Option.getD_some] at he
  rcases Nat.lt_or_eq_of_le h with h | h
  · have := List.not_of_lt_findIdx h
    simp [he] at this
  · exact h.symm
theorem fnd_next {ps : List S73} {id : Int} {i : Nat} (hi : i < ps.length) (h : i ≤ fnd ps id) (he : (ps.getD i z73).f0.f0 ≠ id) : i + 1 ≤ fnd ps id := by
  rw [List.getD_eq_getElem?_getD, List.getElem?_eq_getElem hi, Option.getD_some] at he
  rcases Nat.lt_or_eq_of_le h with h | h
  · exact h
  · exfalso
    have : fnd ps id < ps.length := by omega
    have h2 := List.findIdx_getElem (w := this)
    simp only [beq_iff_eq] at h2
    apply he
    have h3 : ps[fnd ps id]? = some ps[i] := by rw [← h, List.getElem?_eq_getElem hi]
    have h4 := List.getElem?_eq_getElem this
    rw [h4] at h3
    injection h3 with h3
    rw [← h3]
    exact h2
theorem fnd_le (ps : List S73) (id : Int) : fnd ps id ≤ ps.length := List.findIdx_le_length
theorem fnd_id {ps : List S73} {id : Int} (h : fnd ps id < ps.length) : (ps.getD (fnd ps id) z73).f0.f0 = id := by
  rw [List.getD_eq_getElem?_getD, List.getElem?_eq_getElem h, Option.getD_some]
  have h2 := List.findIdx_getElem (w := h)
  exact beq_iff_eq.1 h2
end Go.Proofs.Ytnognpfenefafaa
