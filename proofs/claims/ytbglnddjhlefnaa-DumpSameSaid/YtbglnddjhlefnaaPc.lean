/- Which nodes a function needs that are not used yet. No program. -/
import Derived.Test.YtbglnddjhlefnaaPb
namespace Go.Proofs.Ytbglnddjhlefnaa
def chooseF (bits : Nat) (N : List Nd) (a b c : Nat) : Nat × List Nd × Dn := iteF true bits (bits + 1) a b c N []
def needF (N : List Nd) (used : List Nat) : Nat → Nat → List Nat → List Nat
  | 0, _, l => l
  | f + 1, a, l => if a < 2 ∨ a ∈ used ∨ a ∈ l then l else needF N used f (ndAt N a).hi (needF N used f (ndAt N a).lo (a :: l))
/-- What is needed is one row, each once, of nodes that are there. -/
structure Need (N : List Nd) (used l : List Nat) : Prop where
  nodup : l.Nodup
  apart : ∀ a ∈ l, a ∉ used
  range : ∀ a ∈ l, 2 ≤ a ∧ Val N a
theorem needF_ok {bits : Nat} {N : List Nd} {used : List Nat} (w : WF bits N) : ∀ (f a : Nat) (l : List Nat), Val N a → Need N used l → Need N used (needF N used f a l) := by
  intro f
  induction f with
  | zero => intro a l _ h; exact h
  | succ f ih =>
    intro a l hv h
    rw [needF]
    split
    · exact h
    · rename_i hn
      simp only [not_or] at hn
      obtain ⟨h2, h3, h4⟩ := hn
      refine ih _ _ (hv.hi w (by omega)) (ih _ _ (hv.lo w (by omega)) ⟨?_, ?_, ?_⟩)
      · exact List.nodup_cons.2 ⟨h4, h.nodup⟩
      · intro b hb
        rcases List.mem_cons.1 hb with rfl | hb
        · exact h3
        · exact h.apart b hb
      · intro b hb
        rcases List.mem_cons.1 hb with rfl | hb
        · exact ⟨by omega, hv⟩
        · exact h.range b hb
theorem nodup_le : ∀ (n : Nat) (l : List Nat), l.Nodup → (∀ a ∈ l, a < n) → l.length ≤ n := by
  intro n
  induction n with
  | zero =>
    intro l _ h
    cases l with
    | nil => simp
    | cons a l => have := h a List.mem_cons_self; omega
  | succ n ih =>
    intro l hl h
    by_cases hn : n ∈ l
    · have h1 := ih (l.erase n) (hl.erase n) (fun a ha => by
        have h2 := h a (List.mem_of_mem_erase ha)
        have h3 : a ≠ n := fun e => by subst e; exact (List.Nodup.not_mem_erase hl) ha
        omega)
      rw [List.length_erase_of_mem hn] at h1
      omega
    · exact Nat.le_succ_of_le (ih l hl (fun a ha => by
        have h2 := h a ha
        have h3 : a ≠ n := fun e => hn (e ▸ ha)
        omega))
/-- No more is used than is there. -/
theorem used_le {N : List Nd} {l : List Nat} (h : l.Nodup) (hr : ∀ a ∈ l, 2 ≤ a ∧ Val N a) : l.length ≤ N.length := by
  have := nodup_le N.length (l.map (· - 2)) (List.pairwise_map.2 (h.imp_of_mem (fun {a b} ha hb hab => by have := hr a ha; have := hr b hb; omega))) (fun a ha => by
    obtain ⟨b, hb, rfl⟩ := List.mem_map.1 ha
    have := hr b hb
    unfold Val at this
    omega)
  simpa using this
end Go.Proofs.Ytbglnddjhlefnaa
