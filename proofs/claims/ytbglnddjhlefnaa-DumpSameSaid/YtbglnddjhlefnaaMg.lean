/- Maps of any comparable keys: what is in them, entry by entry; each operation as an equation on its run; ranges over them. -/
import Derived.Test.YtbglnddjhlefnaaGen
import Derived.Test.YtbglnddjhlefnaaPb
import Derived.RangeFuncRecord
import Derived.Maps.RangeRun
import Derived.Maps.OwnSet
namespace Go.Proofs.Ytbglnddjhlefnaa
open Go Go.RowKit
/-- The entries' stamps rise. -/
def Stamps (es : Array MapEntry) (clock : Nat) : Prop := (es.toList.map (·.born)).Pairwise (· < ·) ∧ ∀ e ∈ es.toList, e.born < clock
/-- Block b is a map with these entries, elder first. -/
def MapG {α : Type} (w : World) (b : Nat) (enc : α → Value) (L : List (α × Value)) : Prop :=
  ∃ es clock, w.heap[b]? = some (.map es clock) ∧ es.toList.map (fun e => (e.key, e.val)) = L.map (fun p => (enc p.1, p.2)) ∧ Stamps es clock
section
variable {α : Type} {P : Program} {T K E : TypeId} {enc : α → Value} {w w' : World} {b : Nat} {L : List (α × Value)}
theorem MapG.made (w : World) (enc : α → Value) : MapG (w.alloc (.map #[] 0)) w.heap.size enc [] :=
  ⟨#[], 0, heap_alloc_new w _, rfl, by simp [Stamps]⟩
theorem MapG.step (h : MapG w b enc L) (hb : w'.heap[b]? = w.heap[b]?) : MapG w' b enc L := by
  obtain ⟨es, clock, h1, h2, h3⟩ := h
  exact ⟨es, clock, hb.trans h1, h2, h3⟩
theorem MapG.lt (h : MapG w b enc L) : b < w.heap.size := by
  obtain ⟨es, clock, h1, _⟩ := h
  exact (Array.getElem?_eq_some_iff.1 h1).1
theorem MapG.no_cells (h : MapG w b enc L) (cs : Array Value) (t : TypeId) (f : Nat × Nat) : w.heap[b]? ≠ some (.cells cs t f) := by
  obtain ⟨es, clock, h1, _⟩ := h
  rw [h1]
  intro h
  cases h
theorem MapG.len (hT : P.underlying T = some (.map K E)) (h : MapG w b enc L) (ty : TypeId) : (Builtin.len_ #[T] ty #[.map (some b)]).run P w = .ok (.int .i64 L.length) w := by
  obtain ⟨es, clock, hb, hL, _⟩ := h
  have hu := run_underlying hT w
  have hg : (getObj b).run P w = .ok (.map es clock) w := by simp [getObj, Sem.run, hb]
  have hlen : es.size = L.length := by simpa using congrArg List.length hL
  simp [Builtin.len_, go_sem, hu, hg, goInt, hlen]
end
section
variable {α : Type} [DecidableEq α]
/-- Where a key stands. -/
def placeG (k : α) : List (α × Value) → Nat → Option (Nat × Value)
  | [], _ => none
  | p :: L, i => if p.1 = k then some (i, p.2) else placeG k L (i + 1)
/-- A key's type: how its values are told apart. -/
structure KeyG (P : Program) (K : TypeId) (enc : α → Value) : Prop where
  check : ∀ (e : Bool) (a : α) (w : World), (Instr.checkKey e 10000 K (enc a)).run P w = .ok () w
  find : ∀ (w : World) (k : α) (es : List MapEntry) (L : List (α × Value)), es.map (fun e => (e.key, e.val)) = L.map (fun p => (enc p.1, p.2)) → (Instr.findKey K (enc k) es).run P w = .ok (placeG k L 0) w
  same : ∀ a : α, Instr.sameBits 10000 (enc a) (enc a) = true
theorem placeG_get (k : α) : ∀ (L : List (α × Value)) (i : Nat), (placeG k L i).map (·.2) = getG L k
  | [], _ => rfl
  | p :: L, i => by
    rw [placeG, getG]
    split
    · rfl
    · exact placeG_get k L (i + 1)
theorem placeG_lt (k : α) : ∀ (L : List (α × Value)) (i : Nat) {j : Nat} {v : Value}, placeG k L i = some (j, v) → i ≤ j ∧ j < i + L.length ∧ L[j - i]? = some (k, v)
  | [], _, _, _, h => by rw [placeG] at h; cases h
  | p :: L, i, j, v, h => by
    rw [placeG] at h
    by_cases hk : p.1 = k
    · rw [if_pos hk] at h
      cases h
      exact ⟨Nat.le_refl _, by rw [List.length_cons]; omega, by simp [← hk]⟩
    · rw [if_neg hk] at h
      obtain ⟨h1, h2, h3⟩ := placeG_lt k L (i + 1) h
      refine ⟨by omega, by rw [List.length_cons]; omega, ?_⟩
      rw [show j - i = (j - (i + 1)) + 1 by omega, List.getElem?_cons_succ]
      exact h3
theorem putG_none {k : α} {v : Value} : ∀ {L : List (α × Value)} {i : Nat}, placeG k L i = none → putG L k v = L ++ [(k, v)]
  | [], _, _ => rfl
  | p :: L, i, h => by
    rw [placeG] at h
    by_cases hk : p.1 = k
    · rw [if_pos hk] at h; cases h
    · rw [if_neg hk] at h
      rw [putG, if_neg hk, putG_none h, List.cons_append]
theorem putG_some {k : α} {v : Value} : ∀ {L : List (α × Value)} {i j : Nat} {u : Value}, placeG k L i = some (j, u) → putG L k v = L.set (j - i) (k, v)
  | p :: L, i, j, u, h => by
    rw [placeG] at h
    by_cases hk : p.1 = k
    · rw [if_pos hk] at h
      cases h
      rw [putG, if_pos hk, Nat.sub_self]
      rfl
    · rw [if_neg hk] at h
      have := (placeG_lt k L (i + 1) h).1
      rw [putG, if_neg hk, putG_some h, show j - i = (j - (i + 1)) + 1 by omega]
      rfl
variable {P : Program} {T K E : TypeId} {enc : α → Value} {w w' : World} {b : Nat} {L : List (α × Value)} {k : α}
theorem MapG.look (KG : KeyG P K enc) (hT : P.underlying T = some (.map K E)) (h : MapG w b enc L) {z : Value} (hz : (zeroValue E).run P w = .ok z w) (c : Bool) :
    (Instr.lookup T (.map (some b)) (enc k) c).run P w = .ok (if c then .tuple #[(getG L k).getD z, .bool (getG L k).isSome] else (getG L k).getD z) w := by
  obtain ⟨es, clock, hb, hL, _⟩ := h
  have hf := KG.find w k es.toList L hL
  have hc := KG.check es.isEmpty k w
  have hu := run_underlying hT w
  have hg : (getObj b).run P w = .ok (.map es clock) w := by simp [getObj, Sem.run, hb]
  rw [← placeG_get k L 0]
  unfold Instr.lookup
  cases hp : placeG k L 0 with
  | none =>
    rw [hp] at hf
    simp [go_sem, hu, hg, hf, hc, hz]
  | some r =>
    rw [hp] at hf
    simp [go_sem, hu, hg, hf, hc]
theorem run_setObj' {o : Obj} {es : Array MapEntry} {clock : Nat} (h : w.heap[b]? = some (.map es clock)) : (setObj b o).run P w = .ok () (w.putObj b o) := by
  simp [setObj, Sem.run, World.putObj, h]
theorem pairwise_snoc {l : List Nat} {c : Nat} (h : l.Pairwise (· < ·)) (hc : ∀ x ∈ l, x < c) : (l ++ [c]).Pairwise (· < ·) := by
  rw [List.pairwise_append]
  exact ⟨h, by simp, fun x hx y hy => by simp at hy; subst hy; exact hc x hx⟩
/-- A store: the world is the one in which that block alone is another one. -/
theorem MapG.put (KG : KeyG P K enc) (hT : P.underlying T = some (.map K E)) (h : MapG w b enc L) (k : α) (v : Value) :
    ∃ o : Obj, ∀ n, (Instr.mapUpdate T (.map (some b)) (enc k) v).run P (w.drewN n) = .ok () ((w.drewN n).putObj b o) ∧ MapG ((w.drewN n).putObj b o) b enc (putG L k v) := by
  have hlt := h.lt
  obtain ⟨es, clock, hb0, hL, hS⟩ := h
  have hb : ∀ n, (w.drewN n).heap[b]? = some (.map es clock) := fun _ => hb0
  have hlt : ∀ n, b < (w.drewN n).heap.size := fun _ => hlt
  have hf := fun n => KG.find (w.drewN n) k es.toList L hL
  have hc := fun n => KG.check false k (w.drewN n)
  have hu := fun n => run_underlying hT (w.drewN n)
  have hg : ∀ n, (getObj b).run P (w.drewN n) = .ok (.map es clock) (w.drewN n) := fun n => by simp [getObj, Sem.run, hb0]
  have hlen : es.toList.length = L.length := by simpa using congrArg List.length hL
  cases hp : placeG k L 0 with
  | none =>
    rw [hp] at hf
    refine ⟨.map (es.push { key := enc k, val := v, born := clock }) (clock + 1), fun n => ⟨?_, _, _, World.putObj_heap_same (hlt n), by rw [putG_none hp]; simp [hL], ?_, ?_⟩⟩
    · have hf := hf n
      have hc := hc n
      have hu := hu n
      have hg := hg n
      have hb := hb n
      generalize w.drewN n = W at hf hc hu hg hb ⊢
      unfold Instr.mapUpdate
      simp [go_sem, hu, hg, hf, hc, run_setObj' hb]
    · rw [Array.toList_push, List.map_append]
      exact pairwise_snoc hS.1 (fun x hx => by
        obtain ⟨e, he, rfl⟩ := List.mem_map.1 hx
        exact hS.2 e he)
    · intro e he
      rw [Array.toList_push] at he
      rcases List.mem_append.1 he with he | he
      · have := hS.2 e he; omega
      · simp at he; subst he; simp
  | some r =>
    obtain ⟨j, u⟩ := r
    rw [hp] at hf
    obtain ⟨_, p2, p3⟩ := placeG_lt k L 0 hp
    rw [Nat.sub_zero] at p3
    have hj : j < es.size := by have : es.toList.length = es.size := by simp
                                omega
    have hjl : j < es.toList.length := by simpa using hj
    have hkey : es[j].key = enc k := by
      have h1 := congrArg (fun l => l[j]?) hL
      simp only [List.getElem?_map, p3, Option.map_some] at h1
      rw [List.getElem?_eq_getElem hjl] at h1
      simp at h1
      exact h1.1
    have hstay : ∀ n, (Instr.keyThatStays (enc k) (enc k)).run P (w.drewN n) = .ok (enc k) (w.drewN n) := by
      intro n
      unfold Instr.keyThatStays
      rw [KG.same k, if_pos rfl]
      rfl
    refine ⟨.map (es.modify j fun e => { e with key := enc k, val := v }) clock, fun n => ⟨?_, _, _, World.putObj_heap_same (hlt n), ?_, ?_, ?_⟩⟩
    · have hf := hf n
      have hc := hc n
      have hu := hu n
      have hg := hg n
      have hb := hb n
      have hstay := hstay n
      generalize w.drewN n = W at hf hc hu hg hb hstay ⊢
      unfold Instr.mapUpdate
      simp [go_sem, hu, hg, hf, hc, hj, hkey, hstay, run_setObj' hb]
    · rw [putG_some hp, Nat.sub_zero, Array.toList_modify]
      apply List.ext_getElem?
      intro i
      have hi := congrArg (fun l => l[i]?) hL
      simp only [List.getElem?_map] at hi
      simp only [List.getElem?_map, List.getElem?_modify, List.getElem?_set]
      by_cases hij : j = i
      · subst hij
        rw [if_pos rfl, if_pos (by omega), List.getElem?_eq_getElem hjl]
        simp
      · rw [if_neg hij]
        simp only [if_neg hij]
        rw [← hi]
        cases es.toList[i]? <;> rfl
    · have : (es.modify j fun e => { e with key := enc k, val := v }).toList.map (·.born) = es.toList.map (·.born) := by
        rw [Array.toList_modify]
        apply List.ext_getElem?
        intro i
        simp only [List.getElem?_map, List.getElem?_modify]
        cases es.toList[i]? with
        | none => rfl
        | some e => simp only [Option.map_some]; split <;> rfl
      rw [this]
      exact hS.1
    · intro e he
      rw [Array.toList_modify] at he
      obtain ⟨i, hi⟩ := List.getElem?_of_mem he
      rw [List.getElem?_modify] at hi
      cases hes : es.toList[i]? with
      | none => rw [hes] at hi; cases hi
      | some e' =>
        rw [hes] at hi
        have := hS.2 e' (List.mem_of_getElem? hes)
        simp at hi
        rw [← hi]
        split <;> exact this
end
end Go.Proofs.Ytbglnddjhlefnaa
