/- Maps whose keys are integers: what is in them, entry by entry; each operation as an equation on its run. -/
import Derived.Test.YtlnhjkbhhdcdeaaGen
import Derived.RangeFuncRecord
namespace Go.Proofs.Ytlnhjkbhhdcdeaa
open Go Go.RowKit
/-- Block b is a map with these entries, elder first. -/
def MapAt (w : World) (b : Nat) (q : IntKind) (L : List (Int × Value)) : Prop :=
  ∃ es clock, w.heap[b]? = some (.map es clock) ∧ es.toList.map (fun e => (e.key, e.val)) = L.map (fun p => (Value.int q p.1, p.2))
def look (L : List (Int × Value)) (k : Int) : Option Value := (L.find? (fun p => p.1 == k)).map (·.2)
/-- Where a key stands. -/
def place (L : List (Int × Value)) (k : Int) : Nat → Option (Nat × Value)
  | i => match L with
    | [] => none
    | p :: L => if k == p.1 then some (i, p.2) else place L k (i + 1)
theorem findNow_place {d : TypeDesc} {q : IntKind} {k : Int} (hd : d = .int q) : ∀ (es : List MapEntry) (L : List (Int × Value)) (i : Nat), es.map (fun e => (e.key, e.val)) = L.map (fun p => (Value.int q p.1, p.2)) → Instr.findNow d (.int q k) es i = some (place L k i)
  | [], [], i, _ => by rw [place]; rfl
  | [], _ :: _, _, h => by simp at h
  | _ :: _, [], _, h => by simp at h
  | e :: es, p :: L, i, h => by
    rw [List.map_cons, List.map_cons, List.cons.injEq, Prod.mk.injEq] at h
    have hs : Instr.sameNow d (.int q k) e.key = some (k == p.1) := by rw [h.1.1, hd]; simp [Instr.sameNow]
    rw [Instr.findNow, hs, place]
    cases hk : (k == p.1) with
    | true => simp [h.1.2]
    | false => simp only [Bool.false_eq_true, if_false]; exact findNow_place hd es L (i + 1) h.2
end Go.Proofs.Ytlnhjkbhhdcdeaa
namespace Go.Proofs.Ytlnhjkbhhdcdeaa
open Go Go.RowKit
section
variable {P : Program} {T K E : TypeId} {q : IntKind} {w : World} {b : Nat} {L : List (Int × Value)} {k : Int}
theorem run_check (hK : P.underlying K = some (.int q)) (e : Bool) (n : Nat) : (Instr.checkKey e (n + 1) K (.int q k)).run P w = .ok () w := by
  have hu := run_underlying hK w
  unfold Instr.checkKey
  simp [go_sem, hu]
theorem run_find (hK : P.underlying K = some (.int q)) {es : Array MapEntry} (h : es.toList.map (fun e => (e.key, e.val)) = L.map (fun p => (Value.int q p.1, p.2))) : (Instr.findKey K (.int q k) es.toList).run P w = .ok (place L k 0) w := by
  have hf := findNow_place (d := .int q) (k := k) rfl es.toList L 0 h
  have hu := run_underlying hK w
  simp [Instr.findKey, go_sem, hu, hf]
theorem run_look (hT : P.underlying T = some (.map K E)) (hK : P.underlying K = some (.int q)) (h : MapAt w b q L) {z : Value} (hz : (zeroValue E).run P w = .ok z w) :
    (Instr.lookup T (.map (some b)) (.int q k) true).run P w = .ok (.tuple #[((place L k 0).map (·.2)).getD z, .bool (place L k 0).isSome]) w := by
  obtain ⟨es, clock, hb, hL⟩ := h
  have hf := run_find (P := P) (w := w) (k := k) hK hL
  have hc := run_check (P := P) (w := w) (k := k) hK es.isEmpty 9999
  have hu := run_underlying hT w
  have hg : (getObj b).run P w = .ok (.map es clock) w := by simp [getObj, Sem.run, hb]
  unfold Instr.lookup
  cases hp : place L k 0 with
  | none =>
    rw [hp] at hf
    simp [go_sem, hu, hg, hf, hc, hz]
  | some r =>
    rw [hp] at hf
    simp [go_sem, hu, hg, hf, hc]
theorem place_lt : ∀ (L : List (Int × Value)) (i : Nat) {j : Nat} {v : Value}, place L k i = some (j, v) → i ≤ j ∧ j < i + L.length ∧ L[j - i]? = some (k, v)
  | [], _, _, _, h => by rw [place] at h; cases h
  | p :: L, i, j, v, h => by
    rw [place] at h
    by_cases hk : (k == p.1) = true
    · rw [if_pos hk] at h
      cases h
      have : k = p.1 := by simpa using hk
      exact ⟨Nat.le_refl _, by rw [List.length_cons]; omega, by simp [this]⟩
    · rw [if_neg hk] at h
      obtain ⟨h1, h2, h3⟩ := place_lt L (i + 1) h
      refine ⟨by omega, by rw [List.length_cons]; omega, ?_⟩
      rw [show j - i = (j - (i + 1)) + 1 by omega, List.getElem?_cons_succ]
      exact h3
theorem MapAt.get (h : MapAt w b q L) : ∃ es clock, (getObj b).run P w = .ok (.map es clock) w ∧ w.heap[b]? = some (.map es clock) ∧ es.toList.map (fun e => (e.key, e.val)) = L.map (fun p => (Value.int q p.1, p.2)) ∧ b < w.heap.size := by
  obtain ⟨es, clock, hb, hL⟩ := h
  exact ⟨es, clock, by simp [getObj, Sem.run, hb], hb, hL, (Array.getElem?_eq_some_iff.1 hb).1⟩
theorem run_setObj {o : Obj} {es : Array MapEntry} {clock : Nat} (h : w.heap[b]? = some (.map es clock)) : (setObj b o).run P w = .ok () (w.putObj b o) := by
  simp [setObj, Sem.run, World.putObj, h]
theorem MapAt.put {es : Array MapEntry} {clock : Nat} (hb : b < w.heap.size) (hL : es.toList.map (fun e => (e.key, e.val)) = L.map (fun p => (Value.int q p.1, p.2))) : MapAt (w.putObj b (.map es clock)) b q L :=
  ⟨es, clock, World.putObj_heap_same hb, hL⟩
/-- A new key. -/
theorem run_put_new (hT : P.underlying T = some (.map K E)) (hK : P.underlying K = some (.int q)) (h : MapAt w b q L) (hp : place L k 0 = none) (v : Value) :
    ∃ o : Obj, (Instr.mapUpdate T (.map (some b)) (.int q k) v).run P w = .ok () (w.putObj b o) ∧ MapAt (w.putObj b o) b q (L ++ [(k, v)]) := by
  obtain ⟨es, clock, hg, hb, hL, hlt⟩ := h.get (P := P)
  have hf := run_find (P := P) (w := w) (k := k) hK hL
  have hc := run_check (P := P) (w := w) (k := k) hK false 9999
  have hu := run_underlying hT w
  rw [hp] at hf
  refine ⟨.map (es.push { key := .int q k, val := v, born := clock }) (clock + 1), ?_, MapAt.put hlt (by simp [hL])⟩
  unfold Instr.mapUpdate
  simp [go_sem, hu, hg, hf, hc, run_setObj hb]
theorem map_erase {α β : Type} (f : α → β) : ∀ (l : List α) (j : Nat), (l.eraseIdx j).map f = (l.map f).eraseIdx j
  | [], _ => by simp
  | _ :: _, 0 => by simp
  | x :: l, j + 1 => by simp [map_erase f l j]
/-- A key is struck. -/
theorem run_strike (hT : P.underlying T = some (.map K E)) (hK : P.underlying K = some (.int q)) (h : MapAt w b q L) {j : Nat} {v : Value} (hp : place L k 0 = some (j, v)) (ty : TypeId) :
    ∃ o : Obj, (Builtin.delete_ #[T, K] ty #[.map (some b), .int q k]).run P w = .ok (.tuple #[]) (w.putObj b o) ∧ MapAt (w.putObj b o) b q (L.eraseIdx j) := by
  obtain ⟨es, clock, hg, hb, hL, hlt⟩ := h.get (P := P)
  have hf := run_find (P := P) (w := w) (k := k) hK hL
  have hc := run_check (P := P) (w := w) (k := k) hK es.isEmpty 9999
  have hu := run_underlying hT w
  rw [hp] at hf
  refine ⟨.map (es.eraseIdxIfInBounds j) clock, ?_, MapAt.put hlt ?_⟩
  · unfold Builtin.delete_
    simp [go_sem, hu, hg, hf, hc, run_setObj hb]
  · have : (es.eraseIdxIfInBounds j).toList = es.toList.eraseIdx j := by simp
    rw [this, map_erase, hL, map_erase]
end
end Go.Proofs.Ytlnhjkbhhdcdeaa
