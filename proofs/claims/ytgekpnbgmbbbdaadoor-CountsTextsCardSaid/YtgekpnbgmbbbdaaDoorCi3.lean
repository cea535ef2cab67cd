/- For the walk of Sum: the frame, the marks of the deferred lists, the sums. -/
import Derived.Test.YtgekpnbgmbbbdaaDoorCi2
namespace Go.Proofs.YtgekpnbgmbbbdaaDoor
open Go Go.RowKit Go.Shelf Go.Proofs.YtgekpnbgmbbbdaaDoorW.PrintWords Go.Proofs.YtgekpnbgmbbbdaaDoorW.PrintLast Go.Proofs.YtgekpnbgmbbbdaaDoorW.PrintMore
/-- All blocks below N but b are as they were. -/
structure ExB (b N : Nat) (A B : World) : Prop where
  size : A.heap.size ≤ B.heap.size
  same : ∀ k, k < N → k ≠ b → B.heap[k]? = A.heap[k]?
theorem ExB.refl (b N : Nat) (A : World) : ExB b N A A := ⟨Nat.le_refl _, fun _ _ _ => rfl⟩
theorem ExB.trans {b N : Nat} {A B C : World} (h : ExB b N A B) (k : ExB b N B C) : ExB b N A C := ⟨Nat.le_trans h.size k.size, fun i h1 h2 => (k.same i h1 h2).trans (h.same i h1 h2)⟩
theorem ExB.mono {b N M : Nat} {A B : World} (h : ExB b N A B) (hm : M ≤ N) : ExB b M A B := ⟨h.size, fun i h1 h2 => h.same i (by omega) h2⟩
theorem ExB.alloc {b N : Nat} {A B : World} (h : ExB b N A B) (hN : N ≤ B.heap.size) (o : Obj) : ExB b N A (B.alloc o) :=
  ⟨by rw [World.size_alloc]; have := h.size; omega, fun i h1 h2 => (Below.heap_alloc _ _ i (by omega)).trans (h.same i h1 h2)⟩
theorem ExB.drew {b N : Nat} {A B : World} (h : ExB b N A B) : ExB b N A B.drew := ⟨h.size, h.same⟩
theorem ExB.set {b N : Nat} {A B : World} (h : ExB b N A B) (v : Value) : ExB b N A (B.setCell ⟨b, 0, none⟩ v) :=
  ⟨by have := h.size; simpa using this, fun i h1 h2 => (Below.heap_setCell _ ⟨b, 0, none⟩ _ i h2).trans (h.same i h1 h2)⟩
theorem ExB.own {β : Type} {b N B : Nat} {A : World} (hN : N ≤ B) (hA : N ≤ A.heap.size) : OwnFrom B (fun (_ : β) W => ExB b N A W) :=
  fun _ X Y row hs hg hr => ⟨Nat.le_trans hs.size hg.size, fun i h1 h2 => (hg.block i (by have := hs.size; omega) (fun e => by have := (hr i e.symm).1; omega)).trans (hs.same i h1 h2)⟩
theorem ExB.boxed {b N : Nat} {A B : World} (h : ExB b N A B) {k : Nat} {t : TypeId} {v : Value} (hk : k < N) (hb : k ≠ b) (hc : Boxed A k t v) : Boxed B k t v := (h.same k hk hb).trans hc
theorem ExB.kb {b N n₀ b2 b3 : Nat} {A X Y : World} (h : ExB b N A X) (k : ExB b N A Y) (hB : Below n₀ X Y) (h2 : b2 < N) (h3 : b3 < N) (e2 : b2 ≠ b) (e3 : b3 ≠ b) : KB2 n₀ b2 b3 X Y :=
  ⟨hB, (k.same b2 h2 e2).trans (h.same b2 h2 e2).symm, (k.same b3 h3 e3).trans (h.same b3 h3 e3).symm⟩
/-- The lists of deferred calls that loops have left. -/
def marks (ds : List Nat) : List Deferred := ds.map fun D => { target := .collected D, args := #[] }
/-- They lie from n₀ on, and are empty. -/
structure MK (n₀ : Nat) (ds : List Nat) (W : World) : Prop where
  nodup : ds.Nodup
  ge : ∀ D ∈ ds, n₀ ≤ D
  held : ∀ D ∈ ds, W.heap[D]? = some (.deferred (some []))
theorem MK.nil (n₀ : Nat) (W : World) : MK n₀ [] W := ⟨List.nodup_nil, fun _ h => by simp at h, fun _ h => by simp at h⟩
theorem MK.lt {n₀ : Nat} {ds : List Nat} {W : World} (h : MK n₀ ds W) {D : Nat} (hD : D ∈ ds) : D < W.heap.size := (Array.getElem?_eq_some_iff.1 (h.held D hD)).1
theorem MK.ex {n₀ b N : Nat} {ds : List Nat} {A B : World} (h : MK n₀ ds A) (he : ExB b N A B) (hN : A.heap.size ≤ N) (hb : A.heap.size ≤ b ∨ ∃ t v, Boxed A b t v) : MK n₀ ds B :=
  ⟨h.nodup, h.ge, fun D hD => (he.same D (by have := h.lt hD; omega) (fun e => by
    rcases hb with hb | ⟨t, v, hb⟩
    · have := h.lt hD; omega
    · have h1 := h.held D hD
      rw [e] at h1
      unfold Boxed at hb
      rw [h1] at hb; cases hb)).trans (h.held D hD)⟩
theorem MK.below {n₀ : Nat} {ds : List Nat} {A B : World} (h : MK n₀ ds A) (he : Below A.heap.size A B) : MK n₀ ds B :=
  ⟨h.nodup, h.ge, fun D hD => (he.block D (h.lt hD)).trans (h.held D hD)⟩
theorem MK.cons {n₀ D : Nat} {ds : List Nat} {W : World} (h : MK n₀ ds W) (hD : ∀ E ∈ ds, E < D) (hn : n₀ ≤ D) (hK : W.heap[D]? = some (.deferred (some []))) : MK n₀ (D :: ds) W :=
  ⟨List.nodup_cons.2 ⟨fun hm => by have := hD D hm; omega, h.nodup⟩, fun E hE => by
    rcases List.mem_cons.1 hE with rfl | hE
    · exact hn
    · exact h.ge E hE, fun E hE => by
    rcases List.mem_cons.1 hE with rfl | hE
    · exact hK
    · exact h.held E hE⟩
/-- The world behind the taking of all. -/
def offs (ds : List Nat) (W : World) : World := ds.foldl (fun W D => W.putObj D (.deferred none)) W
theorem offs_below {n₀ : Nat} : ∀ {ds : List Nat} {W : World}, (∀ D ∈ ds, n₀ ≤ D) → Below n₀ W (offs ds W)
  | [], _, _ => Below.refl _ _
  | D :: ds, W, h => by
    have h1 : Below n₀ W (W.putObj D (.deferred none)) := ⟨rfl, rfl, rfl, by simp, fun k hk => World.putObj_heap_other (fun e => by have := h D (List.mem_cons_self ..); omega)⟩
    exact h1.trans (offs_below (ds := ds) (fun E hE => h E (List.mem_cons_of_mem _ hE)))
theorem leaves_marks {F : Fence} {n : Nat} {P : Program} {fn : Func} {tmps : Array Value} {R : Ending → World → Prop} {n₀ : Nat} : ∀ {ds : List Nat} {W : World}, MK n₀ ds W →
    (∃ v, (results fn tmps).run P (offs ds W) = .ok v (offs ds W) ∧ R (.returned v) (offs ds W)) → LeavesInM F n P fn tmps R (marks ds) .returning W
  | [], _, _, h => h
  | D :: ds, W, hm, h => by
    refine ⟨by simp, .inl ⟨_, _, rfl, run_takeDeferred (hm.held D (List.mem_cons_self ..)), ?_⟩⟩
    refine leaves_marks (n₀ := n₀) (ds := ds) ⟨(List.nodup_cons.1 hm.nodup).2, fun E hE => hm.ge E (List.mem_cons_of_mem _ hE), fun E hE => ?_⟩ h
    exact (World.putObj_heap_other (fun e => (List.nodup_cons.1 hm.nodup).1 (by first | (rw [← e]; exact hE) | (rw [e]; exact hE)))).trans (hm.held E (List.mem_cons_of_mem _ hE))
/-- One set's elements put to one number; to all. -/
def inn (t i acc : Nat) (l : List (Fin 64)) : Nat := l.foldl (fun acc k => acc ||| on t (i + k.1)) acc
def outs (t : Nat) (eb : List (Fin 64)) (l : List (Fin 64)) : Nat := l.foldl (fun acc i => inn t i.1 acc eb) 0
theorem inn_snoc (t i acc : Nat) (l : List (Fin 64)) (k : Fin 64) : inn t i acc (l ++ [k]) = inn t i acc l ||| on t (i + k.1) := by simp [inn]
theorem outs_snoc (t : Nat) (eb l : List (Fin 64)) (i : Fin 64) : outs t eb (l ++ [i]) = inn t i.1 (outs t eb l) eb := by simp [outs]
theorem inn_lt {t : Nat} (ht : t ≤ 62) (i : Nat) : ∀ (l : List (Fin 64)) (acc : Nat), acc < 2 ^ 64 → inn t i acc l < 2 ^ 64
  | [], _, h => h
  | _ :: l, _, h => inn_lt ht i l _ (Nat.or_lt_two_pow h (on_lt ht))
theorem outs_fold_lt {t : Nat} (ht : t ≤ 62) (eb : List (Fin 64)) : ∀ (l : List (Fin 64)) (acc : Nat), acc < 2 ^ 64 → l.foldl (fun acc i => inn t i.1 acc eb) acc < 2 ^ 64
  | [], _, h => h
  | _ :: l, _, h => outs_fold_lt ht eb l _ (inn_lt ht _ eb _ h)
theorem outs_lt {t : Nat} (ht : t ≤ 62) (eb l : List (Fin 64)) : outs t eb l < 2 ^ 64 := outs_fold_lt ht eb l 0 (by decide)
theorem addF_outs (t a b : Nat) (h : t + 2 ≤ 64) : addF t a b = outs t (elsTo b (t + 2) h) (elsTo a (t + 2) h) := by
  unfold addF outs inn els
  rw [dif_pos h, dif_pos h, List.foldl_map]
  congr 1
  funext acc i
  rw [List.foldl_map]
theorem sumF_lt {t : Nat} (ht : t ≤ 62) : ∀ (l : List Nat) (s : Nat), s < 2 ^ 64 → l.foldl (fun s c => addF t s c) s < 2 ^ 64
  | [], _, h => h
  | c :: l, s, _ => sumF_lt ht l _ (by show addF t s c < 2 ^ 64; rw [addF_outs t s c (by omega)]; exact outs_lt ht _ _)
theorem sumF_take {t : Nat} {L : List Nat} {i : Nat} (hi : i < L.length) : sumF t (L.take (i + 1)) = addF t (sumF t (L.take i)) (L.getD i 0) := by
  unfold sumF
  rw [List.take_add_one, List.getElem?_eq_getElem hi, List.foldl_append, List.getD_eq_getElem?_getD, List.getElem?_eq_getElem hi, Option.getD_some]
  rfl
theorem one_w2 (t : Nat) (a b : Nat) (ht : t ≤ 62) (w : World) : Calls Tryd.prog 33 #[.int .i64 t, .int .i64 ((a : Int) + (b : Int))] w fun e w' => e = .returned (.int .u64 (on t (a + b) : Nat)) ∧ w' = w := one_w t (a + b) ht w
theorem one_zero (t : Nat) : on t 0 = 1 := by simp [on]
/-- What Sum and Union say. -/
def sumR (t : Int) (L : List Nat) : Nat × Int := if chkF t L = 0 then (sumF t.toNat L, 0) else (0, chkF t L)
def uniR (t : Int) (L : List Nat) : Nat × Int := if chkF t L = 0 then (if uniF L = 0 then (0, 80) else (uniF L, 0)) else (0, chkF t L)
/-- An element of a slice of sets that is read. -/
theorem C_u64_at {w : World} {A : Option Addr} {n : Nat} {L : List Nat} (h : (Kd.int .u64).C w A n (u64s L)) (i : Nat) (hi : i < n) : ∃ ad, A = some ad ∧ w.cell? (ad.add i) = some (.int .u64 (L.getD i 0 : Nat)) := by
  obtain ⟨ad, cs, e, _, hr, hcell⟩ := ReadsRow.get_ h 0 (i : Int) (by omega) (by omega)
  have hcc : cs = [.int .u64 ((u64s L).getD ((i : Int)).toNat 0)] := hr
  subst hcc
  have := hcell 0 _ rfl
  rw [Int.toNat_natCast, u64s_getD] at this
  exact ⟨ad, e, by simpa [Kd.int, Kd.scalar] using this⟩
end Go.Proofs.YtgekpnbgmbbbdaaDoor
