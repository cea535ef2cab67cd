/- Words that the walks share, over any program: slices that are read, opened at an index; structs behind pointers; what a call has turned. -/
import Derived.Below
import Derived.Deep.Draws
import Derived.Deep.AppendLies
import Derived.Maps.AppendAt
import Derived.OwnWalk
import Derived.Laws.BytesArg
import Derived.Laws.MakeOwn
import Derived.Laws.OwnMore
import Derived.Deep.OwnRows
import Derived.Tactics
import Derived.Lib.ConvBytes
import Derived.Lib.Hide
import Derived.Laws.Slices
import Derived.WalkKit
import Derived.WalkSpells
import Derived.WalkLawsBesides
import Derived.KernelRfl
import Derived.RowKit3
import Derived.Deep.LoopGhost
import Derived.Deep.QuietTactic
import Derived.BigQuiet
import Derived.WideLaws
import Derived.Deep.DeepCutAuto
import Derived.Deep.CutBlock
import Derived.Deep.RegionHeld3
import Derived.Laws.Rows
import Derived.Laws.BitsLemmas
import Derived.RowKit
import Derived.Test.YtbglnddjhlefnaaWMore
import Derived.Test.YtbglnddjhlefnaaWN
namespace Go.Proofs.Ytbglnddjhlefnaa
open Go.RowKit Go.Proofs.YtbglnddjhlefnaaW.PrintWords Go.Proofs.YtbglnddjhlefnaaW.PrintLast Go.Proofs.YtbglnddjhlefnaaW.PrintMore
/-- A slice of bytes that is read. -/
abbrev KB := Kd.int .u8

/-- An element of a slice of whole numbers that is read. -/
theorem V_int {w : World} {e b : Nat} {k : IntKind} {ok : Nat → Prop} {A : Option Addr} {n c : Nat} {xs : List Int} (h : Kd.V (Kd.int k) e w b ok (.slice A n c) xs) (i : Nat) (hi : i < xs.length) :
    ∃ ad x, A = some ad ∧ w.cell? (ad.add i) = some (.int k x) ∧ Hid (x = xs.getD i 0) ∧ ok ad.block := by
  obtain ⟨hn, hl, hF⟩ := Kd.V_at h
  obtain ⟨ad, c, e, hs, hr, hcell, hok⟩ := Kd.F_get hF 0 (i : Int) (by omega) (by omega)
  have hr' : c = [Value.int k (xs.getD ((i : Int)).toNat 0)] := Kd.FK_now hr
  subst hr'
  have := hcell 0 _ rfl
  exact ⟨ad, _, e, by simpa [Kd.int, Kd.scalar] using this, rfl, hok (by show 0 < 1; omega)⟩
theorem add_zero_ (a : Addr) : a.add 0 = a := by unfold Addr.add; split <;> simp_all
/-- An element of a slice of slices that is read. -/
theorem V_slice_at {w : World} {t e b : Nat} {α : Type} {d : Kd α} {ok : Nat → Prop} {A : Option Addr} {n c : Nat} {xs : List (List α)} (h : Kd.V (Kd.slice e d) t w b ok (.slice A n c) xs) (i : Nat) (hi : i < xs.length) :
    ∃ ad A0 c0 x, A = some ad ∧ w.cell? (ad.add i) = some (.slice A0 x.length c0) ∧ x.length ≤ c0 ∧ d.C w A0 x.length x ∧ Hid (x = xs.getD i []) := by
  obtain ⟨hn, hl, hC⟩ := Kd.V_reads' h
  obtain ⟨ad, c, e, hs, hr, hcell⟩ := ReadsRow.get_ hC [] (i : Int) (by omega) (by omega)
  obtain ⟨A0, c0, rfl, hl0, hC0⟩ := hr
  have := hcell 0 _ rfl
  exact ⟨ad, A0, c0, _, e, by simpa [Kd.slice] using this, by simpa using hl0, by simpa using hC0, rfl⟩
/-- Go's max and min of two whole numbers, under names that the walk does not part. -/
theorem max2_mx (k k' : IntKind) (x y : Int) : Builtin.max2 (.int k x) (.int k' y) = pure (.int k (mx x y)) := by rw [max2_int]; rfl
theorem min2_mn (k k' : IntKind) (x y : Int) : Builtin.min2 (.int k x) (.int k' y) = pure (.int k (mn x y)) := by rw [min2_int]; rfl
/-- A literal row of numbers, just made. -/
theorem R_new_int (w : World) (k : IntKind) (e : TypeId) (xs : List Int) (cs : List Value) (hcs : cs = xs.map (Value.int k)) (hm : xs.length ≤ 9223372036854775807) (n : Nat) (hn : n = xs.length) (H : Nat) (hH : H = w.heap.size) :
    (Kd.int k).R e (w.alloc (.cells cs.toArray e)) H (fun g => H ≤ g) (.slice (some ⟨H, 0, none⟩) n n) xs := by
  subst hcs hn hH
  refine ⟨fun g hg => by simp [Value.ownBlock] at hg; omega, xs.map (Value.int k), ?_, ?_⟩
  · have := World.ownsRow_lit (base := w.heap.size) (e := e) (size := 1) w (xs.map (Value.int k)).toArray xs.length (Nat.le_refl _) (by simpa [maxLen] using hm) (by simp)
    have h2 : (w.alloc (.cells (xs.map (Value.int k)).toArray e)).ownsRow w.heap.size e 1 (.slice (some ⟨w.heap.size, 0, none⟩) xs.length xs.length) xs.length (xs.map (Value.int k)) := by simpa using this
    exact h2
  · exact (Kd.reps_scalar (enc := Value.int k) xs)
/-- What was grown is kept below: a draw, a block, a store's worth of steps end so. -/
theorem below_trans' {B : Nat} {a b c : World} (h : Below B a b) (k : Below b.heap.size b c) (hB : B ≤ b.heap.size) : Below B a c := below_then h hB k
/-- A block that is known whole, read as a row of elements. -/
theorem V_block {α : Type} {d : Kd α} {e b g n c : Nat} {w : World} {ok : Nat → Prop} {xs : List α} {cs : List Value} {fr : Nat × Nat} (hg : w.heap[g]? = some (.cells cs.toArray e fr))
    (hr : Reps (Kd.FK d w ok) d.sz xs cs) (hn : n = xs.length) (hc : n ≤ c) (hm : n ≤ 9223372036854775807) : Kd.V d e w b (fun k => ok k ∨ k = g) (.slice (some ⟨g, 0, none⟩) n c) xs := by
  subst hn
  have hlt : g < w.heap.size := blk_lt hg
  refine Kd.V_mk hc (fun W' hW => ⟨rfl, hm, fun _ => ⟨_, rfl, fun j p hj => ⟨(cs.drop (j * d.sz)).take d.sz, ?_, ?_, ?_⟩⟩⟩)
  · have hjl := (List.getElem?_eq_some_iff.1 hj).1
    have h1 : j * d.sz + d.sz ≤ cs.length := by rw [hr.1, ← Nat.succ_mul]; exact Nat.mul_le_mul_right _ hjl
    rw [List.length_take, List.length_drop]
    omega
  · exact hr.2 j p hj W' (fun k hk hl => hW k (.inl hk) hl)
  · intro i u hu
    have hW2 : W'.heap[g]? = some (.cells cs.toArray e fr) := (hW g (.inr rfl) hlt).trans hg
    rw [add_plain, cell_of_row W' g _ cs.toArray e fr hW2]
    rw [List.getElem?_take] at hu
    split at hu
    · simpa [List.getElem?_drop] using hu
    · cases hu
theorem FK_int {w : World} {ok : Nat → Prop} (k : IntKind) (x : Int) : Kd.FK (Kd.int k) w ok x [.int k x] := fun _ _ => rfl
theorem FK_slice {α : Type} {d : Kd α} {e b : Nat} {w : World} {ok : Nat → Prop} {v : Value} {xs : List α} (h : Kd.V d e w b ok v xs) : Kd.FK (Kd.slice e d) w ok xs [v] := by
  obtain ⟨A, c, rfl, hl, hF⟩ := h
  exact fun W' hW => ⟨A, c, rfl, hl, hF W' hW⟩
theorem Reps_ints {w : World} {ok : Nat → Prop} (k : IntKind) (xs : List Int) (cs : List Value) (h : cs = xs.map (Value.int k)) : Reps (Kd.FK (Kd.int k) w ok) 1 xs cs := by
  subst h
  exact (Kd.reps_scalar (enc := Value.int k) xs).imp_ (fun p c hp => by rw [hp]; exact FK_int k p)
theorem V_of_FK {α : Type} {d : Kd α} {e b : Nat} {w : World} {ok : Nat → Prop} {v : Value} {xs : List α} (h : Kd.FK (Kd.slice e d) w ok xs [v]) : Kd.V d e w b ok v xs := by
  obtain ⟨A, c, hv, hl, _⟩ := Kd.FK_now h
  injection hv with hv _
  subst hv
  refine Kd.V_mk hl (fun W' hW => ?_)
  obtain ⟨A', c', hv', _, hC⟩ := h W' hW
  injection hv' with hv' _
  injection hv' with h1 _ _
  rw [h1]
  exact hC
/-- An element of a slice of slices, as a slice that is read in its own right. -/
theorem V_row_at {w : World} {t e b : Nat} {α : Type} {d : Kd α} {ok : Nat → Prop} {A : Option Addr} {n c : Nat} {xs : List (List α)} (h : Kd.V (Kd.slice e d) t w b ok (.slice A n c) xs) (i : Nat) (hi : i < xs.length) :
    ∃ ad A0 c0 x, A = some ad ∧ w.cell? (ad.add i) = some (.slice A0 x.length c0) ∧ Kd.V d e w b ok (.slice A0 x.length c0) x ∧ Hid (x = xs.getD i []) := by
  obtain ⟨hn, hl, hF⟩ := Kd.V_at h
  obtain ⟨ad, c, e, hs, hr, hcell, _⟩ := Kd.F_get hF [] (i : Int) (by omega) (by omega)
  obtain ⟨A0, c0, rfl, _, _⟩ := Kd.FK_now hr
  have := hcell 0 _ rfl
  exact ⟨ad, A0, c0, _, e, by simpa [Kd.slice] using this, by simpa using V_of_FK (b := b) hr, rfl⟩
/-! ### A struct behind a pointer: a block that is known whole -/
theorem blk_cell {w : World} {g : Nat} {cs : Array Value} {t : TypeId} (h : w.heap[g]? = some (.cells cs t (0, 0))) (i : Nat) (v : Value) (hi : cs[i]? = some v) : w.cell? ⟨g, i, none⟩ = some v := (cell_of_row w g i cs t (0, 0) h).trans hi
theorem blk_free {w : World} {g : Nat} {cs : Array Value} {t : TypeId} (h : w.heap[g]? = some (.cells cs t (0, 0))) (i : Nat) : w.frozen? ⟨g, i, none⟩ = false := by simp [World.frozen?, h]
theorem blk_set {w : World} {g : Nat} {cs : Array Value} {t : TypeId} (h : w.heap[g]? = some (.cells cs t (0, 0))) (i : Nat) (u : Value) : (w.setCell ⟨g, i, none⟩ u).heap[g]? = some (.cells (cs.setIfInBounds i u) t (0, 0)) := by
  simp [World.setCell, Array.getElem?_modify, h]
/-- What a call has turned: the blocks of S, and what is new. -/
structure Chg (S : Nat → Prop) (w w' : World) : Prop where
  os : w'.os = w.os
  tape : w'.tape = w.tape
  output : w'.output = w.output
  size : w.heap.size ≤ w'.heap.size
  block : ∀ k, k < w.heap.size → ¬ S k → w'.heap[k]? = w.heap[k]?
section
variable {S T : Nat → Prop} {a b c w w' : World}
theorem Chg.refl (S : Nat → Prop) (w : World) : Chg S w w := ⟨rfl, rfl, rfl, Nat.le_refl _, fun _ _ _ => rfl⟩
theorem Chg.trans (h : Chg S a b) (k : Chg T b c) (hT : ∀ i, T i → S i ∨ a.heap.size ≤ i) : Chg S a c :=
  ⟨k.os.trans h.os, k.tape.trans h.tape, k.output.trans h.output, Nat.le_trans h.size k.size, fun i hi hn =>
    (k.block i (Nat.lt_of_lt_of_le hi h.size) (fun ht => (hT i ht).elim hn (fun h2 => by omega))).trans (h.block i hi hn)⟩
theorem Chg.mono (h : Chg S a b) (hS : ∀ i, S i → T i) : Chg T a b := ⟨h.os, h.tape, h.output, h.size, fun i hi hn => h.block i hi (fun hs => hn (hS i hs))⟩
theorem Chg.of_below (h : Below w.heap.size w w') (S : Nat → Prop) : Chg S w w' := ⟨h.os, h.tape, h.output, h.size, fun i hi _ => h.block i hi⟩
theorem Chg.below {B : Nat} (h : Chg S w w') (hS : ∀ i, S i → B ≤ i) (hB : B ≤ w.heap.size) : Below B w w' := ⟨h.os, h.tape, h.output, h.size, fun i hi => h.block i (by omega) (fun hs => by have := hS i hs; omega)⟩
theorem Chg.then_below (h : Chg S a b) (k : Below b.heap.size b c) : Chg S a c := h.trans (Chg.of_below k (fun _ => False)) (fun _ h => h.elim)
theorem Chg.set (h : Chg S a b) (p : Addr) (u : Value) (hp : S p.block ∨ a.heap.size ≤ p.block) : Chg S a (b.setCell p u) :=
  h.trans (T := fun k => k = p.block) ⟨rfl, rfl, rfl, by simp [World.setCell], fun k _ hn => Below.heap_setCell b p u k hn⟩ (fun i hi => by rw [hi]; exact hp)
theorem Chg.grown {row : Option Nat} (h : Chg S a b) (hg : b.grownBy c row) (hr : ∀ k, row = some k → S k ∨ a.heap.size ≤ k) : Chg S a c :=
  h.trans (T := fun k => row = some k) ⟨hg.os, hg.tape, hg.output, hg.size, fun i hi hn => hg.block i hi (fun e => hn e.symm)⟩ hr
theorem Chg.drewN (h : Chg S a b) (n : Nat) : Chg S a (b.drewN n) := ⟨h.os, h.tape, h.output, h.size, h.block⟩
theorem Chg.drawn (S : Nat → Prop) (w : World) (n : Nat) (h : Chg S (w.drewN n) b) : Chg S w b := ⟨h.os, h.tape, h.output, h.size, h.block⟩
theorem Chg.alloc (h : Chg S a b) (o : Obj) : Chg S a (b.alloc o) := h.then_below (below_alloc (Below.refl _ _) o)
/-- A cell of a block that is none of S's. -/
theorem Chg.cell (h : Chg S a b) {p : Addr} {v : Value} (hc : a.cell? p = some v) (hp : ¬ S p.block) : b.cell? p = some v := (World.cell?_of_block (h.block p.block (World.block_lt_of_cell? a p hc) hp)).trans hc
theorem Chg.step (h : Chg S w w') (hT : ∀ k, T k → ¬ S k) : ∀ k, T k → k < w.heap.size → w'.heap[k]? = w.heap[k]? := fun k hk hl => h.block k hl (hT k hk)
end
end Go.Proofs.Ytbglnddjhlefnaa
