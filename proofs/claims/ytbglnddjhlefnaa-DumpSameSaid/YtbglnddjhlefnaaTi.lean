/- The walk of ite. -/
import Derived.Test.YtbglnddjhlefnaaTm
namespace Go.Proofs.Ytbglnddjhlefnaa
open Go Go.RowKit Go.Proofs.YtbglnddjhlefnaaW.PrintWords Go.Proofs.YtbglnddjhlefnaaW.PrintLast Go.Proofs.YtbglnddjhlefnaaW.PrintMore
/-- What was reckoned, in memory. -/
def dl (D : Dn) : List (Nd × Value) := D.map (fun p => (p.1, Value.int .i64 p.2))
theorem dl_get (D : Dn) (k : Nd) : getG (dl D) k = (getG D k).map (fun r => Value.int .i64 r) := by
  induction D with
  | nil => rfl
  | cons p D ih =>
    show getG ((p.1, Value.int .i64 p.2) :: dl D) k = _
    rw [getG, getG]
    split
    · rfl
    · exact ih
theorem dl_put (D : Dn) (k : Nd) (r : Nat) : putG (dl D) k (.int .i64 r) = dl (putG D k r) := by
  induction D with
  | nil => rfl
  | cons p D ih =>
    show putG ((p.1, Value.int .i64 p.2) :: dl D) k _ = _
    rw [putG, putG]
    split
    · rfl
    · rw [ih]; rfl
/-- What a call of ite did. -/
structure ItD (S S' : Nat → Prop) (db : Nat) (w w' : World) : Prop where
  up : ∀ k, S k → S' k
  new : ∀ k, S' k → S k ∨ w.heap.size ≤ k
  nd : ¬ S' db
  chg : Chg (fun k => S k ∨ k = db) w w'
def ItP (g db : Nat) (S : Nat → Prop) (T : Bd) (r : Nat × List Nd × Dn) (w : World) (e : Ending) (w' : World) : Prop :=
  e = .returned (.int .i64 r.1) ∧ ∃ S', Tab g S' { T with N := r.2.1 } w' ∧ MapG w' db encN (dl r.2.2) ∧ ItD S S' db w w'
section
variable {g db : Nat} {S S' S2 : Nat → Prop} {T : Bd} {D : Dn} {w w' w2 : World}
theorem ItD.of_below (h : Below w.heap.size w w') (hn : ¬ S db) : ItD S S db w w' := ⟨fun _ h => h, fun _ h => .inl h, hn, Chg.of_below h _⟩
theorem ItD.trans (h : ItD S S' db w w') (k : ItD S' S2 db w' w2) : ItD S S2 db w w2 :=
  ⟨fun i hi => k.up i (h.up i hi), fun i hi => (k.new i hi).elim (h.new i) (fun h2 => .inr (Nat.le_trans h.chg.size h2)), k.nd, h.chg.trans k.chg (fun i hi => hi.elim (fun hs => (h.new i hs).imp .inl id) (fun hd => .inl (.inr hd)))⟩
theorem ItP.now (h : Tab g S T w) (hD : MapG w db encN (dl D)) (hn : ¬ S db) (hb : Below w.heap.size w w') (x : Nat) : ItP g db S T (x, T.N, D) w (.returned (.int .i64 x)) w' :=
  ⟨rfl, S, h.below hb, hD.step (hb.block db hD.lt), ItD.of_below hb hn⟩
theorem done_look (hD : MapG w db encN (dl D)) (a b c : Nat) (hg : getG D (a, b, c) = none) : (Instr.lookup 123 (.map (some db)) (.agg #[.int .i64 a, .int .i64 b, .int .i64 c]) true).run Try.prog w = .ok (.tuple #[.int .i64 0, .bool false]) w := by
  have := hD.look K137 Try.underlying123 (k := (a, b, c)) (zero3 w) true
  rw [dl_get, hg] at this
  exact this
theorem done_hit (hD : MapG w db encN (dl D)) (a b c r : Nat) (hg : getG D (a, b, c) = some r) : (Instr.lookup 123 (.map (some db)) (.agg #[.int .i64 a, .int .i64 b, .int .i64 c]) true).run Try.prog w = .ok (.tuple #[.int .i64 r, .bool true]) w := by
  have := hD.look K137 Try.underlying123 (k := (a, b, c)) (zero3 w) true
  rw [dl_get, hg] at this
  exact this
theorem done_read (hD : MapG w db encN (dl D)) (a b c r : Nat) (hg : getG D (a, b, c) = some r) : (Instr.lookup 123 (.map (some db)) (.agg #[.int .i64 a, .int .i64 b, .int .i64 c]) false).run Try.prog w = .ok (.int .i64 r) w := by
  have := hD.look K137 Try.underlying123 (k := (a, b, c)) (zero3 w) false
  rw [dl_get, hg] at this
  exact this
set_option maxRecDepth 100000 in
theorem ite_one (b c : Nat) : Calls Try.prog 60 #[.pointer (some ⟨g, 0, none⟩), .int .i64 1, .int .i64 b, .int .i64 c, .map (some db)] w fun e w' => e = .returned (.int .i64 b) ∧ w = w' := by
  go_enter Try.func60, Try.ntmps60
  go_wp2_with fail
  go_ret
  exact ⟨rfl, rfl⟩
set_option maxRecDepth 100000 in
theorem ite_eq (a b : Nat) (ha : a ≠ 1) : Calls Try.prog 60 #[.pointer (some ⟨g, 0, none⟩), .int .i64 a, .int .i64 b, .int .i64 b, .map (some db)] w fun e w' => e = .returned (.int .i64 b) ∧ w = w' := by
  have h1 : ((a : Int) == 1) = false := by simp; omega
  have h2 : ((b : Int) == (b : Int)) = true := by simp
  go_enter Try.func60, Try.ntmps60
  go_wp2_with fail
  go_ret
  exact ⟨rfl, rfl⟩
set_option maxRecDepth 100000 in
theorem ite_zero (b c : Nat) (hb : b ≠ c) : Calls Try.prog 60 #[.pointer (some ⟨g, 0, none⟩), .int .i64 0, .int .i64 b, .int .i64 c, .map (some db)] w fun e w' => e = .returned (.int .i64 c) ∧ w = w' := by
  have h2 : ((b : Int) == (c : Int)) = false := by simp; omega
  go_enter Try.func60, Try.ntmps60
  go_wp2_with fail
  go_ret
  exact ⟨rfl, rfl⟩
set_option maxRecDepth 100000 in
theorem ite_self (a : Nat) (h1 : a ≠ 1) (h0 : a ≠ 0) : Calls Try.prog 60 #[.pointer (some ⟨g, 0, none⟩), .int .i64 a, .int .i64 1, .int .i64 0, .map (some db)] w fun e w' => e = .returned (.int .i64 a) ∧ w = w' := by
  have h1 : ((a : Int) == 1) = false := by simp; omega
  have h2 : ((a : Int) == 0) = false := by simp; omega
  go_enter Try.func60, Try.ntmps60
  go_wp2_with fail
  go_ret
  exact ⟨rfl, rfl⟩
/-- What the first tests say. -/
theorem ite_tests {a b c : Nat} (h1 : a ≠ 1) (h0 : a ≠ 0) (hb : b ≠ c) (hs : ¬ (b = 1 ∧ c = 0)) : ((a : Int) == 1) = false ∧ ((b : Int) == (c : Int)) = false ∧ ((a : Int) == 0) = false ∧ (((b : Int) == 1) = false ∨ ((b : Int) == 1) = true ∧ ((c : Int) == 0) = false) := by
  refine ⟨by simp; omega, by simp; omega, by simp; omega, ?_⟩
  by_cases h : b = 1
  · exact .inr ⟨by simp [h], by simp; omega⟩
  · exact .inl (by simp; omega)
set_option maxRecDepth 100000 in
theorem ite_memo (a b c r : Nat) (hD : MapG w db encN (dl D)) (h1 : a ≠ 1) (h0 : a ≠ 0) (hb : b ≠ c) (hs : ¬ (b = 1 ∧ c = 0)) (hg : getG D (a, b, c) = some r) :
    Calls Try.prog 60 #[.pointer (some ⟨g, 0, none⟩), .int .i64 a, .int .i64 b, .int .i64 c, .map (some db)] w fun e w' => e = .returned (.int .i64 r) ∧ Below w.heap.size w w' := by
  obtain ⟨t1, t2, t3, t4⟩ := ite_tests h1 h0 hb hs
  have hB := below_alloc (Below.refl w.heap.size w) (.cells #[.int .i64 a, .int .i64 b, .int .i64 c] 137)
  have hk := done_hit (hD.step (hB.block db hD.lt)) a b c r hg
  have HB := Lib.hid hB
  clear hD h1 h0 hb hs hg hB
  rcases t4 with t4 | ⟨t4, t5⟩
  all_goals
    go_enter Try.func60, Try.ntmps60
    go_wp2_with fail
    go_ret
    exact ⟨rfl, HB.out⟩
end
end Go.Proofs.Ytbglnddjhlefnaa
