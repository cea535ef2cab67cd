/- The keys of the tables' maps: whole numbers, nodes, triples. -/
import Derived.Test.YtbglnddjhlefnaaMg
import Derived.Test.YtbglnddjhlefnaaPDumpNobodyx0
import Derived.Test.YtbglnddjhlefnaaWEqStruct
namespace Go.Proofs.Ytbglnddjhlefnaa
open Go Go.RowKit Go.Proofs.YtbglnddjhlefnaaW.PrintWords
section
variable {P : Program} {K : TypeId}
theorem keyI (hK : P.underlying K = some (.int .i64)) : KeyG P K (fun a : Int => Value.int .i64 a) where
  check := fun e a w => by
    have hu := run_underlying hK w
    show (Instr.checkKey e (9999 + 1) K (.int .i64 a)).run P w = _
    unfold Instr.checkKey
    simp [go_sem, hu]
  find := by
    intro w k es L h
    have hf : ∀ (es : List MapEntry) (L : List (Int × Value)) (i : Nat), es.map (fun e => (e.key, e.val)) = L.map (fun p => (Value.int .i64 p.1, p.2)) → Instr.findNow (.int .i64) (.int .i64 k) es i = some (placeG k L i) := by
      intro es
      induction es with
      | nil => intro L i h; cases L with
        | nil => rfl
        | cons => simp at h
      | cons e es ih => intro L i h; cases L with
        | nil => simp at h
        | cons p L =>
          rw [List.map_cons, List.map_cons, List.cons.injEq, Prod.mk.injEq] at h
          have hs : Instr.sameNow (.int .i64) (.int .i64 k) e.key = some (k == p.1) := by rw [h.1.1]; simp [Instr.sameNow]
          rw [Instr.findNow, hs, placeG]
          by_cases hk : p.1 = k
          · rw [if_pos hk]
            simp [hk, h.1.2]
          · rw [if_neg hk]
            have : (k == p.1) = false := by simp; exact fun e => hk e.symm
            rw [this]
            exact ih L (i + 1) h.2
    have hu := run_underlying hK w
    have := hf es L 0 h
    simp [Instr.findKey, go_sem, hu, this]
  same := fun a => by simp [Instr.sameBits]
/-- Keys that are compared by running '=='. -/
theorem keyAsk {α : Type} [DecidableEq α] {enc : α → Value} {d : TypeDesc} (hK : P.underlying K = some d) (hd : ∀ k : Value, ∀ a : α, Instr.sameNow d k (enc a) = none)
    (hc : ∀ (e : Bool) (a : α) (w : World), (Instr.checkKey e 10000 K (enc a)).run P w = .ok () w) (hq : ∀ (a b : α) (w : World), (Op.equal K (enc a) (enc b)).run P w = .ok (decide (b = a)) w)
    (hs : ∀ a : α, Instr.sameBits 10000 (enc a) (enc a) = true) : KeyG P K enc where
  check := hc
  find := by
    intro w k es L h
    have hu := run_underlying hK w
    have hf : ∀ (es : List MapEntry) (L : List (α × Value)) (i : Nat), es.map (fun e => (e.key, e.val)) = L.map (fun p => (enc p.1, p.2)) → (Instr.findAsking K (enc k) es i).run P w = .ok (placeG k L i) w := by
      intro es
      induction es with
      | nil => intro L i h; cases L with
        | nil => rfl
        | cons => simp at h
      | cons e es ih => intro L i h; cases L with
        | nil => simp at h
        | cons p L =>
          rw [List.map_cons, List.map_cons, List.cons.injEq, Prod.mk.injEq] at h
          rw [Instr.findAsking, placeG, h.1.1]
          by_cases hk : p.1 = k
          · simp [go_sem, hq, hk, h.1.2]
          · simp [go_sem, hq, hk]
            exact ih L (i + 1) h.2
    cases es with
    | nil =>
      cases L with
      | nil => simp [Instr.findKey, go_sem, hu, Instr.findNow, placeG]
      | cons => simp at h
    | cons e es =>
      cases L with
      | nil => simp at h
      | cons p L =>
        have h0 := h
        rw [List.map_cons, List.map_cons, List.cons.injEq, Prod.mk.injEq] at h0
        have : Instr.findNow d (enc k) (e :: es) 0 = none := by rw [Instr.findNow, h0.1.1, hd]
        simp only [Instr.findKey, Sem.run_bind, hu, Result.andThen, this]
        exact hf _ _ 0 h
  same := hs
end
abbrev encI : Int → Value := fun a => .int .i64 a
abbrev encN : Nd → Value := fun n => .agg #[.int .i64 n.1, .int .i64 n.2.1, .int .i64 n.2.2]
theorem K3 : KeyG Try.prog 3 encI := keyI Try.underlying3
theorem K26 : KeyG Try.prog 26 encI := keyI Try.underlying26
theorem int_run (t : TypeId) (h : Try.prog.underlying t = some (.int .i64)) (n : Nat) (a b : Int) (w : World) : (Op.equalIn (n + 1) t (.int .i64 a) (.int .i64 b)).run Try.prog w = .ok (a == b) w := by
  have hu := run_underlying h w
  unfold Op.equalIn
  simp [go_sem, hu]
theorem part_cell (P : Program) (w : World) (t : TypeId) (a b c : Value) (hp : ∀ (xs : Array Value) (i : Nat), (part t xs i).run P w = .ok (xs.getD i undef) w) (i : Nat) : (part t #[a, b, c] i).run P w = .ok (#[a, b, c].getD i undef) w := hp _ _
theorem nd_eq (a b : Nd) : ((a.1 : Int) == (b.1 : Int) && ((a.2.1 : Int) == (b.2.1 : Int) && (a.2.2 : Int) == (b.2.2 : Int))) = decide (b = a) := by
  obtain ⟨a1, a2, a3⟩ := a
  obtain ⟨b1, b2, b3⟩ := b
  rw [Bool.eq_iff_iff]
  simp
  omega
theorem p0 (a b c : Value) (w : World) : (part 3 #[a, b, c] 0).run Try.prog w = .ok a w := by kernel_rfl
theorem p1 (a b c : Value) (w : World) : (part 3 #[a, b, c] 1).run Try.prog w = .ok b w := by kernel_rfl
theorem p2 (a b c : Value) (w : World) : (part 3 #[a, b, c] 2).run Try.prog w = .ok c w := by kernel_rfl
theorem stood95 : Try.prog.stoodInHeld 95 = false := by kernel_rfl
theorem K95 : KeyG Try.prog 95 encN := by
  refine keyAsk Try.underlying95 (fun k a => by cases k <;> rfl) (fun e a w => ?_) (fun a b w => ?_) (fun a => by simp [Instr.sameBits])
  · kernel_rfl
  · rw [← nd_eq]
    refine eqA_of Try.underlying95 stood95 ?_
    exact eqf_cons (f := _) rfl (p0 _ _ _ w) (p0 _ _ _ w) (int_run 3 Try.underlying3 _ _ _ w) (eqf_cons rfl (p1 _ _ _ w) (p1 _ _ _ w) (int_run 3 Try.underlying3 _ _ _ w) (eqf_last rfl (p2 _ _ _ w) (p2 _ _ _ w) (int_run 3 Try.underlying3 _ _ _ w)))
theorem K137 : KeyG Try.prog 137 encN := by
  refine keyAsk Try.underlying137 (fun k a => by cases k <;> rfl) (fun e a w => ?_) (fun a b w => ?_) (fun a => by simp [Instr.sameBits])
  · kernel_rfl
  · rw [← nd_eq]
    have u3 := Try.underlying3
    have a3 := Try.isAgg3
    have z3 := Try.sizeOf3
    show (Op.equalIn (9999 + 1) 137 _ _).run Try.prog w = _
    rw [Op.equalIn]
    simp only [Sem.run_bind, run_underlying Try.underlying137, Result.andThen_ok]
    simp only [Std.Legacy.Range.forIn_eq_forIn_range', Std.Legacy.Range.size, Nat.sub_zero, Nat.add_sub_cancel, Nat.div_one, List.range'_succ, List.range'_zero, List.forIn_cons, List.forIn_nil]
    go_simp
    obtain ⟨a1, a2, a3⟩ := a
    obtain ⟨b1, b2, b3⟩ := b
    by_cases h1 : (a1 : Int) = b1 <;> by_cases h2 : (a2 : Int) = b2 <;> by_cases h3 : (a3 : Int) = b3 <;> simp [h1, h2, h3]
end Go.Proofs.Ytbglnddjhlefnaa
