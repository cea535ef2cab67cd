/- The program's table in memory. -/
import Derived.Test.YtbglnddjhlefnaaTk
import Derived.ArgAppend
import Derived.Lib.SliceRun
import Derived.Deep.RegionWith
import Derived.Deep.RegionLaw
import Derived.Deep.RegionHeld3
namespace Go.Proofs.Ytbglnddjhlefnaa
open Go Go.RowKit Go.Proofs.YtbglnddjhlefnaaW.PrintWords Go.Proofs.YtbglnddjhlefnaaW.PrintLast Go.Proofs.YtbglnddjhlefnaaW.PrintMore
theorem Try.info95 : (Try.prog.info? 95).map (fun i => (i.zero, i.size, i.bytes)) = some (some (.agg #[.int .i64 0, .int .i64 0, .int .i64 0]), 3, 24) := by kernel_rfl
theorem putObj_far (w : World) (b : Nat) (o : Obj) (k : Nat) (h : k ≠ b) : (w.putObj b o).heap[k]? = w.heap[k]? := by
  simp [World.putObj, Ne.symm h]
theorem putObj_size (w : World) (b : Nat) (o : Obj) : (w.putObj b o).heap.size = w.heap.size := by simp [World.putObj]
theorem chg_putObj (w : World) (b : Nat) (o : Obj) : Chg (fun k => k = b) w (w.putObj b o) := ⟨rfl, rfl, rfl, by rw [putObj_size]; exact Nat.le_refl _, fun k _ hk => putObj_far w b o k hk⟩
theorem zero4 (w : World) : (zeroValue 4).run Try.prog w = .ok (.bool false) w := by kernel_rfl
theorem zero3 (w : World) : (zeroValue 3).run Try.prog w = .ok (.int .i64 0) w := by kernel_rfl
/-- Is a number in a row? -/
def inS (S : List Nat) (n : Int) : Bool := S.any (fun m => (m : Int) == n)
theorem inS_nat (S : List Nat) (n : Nat) : inS S (n : Int) = S.contains n := by
  unfold inS
  rw [Bool.eq_iff_iff, List.any_eq_true, List.contains_iff_mem]
  constructor
  · rintro ⟨m, hm, h⟩
    have : (m : Int) = n := by simpa using h
    have : m = n := by omega
    exact this ▸ hm
  · exact fun h => ⟨n, h, by simp⟩
/-- Block b is a set of numbers. -/
def SetAt (w : World) (b : Nat) (S : List Nat) : Prop :=
  ∃ L : List (Int × Value), MapG w b encI L ∧ (∀ p ∈ L, p.2 = .bool true) ∧ (L.map (·.1)).Nodup ∧ ∀ n : Int, n ∈ L.map (·.1) ↔ ∃ m ∈ S, (m : Int) = n
section
variable {w w' : World} {b : Nat} {S : List Nat}
theorem SetAt.step (h : SetAt w b S) (hb : w'.heap[b]? = w.heap[b]?) : SetAt w' b S := by
  obtain ⟨L, h1, h2⟩ := h
  exact ⟨L, h1.step hb, h2⟩
theorem SetAt.lt (h : SetAt w b S) : b < w.heap.size := by
  obtain ⟨L, h1, _⟩ := h
  exact h1.lt
theorem SetAt.made (w : World) : SetAt (w.alloc (.map #[] 0)) w.heap.size [] := ⟨[], MapG.made w _, by simp, by simp, by simp⟩
theorem getG_set {L : List (Int × Value)} (h2 : ∀ p ∈ L, p.2 = .bool true) (h3 : ∀ n : Int, n ∈ L.map (·.1) ↔ ∃ m ∈ S, (m : Int) = n) (k : Int) : (getG L k).getD (.bool false) = .bool (inS S k) := by
  cases hg : getG L k with
  | some v =>
    have hm := getG_mem hg
    have h4 := h2 _ hm
    simp only at h4
    subst h4
    obtain ⟨m, hm, hk⟩ := (h3 k).1 (List.mem_map.2 ⟨_, hm, rfl⟩)
    have : inS S k = true := List.any_eq_true.2 ⟨m, hm, by simp [hk]⟩
    rw [this]
    rfl
  | none =>
    have : inS S k = false := by
      rw [← Bool.not_eq_true]
      intro hin
      obtain ⟨m, hm, hk⟩ := List.any_eq_true.1 hin
      obtain ⟨p, hp, hpk⟩ := List.mem_map.1 ((h3 k).2 ⟨m, hm, by simpa using hk⟩)
      have : ∀ L : List (Int × Value), p ∈ L → getG L k ≠ none := by
        intro L
        induction L with
        | nil => intro h; cases h
        | cons q L ih =>
          intro h
          rw [getG]
          split
          · simp
          · rename_i hq
            rcases List.mem_cons.1 h with h | h
            · exact absurd (h ▸ hpk) hq
            · exact ih h
      exact this L hp hg
    rw [this]
    rfl
theorem SetAt.look {T K : TypeId} (hT : Try.prog.underlying T = some (.map K 4)) (KG : KeyG Try.prog K encI) (h : SetAt w b S) (k : Int) :
    (Instr.lookup T (.map (some b)) (.int .i64 k) false).run Try.prog w = .ok (.bool (inS S k)) w := by
  obtain ⟨L, h1, h2, _, h3⟩ := h
  have := h1.look KG hT (k := k) (zero4 w) false
  rw [← getG_set h2 h3 k]
  exact this
theorem putG_keys {L : List (Int × Value)} {k : Int} {v : Value} : (putG L k v).map (·.1) = if k ∈ L.map (·.1) then L.map (·.1) else L.map (·.1) ++ [k] := by
  induction L with
  | nil => simp [putG]
  | cons p L ih =>
    rw [putG]
    by_cases hp : p.1 = k
    · rw [if_pos hp]; simp [hp]
    · rw [if_neg hp, List.map_cons, ih, List.map_cons]
      have hk : ¬ k = p.1 := fun e => hp e.symm
      by_cases hm : k ∈ L.map (·.1)
      · rw [if_pos hm, if_pos (List.mem_cons_of_mem _ hm)]
      · rw [if_neg hm, if_neg (by rw [List.mem_cons, not_or]; exact ⟨hk, hm⟩)]
        rfl
theorem SetAt.put {T K : TypeId} (hT : Try.prog.underlying T = some (.map K 4)) (KG : KeyG Try.prog K encI) (h : SetAt w b S) (k : Nat) :
    ∃ o : Obj, ∀ d, (Instr.mapUpdate T (.map (some b)) (.int .i64 k) (.bool true)).run Try.prog (w.drewN d) = .ok () ((w.drewN d).putObj b o) ∧ SetAt ((w.drewN d).putObj b o) b (k :: S) := by
  obtain ⟨L, h1, h2, hn, h3⟩ := h
  obtain ⟨o, ho⟩ := h1.put KG hT (k : Int) (.bool true)
  refine ⟨o, fun d => ⟨(ho d).1, _, (ho d).2, fun p hp => ?_, ?_, fun n => ?_⟩⟩
  · rcases putG_mem hp with hp | hp
    · rw [hp]
    · exact h2 p hp
  · rw [putG_keys]
    split
    · exact hn
    · rename_i hk
      rw [List.nodup_append]
      exact ⟨hn, by simp, fun a ha b hb => by simp at hb; subst hb; exact fun e => hk (e ▸ ha)⟩
  · rw [putG_keys]
    have hmem : n ∈ (if (k : Int) ∈ L.map (·.1) then L.map (·.1) else L.map (·.1) ++ [(k : Int)]) ↔ n = k ∨ n ∈ L.map (·.1) := by
      split
      · rename_i hk
        exact ⟨.inr, fun h => h.elim (fun e => e ▸ hk) id⟩
      · simp [or_comm]
    rw [hmem, h3]
    simp only [List.mem_cons, exists_eq_or_imp]
    exact ⟨fun h => h.imp (fun e => e.symm) id, fun h => h.imp (fun e => e.symm) id⟩
theorem SetAt.len {T K : TypeId} (hT : Try.prog.underlying T = some (.map K 4)) (h : SetAt w b S) (hS : S.Nodup) (ty : TypeId) : (Builtin.len_ #[T] ty #[.map (some b)]).run Try.prog w = .ok (.int .i64 S.length) w := by
  obtain ⟨L, h1, h2, hn, h3⟩ := h
  have hl : L.length = S.length := by
    have hp : (L.map (·.1)).Perm (S.map (fun m : Nat => (m : Int))) := by
      refine (List.perm_ext_iff_of_nodup hn ?_).2 (fun n => ?_)
      · exact List.Pairwise.map _ (fun a b hab => by omega) hS
      · rw [h3]
        simp [List.mem_map]
    have := hp.length_eq
    simpa using this
  rw [← hl]
  exact h1.len hT ty
end
def knownL : List Nd → Nat → List (Nd × Value)
  | [], _ => []
  | n :: N, i => (n, .int .i64 i) :: knownL N (i + 1)
theorem knownL_get (n : Nd) : ∀ (N : List Nd) (i : Nat), getG (knownL N i) n = (posOf n N).map (fun j => Value.int .i64 ((j + i : Nat) : Int))
  | [], _ => rfl
  | x :: N, i => by
    rw [knownL, getG, posOf]
    by_cases hx : x = n
    · rw [if_pos hx, if_pos hx]
      simp
    · rw [if_neg hx, if_neg hx, knownL_get n N (i + 1)]
      cases posOf n N with
      | none => rfl
      | some j =>
        simp only [Option.map_some, Option.some.injEq, Value.int.injEq, true_and]
        omega
theorem knownL_snoc (n : Nd) : ∀ (N : List Nd) (i : Nat), knownL (N ++ [n]) i = knownL N i ++ [(n, .int .i64 ((i + N.length : Nat) : Int))]
  | [], i => by simp [knownL]
  | x :: N, i => by
    rw [List.cons_append, knownL, knownL, knownL_snoc n N (i + 1), List.cons_append, List.length_cons]
    rw [show i + 1 + N.length = i + (N.length + 1) by omega]
theorem knownL_put {n : Nd} {v : Value} {N : List Nd} {i : Nat} (h : posOf n N = none) : putG (knownL N i) n v = knownL N i ++ [(n, v)] := by
  refine putG_none (i := 0) ?_
  have := placeG_get n (knownL N i) 0
  rw [knownL_get, h] at this
  simpa using this
def flatN (N : List Nd) : List Value := N.flatMap (fun n => [.int .i64 n.1, .int .i64 n.2.1, .int .i64 n.2.2])
theorem flatN_snoc (N : List Nd) (n : Nd) : flatN (N ++ [n]) = flatN N ++ [.int .i64 n.1, .int .i64 n.2.1, .int .i64 n.2.2] := by simp [flatN]
theorem flatN_at : ∀ (N : List Nd) (i : Nat) (n : Nd), N[i]? = some n → (flatN N)[i * 3]? = some (.int .i64 n.1) ∧ (flatN N)[i * 3 + 1]? = some (.int .i64 n.2.1) ∧ (flatN N)[i * 3 + 2]? = some (.int .i64 n.2.2)
  | x :: N, 0, n, h => by simp at h; subst h; simp [flatN]
  | x :: N, i + 1, n, h => by
    have := flatN_at N i n (by simpa using h)
    have e : flatN (x :: N) = [.int .i64 x.1, .int .i64 x.2.1, .int .i64 x.2.2] ++ flatN N := by simp [flatN]
    rw [e, show (i + 1) * 3 = i * 3 + 3 by omega, show i * 3 + 3 + 1 = (i * 3 + 1) + 3 by omega, show i * 3 + 3 + 2 = (i * 3 + 2) + 3 by omega]
    exact this
/-- A table: its width, its limit, its nodes, what was told, what is used. -/
structure Bd where
  bits : Nat
  lim : Nat
  N : List Nd
  refs : List Nat
  used : List Nat
abbrev Bd.cells (T : Bd) (rb ub kb : Nat) (v : Value) : Array Value := #[.map (some rb), .map (some ub), .int .i64 T.bits, .int .i64 T.lim, v, .map (some kb)]
/-- The table's parts: g its block; rb, ub, kb its maps; v its row of nodes. -/
structure TabAt (g rb ub kb : Nat) (v : Value) (S : Nat → Prop) (T : Bd) (w : World) : Prop where
  sg : S g
  sr : S rb
  su : S ub
  sk : S kb
  lt : ∀ k, S k → k < w.heap.size
  ru : rb ≠ ub
  rk : rb ≠ kb
  uk : ub ≠ kb
  box : w.heap[g]? = some (.cells (T.cells rb ub kb v) 67 (0, 0))
  refs : SetAt w rb T.refs
  used : SetAt w ub T.used
  known : MapG w kb encN (knownL T.N 2)
  row : w.ownsRow 0 95 3 v T.N.length (flatN T.N)
  sn : ∀ n, v.ownBlock = some n → S n
def Tab (g : Nat) (S : Nat → Prop) (T : Bd) (w : World) : Prop := ∃ rb ub kb v, TabAt g rb ub kb v S T w
/-- What a call on a table did: what it writes has grown by new blocks alone, and nothing else has turned. -/
structure Gr (S S' : Nat → Prop) (w w' : World) : Prop where
  up : ∀ k, S k → S' k
  new : ∀ k, S' k → S k ∨ w.heap.size ≤ k
  chg : Chg S w w'
section
variable {g rb ub kb : Nat} {v : Value} {S S' S2 : Nat → Prop} {T : Bd} {w w' w2 : World}
theorem Gr.refl (S : Nat → Prop) (w : World) : Gr S S w w := ⟨fun _ h => h, fun _ h => .inl h, Chg.refl S w⟩
theorem Gr.trans (h : Gr S S' w w') (k : Gr S' S2 w' w2) : Gr S S2 w w2 :=
  ⟨fun i hi => k.up i (h.up i hi), fun i hi => (k.new i hi).elim (h.new i) (fun h2 => .inr (Nat.le_trans h.chg.size h2)), h.chg.trans k.chg h.new⟩
theorem Gr.of_below (h : Below w.heap.size w w') (S : Nat → Prop) : Gr S S w w' := ⟨fun _ h => h, fun _ h => .inl h, Chg.of_below h S⟩
theorem ownsRow_step {base : Nat} {e : TypeId} {size : Nat} {n : Nat} {xs : List Value} (h : w.ownsRow base e size v n xs) (hs : ∀ k, v.ownBlock = some k → w'.heap[k]? = w.heap[k]?) : w'.ownsRow base e size v n xs := by
  obtain ⟨h1, h2⟩ := h
  refine ⟨h1, h2.imp id ?_⟩
  rintro ⟨q, cap, cur, rfl, h3, h4, h5⟩
  exact ⟨q, cap, cur, rfl, h3, (hs q rfl).trans h4, h5⟩
theorem TabAt.step (h : TabAt g rb ub kb v S T w) (hs : w.heap.size ≤ w'.heap.size) (hb : ∀ k, S k → k < w.heap.size → w'.heap[k]? = w.heap[k]?) : TabAt g rb ub kb v S T w' := by
  have hb' : ∀ k, S k → w'.heap[k]? = w.heap[k]? := fun k hk => hb k hk (h.lt k hk)
  exact ⟨h.sg, h.sr, h.su, h.sk, fun k hk => Nat.lt_of_lt_of_le (h.lt k hk) hs, h.ru, h.rk, h.uk, (hb' g h.sg).trans h.box, h.refs.step (hb' rb h.sr), h.used.step (hb' ub h.su), h.known.step (hb' kb h.sk), ownsRow_step h.row (fun k hk => hb' k (h.sn k hk)), h.sn⟩
theorem Tab.step (h : Tab g S T w) (hs : w.heap.size ≤ w'.heap.size) (hb : ∀ k, S k → k < w.heap.size → w'.heap[k]? = w.heap[k]?) : Tab g S T w' := by
  obtain ⟨rb, ub, kb, v, h⟩ := h
  exact ⟨rb, ub, kb, v, h.step hs hb⟩
theorem Tab.below (h : Tab g S T w) (hb : Below w.heap.size w w') : Tab g S T w' := h.step hb.size (fun k _ hl => hb.block k hl)
theorem Tab.drewN (h : Tab g S T w) (n : Nat) : Tab g S T (w.drewN n) := h.step (Nat.le_refl _) (fun _ _ _ => rfl)
theorem TabAt.drewN (h : TabAt g rb ub kb v S T w) (n : Nat) : TabAt g rb ub kb v S T (w.drewN n) := h.step (Nat.le_refl _) (fun _ _ _ => rfl)
theorem TabAt.below (h : TabAt g rb ub kb v S T w) (hb : Below w.heap.size w w') : TabAt g rb ub kb v S T w' := h.step hb.size (fun k _ hl => hb.block k hl)
theorem TabAt.alloc (h : TabAt g rb ub kb v S T w) (o : Obj) : TabAt g rb ub kb v S T (w.alloc o) := h.below (below_alloc (Below.refl _ _) o)
theorem Tab.lt (h : Tab g S T w) : ∀ k, S k → k < w.heap.size := by
  obtain ⟨rb, ub, kb, v, h⟩ := h
  exact h.lt
theorem Tab.sg (h : Tab g S T w) : S g := by
  obtain ⟨rb, ub, kb, v, h⟩ := h
  exact h.sg
theorem TabAt.gne (h : TabAt g rb ub kb v S T w) : g ≠ rb ∧ g ≠ ub ∧ g ≠ kb := by
  obtain ⟨L1, m1, _⟩ := h.refs
  obtain ⟨L2, m2, _⟩ := h.used
  exact ⟨fun e => m1.no_cells _ _ _ (e ▸ h.box), fun e => m2.no_cells _ _ _ (e ▸ h.box), fun e => h.known.no_cells _ _ _ (e ▸ h.box)⟩
theorem TabAt.nne (h : TabAt g rb ub kb v S T w) : ∀ n, v.ownBlock = some n → n ≠ g ∧ n ≠ rb ∧ n ≠ ub ∧ n ≠ kb := by
  intro n hn
  have hrow := h.row.2
  obtain ⟨cur, hc⟩ : ∃ cur, w.heap[n]? = some (.cells cur 95 (0, 0)) := by
    rcases hrow with ⟨rfl, _⟩ | ⟨q, cap, cur, rfl, _, hc, _⟩
    · cases hn
    · simp [Value.ownBlock] at hn
      exact ⟨cur, hn ▸ hc⟩
  obtain ⟨L1, m1, _⟩ := h.refs
  obtain ⟨L2, m2, _⟩ := h.used
  refine ⟨fun e => ?_, fun e => m1.no_cells _ _ _ (e ▸ hc), fun e => m2.no_cells _ _ _ (e ▸ hc), fun e => h.known.no_cells _ _ _ (e ▸ hc)⟩
  have hb := h.box
  rw [← e, hc] at hb
  injection hb with hb
  injection hb with _ hb
  cases hb
/-- The node of a number, where it lies. -/
theorem TabAt.node (h : TabAt g rb ub kb v S T w) (a : Nat) (h2 : 2 ≤ a) (hv : Val T.N a) : ∃ nb cap, v = .slice (some ⟨nb, 0, none⟩) T.N.length cap ∧ S nb ∧ w.cell? ⟨nb, (a - 2) * 3, none⟩ = some (.int .i64 (ndAt T.N a).1) ∧ w.cell? ⟨nb, (a - 2) * 3 + 1, none⟩ = some (.int .i64 (ndAt T.N a).2.1) ∧ w.cell? ⟨nb, (a - 2) * 3 + 2, none⟩ = some (.int .i64 (ndAt T.N a).2.2) ∧ T.N.length ≤ cap ∧ cap ≤ 9223372036854775807 := by
  have hlen : 0 < T.N.length := by unfold Val at hv; omega
  rcases h.row.2 with ⟨_, h0⟩ | ⟨q, cap, cur, rfl, _, hc, hcap, hm, hcs, htk⟩
  · omega
  refine ⟨q, cap, rfl, h.sn q rfl, ?_, ?_, ?_, hcap, by simpa [maxLen] using hm⟩
  all_goals
    rw [cell_of_row w q _ cur 95 (0, 0) hc]
    obtain ⟨q1, q2, q3⟩ := flatN_at T.N (a - 2) _ (ndAt_some h2 hv)
    unfold Val at hv
    rw [← htk] at q1 q2 q3
    rw [List.getElem?_take, Array.getElem?_toList] at q1 q2 q3
    rw [if_pos (by omega)] at q1 q2 q3
    assumption
end
end Go.Proofs.Ytbglnddjhlefnaa
