/- The iterator all. -/
import Derived.Test.YtgekpnbgmbbbdaaDoorCk5
import Derived.RangeFuncNested
import Derived.RangeFuncBound
import Derived.RangeFuncCalls
import Derived.RangeFuncLeaves
import Derived.RangeFuncBox
import Derived.Shelf.Abstract
import Derived.Shelf.RegionOpen
import Derived.OwnWalkIn
import Derived.TacticsInMore
import Derived.LoopNIn
import Derived.LoopIn
import Derived.RegionIn
import Derived.Sort.QuietIn
import Derived.Stop.RegionWithIn
import Derived.Maps.AppendAt
namespace Go.Proofs.YtgekpnbgmbbbdaaDoor
open Go Go.RowKit Go.Shelf Go.Proofs.YtgekpnbgmbbbdaaDoorW.PrintWords Go.Proofs.YtgekpnbgmbbbdaaDoorW.PrintLast Go.Proofs.YtgekpnbgmbbbdaaDoorW.PrintMore
theorem wide_fn (f : FuncId) : Fence.wide.fn f = True := rfl
attribute [local go_sem] Oper.semAt_some
/-- What a round keeps: what lay below n₀, and two boxes. -/
def KB2 (n₀ b2 b3 : Nat) (A B : World) : Prop := Below n₀ A B ∧ B.heap[b2]? = A.heap[b2]? ∧ B.heap[b3]? = A.heap[b3]?
theorem KB2.refl (n₀ b2 b3 : Nat) (A : World) : KB2 n₀ b2 b3 A A := ⟨Below.refl _ _, rfl, rfl⟩
theorem KB2.drew {n₀ b2 b3 : Nat} {A : World} : KB2 n₀ b2 b3 A A.drew := ⟨pw_below_drewN (Below.refl _ _) 1, rfl, rfl⟩
theorem KB2.drewN {n₀ b2 b3 : Nat} {A : World} (k : Nat) : KB2 n₀ b2 b3 A (A.drewN k) := ⟨pw_below_drewN (Below.refl _ _) k, rfl, rfl⟩
theorem KB2.trans {n₀ b2 b3 : Nat} {A B C : World} (h : KB2 n₀ b2 b3 A B) (k : KB2 n₀ b2 b3 B C) : KB2 n₀ b2 b3 A C := ⟨h.1.trans k.1, k.2.1.trans h.2.1, k.2.2.trans h.2.2⟩
theorem KB2.cell2 {n₀ b2 b3 : Nat} {A B : World} (h : KB2 n₀ b2 b3 A B) {v : Value} (hc : A.cell? ⟨b2, 0, none⟩ = some v) : B.cell? ⟨b2, 0, none⟩ = some v := (World.cell?_of_block h.2.1).trans hc
theorem KB2.cell3 {n₀ b2 b3 : Nat} {A B : World} (h : KB2 n₀ b2 b3 A B) {v : Value} (hc : A.cell? ⟨b3, 0, none⟩ = some v) : B.cell? ⟨b3, 0, none⟩ = some v := (World.cell?_of_block h.2.2).trans hc
theorem elsTo_pre (c j k : Nat) (hj : j ≤ 64) (hk : k ≤ 64) (h : j ≤ k) : elsTo c j hj <+: elsTo c k hk := by
  obtain ⟨d, rfl⟩ := Nat.exists_eq_add_of_le h
  exact elsTo_prefix c d j hk
theorem two_ways {e : Ending} {A B : Prop} (h : (e = .returned (.bool true) ∧ A) ∨ (e = .returned (.bool false) ∧ B)) : ∃ r : Bool, e = .returned (.bool r) ∧ ((r = true ∧ A) ∨ (r = false ∧ B)) := by
  rcases h with ⟨rfl, h⟩ | ⟨rfl, h⟩
  · exact ⟨true, rfl, .inl ⟨rfl, h⟩⟩
  · exact ⟨false, rfl, .inr ⟨rfl, h⟩⟩
theorem gw_drew (w : World) : w.grownBy w.drew none := ⟨rfl, rfl, rfl, Nat.le_refl _, fun _ _ _ => rfl⟩
theorem gw_drewN (w : World) (n : Nat) : w.grownBy (w.drewN n) none := ⟨rfl, rfl, rfl, Nat.le_refl _, fun _ _ _ => rfl⟩
set_option maxHeartbeats 1000000 in
theorem cmaker (n : Nat) (t : Int) (c : Nat) (w : World) :
    CallsIn Fence.wide n Tryd.prog 36 #[.int .i64 t, .int .u64 c] w fun e w' => e = .returned (.func (.func 50) #[] #[.pointer (some ⟨w.heap.size, 0, none⟩), .pointer (some ⟨w.heap.size + 1, 0, none⟩)]) ∧ w' = (w.alloc (.cells #[.int .i64 t] 3)).alloc (.cells #[.int .u64 c] 24) := by
  refine callsIn_of_wp Tryd.func36 rfl trivial ?_ rfl
  simp only [Tryd.ntmps36, List.size_toArray, List.length_cons, List.length_nil, Nat.reduceAdd, Nat.reduceSub, Array.replicate_succ, Array.replicate_zero, List.push_toArray, List.append_toArray, List.nil_append, List.cons_append]
  gi_wp2
  go_ret
  exact ⟨rfl, rfl⟩
set_option maxRecDepth 100000 in
set_option maxHeartbeats 2000000 in
/-- all's closure: for every loop body that keeps what lay below n₀. -/
theorem citer (n : Nat) (hn : 1 ≤ n) (l b1 b2 n₀ m c : Nat) (hm : m ≤ 62) (hc : c < 2 ^ 64) (h64 : m + 2 ≤ 64) (J Jx : List (Fin 64) → World → Prop)
    (W : World) (hJ : AbidesFrom W.heap.size J)
    (hY : ∀ pre x W1, J pre W1 → pre.length < (elsTo c (m + 2) h64).length → YieldAt Fence.wide (n - 1) Tryd.prog l #[.int .i64 ((x : Fin 64).1 : Nat)] W1 fun e W' =>
      (e = .returned (.bool true) ∧ J (pre ++ [x]) W' ∧ KB2 n₀ b1 b2 W1 W') ∨ (e = .returned (.bool false) ∧ Jx (pre ++ [x]) W'))
    (hc1 : W.cell? ⟨b1, 0, none⟩ = some (.int .i64 m)) (hc2 : W.cell? ⟨b2, 0, none⟩ = some (.int .u64 c)) (h0 : J [] W) :
    CallsIn Fence.wide n Tryd.prog 50 #[.func (.yield l) #[] #[], .pointer (some ⟨b1, 0, none⟩), .pointer (some ⟨b2, 0, none⟩)] W fun e W' => (∃ v, e = .returned v) ∧
      ((∃ ys, ys = elsTo c (m + 2) h64 ∧ J ys W') ∨ (∃ pre, pre <+: elsTo c (m + 2) h64 ∧ Jx pre W')) := by
  have hm2 : (m : Int) ≤ 62 := by omega
  have HCC := Lib.hid hc
  clear hc
  refine callsIn_of_wp Tryd.func50 rfl trivial ?_ rfl
  simp only [Tryd.ntmps50, List.size_toArray, List.length_cons, List.length_nil, Nat.reduceAdd, Nat.reduceSub, Array.replicate_succ, Array.replicate_zero, List.push_toArray, List.append_toArray, List.nil_append, List.cons_append]
  gi_wp2
  gi_loopw [4, 7] (fun _ v wr => ∃ (i : Nat) (h : i ≤ 64), i ≤ m + 2 ∧ v = .int .i64 i ∧ J (elsTo c i h) wr ∧ KB2 n₀ b1 b2 W wr) (fun _ v _ => m + 2 - (intOf v).toNat)
  case atStart => exact ⟨0, by omega, Nat.zero_le _, rfl, h0, KB2.refl _ _ _ _⟩
  case round =>
    obtain ⟨i, h9, hi, rfl, hJs, hbw⟩ := hrel
    by_cases hlt : i < m + 2
    · have hi64 : (i : Int) < (m : Int) + 2 := by omega
      have k1 := hbw.cell2 hc1
      have k2 := hbw.cell3 hc2
      have hand := and_u64 c (on m i) HCC.out (on_lt hm)
      have hin0 : (((c &&& on m i : Nat) : Int) != 0) = isin c i := by
        rw [← and_on (c := c) (show i ≤ m + 1 by omega)]
        cases h : (c &&& on m i != 0) <;> simp_all
      have h91 : i + 1 ≤ 64 := by omega
      have hpre2 : elsTo c (i + 1) h91 <+: elsTo c (m + 2) h64 := elsTo_pre c (i + 1) (m + 2) h91 h64 (by omega)
      have hpl := hpre2.length_le
      have hst : elsTo c (i + 1) h91 = elsTo c i h9 ++ (if isin c i then [⟨i, by omega⟩] else []) := rfl
      cases hin : isin c i with
      | true =>
        rw [hin] at hst hin0
        simp only [if_true] at hst
        rw [hst, List.length_append, List.length_singleton] at hpl
        obtain ⟨fn, tmps, assign, body, hy, hR⟩ := hY _ ⟨i, by omega⟩ wr.drew (hJ _ _ _ none hJs (gw_drew _) (fun r e => by cases e)) (by omega)
        rw [hst] at hpre2
        rw [← hst] at hR
        have HST := Lib.hid hst
        have HPR := Lib.hid hpre2
        clear hst hin hpl hpre2 hY
        gi_wp2_with fail
        gi_region_with (first
          | (refine ⟨trivial, ?_⟩; gi_at_call 33; refine (callsIn_wide.2 (one_w m i hm _)).mono ?_; rintro e w1 ⟨rfl, rfl⟩)
          | (refine hR.mono ?_; intro e W3 hE; obtain ⟨r, rfl, hr⟩ := two_ways hE))
        all_goals
          rcases hr with ⟨rfl, hJ3, hk3⟩ | ⟨rfl, hJx3⟩
          · gi_wp2
            go_roundw
            case rel => exact ⟨i + 1, h91, by omega, by simp, hJ3, hbw.trans (KB2.trans KB2.drew hk3)⟩
            case measure => simp [intOf]; omega
          · gi_wp2
            refine bodyPost_ret (results_none rfl _ _ _) rfl ?_
            refine ⟨⟨_, rfl⟩, .inr ⟨_, ?_, hJx3⟩⟩
            rw [HST.out]
            exact HPR.out
      | false =>
        rw [hin] at hst hin0
        simp only [Bool.false_eq_true, if_false, List.append_nil] at hst
        rw [← hst] at hJs
        have HST := Lib.hid hst
        have HJ := Lib.hid hJs
        clear hst hJs hin hpl hpre2 hY
        gi_wp2_with fail
        have hwide := wide_fn
        gi_quiet (first | (gi_at_call 33; refine CallsIn.quiet_of_same (callsIn_wide.2 (one_w m i hm _))))
        gi_wp2
        go_roundw
        case rel => exact ⟨i + 1, h91, by omega, by simp, hJ _ _ _ none HJ.out (gw_drewN _ _) (fun r e => by cases e), hbw.trans (KB2.drewN _)⟩
        case measure => simp [intOf]; omega
    · obtain rfl : i = m + 2 := by omega
      have hi64 : decide (((m + 2 : Nat) : Int) < (m : Int) + 2) = false := by simp
      gi_wp2
      go_end0
      exact ⟨⟨_, rfl⟩, .inl ⟨_, rfl, hJs⟩⟩
end Go.Proofs.YtgekpnbgmbbbdaaDoor
