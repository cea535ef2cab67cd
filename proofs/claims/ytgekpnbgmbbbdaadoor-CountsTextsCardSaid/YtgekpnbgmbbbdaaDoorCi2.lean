/- The walk of the program's List. -/
import Derived.Test.YtgekpnbgmbbbdaaDoorCi1
namespace Go.Proofs.YtgekpnbgmbbbdaaDoor
open Go Go.RowKit Go.Shelf Go.Proofs.YtgekpnbgmbbbdaaDoorW.PrintWords Go.Proofs.YtgekpnbgmbbbdaaDoorW.PrintLast Go.Proofs.YtgekpnbgmbbbdaaDoorW.PrintMore
attribute [local go_sem] Oper.semAt_some
theorem R_of_owns {w : World} {base : Nat} {v : Value} {xs : List Int} (h : w.ownsRow base 3 1 v xs.length (xs.map (Value.int .i64))) : (Kd.int .i64).R 3 w base (fun k => base ≤ k) v xs :=
  ⟨fun k hk => own_base h k hk, xs.map (Value.int .i64), h, Kd.reps_scalar (enc := Value.int .i64) xs⟩
/-- What holds between two rounds: the elements that have come. -/
def LsI (n₁ bo : Nat) (w1 : World) (pre : List (Fin 64)) (W : World) : Prop := ((∃ v, Boxed W bo 22 v ∧ W.ownsRow n₁ 3 1 v pre.length (pre.map (fun x => Value.int .i64 ((x.1 : Nat) : Int))) ∧ True) ∧ Below w1.heap.size w1 W) ∧ n₁ ≤ W.heap.size
theorem info_parts3 : ∃ i0, Tryd.prog.info? 3 = some i0 ∧ i0.zero = some (.int .i64 0) ∧ i0.size = 1 ∧ i0.bytes = 8 := info_parts Tryd.info3
theorem cstops (n : Nat) (hn : 1 ≤ n) (b1 b2 n₀ m c : Nat) (hm : m ≤ 62) (hc : c < 2 ^ 64) (h64 : m + 2 ≤ 64) (W0 : World) (hb1 : b1 < W0.heap.size) (hb2 : b2 < W0.heap.size)
    (hc1 : W0.cell? ⟨b1, 0, none⟩ = some (.int .i64 m)) (hc2 : W0.cell? ⟨b2, 0, none⟩ = some (.int .u64 c)) :
    SeqStopsK Fence.wide n Tryd.prog 50 #[.pointer (some ⟨b1, 0, none⟩), .pointer (some ⟨b2, 0, none⟩)] (fun x : Fin 64 => #[.int .i64 ((x.1 : Nat) : Int)]) (KB2 n₀ b1 b2) (fun ys => ys = elsTo c (m + 2) h64) (fun pre => pre <+: elsTo c (m + 2) h64) (elsTo c (m + 2) h64).length W0 := fun l J Jx W hW hJ _ hY h0 =>
  citer n hn l b1 b2 n₀ m c hm hc h64 J Jx W hJ hY ((hW.cell (p := ⟨b1, 0, none⟩) hb1).trans hc1) ((hW.cell (p := ⟨b2, 0, none⟩) hb2).trans hc2) h0
set_option maxRecDepth 100000 in
set_option maxHeartbeats 4000000 in
theorem list_in (t : Int) (c : Nat) (w : World) (hc : c < 2 ^ 64) (r : List Int × Int) (hr : r = listF t c) :
    CallsIn Fence.wide 3 Tryd.prog 13 #[.int .i64 t, .int .u64 c] w fun e w' => ∃ v, e = .returned (.tuple #[v, .int .i64 r.2]) ∧ (Kd.int .i64).R 3 w' w.heap.size (fun k => w.heap.size ≤ k) v r.1 ∧ Below w.heap.size w w' := by
  have hV : ∀ W : World, Kd.V (Kd.int .u64) 24 (W.alloc (.cells #[.int .u64 c] 24)) 0 (fun k => False ∨ k = W.heap.size) (.slice (some ⟨W.heap.size, 0, none⟩) 1 1) (u64s [c]) := fun W =>
    V_block (heap_alloc_new W _) (Reps_ints .u64 [(c : Int)] _ rfl) rfl (Nat.le_refl _) (by omega)
  have hchk := fun W : World => check_w t _ _ _ _ [c] _ (hV W) (fun x hx => by rw [List.mem_singleton] at hx; rw [hx]; exact hc) (by simp)
  have HCHK := Lib.hid hchk
  have HCC := Lib.hid hc
  clear hV hchk hc
  by_cases h0 : chkF t [c] = 0
  · have hcf : r = (elsI c (t.toNat + 2), 0) := by rw [hr]; unfold listF; rw [if_pos h0]
    obtain ⟨m, rfl, hm⟩ := bnd_nat (chk_bnd h0)
    subst hcf
    have hm2 : (m : Int) ≤ 62 := by omega
    rw [h0] at HCHK
    clear hr h0
    refine callsIn_of_wp_marks Tryd.func13 rfl trivial ?_ rfl
    simp only [Tryd.ntmps13, List.size_toArray, List.length_cons, List.length_nil, Nat.reduceAdd, Nat.reduceSub, Array.replicate_succ, Array.replicate_zero, List.push_toArray, List.append_toArray, List.nil_append, List.cons_append]
    gi_wp2_with (first
      | (refine ⟨trivial, ?_⟩; gi_at_call 21; refine (callsIn_wide.2 (HCHK.out _)).mono ?_; rintro e w1 ⟨rfl, rfl⟩)
      | (refine ⟨trivial, ?_⟩; gi_at_call 36; refine (cmaker _ _ _ _).mono ?_; rintro e w2 ⟨rfl, rfl⟩))
    have h64 : m + 2 ≤ 64 := by omega
    have hs1 : w.heap.size + 1 = (w.alloc (.cells #[.int .u64 c] 24)).heap.size := by simp
    have hB1 := below_alloc (Below.refl w.heap.size w) (.cells #[.int .u64 c] 24)
    rw [hs1]
    obtain ⟨w1, hw1⟩ : ∃ w1, w.alloc (.cells #[.int .u64 c] 24) = w1 := ⟨_, rfl⟩
    rw [hw1] at hB1 hs1 ⊢
    have bO := ((Boxed.new w1 22 (.slice none 0 0)).alloc (.cells #[.int .i64 m] 3)).alloc (.cells #[.int .u64 c] 24)
    have bP := (Boxed.new (w1.alloc (.cells #[.slice none 0 0] 22)) 3 (.int .i64 m)).alloc (.cells #[.int .u64 c] 24)
    have bF := (Boxed.new ((w1.alloc (.cells #[.slice none 0 0] 22)).alloc (.cells #[.int .i64 m] 3)) 24 (.int .u64 c))
    simp only [World.size_alloc] at bP bF
    have hB0 : Below w1.heap.size w1 (((w1.alloc (.cells #[.slice none 0 0] 22)).alloc (.cells #[.int .i64 m] 3)).alloc (.cells #[.int .u64 c] 24)) := below_alloc (below_alloc (below_alloc (Below.refl _ _) _) _) _
    have hsz : (((w1.alloc (.cells #[.slice none 0 0] 22)).alloc (.cells #[.int .i64 m] 3)).alloc (.cells #[.int .u64 c] 24)).heap.size = w1.heap.size + 3 := by simp
    obtain ⟨W0, hW0⟩ : ∃ W0, ((w1.alloc (.cells #[.slice none 0 0] 22)).alloc (.cells #[.int .i64 m] 3)).alloc (.cells #[.int .u64 c] 24) = W0 := ⟨_, rfl⟩
    rw [hW0] at bO bP bF hB0 hsz ⊢
    clear hW0 hw1
    have hlen : (elsTo c (m + 2) h64).length ≤ 100 := by have := elsTo_le c (m + 2) h64; omega
    have hstops := cstops (3 - 1) (by omega) (w1.heap.size + 1) (w1.heap.size + 1 + 1) w1.heap.size m c hm HCC.out h64 W0 (by omega) (by omega) bP.cell bF.cell
    obtain ⟨i0, hi, hz0, hz1, hz2⟩ := info_parts3
    refine wpIn_rangeFunc_ownH (F := Fence.wide) (n := 3) rfl (by omega) (gf := 50) (lb := #[.pointer (some ⟨w1.heap.size + 1, 0, none⟩), .pointer (some ⟨w1.heap.size + 1 + 1, 0, none⟩)]) rfl trivial (enters_of Tryd.func50 (by kernel_rfl) rfl)
      hstops KB2.trans (fun W l o o' hl hlo ho1 ho2 => ⟨belowK_b (w := W0) (by omega) W l o o' hl hlo ho1 ho2, World.putObj_heap_other (fun e => by omega), World.putObj_heap_other (fun e => by omega)⟩) (Below.refl _ _) (fun _ => rfl)
      (LsI W0.heap.size w1.heap.size w1)
      (fun _ _ _ => False)
      (OwnFrom.and (OwnFrom.and (Own.from (holdsRow_own W0.heap.size w1.heap.size 22 3 1 (fun (pre : List (Fin 64)) => pre.length) (fun pre => pre.map (fun x => Value.int .i64 ((x.1 : Nat) : Int))) (fun _ _ => True)) _) (ownFrom_below (Nat.le_refl _) (by omega))) (fun _ _ _ _ hs hg _ => Nat.le_trans hs hg.size))
      (fun _ _ _ _ _ hs _ _ => hs)
      ⟨⟨⟨_, bO, World.ownsRow_nil _ _ _ _, trivial⟩, hB0⟩, Nat.le_refl _⟩
      (fun x a' _ => a' = { tmps := #[.int .i64 m, .int .u64 c, undef, undef, .slice none 0 0, .int .i64 0, .int .i64 0, .pointer (some ⟨w1.heap.size, 0, none⟩), .int .i64 ((x.1 : Nat) : Int), .int .i64 m, .int .u64 c, .slice (some ⟨w.heap.size, 0, none⟩) 1 1, .int .i64 0, .int .i64 0, .bool false, undef, .int .i64 m, .int .u64 c, .func (.func 50) #[] #[.pointer (some ⟨w1.heap.size + 1, 0, none⟩), .pointer (some ⟨w1.heap.size + 1 + 1, 0, none⟩)], .int .i64 ((x.1 : Nat) : Int), undef, undef, undef, undef, undef], defers := [] })
      (fun x a' _ X Y row hs hg hr => hs)
      ?assign ?body ?done ?stop
    case assign =>
      rintro l pre x W K hI hK
      gi_wp2
      exact hK _ _ ((KeepsOthers.refl _).from _) (KB2.refl _ _ _ _) hI rfl
    case body =>
      rintro l pre x a' W hl ⟨r, hr⟩ ⟨⟨⟨v, hv, hrow, _⟩, hB⟩, hzz⟩ rfl hlt2
      have hc := hv.cell
      have hpl : pre.length ≤ 100 := by omega
      gi_wp2_with (gi_at_builtin; refine wpListIn_append_own _ rfl _ _ 22 rfl W0.heap.size 3 i0 (.int .i64 0) 1 8 Tryd.underlying22 hi hz0 hz1 hz2 rfl (by decide) _ _ _ rfl (hrow.alloc _) ⟨W.heap.size, 0, none⟩ 1 1 [.int .i64 ((x.1 : Nat) : Int)] rfl rfl (cell_one_new _ _ _) (by simp [Value.oneCell']) (by show pre.length + 1 ≤ 9223372036854775807; omega) (by omega) (by rw [World.size_alloc]; omega) ?_; intro v' w3 hown' hgrow _; obtain ⟨g', cap', rfl⟩ := ownsRow_succ hown'; have hap := hv.appended (by decide) (own_weaken hrow (by omega : w1.heap.size ≤ W0.heap.size)) hB.size (Nat.le_refl _) (own_weaken hown' (by omega : w1.heap.size ≤ W0.heap.size)) hgrow; obtain ⟨hv1, hv2, hr2, hk2, hb2⟩ := hap; have hc1 := hv1.cell; have hf1 := hv1.frozen)
      have hnr : ∀ k, k < W0.heap.size → some k ≠ v.ownBlock := fun k hk he => by have := own_base hrow k he.symm; omega
      have hblk3 : ∀ k, k < W0.heap.size → k ≠ w1.heap.size → (w3.setCell ⟨w1.heap.size, 0, none⟩ (.slice (some ⟨g', 0, none⟩) (pre.length + 1) cap')).heap[k]? = W.heap[k]? := fun k hk hne =>
        (Below.heap_setCell w3 ⟨w1.heap.size, 0, none⟩ _ k hne).trans ((hgrow.block k (by rw [World.size_alloc]; omega) (hnr k hk)).trans (Below.heap_alloc _ _ k (by omega)))
      refine ⟨hk2.from _, ⟨hb2, hblk3 _ (by omega) (by omega), hblk3 _ (by omega) (by omega)⟩, ⟨⟨_, hv2, ?_, trivial⟩, hB.trans hb2⟩, Nat.le_trans hzz hb2.size⟩
      rw [List.map_append, List.length_append]
      exact hown'.kept (grownBy_setCell' w3 w1.heap.size _) (.inr (hv1.not_row (by decide) hown').symm)
    case done =>
      rintro D ys W hD rfl ⟨⟨⟨v, hv, hrow, _⟩, hB⟩, hzz⟩ hK
      have hc := hv.cell
      gi_wp2
      refine ⟨by simp, .inl ⟨_, _, rfl, run_takeDeferred hK, ?_⟩⟩
      refine ⟨_, results_tmp2 rfl _ _ _, v, rfl, ?_, hB1.trans ((hB.trans (belowK_b (w := w1) (Nat.le_refl _) W D _ _ (by omega) hK rfl rfl)).mono (by omega))⟩
      have h9 := own_weaken (ownsRow_putObj hrow (.deferred none) hK rfl) (by omega : w.heap.size ≤ W0.heap.size)
      rw [show ((m : Int)).toNat + 2 = m + 2 from rfl, ← elsI_of c _ h64]
      refine R_of_owns ?_
      rw [List.length_map, List.map_map]
      exact h9
    case stop =>
      rintro D c pre W _ _ h _
      exact h.elim
  · have hcf : r = ([], chkF t [c]) := by rw [hr]; unfold listF; rw [if_neg h0]
    obtain ⟨z, hz⟩ : ∃ z, z = chkF t [c] := ⟨_, rfl⟩
    rw [← hz] at HCHK hcf h0
    subst hcf
    have e0 : (z == 0) = false := by simpa using h0
    clear hr h0 hz
    refine callsIn_of_wp_marks Tryd.func13 rfl trivial ?_ rfl
    simp only [Tryd.ntmps13, List.size_toArray, List.length_cons, List.length_nil, Nat.reduceAdd, Nat.reduceSub, Array.replicate_succ, Array.replicate_zero, List.push_toArray, List.append_toArray, List.nil_append, List.cons_append]
    gi_wp2_with (first
      | (refine ⟨trivial, ?_⟩; gi_at_call 21; refine (callsIn_wide.2 (HCHK.out _)).mono ?_; rintro e w1 ⟨rfl, rfl⟩))
    exact ⟨_, results_tmp2 rfl _ _ _, _, rfl, Kd.R_nil _ _ _ _ _, below_alloc (Below.refl _ _) _⟩
end Go.Proofs.YtgekpnbgmbbbdaaDoor
