/- The walk of the law NetRuns, with the walk of act beside the document's net. -/
import Derived.Test.YtnognpfenefafaaRr4
import Derived.Deep.RegionLaw
import Derived.Deep.RegionHeld3
import Derived.Test.YtnognpfenefafaaNa3
import Derived.Test.YtnognpfenefafaaNo1
import Derived.Test.YtnognpfenefafaaRr9
import Derived.Test.YtnognpfenefafaaNk13
import Derived.Test.YtnognpfenefafaaBx
import Derived.Lib.SlBytesConst
import Derived.Test.YtnognpfenefafaaBx
namespace Go.Proofs.YtnognpfenefafaaW.PrintWords
open Go.RowKit
namespace Kd
/-- An empty literal, just made. -/
theorem R_new_nil {α : Type} (d : Kd α) (w : World) (e : Nat) (base H : Nat) (hH : H = w.heap.size) (hb : base ≤ H) (ok : Nat → Prop) (hok : ok H) : d.R e (w.alloc (.cells #[] e)) base ok (.slice (some ⟨H, 0, none⟩) 0 0) [] := by
  subst hH
  refine ⟨fun g hg => by simp [Value.ownBlock] at hg; rw [← hg]; exact hok, [], ?_, Reps.none _ _⟩
  have := World.ownsRow_lit (base := base) (e := e) (size := d.sz) w #[] 0 hb (by simp [maxLen]) (by simp)
  simpa using this
/-- A part of a row of the call's own, read. -/
theorem R_part {α : Type} {d : Kd α} {e base g n cap : Nat} {W : World} {ok : Nat → Prop} {xs : List α} (h : d.R e W base ok (.slice (some ⟨g, 0, none⟩) n cap) xs) (a m : Nat) (ham : a + m ≤ xs.length) (A : Option Addr) (hA : 0 < m → A = some ⟨g, a * d.sz, none⟩) :
    ReadsRow (d.M W base (fun k => ok k ∧ k ≠ g)) d.sz W A m ((xs.drop a).take m) := by
  have hn := (R_reads' h).1
  have hm9 : xs.length ≤ 9223372036854775807 := (R_reads' h).2.2.2.1
  refine ⟨by rw [List.length_take, List.length_drop]; omega, by omega, fun hp => ⟨_, hA hp, fun j p hj => ?_⟩⟩
  have hjl : j < m := by
    have := (List.getElem?_eq_some_iff.1 hj).1
    rw [List.length_take] at this
    omega
  rw [List.getElem?_take, if_pos hjl, List.getElem?_drop] at hj
  obtain ⟨c, hc1, hc2, hc3, _⟩ := R_elem h p ((a + j : Nat) : Int) (by omega) (by omega)
  rw [show (((a + j : Nat) : Int)).toNat = a + j by omega] at hc2 hc3
  have hp2 : xs.getD (a + j) p = p := by rw [List.getD_eq_getElem?_getD, hj, Option.getD_some]
  rw [hp2] at hc2
  refine ⟨c, hc1, hc2, fun i u hu => ?_⟩
  have := hc3 i u hu
  rw [add_at, ← Nat.add_assoc, ← Nat.add_mul]
  exact this
end Kd
end Go.Proofs.YtnognpfenefafaaW.PrintWords
namespace Go.Proofs.Ytnognpfenefafaa
open Go.Proofs.Ytnognpfenefafaa.PNetRuns (S39 S73 k39 k73 z39 z73)
open Go.RowKit Go.Proofs.YtnognpfenefafaaW.PrintWords Go.Proofs.YtnognpfenefafaaW.PrintLast Go.Proofs.YtnognpfenefafaaW.PrintMore
theorem res25' : Try.f25.results = #[.cell 4 39, .tmp 5, .tmp 6] := rfl
set_option maxRecDepth 100000 in
set_option maxHeartbeats 4000000 in
theorem rdeliver_no (S : Nat → Prop) (g : Nat) (dev last id : Int) (ps : List S73) (w : World) (h : Rn S g dev last ps w) (hl : ps.length ≤ 100000) (hq : fnd ps id < ps.length) :
    ∃ A5 c5, ∃ x : S73, Hid (x = ps.getD (fnd ps id) z73) ∧ Calls Try.prog 25 #[.pointer (some ⟨g, 0, none⟩), .int .i64 id] w fun e w' => e = .returned (.tuple #[.agg #[.int .i64 x.f0.f0, .int .i64 x.f0.f1, .int .i64 x.f0.f2, .int .i64 x.f0.f3, .bool x.f0.f4], .slice A5 x.f1.length c5, .int .i64 0]) ∧
      RP S g dev last (ps.eraseIdx (fnd ps id)) w w' ∧ Kd.V KB 5 w' 0 (fun k => S k ∧ k ≠ g) (.slice A5 x.f1.length c5) x.f1 := by
  have HF := Lib.hid (rfind_hit S g dev last id ps _ (h.step (w' := w.alloc (.cells #[.int .i64 0, .int .i64 0, .int .i64 0, .int .i64 0, .bool false] 39)) (by rw [World.size_alloc]; omega) (fun k hk hl => Below.heap_alloc _ _ k hl)) hl hq)
  obtain ⟨i, hi⟩ : ∃ i, i = fnd ps id := ⟨_, rfl⟩
  have hil : i < ps.length := by rw [hi]; exact hq
  rw [← hi] at HF ⊢
  have HH := Lib.hid h
  obtain ⟨hg, hlt, v, hblk0, hS0⟩ := h
  obtain ⟨gA, cap, rfl, _, hgl, _⟩ := Kd.S_form hS0 (by omega)
  obtain ⟨A5, c5, x, hz, hV0, HX⟩ := S_pk_at hS0 i hil
  refine ⟨A5, c5, x, HX, ?_⟩
  have hcap := (Kd.S_reads' hS0).2.1
  have hown := (Kd.S_R hS0).1 gA (by simp [Value.ownBlock])
  have hgg : g < w.heap.size := hlt g hg
  have HGL := Lib.hid (And.intro hg (And.intro hlt hown))
  obtain ⟨m, hm⟩ : ∃ m, m = ps.length := ⟨_, rfl⟩
  rw [← hm] at hblk0 hS0 hil hl hcap
  have HM := Lib.hid hm
  have hm64 : (m : Int) ≤ 100000 := by omega
  have hi64 : (i : Int) < (m : Int) := by omega
  have hi0 : decide ((i : Int) < 0) = false := decide_eq_false (by omega)
  have hic : (i : Int) ≤ (cap : Int) := by omega
  have hi1 : (i : Int) + 1 ≤ (m : Int) := by omega
  have hi2 : (0 : Int) ≤ (i : Int) + 1 := by omega
  have hw : IntKind.i64.wrap ((i : Int) + 1) = (i : Int) + 1 := by rw [IntKind.wrap_i64]; omega
  have hic' : i ≤ cap := by omega
  have hi1' : i + 1 ≤ m := by omega
  have e2 : ((i : Int) + 1).toNat = i + 1 := by omega
  obtain ⟨W1, hW1⟩ : ∃ W1, W1 = w.alloc (.cells #[.int .i64 0, .int .i64 0, .int .i64 0, .int .i64 0, .bool false] 39) := ⟨_, rfl⟩
  have hb1 : Below w.heap.size w W1 := by rw [hW1]; exact below_alloc' _ _
  have hs1 : W1.heap.size = w.heap.size + 1 := by rw [hW1, World.size_alloc]
  have hr1 : W1.heap[w.heap.size]? = some (.cells #[.int .i64 0, .int .i64 0, .int .i64 0, .int .i64 0, .bool false] 39 (0, 0)) := by rw [hW1]; exact heap_alloc_new w _
  obtain ⟨hz0, hz1, hz2, hz3, hz4, hz5⟩ := hz
  have hc0 := pw_cell_below hb1 hz0
  have hc1 := pw_cell_below hb1 hz1
  have hc2 := pw_cell_below hb1 hz2
  have hc3 := pw_cell_below hb1 hz3
  have hc4 := pw_cell_below hb1 hz4
  have hc5 := pw_cell_below hb1 hz5
  have hblk1 := keepB hb1 hblk0
  have d2 := blk_cell hblk1 2 (.slice (some ⟨gA, 0, none⟩) m cap) rfl
  have HW1 : Hid (w.alloc (.cells #[.int .i64 0, .int .i64 0, .int .i64 0, .int .i64 0, .bool false] 39) = W1) := hW1.symm
  rw [← hW1] at HF
  have HS0 := Lib.hid hS0
  have HV0 := Lib.hid hV0
  have HB1 := Lib.hid hb1
  have HR1 := Lib.hid hr1
  have HBK1 := Lib.hid hblk1
  have HSZ1 := Lib.hid hs1
  have HI := Lib.hid hi
  clear hS0 hV0 hb1 hr1 hblk1 hs1 hblk0 hlt hz0 hz1 hz2 hz3 hz4 hz5 hW1 hm hi hown hg hq
  go_enter Try.func25, Try.ntmps25
  go_wp2_with fail
  rw [HW1.out]
  refine HF.out.mono ?_
  clear HF
  rintro e w1 ⟨rfl, rfl⟩
  go_wp2_with fail
  have hxb := heap_alloc_new w1 (.cells #[.int .i64 x.f0.f0, .int .i64 x.f0.f1, .int .i64 x.f0.f2, .int .i64 x.f0.f3, .bool x.f0.f4, .slice A5 x.f1.length c5] 73)
  have hrb := keepB (below_alloc' w1 (.cells #[.int .i64 x.f0.f0, .int .i64 x.f0.f1, .int .i64 x.f0.f2, .int .i64 x.f0.f3, .bool x.f0.f4, .slice A5 x.f1.length c5] 73)) HR1.out
  have hgb := keepB (below_alloc' w1 (.cells #[.int .i64 x.f0.f0, .int .i64 x.f0.f1, .int .i64 x.f0.f2, .int .i64 x.f0.f3, .bool x.f0.f4, .slice A5 x.f1.length c5] 73)) HBK1.out
  have hS2 := Kd.S_alloc (Kd.S_below HS0.out HB1.out) (.cells #[.int .i64 x.f0.f0, .int .i64 x.f0.f1, .int .i64 x.f0.f2, .int .i64 x.f0.f3, .bool x.f0.f4, .slice A5 x.f1.length c5] 73)
  have hV2 := Kd.V_alloc (Kd.V_below HV0.out HB1.out) (.cells #[.int .i64 x.f0.f0, .int .i64 x.f0.f1, .int .i64 x.f0.f2, .int .i64 x.f0.f3, .bool x.f0.f4, .slice A5 x.f1.length c5] 73)
  have hB2 : Below w.heap.size w (w1.alloc (.cells #[.int .i64 x.f0.f0, .int .i64 x.f0.f1, .int .i64 x.f0.f2, .int .i64 x.f0.f3, .bool x.f0.f4, .slice A5 x.f1.length c5] 73)) := below_alloc HB1.out _
  have hs2 : (w1.alloc (.cells #[.int .i64 x.f0.f0, .int .i64 x.f0.f1, .int .i64 x.f0.f2, .int .i64 x.f0.f3, .bool x.f0.f4, .slice A5 x.f1.length c5] 73)).heap.size = w1.heap.size + 1 := by rw [World.size_alloc]
  generalize w1.alloc (.cells #[.int .i64 x.f0.f0, .int .i64 x.f0.f1, .int .i64 x.f0.f2, .int .i64 x.f0.f3, .bool x.f0.f4, .slice A5 x.f1.length c5] 73) = W2 at *
  obtain ⟨g1, hg1⟩ : ∃ g1, g1 = w.heap.size := ⟨_, rfl⟩
  obtain ⟨g2, hg2⟩ : ∃ g2, g2 = w1.heap.size := ⟨_, rfl⟩
  have hsz1 := HSZ1.out
  rw [← hg1] at hrb hgl hgg hsz1 ⊢
  rw [← hg2] at hxb hs2 hsz1 ⊢
  have HG1 := Lib.hid hg1
  have n12 : g1 ≠ g2 := by omega
  have n21 : g2 ≠ g1 := by omega
  have n10 : g1 ≠ g := by omega
  have n01 : g ≠ g1 := by omega
  have n20 : g2 ≠ g := by omega
  have n02 : g ≠ g2 := by omega
  obtain ⟨f, hT⟩ := hS2
  have HT := Lib.hid hT
  have HV2 := Lib.hid hV2
  have HB2 := Lib.hid hB2
  have HXB := Lib.hid hxb
  have HRB := Lib.hid hrb
  have HGB := Lib.hid hgb
  have HSZ2 := Lib.hid (show W2.heap.size = w.heap.size + 2 by omega)
  have e1 := blk_cell hgb 2 (.slice (some ⟨gA, 0, none⟩) m cap) rfl
  have e1a := fun o => Lib.cell?_alloc_some o e1
  have hAT : ∀ q : Nat, 0 < m - (i + 1) → q = 6 → (if cap = i + 1 then (some ⟨gA, 0, none⟩ : Option Addr) else some ⟨gA, (i + 1) * 6, none⟩) = some ⟨gA, (i + 1) * q, none⟩ := fun q h hq => by rw [if_neg (by omega), hq]
  have HAT := Lib.hid hAT
  have hlz : ps.zipIdx.length = m := by rw [List.length_zipIdx]; exact HM.out.symm
  have HLZ := Lib.hid hlz
  have hrow : ps.zipIdx.take i ++ (ps.zipIdx.drop (i + 1)).take (m - (i + 1)) = ps.zipIdx.eraseIdx i := by
    rw [List.take_of_length_le (l := ps.zipIdx.drop (i + 1)) (by rw [List.length_drop, hlz]; exact Nat.le_refl _), List.eraseIdx_eq_take_drop_succ]
  have HROW := Lib.hid hrow
  have fin : ∀ (w4 : World) (v4 : Value), w4.heap[g]? = some (.cells #[.int .i64 dev, .int .i64 last, .slice (some ⟨gA, 0, none⟩) m cap] 34 (0, 0)) → Kd.S k73 73 w4 0 (fun k => ((S k ∧ k ≠ g) ∧ k ≠ gA) ∨ W2.heap.size ≤ k) v4 (ps.eraseIdx i) → Chg (fun _ => False) W2 w4 → ∀ b0 b1 b2 b3 b4 : Value,
      RP S g dev last (ps.eraseIdx i) w ((((((w4.setCell ⟨g, 2, none⟩ v4).setCell ⟨g1, 0, none⟩ b0).setCell ⟨g1, 1, none⟩ b1).setCell ⟨g1, 2, none⟩ b2).setCell ⟨g1, 3, none⟩ b3).setCell ⟨g1, 4, none⟩ b4) ∧
      Kd.V KB 5 ((((((w4.setCell ⟨g, 2, none⟩ v4).setCell ⟨g1, 0, none⟩ b0).setCell ⟨g1, 1, none⟩ b1).setCell ⟨g1, 2, none⟩ b2).setCell ⟨g1, 3, none⟩ b3).setCell ⟨g1, 4, none⟩ b4) 0 (fun k => S k ∧ k ≠ g) (.slice A5 x.f1.length c5) x.f1 := by
    intro w4 v4 hb hs hc b0 b1 b2 b3 b4
    have hsz : (w4.setCell ⟨g, 2, none⟩ v4).heap.size = w4.heap.size := by simp [World.setCell]
    have hS := HGL.out.2.1
    have hz := HSZ2.out
    have hg9 := HG1.out
    have c6 := chg_five (w4.setCell ⟨g, 2, none⟩ v4) g1 b0 b1 b2 b3 b4
    have hT1 : ∀ k, ((S k ∨ W2.heap.size ≤ k) ∧ k < w4.heap.size) → ¬ k = g1 := fun k hk he => by
      rcases hk.1 with h | h
      · have := hS k h; omega
      · omega
    have n1 : Rn (fun k => (S k ∨ W2.heap.size ≤ k) ∧ k < w4.heap.size) g dev last (ps.eraseIdx i) (w4.setCell ⟨g, 2, none⟩ v4) := by
      refine ⟨⟨.inl HGL.out.1, blk_lt hb⟩, fun k hk => by rw [hsz]; exact hk.2, v4, by simpa using blk_set hb 2 v4, ?_⟩
      refine Kd.S_far (Kd.S_mono (Kd.S_bound hs) ?_) (fun k hk => hk.2) v4
      intro k hk
      refine ⟨⟨?_, hk.2.2.1⟩, ?_⟩
      · rcases hk.1 with h | h
        · exact .inl h.1.1
        · exact .inr h
      · rcases hk.1 with h | h
        · exact h.1.2
        · intro he; omega
    refine ⟨⟨⟨_, n1.step c6.size (c6.step hT1), fun k hk => ?_⟩, ?_⟩, ?_⟩
    · rcases hk.1 with h | h
      · exact .inl h
      · exact .inr (by omega)
    · exact (((Chg.of_below HB2.out S).trans hc (fun _ h => h.elim)).set ⟨g, 2, none⟩ v4 (.inl HGL.out.1)).trans c6 (fun k hk => .inr (by omega))
    · refine Kd.V_step (Kd.V_far (p := ⟨g, 2, none⟩) (Kd.V_mono (Kd.V_step HV2.out (fun k hk hl => hc.block k hl (fun h => h))) (fun k hk => hk.1)) (fun k hk => hk.2) v4) (c6.step (fun k hk he => by have := hS k hk.1; omega))
  have FIN := Lib.hid fin
  clear fin
  clear hxb hrb hgb hT hV2 hB2 hs2 hg1 hg2 hAT hlz hrow hsz1 hc0 hc1 hc2 hc3 hc4 hc5 d2 HS0 HV0 HB1 HR1 HBK1 HSZ1 HH HW1
  go_cut [38] (fun v wx => ∃ w4, wx = w4.setCell ⟨g, 2, none⟩ v ∧ Hid (w4.heap[g]? = some (.cells #[.int .i64 dev, .int .i64 last, .slice (some ⟨gA, 0, none⟩) m cap] 34 (0, 0))) ∧ Hid (Kd.S k73 73 w4 0 (fun k => ((S k ∧ k ≠ g) ∧ k ≠ gA) ∨ W2.heap.size ≤ k) v (ps.eraseIdx i)) ∧ Hid (Chg (fun _ => False) W2 w4))
  case first =>
    go_region_law (first
        | (refine Kd.R_append_rows_step (Kd.tag f k73) (w0 := w3) 0 (by rfl) (.tmp 30) (.tmp 37) 32 73 (.agg #[.int .i64 0, .int .i64 0, .int .i64 0, .int .i64 0, .bool false, .slice none 0 0]) 64 (by rfl) Try.underlying32 Try.info73 rfl (by show 0 < 6; omega) (by omega) v3 (ps.zipIdx.take i) ((ps.zipIdx.drop (i + 1)).take (m - (i + 1))) (if cap = i + 1 then (some ⟨gA, 0, none⟩ : Option Addr) else some ⟨gA, (i + 1) * 6, none⟩) (m - (i + 1)) (cap - (i + 1)) (fun k => ((S k ∧ k ≠ g) ∧ k ≠ gA) ∨ W2.heap.size ≤ k) (fun k => (S k ∧ k ≠ g) ∧ k ≠ gA) (by rfl) (by rfl) HR3.out ?aR (fun _ _ h => h) ?aK ?aF ?aB ?aS ?aL ?_; (case aR => exact Kd.R_part (Kd.R_step HT.out (fun k hk hlk => HC3.out.block k hlk (fun h => h))) (i + 1) (m - (i + 1)) (by rw [HLZ.out]; omega) _ (fun h => HAT.out _ h rfl)); (case aK => intro k hk; refine ⟨.inl hk, fun he => ?_⟩; have h9 := HO3.out k he.symm; have h8 := HGL.out.2.1 k hk.1.1; have := HSZ2.out; omega); (case aF => intro k hk; have := HC3.out.size; exact .inr (by omega)); (case aB => exact Below.refl _ _); (case aS => exact Nat.zero_le _); (case aL => rw [List.length_take]; omega); intro v4 w4 hr4 hb4 hg4 hat4; rw [HROW.out] at hr4; have hS4 := Kd.S_erase hr4; have hc4 := HC3.out.grown hg4 (fun k hk => .inr (HO3.out k hk)); have hk4 := (hc4.block g (by have := HSZ2.out; have := HG1.out; omega) (fun h => h)).trans HGB.out; have HK4 := Lib.hid hk4; have HS4 := Lib.hid hS4; have HC4 := Lib.hid hc4; have u2 := blk_cell hk4 2 (.slice (some ⟨gA, 0, none⟩) m cap) rfl; have v2 := blk_free hk4 2; clear hg4 hb4 hat4 hk4 hr4 hS4 hc4; obtain ⟨A4, c4, e4⟩ := Kd.S_slice HS4.out; subst e4)
        | (refine Kd.R_append_rows_step (Kd.tag f k73) (w0 := W2) 0 (by rfl) (.tmp 23) (.tmp 29) 32 73 (.agg #[.int .i64 0, .int .i64 0, .int .i64 0, .int .i64 0, .bool false, .slice none 0 0]) 64 (by rfl) Try.underlying32 Try.info73 rfl (by show 0 < 6; omega) (by omega) (.slice (some ⟨W2.heap.size, 0, none⟩) 0 0) [] ((ps.zipIdx.drop 0).take i) (some ⟨gA, 0, none⟩) i cap (fun k => ((S k ∧ k ≠ g) ∧ k ≠ gA) ∨ W2.heap.size ≤ k) (fun k => (S k ∧ k ≠ g) ∧ k ≠ gA) (by rfl) (by rfl) ?aO ?aR (fun _ _ h => h) ?aK ?aF ?aB ?aS ?aL ?_; (case aO => exact Kd.R_new_nil _ W2.drew 73 0 _ rfl (Nat.zero_le _) _ (.inr (Nat.le_refl _))); (case aR => exact Kd.R_part (Kd.R_drew (Kd.R_alloc HT.out _)) 0 i (by rw [HLZ.out]; omega) _ (fun _ => by rw [Nat.zero_mul])); (case aK => intro k hk; refine ⟨.inl hk, fun he => ?_⟩; simp [Value.ownBlock] at he; have h8 := HGL.out.2.1 k hk.1.1; have := HSZ2.out; omega); (case aF => intro k hk; simp at hk; exact .inr (by omega)); (case aB => exact below_drew (Below.alloc (Below.refl 0 W2) (Nat.zero_le _) _)); (case aS => exact Nat.zero_le _); (case aL => simp; omega); intro v3 w3 hr3 hb3 hg3 hat3; rw [List.nil_append, List.drop_zero] at hr3; have HR3 := Lib.hid hr3; have hc3 := (chg_drew ((Chg.refl (fun _ => False) W2).alloc (.cells #[] 73))).grown hg3 (fun k hk => .inr (by simp [Value.ownBlock] at hk; omega)); have HC3 := Lib.hid hc3; have ho3 : (∀ k, v3.ownBlock = some k → W2.heap.size ≤ k) := (fun k hk => by rcases hat3 with h | ⟨b, h, h2⟩; (· rw [h] at hk; simp [Value.ownBlock] at hk; omega); (· rw [h] at hk; injection hk with hk; simp at h2; omega)); have HO3 := Lib.hid ho3; have s3 := hc3.cell e1 (fun h => h); clear hr3 hb3 hg3 hat3 hc3 ho3))
    all_goals
      clear HAT
      generalize (if cap = i + 1 then (some ⟨gA, 0, none⟩ : Option Addr) else some ⟨gA, (i + 1) * 6, none⟩) = AT
      go_wp2_with fail
      go_meet
      exact ⟨w4, rfl, HK4, HS4, HC4⟩
  case rest =>
    obtain ⟨w4, rfl, HK4, HS4, HC4⟩ := hcut
    have hx4 := (HC4.out.block g2 (blk_lt HXB.out) (fun h => h)).trans HXB.out
    have hr4 := (HC4.out.block g1 (blk_lt HRB.out) (fun h => h)).trans HRB.out
    have HR4 := Lib.hid hr4
    (have mlc0 := blk_cell hx4 0 _ rfl; have mlc1 := blk_cell hx4 1 _ rfl; have mlc2 := blk_cell hx4 2 _ rfl; have mlc3 := blk_cell hx4 3 _ rfl; have mlc4 := blk_cell hx4 4 _ rfl; have mlc5 := blk_cell hx4 5 _ rfl; have mlf0 := blk_free hx4 0; have mlf1 := blk_free hx4 1; have mlf2 := blk_free hx4 2; have mlf3 := blk_free hx4 3; have mlf4 := blk_free hx4 4; have mlf5 := blk_free hx4 5; clear hx4)
    (have mlc0 := blk_cell hr4 0 _ rfl; have mlc1 := blk_cell hr4 1 _ rfl; have mlc2 := blk_cell hr4 2 _ rfl; have mlc3 := blk_cell hr4 3 _ rfl; have mlc4 := blk_cell hr4 4 _ rfl; have mlf0 := blk_free hr4 0; have mlf1 := blk_free hr4 1; have mlf2 := blk_free hr4 2; have mlf3 := blk_free hr4 3; have mlf4 := blk_free hr4 4; clear hr4)
    clear HAT
    go_wp2_with fail
    go_region
    all_goals
      go_wp2_with fail
      refine bodyPost_ret_by (results_ctt res25' (g := g1) (V := .agg #[.int .i64 x.f0.f0, .int .i64 x.f0.f1, .int .i64 x.f0.f2, .int .i64 x.f0.f3, .bool x.f0.f4]) rfl ?_) rfl ⟨rfl, ?_⟩
      · refine load39 (t := 39) (fr := (0, 0)) ?_ rfl
        simp only [heap_drew]
        exact blk_five ((Below.heap_setCell _ _ _ _ n10).trans HR4.out) _ _ _ _ _
      · have h9 := FIN.out _ _ HK4.out HS4.out HC4.out (.int .i64 x.f0.f0) (.int .i64 x.f0.f1) (.int .i64 x.f0.f2) (.int .i64 x.f0.f3) (.bool x.f0.f4)
        exact ⟨h9.1.drew, Kd.V_drew h9.2⟩
end Go.Proofs.Ytnognpfenefafaa
namespace Go.Proofs.Ytnognpfenefafaa
open Go.Proofs.Ytnognpfenefafaa.PNetRuns (S39 S73 k39 k73 z39 z73)
open Go.RowKit Go.Proofs.YtnognpfenefafaaW.PrintWords Go.Proofs.YtnognpfenefafaaW.PrintLast Go.Proofs.YtnognpfenefafaaW.PrintMore
set_option maxRecDepth 100000 in
set_option maxHeartbeats 2000000 in
theorem act3x (p q : Value) (fr to_ id at_ bits : Int) (v : Value) (w : World) (x y : S39) (A : Option Addr) (n c m : Nat) (xs ys : List Int) (e f : Int) (C : Prop) (hC : C → x = y ∧ xs = ys ∧ e = f) (R1 R2 : World → Prop)
    (h1 : Calls Try.prog 10 #[p, .int .i64 id] (w.alloc (.cells (opc 3 fr to_ id at_ bits v) 36)) fun en w1 => en = .returned (.tuple #[.agg (dgc x), .slice A n c, .int .i64 e]) ∧ w1.heap[w.heap.size]? = some (.cells (opc 3 fr to_ id at_ bits v) 36 (0, 0)) ∧ R1 w1)
    (h2 : ∀ w1, R1 w1 → ∃ (B : Option Addr) (d : Nat), Calls Try.prog 25 #[q, .int .i64 id] (w1.alloc (.cells (dgc x) 39)) fun en w2 => en = .returned (.tuple #[.agg (dgc y), .slice B m d, .int .i64 f]) ∧ w2.heap[w1.heap.size]? = some (.cells (dgc x) 39 (0, 0)) ∧ KB.C w2 A n xs ∧ KB.C w2 B m ys ∧ R2 w2) :
    Calls Try.prog 9 #[p, q, .agg (opc 3 fr to_ id at_ bits v)] w fun en w' => AR en C ∧ ∃ w2, R2 w2 ∧ Below w2.heap.size w2 w' := by
  unfold opc dgc at *
  have H1 := Lib.hid h1
  have H2 := Lib.hid h2
  have HC := Lib.hid hC
  clear h1 h2 hC
  go_enter Try.func9, Try.ntmps9
  go_wp2_with fail
  refine H1.out.mono ?_
  clear H1
  rintro en w1 ⟨rfl, hb, hR⟩
  have c3 := blk_cell hb 3 (.int .i64 id) rfl
  have c3' := fun o => Lib.cell?_alloc_some o c3
  have HR := Lib.hid hR
  clear hR hb
  go_wp2_with fail
  obtain ⟨B, d, h2⟩ := H2.out w1 HR.out
  refine h2.mono ?_
  clear H2 HR h2
  rintro en w2 ⟨rfl, hb, hc1, hc2, hR⟩
  have HR := Lib.hid hR
  have HC1 := Lib.hid hc1
  have HC2 := Lib.hid hc2
  have a0 := fun o => Lib.cell?_alloc_some o (blk_cell hb 0 (.int .i64 x.f0) rfl)
  have a1 := fun o => Lib.cell?_alloc_some o (blk_cell hb 1 (.int .i64 x.f1) rfl)
  have a2 := fun o => Lib.cell?_alloc_some o (blk_cell hb 2 (.int .i64 x.f2) rfl)
  have a3 := fun o => Lib.cell?_alloc_some o (blk_cell hb 3 (.int .i64 x.f3) rfl)
  have a4 := fun o => Lib.cell?_alloc_some o (blk_cell hb 4 (.bool x.f4) rfl)
  have hcv1 := fun o => Kd.C_string (P := Try.prog) (A := A) (c := c) Try.underlying23 Try.underlying5 Try.underlying9 (Kd.C_alloc hc1 o)
  have hcv2 := fun o => Kd.C_string (P := Try.prog) (A := B) (c := d) Try.underlying23 Try.underlying5 Try.underlying9 (Kd.C_alloc hc2 o)
  clear hR hc1 hc2 hb
  go_wp2_with fail
  all_goals
    go_ret
    refine ⟨⟨_, rfl, fun h => ?_⟩, _, HR.out, below_alloc (Below.refl _ _) _⟩
    obtain ⟨rfl, rfl, rfl⟩ := HC.out h
    first | rfl | (simp; done) | contradiction | (exfalso; simp_all; done)
end Go.Proofs.Ytnognpfenefafaa
namespace Go.Proofs.Ytnognpfenefafaa
open Go.Proofs.Ytnognpfenefafaa.PNetRuns (S39 S73 k39 k73 z39 z73)
open Go.RowKit Go.Proofs.YtnognpfenefafaaW.PrintWords Go.Proofs.YtnognpfenefafaaW.PrintLast Go.Proofs.YtnognpfenefafaaW.PrintMore
/-- An act. -/
abbrev TOp := Int × Int × Int × Int × Int × Int × List Int
abbrev kop : Kd TOp := Kd.pair (Kd.int .i64) (Kd.pair (Kd.int .i64) (Kd.pair (Kd.int .i64) (Kd.pair (Kd.int .i64) (Kd.pair (Kd.int .i64) (Kd.pair (Kd.int .u8) (Kd.slice 5 (Kd.int .u8)))))))
def zop : TOp := (0, 0, 0, 0, 0, 0, [])
theorem kop_open {w : World} {x : TOp} {cs : List Value} (h : kop.K w x cs) : ∃ A6 c6, cs = [.int .i64 x.1, .int .i64 x.2.1, .int .i64 x.2.2.1, .int .i64 x.2.2.2.1, .int .i64 x.2.2.2.2.1, .int .u8 x.2.2.2.2.2.1, .slice A6 x.2.2.2.2.2.2.length c6] ∧ x.2.2.2.2.2.2.length ≤ c6 ∧ KB.C w A6 x.2.2.2.2.2.2.length x.2.2.2.2.2.2 := by
  obtain ⟨_, _, rfl, rfl, ⟨_, _, rfl, rfl, ⟨_, _, rfl, rfl, ⟨_, _, rfl, rfl, ⟨_, _, rfl, rfl, ⟨_, _, rfl, rfl, ⟨A6, c6, rfl, l6, g6⟩⟩⟩⟩⟩⟩⟩ := h
  exact ⟨A6, c6, rfl, l6, g6⟩
theorem V_op_at {w : World} {t b : Nat} {ok : Nat → Prop} {A : Option Addr} {n c : Nat} {ops : List TOp} (h : Kd.V kop t w b ok (.slice A n c) ops) (i : Nat) (hi : i < ops.length) :
    ∃ ad k fr to_ id at_ bits A6 c6 bs, A = some ad ∧ w.cell? (ad.add (i * 7)) = some (.int .i64 k) ∧ w.cell? ⟨(ad.add (i * 7)).block, (ad.add (i * 7)).off + 1, none⟩ = some (.int .i64 fr) ∧ w.cell? ⟨(ad.add (i * 7)).block, (ad.add (i * 7)).off + 2, none⟩ = some (.int .i64 to_) ∧
      w.cell? ⟨(ad.add (i * 7)).block, (ad.add (i * 7)).off + 3, none⟩ = some (.int .i64 id) ∧ w.cell? ⟨(ad.add (i * 7)).block, (ad.add (i * 7)).off + 4, none⟩ = some (.int .i64 at_) ∧ w.cell? ⟨(ad.add (i * 7)).block, (ad.add (i * 7)).off + 5, none⟩ = some (.int .u8 bits) ∧
      w.cell? ⟨(ad.add (i * 7)).block, (ad.add (i * 7)).off + 6, none⟩ = some (.slice A6 bs.length c6) ∧ Kd.V KB 5 w b ok (.slice A6 bs.length c6) bs ∧ Hid ((k, fr, to_, id, at_, bits, bs) = ops.getD i zop) := by
  obtain ⟨hn, hl, hF⟩ := Kd.V_at h
  obtain ⟨ad, cs, e, hs, hr, hcell, _⟩ := Kd.F_get hF zop (i : Int) (by omega) (by omega)
  rw [show ((i : Int)).toNat = i by omega] at hr hcell
  obtain ⟨x, hx⟩ : ∃ x, x = ops.getD i zop := ⟨_, rfl⟩
  rw [← hx] at hr
  obtain ⟨k, fr, to_, id, at_, bits, bs⟩ := x
  obtain ⟨A6, c6, rfl, _, _⟩ := kop_open (Kd.FK_now hr)
  have hc : ∀ j u, [Value.int .i64 k, .int .i64 fr, .int .i64 to_, .int .i64 id, .int .i64 at_, .int .u8 bits, .slice A6 bs.length c6][j]? = some u → w.cell? (ad.add (i * 7 + j)) = some u := hcell
  refine ⟨ad, k, fr, to_, id, at_, bits, A6, c6, bs, e, hc 0 _ rfl, by rw [← add_field _ _ 1 (by omega)]; exact hc 1 _ rfl, by rw [← add_field _ _ 2 (by omega)]; exact hc 2 _ rfl, by rw [← add_field _ _ 3 (by omega)]; exact hc 3 _ rfl, by rw [← add_field _ _ 4 (by omega)]; exact hc 4 _ rfl, by rw [← add_field _ _ 5 (by omega)]; exact hc 5 _ rfl, by rw [← add_field _ _ 6 (by omega)]; exact hc 6 _ rfl, ?_, hx⟩
  refine V_of_FK (fun W' hW => ?_)
  obtain ⟨A7, c7, he, h1, h2⟩ := kop_open (hr W' hW)
  simp only [List.cons.injEq] at he
  obtain ⟨_, _, _, _, _, _, he, _⟩ := he
  injection he with e1 _ e2
  subst e1; subst e2
  exact ⟨A6, c6, rfl, h1, h2⟩
/-- Those with the number 1. -/
def one1 (ps : List S73) : List S73 := ps.filter (fun p => p.f0.f0 == 1)
theorem split_at {ps : List S73} {i : Nat} (hi : i < ps.length) : ps = ps.take i ++ ps.getD i z73 :: ps.drop (i + 1) := by
  rw [List.getD_eq_getElem?_getD, List.getElem?_eq_getElem hi, Option.getD_some, List.getElem_cons_drop, List.take_append_drop]
theorem one1_erase {ps : List S73} {id : Int} (h : id ≠ 1) : one1 (ps.eraseIdx (fnd ps id)) = one1 ps := by
  by_cases hq : fnd ps id < ps.length
  · have h2 := fnd_id hq
    have h3 := split_at hq
    unfold one1
    rw [List.eraseIdx_eq_take_drop_succ]
    conv => rhs; rw [h3]
    rw [List.filter_append, List.filter_append, List.filter_cons_of_neg (by rw [h2]; simpa using h)]
  · rw [List.eraseIdx_of_length_le (by omega)]
theorem one1_set {ps : List S73} {id : Int} (h : id ≠ 1) (x : S73) (hx : x.f0.f0 = (ps.getD (fnd ps id) z73).f0.f0) : one1 (ps.set (fnd ps id) x) = one1 ps := by
  by_cases hq : fnd ps id < ps.length
  · have h2 := fnd_id hq
    have h3 := split_at hq
    unfold one1
    rw [List.set_eq_take_append_cons_drop, if_pos hq]
    conv => rhs; rw [h3]
    rw [List.filter_append, List.filter_append, List.filter_cons_of_neg (a := x) (by rw [hx, h2]; simpa using h), List.filter_cons_of_neg (a := ps.getD (fnd ps id) z73) (by rw [h2]; simpa using h)]
  · rw [List.set_eq_of_length_le (by omega)]
/-- What the law keeps: one datagram has the number 1, and its bytes are b. -/
structure Inv1 (b : List Int) (j : Nat) (last : Int) (ps : List S73) : Prop where
  len : ps.length ≤ j + 1
  lo : 1 ≤ last
  hi : last ≤ j + 1
  good : ∀ p ∈ ps, p.f1.length ≤ 65536
  one : ∃ x, one1 ps = [x] ∧ x.f1 = b
theorem Inv1.append {b : List Int} {j : Nat} {last : Int} {ps : List S73} (h : Inv1 b j last ps) (x : S73) (h1 : x.f0.f0 = last + 1) (h2 : x.f1.length ≤ 65536) : Inv1 b (j + 1) (last + 1) (ps ++ [x]) := by
  refine ⟨by have := h.len; simp; omega, by have := h.lo; omega, by have := h.hi; omega, fun p hp => ?_, ?_⟩
  · rcases List.mem_append.1 hp with hp | hp
    · exact h.good p hp
    · rw [List.mem_singleton] at hp; rw [hp]; exact h2
  · have hlo := h.lo
    have : one1 (ps ++ [x]) = one1 ps := by
      unfold one1
      rw [List.filter_append, List.filter_cons_of_neg (by rw [h1]; simp; omega), List.filter_nil, List.append_nil]
    rw [this]
    exact h.one
theorem Inv1.next {b : List Int} {j : Nat} {last : Int} {ps : List S73} (h : Inv1 b j last ps) : Inv1 b (j + 1) last ps := ⟨by have := h.len; omega, h.lo, by have := h.hi; omega, h.good, h.one⟩
theorem Inv1.enter {b : List Int} {j : Nat} {last : Int} {ps : List S73} (h : Inv1 b j last ps) (dev fr to_ : Int) (fo : Bool) (bs : List Int) : Inv1 b (j + 1) (enterF dev last ps fr to_ fo bs).last (enterF dev last ps fr to_ fo bs).ps := by
  unfold enterF
  split
  · split
    · exact h.append _ rfl (by assumption)
    · exact h.next
  · exact h.next
theorem Inv1.erase {b : List Int} {j : Nat} {last : Int} {ps : List S73} (h : Inv1 b j last ps) {id : Int} (hid : id ≠ 1) : Inv1 b (j + 1) last (ps.eraseIdx (fnd ps id)) :=
  ⟨by have := h.len; have := List.length_eraseIdx_le ps (fnd ps id); omega, h.lo, by have := h.hi; omega, fun p hp => h.good p (List.mem_of_mem_eraseIdx hp), by rw [one1_erase hid]; exact h.one⟩
theorem Inv1.set {b : List Int} {j : Nat} {last : Int} {ps : List S73} (h : Inv1 b j last ps) {id : Int} (hid : id ≠ 1) (x : S73) (hx : x.f0.f0 = (ps.getD (fnd ps id) z73).f0.f0) (hl : x.f1.length ≤ 65536) : Inv1 b (j + 1) last (ps.set (fnd ps id) x) :=
  ⟨by have := h.len; rw [List.length_set]; omega, h.lo, by have := h.hi; omega, fun p hp => by
    rcases List.mem_or_eq_of_mem_set hp with hp | rfl
    · exact h.good p hp
    · exact hl, by rw [one1_set hid x hx]; exact h.one⟩
theorem getD_mem {ps : List S73} {i : Nat} (hi : i < ps.length) : ps.getD i z73 ∈ ps := by
  rw [List.getD_eq_getElem?_getD, List.getElem?_eq_getElem hi, Option.getD_some]
  exact List.getElem_mem hi
theorem Inv1.step {b : List Int} {j : Nat} {last : Int} {ps : List S73} (h : Inv1 b j last ps) (dev k fr to_ id at_ bits : Int) (bs : List Int) (hg : k ≤ 2 ∨ k = 5 ∨ (id ≠ 1 ∧ k < 7)) :
    Inv1 b (j + 1) (stepF dev last ps k fr to_ id at_ bits bs).1 (stepF dev last ps k fr to_ id at_ bits bs).2 := by
  unfold stepF
  split
  · exact h.enter ..
  split
  · exact h.enter ..
  split
  · exact h.erase (by omega)
  split
  · split
    · rename_i hq
      exact h.append _ rfl (show (ps.getD (fnd ps id) z73).f1.length ≤ _ from h.good _ (getD_mem hq))
    · exact h.next
  split
  · split
    · rename_i hq
      exact h.set (by omega) _ rfl (by show (List.set _ _ _).length ≤ _; rw [List.length_set]; exact h.good _ (getD_mem hq.1))
    · exact h.next
  split
  · omega
  · exact h.next
theorem Inv1.found {b : List Int} {j : Nat} {last : Int} {ps : List S73} (h : Inv1 b j last ps) : fnd ps 1 < ps.length ∧ (ps.getD (fnd ps 1) z73).f1 = b ∧ ¬ fnd (ps.eraseIdx (fnd ps 1)) 1 < (ps.eraseIdx (fnd ps 1)).length := by
  obtain ⟨x, h1, h2⟩ := h.one
  have hx : x ∈ one1 ps := by rw [h1]; exact List.mem_singleton.2 rfl
  unfold one1 at hx
  rw [List.mem_filter] at hx
  have hq : fnd ps 1 < ps.length := List.findIdx_lt_length_of_exists ⟨x, hx.1, hx.2⟩
  have hid := fnd_id hq
  have h3 := split_at hq
  have h4 : one1 ps = one1 (ps.take (fnd ps 1)) ++ ps.getD (fnd ps 1) z73 :: one1 (ps.drop (fnd ps 1 + 1)) := by
    unfold one1
    conv => lhs; rw [h3]
    rw [List.filter_append, List.filter_cons_of_pos (by rw [hid]; simp)]
  rw [h1] at h4
  have h5 : one1 (ps.take (fnd ps 1)) = [] ∧ x = ps.getD (fnd ps 1) z73 ∧ one1 (ps.drop (fnd ps 1 + 1)) = [] := by
    cases hA : one1 (ps.take (fnd ps 1)) with
    | nil => rw [hA] at h4; simp only [List.nil_append, List.cons.injEq] at h4; exact ⟨rfl, h4.1, h4.2.symm⟩
    | cons a r => rw [hA] at h4; simp at h4
  refine ⟨hq, by rw [← h5.2.1]; exact h2, fun h6 => ?_⟩
  have h7 := getD_mem h6
  have h8 := fnd_id h6
  rw [List.eraseIdx_eq_take_drop_succ] at h7
  have h9 : one1 (ps.take (fnd ps 1) ++ ps.drop (fnd ps 1 + 1)) = [] := by
    unfold one1 at h5 ⊢
    rw [List.filter_append, h5.1, h5.2.2, List.append_nil]
  have h10 : (List.getD (ps.eraseIdx (fnd ps 1)) (fnd (ps.eraseIdx (fnd ps 1)) 1) z73) ∈ one1 (ps.take (fnd ps 1) ++ ps.drop (fnd ps 1 + 1)) := by
    unfold one1
    rw [List.mem_filter]
    refine ⟨?_, by rw [h8]; simp⟩
    rw [List.eraseIdx_eq_take_drop_succ]
    exact h7
  rw [h9] at h10
  exact absurd h10 List.not_mem_nil
theorem Inv1.start (b : List Int) (hb : b.length ≤ 65536) : Inv1 b 0 1 [⟨⟨1, 0, 0, b.length, false⟩, b⟩] :=
  ⟨by simp, by omega, by omega, fun p hp => by rw [List.mem_singleton] at hp; rw [hp]; exact hb, ⟨_, rfl, rfl⟩⟩
end Go.Proofs.Ytnognpfenefafaa
namespace Go.Proofs.Ytnognpfenefafaa
open Go.Proofs.Ytnognpfenefafaa.PNetRuns (S39 S73 k39 k73 z39 z73)
open Go.RowKit Go.Proofs.YtnognpfenefafaaW.PrintWords Go.Proofs.YtnognpfenefafaaW.PrintLast Go.Proofs.YtnognpfenefafaaW.PrintMore
section
variable {S SR : Nat → Prop} {g gR : Nat} {dev last devR lastR : Int} {ps psR : List S73} {w w1 w2 : World}
theorem RP.start {o : Obj} (h : RP S g dev last ps (w.alloc o) w1) : RP S g dev last ps w w1 := by
  obtain ⟨⟨S', h1, h2⟩, h3⟩ := h
  refine ⟨⟨S', h1, fun k hk => (h2 k hk).imp id (fun h => by rw [World.size_alloc] at h; omega)⟩, ((Chg.refl S w).alloc o).trans h3 (fun k hk => .inl hk)⟩
theorem RP.below (h : RP S g dev last ps w w1) (hb : Below w1.heap.size w1 w2) : RP S g dev last ps w w2 := by
  obtain ⟨⟨S', h1, h2⟩, h3⟩ := h
  exact ⟨⟨S', h1.step hb.size (fun _ _ hl => hb.block _ hl), h2⟩, h3.then_below hb⟩
theorem RP.no (h : RP SR gR devR lastR psR w w1) (hr : No S g dev last ps w) (hd : ∀ k, SR k → ¬ S k) : No S g dev last ps w1 := hr.step h.2.size (h.2.step (fun k hk hs => hd k hs hk))
theorem RP.box {o : Obj} (h : RP S g dev last ps (w.alloc o) w1) (hS : ∀ k, S k → k < w.heap.size) : w1.heap[w.heap.size]? = (w.alloc o).heap[w.heap.size]? :=
  h.2.block w.heap.size (by rw [World.size_alloc]; omega) (fun hs => by have := hS _ hs; omega)
end
/-- Both nets behind a call, in the same state, apart. -/
def Both (S SR : Nat → Prop) (g gR : Nat) (dev last : Int) (ps : List S73) (w w' : World) : Prop :=
  ∃ S' SR' : Nat → Prop, No S' g dev last ps w' ∧ Rn SR' gR dev last ps w' ∧ (∀ k, S' k → S k ∨ w.heap.size ≤ k) ∧ (∀ k, SR' k → SR k ∨ w.heap.size ≤ k) ∧ (∀ k, SR' k → ¬ S' k) ∧ Chg (fun k => S k ∨ SR k) w w'
section
variable {S SR : Nat → Prop} {g gR : Nat} {dev last : Int} {ps : List S73} {w w1 w2 : World}
theorem both_nr (h : NP S g dev last ps w w1) (k : RP SR gR dev last ps w1 w2) (_hS : ∀ k, S k → k < w.heap.size) (hSR : ∀ k, SR k → k < w.heap.size) (hd : ∀ k, SR k → ¬ S k) : Both S SR g gR dev last ps w w2 := by
  obtain ⟨⟨S', h1, h2⟩, h3⟩ := h
  obtain ⟨⟨SR', k1, k2⟩, k3⟩ := k
  have hsz := h3.size
  have hd2 : ∀ j, S' j → ¬ SR j := fun j hj hs => by
    rcases h2 j hj with h | h
    · exact hd j hs h
    · have := hSR j hs; omega
  refine ⟨S', SR', h1.step k3.size (k3.step hd2), k1, h2, fun j hj => (k2 j hj).imp id (fun h => by omega), fun j hj hs => ?_, (h3.mono (fun _ h => .inl h)).trans k3 (fun j hj => .inl (.inr hj))⟩
  rcases k2 j hj with h | h
  · exact hd2 j hs h
  · have := h1.2.1 j hs; omega
theorem both_rn (k : RP SR gR dev last ps w w1) (h : NP S g dev last ps w1 w2) (hS : ∀ k, S k → k < w.heap.size) (_hSR : ∀ k, SR k → k < w.heap.size) (hd : ∀ k, SR k → ¬ S k) : Both S SR g gR dev last ps w w2 := by
  obtain ⟨⟨S', h1, h2⟩, h3⟩ := h
  obtain ⟨⟨SR', k1, k2⟩, k3⟩ := k
  have hsz := k3.size
  have hd2 : ∀ j, SR' j → ¬ S j := fun j hj hs => by
    rcases k2 j hj with h | h
    · exact hd j h hs
    · have := hS j hs; omega
  refine ⟨S', SR', h1, k1.step h3.size (h3.step hd2), fun j hj => (h2 j hj).imp id (fun h => by omega), k2, fun j hj hs => ?_, (k3.mono (fun _ h => .inr h)).trans h3 (fun j hj => .inl (.inl hj))⟩
  rcases h2 j hs with h | h
  · exact hd2 j hj h
  · have := k1.2.1 j hj; omega
theorem Both.below (h : Both S SR g gR dev last ps w w1) (hb : Below w1.heap.size w1 w2) : Both S SR g gR dev last ps w w2 := by
  obtain ⟨S', SR', h1, h2, h3, h4, h5, h6⟩ := h
  exact ⟨S', SR', h1.step hb.size (fun _ _ hl => hb.block _ hl), h2.step hb.size (fun _ _ hl => hb.block _ hl), h3, h4, h5, h6.then_below hb⟩
end
theorem AR.yes {en : Ending} (h : AR en True) : en = .returned (.bool true) := by
  obtain ⟨r, rfl, h⟩ := h
  rw [h trivial]
theorem act_runs (S SR okp : Nat → Prop) (g gR : Nat) (dev last : Int) (ps : List S73) (w : World) (k fr to_ id at_ bits : Int) (A : Option Addr) (n c : Nat) (bs : List Int) (h : No S g dev last ps w) (hr : Rn SR gR dev last ps w) (hdis : ∀ k, SR k → ¬ S k)
    (hd : 0 < dev) (hV : Kd.V KB 5 w 0 okp (.slice A n c) bs) (hok : ∀ k, okp k → ¬ S k ∧ ¬ SR k) (hgood : ∀ p ∈ ps, p.f1.length ≤ 65536) (hps : ps.length < 16384) (h0 : 0 ≤ last) (h1 : last ≤ 4611686018427387904) :
    Calls Try.prog 9 #[.pointer (some ⟨g, 0, none⟩), .pointer (some ⟨gR, 0, none⟩), .agg (opc k fr to_ id at_ bits (.slice A n c))] w fun en w' => en = .returned (.bool true) ∧ Both S SR g gR dev (stepF dev last ps k fr to_ id at_ bits bs).1 (stepF dev last ps k fr to_ id at_ bits bs).2 w w' := by
  have hS := h.2.1
  have hSR := hr.2.1
  have hg : S g := h.1
  have hgR : SR gR := hr.1
  have hb0 := below_alloc' w (.cells (opc k fr to_ id at_ bits (.slice A n c)) 36)
  have hbox := heap_alloc_new w (.cells (opc k fr to_ id at_ bits (.slice A n c)) 36)
  have hN := h.step (w' := w.alloc (.cells (opc k fr to_ id at_ bits (.slice A n c)) 36)) hb0.size (fun k _ hl => hb0.block k hl)
  have hR := hr.step (w' := w.alloc (.cells (opc k fr to_ id at_ bits (.slice A n c)) 36)) hb0.size (fun k _ hl => hb0.block k hl)
  have hV' := Kd.V_below hV hb0
  have hokg : ∀ k, okp k → k ≠ g := fun k hk he => (hok k hk).1 (he ▸ hg)
  have hokr : ∀ k, okp k → k ≠ gR := fun k hk he => (hok k hk).2 (he ▸ hgR)
  have hx : fnd ps id < ps.length → (ps.getD (fnd ps id) z73).f1.length ≤ 65536 := fun hq => hgood _ (getD_mem hq)
  rcases (show (k < 1 ∨ 7 < k) ∨ k = 1 ∨ k = 2 ∨ k = 3 ∨ k = 4 ∨ k = 5 ∨ k = 6 ∨ k = 7 by omega) with hk0 | rfl | rfl | rfl | rfl | rfl | rfl | rfl
  · refine (opc_none _ _ k fr to_ id at_ bits _ w hk0).mono ?_
    rintro en w' ⟨rfl, rfl⟩
    refine ⟨rfl, ?_⟩
    unfold stepF
    rw [if_neg (by omega), if_neg (by omega), if_neg (by omega), if_neg (by omega), if_neg (by omega), if_neg (by omega)]
    exact both_nr (NP.same h (Below.refl _ _)) (RP.same hr hb0) hS hSR hdis
  · refine (act1 _ _ fr to_ id at_ bits _ w (enterF dev last ps fr to_ false bs).a (enterF dev last ps fr to_ false bs).a (enterF dev last ps fr to_ false bs).ok (enterF dev last ps fr to_ false bs).ok (enterF dev last ps fr to_ false bs).e (enterF dev last ps fr to_ false bs).e True (fun _ => ⟨rfl, rfl, rfl⟩) (fun w1 => NP S g dev (stepF dev last ps 1 fr to_ id at_ bits bs).1 (stepF dev last ps 1 fr to_ id at_ bits bs).2 w w1) (fun w1 => Both S SR g gR dev (stepF dev last ps 1 fr to_ id at_ bits bs).1 (stepF dev last ps 1 fr to_ id at_ bits bs).2 w w1) ((send_any S okp g dev last ps _ fr to_ A n c bs hN hd hV' hokg hps h0 h1 _ rfl).mono ?_) (fun w1 hw1 => (rsend_any SR okp gR dev last ps w1 fr to_ false A n c bs (hw1.rn hr hdis) (Kd.V_step hV (hw1.2.step (fun k hk => (hok k hk).1))) hokr hps h0 h1 _ rfl).mono ?_)).mono ?_
    · rintro en w1 ⟨rfl, h2, h3⟩
      have hP : NP S g dev (stepF dev last ps 1 fr to_ id at_ bits bs).1 (stepF dev last ps 1 fr to_ id at_ bits bs).2 _ w1 := ⟨h2, h3⟩
      exact ⟨rfl, (hP.box hS).trans hbox, hP.start⟩
    · rintro en w2 ⟨rfl, hRP⟩
      exact ⟨rfl, both_nr hw1 hRP hS hSR hdis⟩
    · exact fun en w2 h9 => ⟨h9.1.yes, h9.2⟩
  · refine (act2 _ _ fr to_ id at_ bits _ w (enterF dev last ps fr to_ true bs).a (enterF dev last ps fr to_ true bs).a (enterF dev last ps fr to_ true bs).ok (enterF dev last ps fr to_ true bs).ok (enterF dev last ps fr to_ true bs).e (enterF dev last ps fr to_ true bs).e True (fun _ => ⟨rfl, rfl, rfl⟩) (fun w1 => NP S g dev (stepF dev last ps 2 fr to_ id at_ bits bs).1 (stepF dev last ps 2 fr to_ id at_ bits bs).2 w w1) (fun w1 => Both S SR g gR dev (stepF dev last ps 2 fr to_ id at_ bits bs).1 (stepF dev last ps 2 fr to_ id at_ bits bs).2 w w1) ((forge_any S okp g dev last ps _ fr to_ A n c bs hN hd hV' hokg hps h0 h1 _ rfl).mono ?_) (fun w1 hw1 => (rsend_any SR okp gR dev last ps w1 fr to_ true A n c bs (hw1.rn hr hdis) (Kd.V_step hV (hw1.2.step (fun k hk => (hok k hk).1))) hokr hps h0 h1 _ rfl).mono ?_)).mono ?_
    · rintro en w1 ⟨rfl, h2, h3⟩
      have hP : NP S g dev (stepF dev last ps 2 fr to_ id at_ bits bs).1 (stepF dev last ps 2 fr to_ id at_ bits bs).2 _ w1 := ⟨h2, h3⟩
      exact ⟨rfl, (hP.box hS).trans hbox, hP.start⟩
    · rintro en w2 ⟨rfl, hRP⟩
      exact ⟨rfl, both_nr hw1 hRP hS hSR hdis⟩
    · exact fun en w2 h9 => ⟨h9.1.yes, h9.2⟩
  · have hst : stepF dev last ps 3 fr to_ id at_ bits bs = (last, ps.eraseIdx (fnd ps id)) := rfl
    rw [hst]
    by_cases hq : fnd ps id < ps.length
    · obtain ⟨A5, c5, x, HX, hC⟩ := deliver_no S g dev last id ps _ hN hd (by omega) hq
      have hrd : ∀ w1, Rn SR gR dev last ps w1 → ∃ A6 c6, Calls Try.prog 25 #[.pointer (some ⟨gR, 0, none⟩), .int .i64 id] w1 fun e w' => e = .returned (.tuple #[.agg (dgc x.f0), .slice A6 x.f1.length c6, .int .i64 0]) ∧ RP SR gR dev last (ps.eraseIdx (fnd ps id)) w1 w' ∧ Kd.V KB 5 w' 0 (fun k => SR k ∧ k ≠ gR) (.slice A6 x.f1.length c6) x.f1 := fun w1 hw1 => by
        obtain ⟨A6, c6, z, HZ, hc⟩ := rdeliver_no SR gR dev last id ps w1 hw1 (by omega) hq
        obtain rfl : x = z := HX.out.trans HZ.out.symm
        exact ⟨A6, c6, hc⟩
      refine (act3x _ _ fr to_ id at_ bits _ w x.f0 x.f0 A5 x.f1.length c5 x.f1.length x.f1 x.f1 0 0 True (fun _ => ⟨rfl, rfl, rfl⟩) (fun w1 => NP S g dev last (ps.eraseIdx (fnd ps id)) w w1 ∧ Kd.V KB 5 w1 0 (fun k => S k ∧ k ≠ g) (.slice A5 x.f1.length c5) x.f1) (fun w2 => Both S SR g gR dev last (ps.eraseIdx (fnd ps id)) w w2) (hC.mono ?_) (fun w1 hw1 => ?_)).mono ?_
      · rintro en w1 ⟨rfl, h2, h3, h4⟩
        have hP : NP S g dev last (ps.eraseIdx (fnd ps id)) _ w1 := ⟨⟨S, h2, fun k hk => .inl hk⟩, h3⟩
        exact ⟨rfl, (hP.box hS).trans hbox, hP.start, h4⟩
      · obtain ⟨A6, c6, hc⟩ := hrd (w1.alloc (.cells (dgc x.f0) 39)) ((hw1.1.rn hr hdis).step (below_alloc' w1 _).size (fun k _ hl => (below_alloc' w1 _).block k hl))
        refine ⟨A6, c6, hc.mono ?_⟩
        rintro en w2 ⟨rfl, hRP, hV6⟩
        have hsz := hw1.1.2.size
        exact ⟨rfl, (hRP.box (fun k hk => Nat.lt_of_lt_of_le (hSR k hk) hsz)).trans (heap_alloc_new w1 _), (Kd.V_reads' (Kd.V_step (Kd.V_below hw1.2 (below_alloc' w1 _)) (hRP.2.step (fun k hk hs => hdis k hs hk.1)))).2.2, (Kd.V_reads' hV6).2.2, both_nr hw1.1 hRP.start hS hSR hdis⟩
      · rintro en w2 ⟨h8, w3, h9, h10⟩
        exact ⟨h8.yes, h9.below h10⟩
    · have he : ps.eraseIdx (fnd ps id) = ps := List.eraseIdx_of_length_le (by omega)
      rw [he]
      refine (act3 _ _ fr to_ id at_ bits _ w ⟨0, 0, 0, 0, false⟩ ⟨0, 0, 0, 0, false⟩ none none 0 0 0 0 [] [] 231 231 True (fun _ => ⟨rfl, rfl, rfl⟩) (fun w1 => Below w.heap.size w w1) (fun w1 => Below w.heap.size w w1) ((deliver_gone S g dev last id ps _ hN hd (by omega) hq).mono ?_) (fun w1 hw1 => (rdeliver_gone SR gR dev last id ps _ (hr.step (hw1.trans ((below_alloc' w1 _).mono hw1.size)).size (fun k _ hl => (hw1.trans ((below_alloc' w1 _).mono hw1.size)).block k hl)) (by omega) hq).mono ?_)).mono ?_
      · rintro en w1 ⟨rfl, hb⟩
        exact ⟨rfl, keepB hb hbox, hb0.trans (hb.mono hb0.size)⟩
      · rintro en w2 ⟨rfl, hb⟩
        exact ⟨rfl, keepB hb (heap_alloc_new w1 _), Kd.C_nil _ _, Kd.C_nil _ _, (hw1.trans ((below_alloc' w1 _).mono hw1.size)).trans (hb.mono (Nat.le_trans hw1.size (below_alloc' w1 _).size))⟩
      · rintro en w2 ⟨h8, w3, h9, h10⟩
        exact ⟨h8.yes, both_nr (NP.same h (Below.refl _ _)) (RP.same hr (h9.trans (h10.mono h9.size))) hS hSR hdis⟩
  · have hst : stepF dev last ps 4 fr to_ id at_ bits bs = (last, ps.eraseIdx (fnd ps id)) := rfl
    rw [hst]
    by_cases hq : fnd ps id < ps.length
    · obtain ⟨A6, c6, x, HX, hC⟩ := rdeliver_no SR gR dev last id ps _ hR (by omega) hq
      refine (act4 _ _ fr to_ id at_ bits _ w x.f0 (.slice A6 x.f1.length c6) 0 0 True (fun _ => rfl) (fun w1 => RP SR gR dev last (ps.eraseIdx (fnd ps id)) w w1) (fun w2 => Both S SR g gR dev last (ps.eraseIdx (fnd ps id)) w w2) (hC.mono ?_) (fun w1 m hw1 => ?_)).mono ?_
      · rintro en w1 ⟨rfl, hRP, _⟩
        exact ⟨rfl, (hRP.box hSR).trans hbox, hRP.start⟩
      · have hb2 : Below w1.heap.size w1 ((w1.alloc (.cells (dgc x.f0) 39)).drewN m) := pw_below_drewN (below_alloc' w1 _) m
        have hw2 := hw1.below hb2
        refine (drop_no S g dev last id ps _ (hw2.no h hdis) hd (by omega) hq).mono ?_
        rintro en w2 ⟨rfl, h2, h3⟩
        exact ⟨rfl, both_rn hw2 ⟨⟨S, h2, fun k hk => .inl hk⟩, h3⟩ hS hSR hdis⟩
      · exact fun en w2 h9 => ⟨h9.1.yes, h9.2⟩
    · have he : ps.eraseIdx (fnd ps id) = ps := List.eraseIdx_of_length_le (by omega)
      rw [he]
      refine (act4 _ _ fr to_ id at_ bits _ w ⟨0, 0, 0, 0, false⟩ (.slice none 0 0) 231 231 True (fun _ => rfl) (fun w1 => Below w.heap.size w w1) (fun w2 => Both S SR g gR dev last ps w w2) ((rdeliver_gone SR gR dev last id ps _ hR (by omega) hq).mono ?_) (fun w1 m hw1 => ?_)).mono ?_
      · rintro en w1 ⟨rfl, hb⟩
        exact ⟨rfl, keepB hb hbox, hb0.trans (hb.mono hb0.size)⟩
      · have hb2 : Below w.heap.size w ((w1.alloc (.cells (dgc ⟨0, 0, 0, 0, false⟩) 39)).drewN m) := pw_below_drewN (hw1.trans ((below_alloc' w1 _).mono hw1.size)) m
        refine (drop_gone S g dev last id ps _ (h.step hb2.size (fun k _ hl => hb2.block k hl)) hd (by omega) hq).mono ?_
        rintro en w2 ⟨rfl, hb⟩
        exact ⟨rfl, both_nr (NP.same h (Below.refl _ _)) (RP.same hr (hb2.trans (hb.mono hb2.size))) hS hSR hdis⟩
      · exact fun en w2 h9 => ⟨h9.1.yes, h9.2⟩
  · by_cases hq : fnd ps id < ps.length
    · have hst : stepF dev last ps 5 fr to_ id at_ bits bs = (last + 1, ps ++ [twin last (ps.getD (fnd ps id) z73)]) := by unfold stepF; rw [if_neg (by omega), if_neg (by omega), if_neg (by omega), if_pos rfl, if_pos hq]
      rw [hst]
      refine (act5 _ _ fr to_ id at_ bits _ w (last + 1) (last + 1) true true 0 0 True (fun _ => ⟨rfl, rfl, rfl⟩) (fun w1 => NP S g dev (last + 1) (ps ++ [twin last (ps.getD (fnd ps id) z73)]) w w1) (fun w1 => Both S SR g gR dev (last + 1) (ps ++ [twin last (ps.getD (fnd ps id) z73)]) w w1) ((twice_no S g dev last id ps _ _ hN hd hps hq rfl (hx hq) h0 h1).mono ?_) (fun w1 hw1 => (rtwice_no SR gR dev last id ps w1 _ (hw1.rn hr hdis) hps hq rfl (hx hq) h0 h1).mono ?_)).mono ?_
      · rintro en w1 ⟨rfl, h2, h3⟩
        have hP : NP S g dev (last + 1) (ps ++ [twin last (ps.getD (fnd ps id) z73)]) _ w1 := ⟨h2, h3⟩
        exact ⟨rfl, (hP.box hS).trans hbox, hP.start⟩
      · rintro en w2 ⟨rfl, hRP⟩
        exact ⟨rfl, both_nr hw1 hRP hS hSR hdis⟩
      · exact fun en w2 h9 => ⟨h9.1.yes, h9.2⟩
    · have hst : stepF dev last ps 5 fr to_ id at_ bits bs = (last, ps) := by unfold stepF; rw [if_neg (by omega), if_neg (by omega), if_neg (by omega), if_pos rfl, if_neg hq]
      rw [hst]
      refine (act5 _ _ fr to_ id at_ bits _ w 0 0 false false 231 231 True (fun _ => ⟨rfl, rfl, rfl⟩) (fun w1 => NP S g dev last ps w w1) (fun w1 => Both S SR g gR dev last ps w w1) ((twice_gone S g dev last id ps _ hN hd (by omega) hq).mono ?_) (fun w1 hw1 => (rtwice_gone SR gR dev last id ps w1 (hw1.rn hr hdis) (by omega) hq).mono ?_)).mono ?_
      · rintro en w1 ⟨rfl, hb⟩
        exact ⟨rfl, keepB hb hbox, (NP.same hN hb).start⟩
      · rintro en w2 ⟨rfl, rfl⟩
        exact ⟨rfl, both_nr hw1 (RP.same (hw1.rn hr hdis) (Below.refl _ _)) hS hSR hdis⟩
      · exact fun en w2 h9 => ⟨h9.1.yes, h9.2⟩
  · have hfin : ∀ (e : Int) (l2 : List S73), (∀ m, Calls Try.prog 21 #[.pointer (some ⟨g, 0, none⟩), .int .i64 id, .int .i64 at_, .int .u8 bits] ((w.alloc (.cells (opc 6 fr to_ id at_ bits (.slice A n c)) 36)).drewN m) fun en w1 => en = .returned (.int .i64 e) ∧ NP S g dev last l2 (w.alloc (.cells (opc 6 fr to_ id at_ bits (.slice A n c)) 36)) w1) →
        (∀ w1, Rn SR gR dev last ps w1 → Calls Try.prog 27 #[.pointer (some ⟨gR, 0, none⟩), .int .i64 id, .int .i64 at_, .int .u8 bits] w1 fun en w2 => en = .returned (.int .i64 e) ∧ RP SR gR dev last l2 w1 w2) →
        Calls Try.prog 9 #[.pointer (some ⟨g, 0, none⟩), .pointer (some ⟨gR, 0, none⟩), .agg (opc 6 fr to_ id at_ bits (.slice A n c))] w fun en w' => en = .returned (.bool true) ∧ Both S SR g gR dev last l2 w w' := by
      intro e l2 hc hc2
      refine (act6 _ _ fr to_ id at_ bits _ w e e True (fun _ => rfl) (fun w1 => NP S g dev last l2 w w1 ∧ w1.heap[w.heap.size]? = some (.cells (opc 6 fr to_ id at_ bits (.slice A n c)) 36 (0, 0))) (fun w1 => Both S SR g gR dev last l2 w w1) (fun m => (hc m).mono ?_) (fun w1 hw1 => (hc2 w1 (hw1.1.rn hr hdis)).mono ?_)).mono ?_
      · rintro en w1 ⟨rfl, hP⟩
        exact ⟨rfl, (hP.box hS).trans hbox, hP.start, (hP.box hS).trans hbox⟩
      · rintro en w2 ⟨rfl, hRP⟩
        exact ⟨rfl, (hRP.2.block w.heap.size (blk_lt hw1.2) (fun hs => by have := hSR _ hs; omega)).trans hw1.2, both_nr hw1.1 hRP hS hSR hdis⟩
      · exact fun en w2 h9 => ⟨h9.1.yes, h9.2⟩
    have hdr : ∀ m, Below (w.alloc (.cells (opc 6 fr to_ id at_ bits (.slice A n c)) 36)).heap.size (w.alloc (.cells (opc 6 fr to_ id at_ bits (.slice A n c)) 36)) ((w.alloc (.cells (opc 6 fr to_ id at_ bits (.slice A n c)) 36)).drewN m) := fun m => pw_below_drewN (Below.refl _ _) m
    have hNd : ∀ m, No S g dev last ps ((w.alloc (.cells (opc 6 fr to_ id at_ bits (.slice A n c)) 36)).drewN m) := fun m => hN.step (hdr m).size (fun k _ hl => (hdr m).block k hl)
    by_cases hq : fnd ps id < ps.length
    · by_cases ha : 0 ≤ at_ ∧ at_ < (ps.getD (fnd ps id) z73).f1.length
      · have hst : stepF dev last ps 6 fr to_ id at_ bits bs = (last, ps.set (fnd ps id) (spoilt (ps.getD (fnd ps id) z73) at_.toNat bits)) := by unfold stepF; rw [if_neg (by omega), if_neg (by omega), if_neg (by omega), if_neg (by omega), if_pos rfl, if_pos ⟨hq, ha⟩]
        rw [hst]
        obtain ⟨a, rfl⟩ := Int.eq_ofNat_of_zero_le ha.1
        refine hfin 0 _ (fun m => ?_) (fun w1 hw1 => rspoil_no SR gR dev last id bits ps w1 a _ hw1 (by omega) hq rfl (by omega) (hx hq))
        refine (spoil_no S g dev last id bits ps _ a _ (hNd m) hd (by omega) hq rfl (by omega) (hx hq)).mono ?_
        rintro en w1 ⟨rfl, h2, h3⟩
        exact ⟨rfl, ⟨S, h2, fun k hk => .inl hk⟩, (Chg.of_below (hdr m) S).trans h3 (fun k hk => .inl hk)⟩
      · have hst : stepF dev last ps 6 fr to_ id at_ bits bs = (last, ps) := by unfold stepF; rw [if_neg (by omega), if_neg (by omega), if_neg (by omega), if_neg (by omega), if_pos rfl, if_neg (fun h9 => ha h9.2)]
        rw [hst]
        refine hfin 232 _ (fun m => (spoil_bad S g dev last id bits at_ ps _ _ (hNd m) hd (by omega) hq rfl ha (hx hq)).mono ?_) (fun w1 hw1 => (rspoil_bad SR gR dev last id bits at_ ps w1 _ hw1 (by omega) hq rfl ha (hx hq)).mono ?_)
        · rintro en w1 ⟨rfl, hb⟩
          exact ⟨rfl, NP.same hN ((hdr m).trans (hb.mono (hdr m).size))⟩
        · rintro en w2 ⟨rfl, rfl⟩
          exact ⟨rfl, RP.same hw1 (Below.refl _ _)⟩
    · have hst : stepF dev last ps 6 fr to_ id at_ bits bs = (last, ps) := by unfold stepF; rw [if_neg (by omega), if_neg (by omega), if_neg (by omega), if_neg (by omega), if_pos rfl, if_neg (fun h9 => hq h9.1)]
      rw [hst]
      refine hfin 231 _ (fun m => (spoil_gone S g dev last id at_ bits ps _ (hNd m) hd (by omega) hq).mono ?_) (fun w1 hw1 => (rspoil_gone SR gR dev last id at_ bits ps w1 hw1 (by omega) hq).mono ?_)
      · rintro en w1 ⟨rfl, hb⟩
        exact ⟨rfl, NP.same hN ((hdr m).trans (hb.mono (hdr m).size))⟩
      · rintro en w2 ⟨rfl, rfl⟩
        exact ⟨rfl, RP.same hw1 (Below.refl _ _)⟩
  · have hst : stepF dev last ps 7 fr to_ id at_ bits bs = (last, []) := rfl
    rw [hst]
    refine (act7 _ _ fr to_ id at_ bits _ w ps.length ps.length True (fun _ => rfl) (fun w1 => NP S g dev last [] w w1) (fun w1 => Both S SR g gR dev last [] w w1) ((clear_no S g dev last ps _ hN hd).mono ?_) (fun w1 hw1 => (rclear_no SR gR dev last ps w1 (hw1.rn hr hdis)).mono ?_)).mono ?_
    · rintro en w1 ⟨rfl, h2, h3⟩
      have hP : NP S g dev last [] _ w1 := ⟨⟨S, h2, fun k hk => .inl hk⟩, h3⟩
      exact ⟨rfl, (hP.box hS).trans hbox, hP.start⟩
    · rintro en w2 ⟨rfl, hRP⟩
      exact ⟨rfl, both_nr hw1 hRP hS hSR hdis⟩
    · exact fun en w2 h9 => ⟨h9.1.yes, h9.2⟩
end Go.Proofs.Ytnognpfenefafaa
namespace Go.Proofs.Ytnognpfenefafaa
open Go.Proofs.Ytnognpfenefafaa.PNetRuns (S39 S73 k39 k73 z39 z73)
open Go.RowKit Go.Proofs.YtnognpfenefafaaW.PrintWords Go.Proofs.YtnognpfenefafaaW.PrintLast Go.Proofs.YtnognpfenefafaaW.PrintMore
def p1 : S73 := ⟨⟨1, 0, 1, 1, false⟩, [97]⟩
def p2 : S73 := ⟨⟨2, 0, 1, 1, false⟩, [97]⟩
theorem fnd1 : fnd [p1] 1 = 0 := by decide
theorem fnd2 : fnd [p1, p2] 2 = 1 := by decide
set_option maxRecDepth 100000 in
set_option maxHeartbeats 4000000 in
theorem alive_any (w : World) : Calls Try.prog 7 #[] w fun e w' => e = .returned (.bool true) ∧ Below w.heap.size w w' := by
  have kc := fun (w : World) (C : Array Value) (n c : Nat) => Lib.run_convert_bytes_const (P := Try.prog) w 23 5 C n c Try.underlying23 Try.underlying5
  go_enter Try.func7, Try.ntmps7
  go_wp2_with fail
  refine (new_no 2 _ (by omega) (by omega)).mono ?_
  rintro e w1 ⟨rfl, hN1, hB1⟩
  have HN1 := Lib.hid hN1
  have HB1 := Lib.hid hB1
  clear hN1 hB1
  go_wp2_with fail
  have hgw : w.heap.size < w1.heap.size := HN1.out.2.1 _ rfl
  have hV : Kd.V KB 5 (w1.alloc (.cells #[.int .u8 97] 5 (1, 2))) 0 (fun k => False ∨ k = w1.heap.size) (.slice (some ⟨w1.heap.size, 0, none⟩) 1 1) [97] :=
    V_block (heap_alloc_new w1 _) (Reps_ints .u8 [97] _ rfl) rfl (Nat.le_refl _) (by omega)
  have hN1 := HN1.out.step (w' := w1.alloc (.cells #[.int .u8 97] 5 (1, 2))) (by rw [World.size_alloc]; omega) (fun k hk hl => Below.heap_alloc _ _ k hl)
  have hcall := send_no (fun k => k = w.heap.size) _ w.heap.size 2 0 [] _ 0 1 _ 1 1 [97] hN1 hV (fun k hk => by rcases hk with h | h; exact h.elim; omega) (by simp) (by simp) (by omega) (by omega) (by omega) (by omega) (by omega) (by omega)
  refine hcall.mono ?_
  clear hcall hV hN1
  rintro e w2 ⟨rfl, ⟨S1, hn2, hs2⟩, hc2⟩
  have hN2 : No S1 w.heap.size 2 1 [p1] w2 := hn2
  have hB2 : Below w.heap.size w w2 := (below_alloc HB1.out _).trans (hc2.below (fun k hk => by omega) (by rw [World.size_alloc]; omega))
  have hS2 : ∀ k, S1 k → w.heap.size ≤ k := fun k hk => by
    rcases hs2 k hk with h | h
    · omega
    · rw [World.size_alloc] at h; omega
  have HN2 := Lib.hid hN2
  have HB2 := Lib.hid hB2
  have HS2 := Lib.hid hS2
  clear hn2 hs2 hc2 hN2 hB2 hS2
  rw [show (0 : Int) + 1 = 1 from rfl]
  go_wp2_with fail
  refine (twice_no S1 w.heap.size 2 1 1 [p1] _ p1 HN2.out (by omega) (by simp) (by rw [fnd1]; simp) (by rw [fnd1]; rfl) (by simp [p1]) (by omega) (by omega)).mono ?_
  rintro e w3 ⟨rfl, ⟨S2, hn3, hs3⟩, hc3⟩
  have hN3 : No S2 w.heap.size 2 2 [p1, p2] w3 := hn3
  have hB3 : Below w.heap.size w w3 := HB2.out.trans (hc3.below (fun k hk => HS2.out k hk) HB2.out.size)
  have hS3 : ∀ k, S2 k → w.heap.size ≤ k := fun k hk => by
    rcases hs3 k hk with h | h
    · exact HS2.out k h
    · have := HB2.out.size; omega
  have HN3 := Lib.hid hN3
  have HB3 := Lib.hid hB3
  have HS3 := Lib.hid hS3
  clear hn3 hs3 hc3 hN3 hB3 hS3
  rw [show (1 : Int) + 1 = 2 from rfl]
  obtain ⟨A5, c5, x, HX, hC⟩ := deliver_no S2 w.heap.size 2 2 2 [p1, p2] w3 HN3.out (by omega) (by simp) (by rw [fnd2]; simp)
  obtain rfl : x = p2 := HX.out.trans (by rw [fnd2]; rfl)
  have HC := Lib.hid hC
  clear hC
  go_wp2_with fail
  refine HC.out.mono ?_
  rintro e w4 ⟨rfl, hn4, hc4, hV4⟩
  rw [fnd2] at hn4
  have HN4 := Lib.hid (show No S2 w.heap.size 2 2 [p1] w4 from hn4)
  have HB4 := Lib.hid (HB3.out.trans (hc4.below (fun k hk => HS3.out k hk) HB3.out.size))
  have hC4 : KB.C w4 A5 1 [97] := (Kd.V_reads' hV4).2.2
  have hcv := fun o => Kd.C_string (P := Try.prog) (A := A5) (c := c5) Try.underlying23 Try.underlying5 Try.underlying9 (Kd.C_alloc hC4 o)
  have hstr : strOfNums [97] = ⟨#[97]⟩ := by decide
  rw [hstr] at hcv
  clear hn4 hc4 hV4 hC4 HC
  simp only [p2, List.length_cons, List.length_nil]
  go_wp2_with fail
  refine (flying_no S2 w.heap.size 2 2 [p1] _ (HN4.out.step (by rw [World.size_alloc]; omega) (fun k hk hl => Below.heap_alloc _ _ k hl)) (by omega) (by simp)).mono ?_
  rintro e w5 ⟨v, rfl, hR5, hB5⟩
  have HB5 := Lib.hid (below_step (below_alloc HB4.out _) hB5)
  obtain ⟨A6, c6, rfl⟩ := Kd.R_slice hR5
  clear hR5 hB5
  simp only [List.length_map, List.length_cons, List.length_nil]
  go_wp2_with fail
  go_ret
  exact ⟨rfl, HB5.out⟩
end Go.Proofs.Ytnognpfenefafaa
namespace Go.Proofs.Ytnognpfenefafaa
open Go.Proofs.Ytnognpfenefafaa.PNetRuns (S39 S73 k39 k73 z39 z73)
open Go.RowKit Go.Proofs.YtnognpfenefafaaW.PrintWords Go.Proofs.YtnognpfenefafaaW.PrintLast Go.Proofs.YtnognpfenefafaaW.PrintMore
/-- Both nets in the same state, apart, beyond B. -/
def KS0 (B g gR : Nat) (dev last : Int) (ps : List S73) (w0 w : World) : Prop :=
  ∃ S SR : Nat → Prop, No S g dev last ps w ∧ Rn SR gR dev last ps w ∧ (∀ k, SR k → ¬ S k) ∧ (∀ k, S k → B ≤ k) ∧ (∀ k, SR k → B ≤ k) ∧ Below B w0 w ∧ B ≤ w.heap.size
/-- .. and a block beside them. -/
def KS (B g gR gB : Nat) (dev last : Int) (ps : List S73) (bx : Array Value) (w0 w : World) : Prop :=
  ∃ S SR : Nat → Prop, No S g dev last ps w ∧ Rn SR gR dev last ps w ∧ (∀ k, SR k → ¬ S k) ∧ (∀ k, S k → B ≤ k ∧ k ≠ gB) ∧ (∀ k, SR k → B ≤ k ∧ k ≠ gB) ∧ Below B w0 w ∧ B ≤ w.heap.size ∧ w.heap[gB]? = some (.cells bx 36 (0, 0))
section
variable {B g gR gB : Nat} {dev last : Int} {ps : List S73} {bx : Array Value} {w0 w w1 : World}
theorem KS.drop (h : KS B g gR gB dev last ps bx w0 w) : KS0 B g gR dev last ps w0 w := by
  obtain ⟨S, SR, h1, h2, h3, h4, h5, h6, h7, _⟩ := h
  exact ⟨S, SR, h1, h2, h3, fun k hk => (h4 k hk).1, fun k hk => (h5 k hk).1, h6, h7⟩
theorem KS.box (h : KS B g gR gB dev last ps bx w0 w) : w.heap[gB]? = some (.cells bx 36 (0, 0)) := by
  obtain ⟨S, SR, h1, h2, h3, h4, h5, h6, h7, h8⟩ := h
  exact h8
theorem KS.below (h : KS B g gR gB dev last ps bx w0 w) (hb : Below w.heap.size w w1) : KS B g gR gB dev last ps bx w0 w1 := by
  obtain ⟨S, SR, h1, h2, h3, h4, h5, h6, h7, h8⟩ := h
  exact ⟨S, SR, h1.step hb.size (fun _ _ hl => hb.block _ hl), h2.step hb.size (fun _ _ hl => hb.block _ hl), h3, h4, h5, h6.trans (hb.mono h7), Nat.le_trans h7 hb.size, keepB hb h8⟩
theorem KS0.alloc (h : KS0 B g gR dev last ps w0 w) (bx : Array Value) : KS B g gR w.heap.size dev last ps bx w0 (w.alloc (.cells bx 36)) := by
  obtain ⟨S, SR, h1, h2, h3, h4, h5, h6, h7⟩ := h
  have hb := below_alloc' w (.cells bx 36)
  exact ⟨S, SR, h1.step hb.size (fun _ _ hl => hb.block _ hl), h2.step hb.size (fun _ _ hl => hb.block _ hl), h3, fun k hk => ⟨h4 k hk, fun he => by have := h1.2.1 k hk; omega⟩, fun k hk => ⟨h5 k hk, fun he => by have := h2.2.1 k hk; omega⟩, h6.trans (hb.mono h7), Nat.le_trans h7 hb.size, heap_alloc_new w _⟩
theorem flying_ks (h : KS B g gR gB dev last ps bx w0 w) (hd : 0 < dev) (hl : ps.length ≤ 100000) :
    Calls Try.prog 13 #[.pointer (some ⟨g, 0, none⟩)] w fun e w' => ∃ A n c, e = .returned (.slice A n c) ∧ k39.C w' A n (ps.map (·.f0)) ∧ KS B g gR gB dev last ps bx w0 w' := by
  have hh := h
  obtain ⟨S, SR, h1, h2, h3, h4, h5, h6, h7, h8⟩ := h
  refine (flying_no S g dev last ps w h1 hd hl).mono ?_
  rintro e w' ⟨v, rfl, hR, hb⟩
  obtain ⟨A, c, rfl⟩ := Kd.R_slice hR
  exact ⟨A, _, c, rfl, (Kd.R_reads' hR).2.2, hh.below hb⟩
theorem rflying_ks (h : KS B g gR gB dev last ps bx w0 w) (hl : ps.length ≤ 100000) :
    Calls Try.prog 14 #[.pointer (some ⟨gR, 0, none⟩)] w fun e w' => ∃ A n c, e = .returned (.slice A n c) ∧ k39.C w' A n (ps.map (·.f0)) ∧ KS B g gR gB dev last ps bx w0 w' ∧ Below w.heap.size w w' := by
  have hh := h
  obtain ⟨S, SR, h1, h2, h3, h4, h5, h6, h7, h8⟩ := h
  refine (rflying_no SR gR dev last ps w h2 hl).mono ?_
  rintro e w' ⟨v, rfl, hR, hb⟩
  obtain ⟨A, c, rfl⟩ := Kd.R_slice hR
  exact ⟨A, _, c, rfl, (Kd.R_reads' hR).2.2, hh.below hb, hb⟩
theorem between_ks (h : KS B g gR gB dev last ps bx w0 w) (hd : 0 < dev) (hl : ps.length ≤ 100000) (fr to_ : Int) :
    Calls Try.prog 16 #[.pointer (some ⟨g, 0, none⟩), .int .i64 fr, .int .i64 to_] w fun e w' => ∃ A n c, e = .returned (.slice A n c) ∧ (Kd.int .i64).C w' A n (betw fr to_ ps) ∧ KS B g gR gB dev last ps bx w0 w' := by
  have hh := h
  obtain ⟨S, SR, h1, h2, h3, h4, h5, h6, h7, h8⟩ := h
  refine ((callsIn_wide (n := 3)).1 (between_in S g dev last fr to_ ps w h1 hd hl)).mono ?_
  rintro e w' ⟨v, rfl, hR, hb⟩
  obtain ⟨A, c, rfl⟩ := Kd.R_slice hR
  exact ⟨A, _, c, rfl, (Kd.R_reads' hR).2.2, hh.below hb⟩
theorem rbetween_ks (h : KS B g gR gB dev last ps bx w0 w) (hl : ps.length ≤ 100000) (fr to_ : Int) :
    Calls Try.prog 17 #[.pointer (some ⟨gR, 0, none⟩), .int .i64 fr, .int .i64 to_] w fun e w' => ∃ A n c, e = .returned (.slice A n c) ∧ (Kd.int .i64).C w' A n (betw fr to_ ps) ∧ KS B g gR gB dev last ps bx w0 w' ∧ Below w.heap.size w w' := by
  have hh := h
  obtain ⟨S, SR, h1, h2, h3, h4, h5, h6, h7, h8⟩ := h
  refine (rbetween_no SR gR dev last fr to_ ps w h2 hl).mono ?_
  rintro e w' ⟨v, rfl, hR, hb⟩
  obtain ⟨A, c, rfl⟩ := Kd.R_slice hR
  exact ⟨A, _, c, rfl, (Kd.R_reads' hR).2.2, hh.below hb, hb⟩
theorem act_ks {okp : Nat → Prop} (h : KS B g gR gB dev last ps bx w0 w) (k fr to_ id at_ bits : Int) (A : Option Addr) (n c : Nat) (bs : List Int) (hd : 0 < dev) (hV : Kd.V KB 5 w 0 okp (.slice A n c) bs) (hok : ∀ k, okp k → k < B) (hgood : ∀ p ∈ ps, p.f1.length ≤ 65536) (hps : ps.length < 16384) (h0 : 0 ≤ last) (h1 : last ≤ 4611686018427387904) :
    Calls Try.prog 9 #[.pointer (some ⟨g, 0, none⟩), .pointer (some ⟨gR, 0, none⟩), .agg (opc k fr to_ id at_ bits (.slice A n c))] w fun en w' => en = .returned (.bool true) ∧ KS B g gR gB dev (stepF dev last ps k fr to_ id at_ bits bs).1 (stepF dev last ps k fr to_ id at_ bits bs).2 bx w0 w' := by
  obtain ⟨S, SR, k1, k2, k3, k4, k5, k6, k7, k8⟩ := h
  refine (act_runs S SR okp g gR dev last ps w k fr to_ id at_ bits A n c bs k1 k2 k3 hd hV (fun j hj => ⟨fun hs => by have := (k4 j hs).1; have := hok j hj; omega, fun hs => by have := (k5 j hs).1; have := hok j hj; omega⟩) hgood hps h0 h1).mono ?_
  rintro e w' ⟨rfl, S', SR', j1, j2, j3, j4, j5, j6⟩
  have hlt := blk_lt k8
  have hn : ∀ (T T' : Nat → Prop), (∀ j, T j → B ≤ j ∧ j ≠ gB) → (∀ j, T' j → T j ∨ w.heap.size ≤ j) → ∀ j, T' j → B ≤ j ∧ j ≠ gB := fun T T' hT hT' j hj => by
    rcases hT' j hj with h | h
    · exact hT j h
    · exact ⟨by omega, by omega⟩
  refine ⟨rfl, S', SR', j1, j2, j5, hn S S' k4 j3, hn SR SR' k5 j4, k6.trans (j6.below (fun j hj => ?_) k7), Nat.le_trans k7 j6.size, (j6.block gB hlt (fun hs => ?_)).trans k8⟩
  · rcases hj with h | h
    · exact (k4 j h).1
    · exact (k5 j h).1
  · rcases hs with h | h
    · exact (k4 gB h).2 rfl
    · exact (k5 gB h).2 rfl
end
/-- What the law keeps. -/
structure Inv0 (j : Nat) (last : Int) (ps : List S73) : Prop where
  len : ps.length ≤ j
  lo : 0 ≤ last
  hi : last ≤ j
  good : ∀ p ∈ ps, p.f1.length ≤ 65536
theorem Inv0.append {j : Nat} {last : Int} {ps : List S73} (h : Inv0 j last ps) (x : S73) (h2 : x.f1.length ≤ 65536) : Inv0 (j + 1) (last + 1) (ps ++ [x]) := by
  refine ⟨by have := h.len; simp; omega, by have := h.lo; omega, by have := h.hi; omega, fun p hp => ?_⟩
  rcases List.mem_append.1 hp with hp | hp
  · exact h.good p hp
  · rw [List.mem_singleton] at hp; rw [hp]; exact h2
theorem Inv0.next {j : Nat} {last : Int} {ps : List S73} (h : Inv0 j last ps) : Inv0 (j + 1) last ps := ⟨by have := h.len; omega, h.lo, by have := h.hi; omega, h.good⟩
theorem Inv0.enter {j : Nat} {last : Int} {ps : List S73} (h : Inv0 j last ps) (dev fr to_ : Int) (fo : Bool) (bs : List Int) : Inv0 (j + 1) (enterF dev last ps fr to_ fo bs).last (enterF dev last ps fr to_ fo bs).ps := by
  unfold enterF
  split
  · split
    · exact h.append _ (by assumption)
    · exact h.next
  · exact h.next
theorem Inv0.step {j : Nat} {last : Int} {ps : List S73} (h : Inv0 j last ps) (dev k fr to_ id at_ bits : Int) (bs : List Int) :
    Inv0 (j + 1) (stepF dev last ps k fr to_ id at_ bits bs).1 (stepF dev last ps k fr to_ id at_ bits bs).2 := by
  unfold stepF
  split
  · exact h.enter ..
  split
  · exact h.enter ..
  split
  · exact ⟨by show (ps.eraseIdx (fnd ps id)).length ≤ j + 1; have := h.len; have := List.length_eraseIdx_le ps (fnd ps id); omega, h.lo, by have := h.hi; omega, fun p hp => h.good p (List.mem_of_mem_eraseIdx hp)⟩
  split
  · split
    · rename_i hq
      exact h.append _ (show (ps.getD (fnd ps id) z73).f1.length ≤ _ from h.good _ (getD_mem hq))
    · exact h.next
  split
  · split
    · rename_i hq
      refine ⟨by have := h.len; rw [List.length_set]; omega, h.lo, by have := h.hi; omega, fun p hp => ?_⟩
      rcases List.mem_or_eq_of_mem_set hp with hp | rfl
      · exact h.good p hp
      · show (List.set _ _ _).length ≤ _
        rw [List.length_set]
        exact h.good _ (getD_mem hq.1)
    · exact h.next
  split
  · exact ⟨by simp, h.lo, by have := h.hi; omega, fun p hp => absurd hp List.not_mem_nil⟩
  · exact h.next
end Go.Proofs.Ytnognpfenefafaa
namespace Go.Proofs.Ytnognpfenefafaa
open Go.Proofs.Ytnognpfenefafaa.PNetRuns (S39 S73 k39 k73 z39 z73)
open Go.RowKit Go.Proofs.YtnognpfenefafaaW.PrintWords Go.Proofs.YtnognpfenefafaaW.PrintLast Go.Proofs.YtnognpfenefafaaW.PrintMore
theorem opc7 {w : World} {gB : Nat} {k fr to_ id at_ bits : Int} {v : Value} (h : w.heap[gB]? = some (.cells (opc k fr to_ id at_ bits v) 36 (0, 0))) :
    w.cell? ⟨gB, 0, none⟩ = some (.int .i64 k) ∧ w.cell? ⟨gB, 1, none⟩ = some (.int .i64 fr) ∧ w.cell? ⟨gB, 2, none⟩ = some (.int .i64 to_) ∧ w.cell? ⟨gB, 3, none⟩ = some (.int .i64 id) ∧ w.cell? ⟨gB, 4, none⟩ = some (.int .i64 at_) ∧ w.cell? ⟨gB, 5, none⟩ = some (.int .u8 bits) ∧ w.cell? ⟨gB, 6, none⟩ = some v :=
  ⟨blk_cell h 0 _ rfl, blk_cell h 1 _ rfl, blk_cell h 2 _ rfl, blk_cell h 3 _ rfl, blk_cell h 4 _ rfl, blk_cell h 5 _ rfl, blk_cell h 6 _ rfl⟩
set_option maxRecDepth 100000 in
set_option maxHeartbeats 4000000 in
theorem runslaw_walk (dev : Int) (sv : Value) (ops : List TOp) (w : World) (_hd : (Lit.int .i64 dev).wf = true) (hs : Kd.V kop 36 w 0 (fun k => k < w.heap.size) sv ops)
    (_hs0 : (∀ x ∈ ops, (Lit.int .i64 x.1).wf = true ∧ (Lit.int .i64 x.2.1).wf = true ∧ (Lit.int .i64 x.2.2.1).wf = true ∧ (Lit.int .i64 x.2.2.2.1).wf = true ∧ (Lit.int .i64 x.2.2.2.2.1).wf = true ∧ (Lit.int .u8 x.2.2.2.2.2.1).wf = true ∧ (∀ y ∈ x.2.2.2.2.2.2, (Lit.int .u8 y).wf = true) ∧ x.2.2.2.2.2.2.length * 1 ≤ 140737488351232) ∧ ops.length * 72 ≤ 140737488351232) :
    Calls Try.prog 4 #[.int .i64 dev, sv] w fun e w' => e = .returned (.bool true) ∧ Below w.heap.size w w' := by
  obtain ⟨As, cs, rfl⟩ := Kd.V_slice hs
  have hsl := _hs0.2
  clear _hd _hs0
  have HVs := Lib.hid hs
  clear hs
  by_cases hdev : dev < 1 ∨ 256 < dev
  · have HD := Lib.hid hdev
    clear hdev
    go_enter Try.func4, Try.ntmps4
    go_wp2_with fail
    refine (new_bad dev _ HD.out).mono ?_
    rintro e w1 ⟨rfl, rfl⟩
    go_wp2_with fail
    refine (rnew_bad dev _ HD.out).mono ?_
    rintro e w1 ⟨rfl, rfl⟩
    go_wp2_with fail
    refine (alive_any _).mono ?_
    rintro e w4 ⟨rfl, hb4⟩
    have HB4 := Lib.hid hb4
    clear hb4
    go_wp2_with fail
    go_ret
    exact ⟨rfl, HB4.out⟩
  · have hd0 : 1 ≤ dev := by omega
    have hd1 : dev ≤ 256 := by omega
    clear hdev
    go_enter Try.func4, Try.ntmps4
    go_wp2_with fail
    refine (new_no dev _ hd0 hd1).mono ?_
    rintro e w1 ⟨rfl, hN1, hB1⟩
    have hw1 : w.heap.size < w1.heap.size := hN1.2.1 _ rfl
    have HN1 := Lib.hid hN1
    have HB1 := Lib.hid hB1
    clear hN1 hB1
    go_wp2_with fail
    refine (rnew_no dev _ hd0 hd1).mono ?_
    rintro e w2 ⟨rfl, hR2, hB2⟩
    have hK2 : KS0 w.heap.size w.heap.size w1.heap.size dev 0 [] w w2 := ⟨fun k => k = w.heap.size, fun k => k = w1.heap.size, HN1.out.step hB2.size (fun k _ hl => hB2.block k hl), hR2, fun k hk he => by omega, fun k hk => by omega, fun k hk => by omega, HB1.out.trans (hB2.mono (by omega)), Nat.le_trans (Nat.le_of_lt hw1) hB2.size⟩
    have HK2 := Lib.hid hK2
    clear hR2 hB2 hK2 HN1 HB1
    go_wp2_with fail
    obtain ⟨gR, hgR⟩ : ∃ gR, gR = w1.heap.size := ⟨_, rfl⟩
    rw [← hgR] at HK2 hw1 ⊢
    obtain ⟨m, hm⟩ : ∃ m, m = ops.length := ⟨_, rfl⟩
    rw [← hm]
    have HM := Lib.hid hm
    have hm5 : (m : Int) * 72 ≤ 140737488351232 := by omega
    clear hm hsl hgR
    go_loopw [9] (fun vi wq => ∃ (i : Nat) (last : Int) (ps : List S73), vi = .int .i64 i ∧ i ≤ m ∧ i ≤ 300 ∧ KS0 w.heap.size w.heap.size gR dev last ps w wq ∧ Inv0 i last ps) (fun vi _ => m - (intOf vi).toNat)
    case atStart => exact ⟨0, 0, [], rfl, Nat.zero_le _, Nat.zero_le _, HK2.out, ⟨by simp, by omega, by omega, fun p hp => absurd hp List.not_mem_nil⟩⟩
    case round =>
    obtain ⟨i, last, ps, rfl, hi, hi3, hKq, hIq⟩ := hrel
    have HKQ := Lib.hid hKq
    have HIQ := Lib.hid hIq
    have hbq : Below w.heap.size w wr := by obtain ⟨_, _, _, _, _, _, _, h6, _⟩ := hKq; exact h6
    have HBQ := Lib.hid hbq
    clear hKq hIq hbq
    by_cases hlt : i < m ∧ i < 300
    · obtain ⟨ad, k, fr, to_, id, at_, bits, A6, c6, bs, rfl, z0, z1, z2, z3, z4, z5, z6, hV6, HX⟩ := V_op_at (Kd.V_step HVs.out (fun k _ hl => HBQ.out.block k hl)) i (by rw [← HM.out]; exact hlt.1)
      have HV6 := Lib.hid (Kd.V_below hV6 (below_alloc' wr (.cells (opc k fr to_ id at_ bits (.slice A6 bs.length c6)) 36)))
      have HK1 := Lib.hid (HKQ.out.alloc (opc k fr to_ id at_ bits (.slice A6 bs.length c6)))
      have hl5 : ps.length ≤ 300 := by have := HIQ.out.len; omega
      have hlo := HIQ.out.lo
      have hhi : last ≤ 300 := by have := HIQ.out.hi; omega
      have HI2 := Lib.hid (HIQ.out.step dev k fr to_ id at_ bits bs)
      have hl6 : (stepF dev last ps k fr to_ id at_ bits bs).2.length ≤ 100000 := by have := HI2.out.len; omega
      have HGD := Lib.hid HIQ.out.good
      clear hV6
      obtain ⟨l2, hl2⟩ : ∃ l2, l2 = (stepF dev last ps k fr to_ id at_ bits bs).1 := ⟨_, rfl⟩
      obtain ⟨p2, hp2⟩ : ∃ p2, p2 = (stepF dev last ps k fr to_ id at_ bits bs).2 := ⟨_, rfl⟩
      rw [← hp2] at hl6
      have hact := fun (W : World) (hk : KS w.heap.size w.heap.size gR wr.heap.size dev last ps (opc k fr to_ id at_ bits (.slice A6 bs.length c6)) w W) (hv : Kd.V KB 5 W 0 (fun k => k < w.heap.size) (.slice A6 bs.length c6) bs) => act_ks hk k fr to_ id at_ bits A6 bs.length c6 bs (by omega) hv (fun _ h => h) HGD.out (by omega) hlo (by omega)
      rw [← hl2, ← hp2] at hact HI2
      have HACT := Lib.hid hact
      have hi64 : (i : Int) < (m : Int) := by omega
      have hi65 : decide ((i : Int) < (m : Int)) = true := decide_eq_true hi64
      have hi66 : decide ((i : Int) < 300) = true := decide_eq_true (by omega)
      clear hl2 hp2 hact HIQ HGD
      go_wp2_with fail
      rw [show wr.alloc (.cells #[.int .i64 k, .int .i64 fr, .int .i64 to_, .int .i64 id, .int .i64 at_, .int .u8 bits, .slice A6 bs.length c6] 36) = wr.alloc (.cells (opc k fr to_ id at_ bits (.slice A6 bs.length c6)) 36) from rfl]
      generalize wr.alloc (.cells (opc k fr to_ id at_ bits (.slice A6 bs.length c6)) 36) = W1 at *
      generalize wr.heap.size = gB at *
      have hbb : ∀ q, Below W1.heap.size W1 (W1.drewN q) := fun q => pw_below_drewN (Below.refl _ _) q
      have HBB := Lib.hid hbb
      obtain ⟨o0, o1, o2, o3, o4, o5, o6⟩ := opc7 HK1.out.box
      clear hbb z0 z1 z2 z3 z4 z5 z6 HX HVs HBQ HKQ
      go_region_held3 (fun w' => w'.cell? ⟨gB, 0, none⟩ = some (.int .i64 k) ∧ w'.cell? ⟨gB, 1, none⟩ = some (.int .i64 fr) ∧ w'.cell? ⟨gB, 2, none⟩ = some (.int .i64 to_) ∧ w'.cell? ⟨gB, 3, none⟩ = some (.int .i64 id) ∧ w'.cell? ⟨gB, 4, none⟩ = some (.int .i64 at_) ∧ w'.cell? ⟨gB, 5, none⟩ = some (.int .u8 bits) ∧ w'.cell? ⟨gB, 6, none⟩ = some (.slice A6 bs.length c6))
        (first | exact opc7 HKg.out.box | exact opc7 HKf.out.box | exact opc7 HKe.out.box | exact opc7 HKd.out.box | exact opc7 HKc.out.box | exact opc7 HKb.out.box | exact opc7 HKa.out.box | exact ⟨o0, o1, o2, o3, o4, o5, o6⟩ | assumption)
        (first
        | (go_simp; go_at_call 9; refine (HACT.out _ (HK1.out.below (HBB.out _)) (Kd.V_drewN HV6.out _)).mono ?_; clear HACT; rintro e v1 ⟨rfl, hk⟩; have HKa := Lib.hid hk; clear hk)
        | (go_simp; go_at_call 13; refine (flying_ks HKa.out (by omega) hl6).mono ?_; rintro e v2 ⟨A1, n1, c1, rfl, hC1, hk⟩; have HKb := Lib.hid hk; have HC1 := Lib.hid hC1; clear hk hC1)
        | (go_simp; go_at_call 14; refine (rflying_ks HKb.out hl6).mono ?_; rintro e v3 ⟨A2, n2, c2, rfl, hC2, hk, hb⟩; have HKc := Lib.hid hk; have HC2 := Lib.hid hC2; have HC3 := Lib.hid (Kd.C_below HC1.out hb); clear hk hC2 hb)
        | (go_simp; go_at_call 12; refine (same_eq A1 A2 n1 c1 n2 c2 _ _ HC3.out HC2.out (by rw [List.length_map]; exact hl6)).mono ?_; rintro e v4 ⟨rfl, hb⟩; have HKd := Lib.hid (HKc.out.below hb); clear hb)
        | (go_simp; go_at_call 16; refine (between_ks HKd.out (by omega) hl6 fr to_).mono ?_; rintro e v5 ⟨A3, n3, c3, rfl, hC4, hk⟩; have HKe := Lib.hid hk; have HC4 := Lib.hid hC4; clear hk hC4)
        | (go_simp; go_at_call 17; refine (rbetween_ks HKe.out hl6 fr to_).mono ?_; rintro e v6 ⟨A4, n4, c4, rfl, hC5, hk, hb⟩; have HKf := Lib.hid hk; have HC5 := Lib.hid hC5; have HC6 := Lib.hid (Kd.C_below HC4.out hb); clear hk hC5 hb)
        | (go_simp; go_at_call 15; refine (numbers_eq A3 A4 n3 c3 n4 c4 _ _ HC6.out HC5.out (Nat.le_trans (betw_le _ _ _) hl6)).mono ?_; rintro e v7 ⟨rfl, hb⟩; have HKg := Lib.hid (HKf.out.below hb); clear hb))
      go_wp2_with fail
      go_roundw
      case rel =>
        refine ⟨i + 1, l2, p2, ?_, by omega, by omega, HKg.out.drop, HI2.out⟩
        go_num
      case measure => simp [intOf]; omega
    · have hE : (decide ((i : Int) < (m : Int)) = false ∧ decide (i < m) = false ∧ ¬ i < m) ∨ decide ((i : Int) < (m : Int)) = true ∧ decide ((i : Int) < 300) = false ∧ decide (i < 300) = false ∧ ¬ i < 300 ∧ i < m := by
        by_cases h9 : i < m
        · exact .inr ⟨decide_eq_true (by omega), decide_eq_false (by omega), decide_eq_false (by omega), by omega, h9⟩
        · exact .inl ⟨decide_eq_false (by omega), decide_eq_false h9, h9⟩
      clear hlt
      rcases hE with ⟨e1, e2, e3⟩ | ⟨e1, e2, e3, e4, e5⟩
      all_goals
        go_wp2_with fail
        refine (alive_any _).mono ?_
        rintro e w8 ⟨rfl, hb8⟩
        have HB8 := Lib.hid (HBQ.out.trans (hb8.mono HBQ.out.size))
        clear hb8
        go_wp2_with fail
        go_ret
        exact ⟨rfl, HB8.out⟩
end Go.Proofs.Ytnognpfenefafaa
