/- The walks of the document's Spoil and Clear. -/
import Derived.Test.YtnognpfenefafaaNo1
import Derived.StillTailTactics
namespace Go.Proofs.Ytnognpfenefafaa
open Go.Proofs.Ytnognpfenefafaa.PNetRuns (S39 S73 k39 k73 z39 z73)
open Go.RowKit Go.Proofs.YtnognpfenefafaaW.PrintWords Go.Proofs.YtnognpfenefafaaW.PrintLast Go.Proofs.YtnognpfenefafaaW.PrintMore
/-- The document's net behind a call. -/
def RP (S : Nat → Prop) (g : Nat) (dev last : Int) (ps : List S73) (w w' : World) : Prop :=
  (∃ S' : Nat → Prop, Rn S' g dev last ps w' ∧ ∀ k, S' k → S k ∨ w.heap.size ≤ k) ∧ Chg S w w'
theorem RP.same {S : Nat → Prop} {g : Nat} {dev last : Int} {ps : List S73} {w w1 : World} (h : Rn S g dev last ps w) (hb : Below w.heap.size w w1) : RP S g dev last ps w w1 :=
  ⟨⟨S, h.step hb.size (fun _ _ hl => hb.block _ hl), fun _ hk => .inl hk⟩, Chg.of_below hb S⟩
theorem RP.drew {S : Nat → Prop} {g : Nat} {dev last : Int} {ps : List S73} {w w1 : World} (h : RP S g dev last ps w w1) : RP S g dev last ps w w1.drew := by
  obtain ⟨⟨S', h1, h2⟩, h3⟩ := h
  exact ⟨⟨S', h1.step (Nat.le_refl _) (fun _ _ _ => rfl), h2⟩, ⟨h3.os, h3.tape, h3.output, h3.size, h3.block⟩⟩
theorem rclear_no (S : Nat → Prop) (g : Nat) (dev last : Int) (ps : List S73) (w : World) (h : Rn S g dev last ps w) :
    Calls Try.prog 28 #[.pointer (some ⟨g, 0, none⟩)] w fun e w' => e = .returned (.int .i64 ps.length) ∧ RP S g dev last [] w w' := by
  obtain ⟨hg, hlt, v, hblk, hS⟩ := h
  obtain ⟨A, c, rfl⟩ := Kd.S_slice hS
  have d2 := blk_cell hblk 2 (.slice A ps.length c) rfl
  have f2 := blk_free hblk 2
  have HB := Lib.hid hblk
  have HS := Lib.hid (show _ ∧ _ from ⟨hg, hlt⟩)
  clear hblk hS hg hlt
  go_enter Try.func28, Try.ntmps28
  go_wp2_with fail
  go_ret
  exact ⟨rfl, ⟨S, ⟨HS.out.1, fun k hk => by simpa [World.setCell] using HS.out.2 k hk, _, by simpa using blk_set HB.out 2 (.slice none 0 0), Kd.S_nil _ _ _ _ _⟩, fun _ hk => .inl hk⟩, (Chg.refl S _).set _ _ (.inl HS.out.1)⟩
set_option maxRecDepth 100000 in
set_option maxHeartbeats 2000000 in
theorem rspoil_no (S : Nat → Prop) (g : Nat) (dev last id bits : Int) (ps : List S73) (w : World) (a : Nat) (x : S73) (h : Rn S g dev last ps w) (hl : ps.length ≤ 100000) (hq : fnd ps id < ps.length) (hx : x = ps.getD (fnd ps id) z73) (ha : a < x.f1.length) (hxl : x.f1.length ≤ 65536) :
    Calls Try.prog 27 #[.pointer (some ⟨g, 0, none⟩), .int .i64 id, .int .i64 a, .int .u8 bits] w fun e w' => e = .returned (.int .i64 0) ∧ RP S g dev last (ps.set (fnd ps id) (spoilt x a bits)) w w' := by
  obtain ⟨i, hi⟩ : ∃ i, i = fnd ps id := ⟨_, rfl⟩
  have hil : i < ps.length := by rw [hi]; exact hq
  have HF := Lib.hid (rfind_hit S g dev last id ps w h hl hq)
  have hn2 : (i : Int) < (ps.length : Int) := by omega
  have hn3 : (0 : Int) ≤ (i : Int) := by omega
  obtain ⟨hg, hlt, v, hblk, hS0⟩ := h
  obtain ⟨gA, cap, rfl, _, hgl, _⟩ := Kd.S_form hS0 (by omega)
  have HI := Lib.hid hi
  have hX : x = ps.getD i z73 := by rw [hi]; exact hx
  obtain ⟨g5, c5, y, z5, z1, fz, HY, hok5, hne5, hc5, hst⟩ := spoil_facts hS0 i hil x hX a ha
  have hcap := (Kd.S_reads' hS0).2.1
  have d2 := blk_cell hblk 2 (.slice (some ⟨gA, 0, none⟩) ps.length cap) rfl
  have HGL := Lib.hid (And.intro hg hlt)
  have HST := Lib.hid hst
  have HBK := Lib.hid hblk
  rw [← hi] at HF ⊢
  clear hi hx hq hS0 hlt hg hblk hst hX
  have ha1 : ((a : Nat) : Int) < (x.f1.length : Int) := by omega
  have ha2 : ((x.f1.length : Nat) : Int) ≤ 65536 := by omega
  have hi9 : decide ((i : Int) < 0) = false := decide_eq_false (by omega)
  have ha9 : decide ((a : Int) < 0) = false := decide_eq_false (by omega)
  have ha8 : decide ((x.f1.length : Int) ≤ (a : Int)) = false := decide_eq_false (by omega)
  have ha7 : ¬ x.f1.length ≤ a := by omega
  go_enter Try.func27, Try.ntmps27
  go_wp2_with fail
  refine HF.out.mono ?_
  clear HF
  rintro e w1 ⟨rfl, rfl⟩
  go_wp2_with fail
  go_still_tail 23, (by kernel_rfl)
  go_wp2_with fail
  go_ret
  refine ⟨rfl, ?_⟩
  refine RP.drew ⟨⟨S, ⟨HGL.out.1, fun k hk => by simpa [World.setCell] using HGL.out.2 k hk, _, (Below.heap_setCell _ _ _ _ (fun h9 => hok5.2 h9.symm)).trans HBK.out, ?_⟩, fun _ hk => .inl hk⟩, (Chg.refl S _).set _ _ (.inl hok5.1)⟩
  have h9 := HST.out (xr y bits)
  have hs : spoilt x a bits = ⟨x.f0, x.f1.set a (xr y bits)⟩ := by unfold spoilt; rw [← HY.out]
  rw [hs]
  exact h9
set_option maxRecDepth 100000 in
set_option maxHeartbeats 2000000 in
theorem rspoil_bad (S : Nat → Prop) (g : Nat) (dev last id bits at_ : Int) (ps : List S73) (w : World) (x : S73) (h : Rn S g dev last ps w) (hl : ps.length ≤ 100000) (hq : fnd ps id < ps.length) (hx : x = ps.getD (fnd ps id) z73) (ha : ¬ (0 ≤ at_ ∧ at_ < x.f1.length)) (hxl : x.f1.length ≤ 65536) :
    Calls Try.prog 27 #[.pointer (some ⟨g, 0, none⟩), .int .i64 id, .int .i64 at_, .int .u8 bits] w fun e w' => e = .returned (.int .i64 232) ∧ w' = w := by
  obtain ⟨i, hi⟩ : ∃ i, i = fnd ps id := ⟨_, rfl⟩
  have hil : i < ps.length := by rw [hi]; exact hq
  have HF := Lib.hid (rfind_hit S g dev last id ps w h hl hq)
  have hn2 : (i : Int) < (ps.length : Int) := by omega
  have hn3 : (0 : Int) ≤ (i : Int) := by omega
  obtain ⟨hg, hlt, v, hblk, hS0⟩ := h
  obtain ⟨gA, cap, rfl, _, hgl, _⟩ := Kd.S_form hS0 (by omega)
  obtain ⟨A5, c5, x', ⟨hz0, hz1, hz2, hz3, hz4, hz5⟩, hV0, HX⟩ := S_pk_at hS0 i hil
  obtain rfl : x = x' := by rw [HX.out, hx, hi]
  have hcap := (Kd.S_reads' hS0).2.1
  have d2 := blk_cell hblk 2 (.slice (some ⟨gA, 0, none⟩) ps.length cap) rfl
  rw [← hi] at HF
  clear hi hx hq hS0 hlt hg hblk hz0 hz1 hz2 hz3 hz4 hV0
  have ha2 : ((x.f1.length : Nat) : Int) ≤ 65536 := by omega
  have hi9 : decide ((i : Int) < 0) = false := decide_eq_false (by omega)
  by_cases h0 : at_ < 0
  · have hb0 : decide (at_ < 0) = true := decide_eq_true h0
    clear ha h0
    go_enter Try.func27, Try.ntmps27
    go_wp2_with fail
    refine HF.out.mono ?_
    clear HF
    rintro e w1 ⟨rfl, rfl⟩
    go_wp2_with fail
    go_ret
    exact ⟨rfl, rfl⟩
  · have hb0 : decide (at_ < 0) = false := decide_eq_false h0
    have hb1 : decide ((x.f1.length : Int) ≤ at_) = true := decide_eq_true (by omega)
    clear ha h0
    go_enter Try.func27, Try.ntmps27
    go_wp2_with fail
    refine HF.out.mono ?_
    clear HF
    rintro e w1 ⟨rfl, rfl⟩
    go_wp2_with fail
    go_ret
    exact ⟨rfl, rfl⟩
end Go.Proofs.Ytnognpfenefafaa
