/- The walk of Spoil, at a net that is made. -/
import Derived.Test.YtnognpfenefafaaNr2
import Derived.Deep.RegionLaw
namespace Go.Proofs.Ytnognpfenefafaa
open Go.Proofs.Ytnognpfenefafaa.PNetRuns (S39 S73 k39 k73 z39 z73)
open Go.RowKit Go.Proofs.YtnognpfenefafaaW.PrintWords Go.Proofs.YtnognpfenefafaaW.PrintLast Go.Proofs.YtnognpfenefafaaW.PrintMore
/-- A byte of a packet of a row of the call's own, and the row when it is turned. -/
theorem spoil_facts {t : Nat} {ok : Nat → Prop} {gA n cap : Nat} {ps : List S73} {w : World} (hS : Kd.S k73 t w 0 ok (.slice (some ⟨gA, 0, none⟩) n cap) ps) (i : Nat) (hi : i < ps.length) (x : S73) (hx : x = ps.getD i z73) (a : Nat) (ha : a < x.f1.length) :
    ∃ g5 c5 y, w.cell? ⟨gA, i * 6 + 5, none⟩ = some (.slice (some ⟨g5, 0, none⟩) x.f1.length c5) ∧ w.cell? ⟨g5, a, none⟩ = some (.int .u8 y) ∧ w.frozen? ⟨g5, a, none⟩ = false ∧ Hid (y = x.f1.getD a 0) ∧ ok g5 ∧ g5 ≠ gA ∧ x.f1.length ≤ c5 ∧
      ∀ u : Int, Kd.S k73 t (w.setCell ⟨g5, a, none⟩ (.int .u8 u)) 0 ok (.slice (some ⟨gA, 0, none⟩) n cap) (ps.set i ⟨x.f0, x.f1.set a u⟩) := by
  have hn := (Kd.S_reads' hS).1
  obtain ⟨oki, cs, hcl, hM, hc0, hok, hH⟩ := Kd.S_lend hS z73 (i : Int) (by omega) (by omega)
  rw [show ((i : Int)).toNat = i by omega, ← hx] at hM
  rw [show ((i : Int)).toNat = i by omega] at hc0
  obtain ⟨v5, rfl, g5R⟩ := PNetRuns.k73_openM hM
  obtain ⟨g5, c5, rfl, _, _, _⟩ := Kd.R_form g5R (by omega)
  obtain ⟨c, hc1, hc2, hc3, hc4⟩ := Kd.R_elem g5R 0 (a : Int) (by omega) (by omega)
  rw [show ((a : Int)).toNat = a by omega] at hc2 hc3 hc4
  have hown := g5R.1 g5 (by simp [Value.ownBlock])
  have hcc : c = [.int .u8 (x.f1.getD a 0)] := hc2
  subst hcc
  refine ⟨g5, c5, x.f1.getD a 0, hc0 5 _ rfl, by simpa [Kd.int, Kd.scalar] using hc3 0 _ rfl, by simpa [Kd.int, Kd.scalar] using hc4 0, rfl, (hok g5 hown).1, (hok g5 hown).2, (Kd.R_reads' g5R).2.1, fun u => ?_⟩
  obtain ⟨hR2, hG2⟩ := Kd.R_putg g5R (a : Int) u
  rw [show ((a : Int)).toNat = a by omega] at hR2 hG2
  have hM2 := PNetRuns.k73_mkM _ 0 oki ⟨x.f0, x.f1.set a u⟩ hR2
  have hH2 := Kd.H_grown hH hG2 (fun k hk => by injection hk with hk; subst hk; exact hown)
  have := Kd.H_back hH2 (x' := ⟨x.f0, x.f1.set a u⟩) hM2 (fun _ h => h)
  rwa [show ((i : Int)).toNat = i by omega] at this
/-- Bits of a byte turned. -/
def xr (y b : Int) : Int := Go.bits BinOp.xor IntKind.u8 y b
set_option maxRecDepth 100000 in
set_option maxHeartbeats 2000000 in
theorem spoil_no (S : Nat → Prop) (g : Nat) (dev last id bits : Int) (ps : List S73) (w : World) (a : Nat) (x : S73) (h : No S g dev last ps w) (hd : 0 < dev) (hl : ps.length ≤ 100000) (hq : fnd ps id < ps.length) (hx : x = ps.getD (fnd ps id) z73) (ha : a < x.f1.length) (hxl : x.f1.length ≤ 65536) :
    Calls Try.prog 21 #[.pointer (some ⟨g, 0, none⟩), .int .i64 id, .int .i64 a, .int .u8 bits] w fun e w' => e = .returned (.int .i64 0) ∧ No S g dev last (ps.set (fnd ps id) ⟨x.f0, x.f1.set a (xr (x.f1.getD a 0) bits)⟩) w' ∧ Chg S w w' := by
  obtain ⟨i, hi⟩ : ∃ i, i = fnd ps id := ⟨_, rfl⟩
  have hil : i < ps.length := by rw [hi]; exact hq
  have HH := Lib.hid h
  have HQ := Lib.hid hq
  have hn2 : (i : Int) < (ps.length : Int) := by omega
  obtain ⟨hg, hlt, v, hblk0, hS0⟩ := h
  obtain ⟨gA, cap, rfl, _, hgl, _⟩ := Kd.S_form hS0 (by omega)
  have hownA := ((Kd.S_R hS0).1 gA (by simp [Value.ownBlock]))
  have HBK0 := Lib.hid hblk0
  have HS0 := Lib.hid hS0
  have HI := Lib.hid hi
  have HX := Lib.hid (show x = ps.getD i z73 by rw [hi]; exact hx)
  have HGL := Lib.hid (And.intro hg (And.intro hlt hownA))
  clear hi hx hq hblk0 hS0 hlt hg hownA
  go_enter Try.func21, Try.ntmps21
  go_wp2_with fail
  refine (find_hit S g dev last id ps _ HH.out hd (by omega) HQ.out).mono ?_
  rintro e w1 ⟨rfl, hb⟩
  rw [← HI.out]
  have hblk := (hb.block g (blk_lt HBK0.out)).trans HBK0.out
  obtain ⟨g5, c5, y, z5, z1, fz, HY, hok5, hne5, hc5, hst⟩ := spoil_facts (Kd.S_below HS0.out hb) i hil x HX.out a ha
  have d2 := blk_cell hblk 2 (.slice (some ⟨gA, 0, none⟩) ps.length cap) rfl
  have HB := Lib.hid hb
  have HST := Lib.hid hst
  have HBK := Lib.hid hblk
  clear hblk hb hst
  have ha1 : ((a : Nat) : Int) < (x.f1.length : Int) := by omega
  have ha2 : ((x.f1.length : Nat) : Int) ≤ 65536 := by omega
  go_wp2_with fail
  go_ret
  refine ⟨rfl, ?_, (Chg.of_below HB.out S).set _ _ (.inl hok5.1)⟩
  rw [← HI.out, ← HY.out]
  refine ⟨HGL.out.1, fun k hk => by simpa [World.setCell] using Nat.lt_of_lt_of_le (HGL.out.2.1 k hk) HB.out.size, _, ?_, HST.out _⟩
  exact (Below.heap_setCell _ _ _ _ (fun h9 => hok5.2 h9.symm)).trans HBK.out
set_option maxRecDepth 100000 in
set_option maxHeartbeats 2000000 in
theorem spoil_bad (S : Nat → Prop) (g : Nat) (dev last id bits at_ : Int) (ps : List S73) (w : World) (x : S73) (h : No S g dev last ps w) (hd : 0 < dev) (hl : ps.length ≤ 100000) (hq : fnd ps id < ps.length) (hx : x = ps.getD (fnd ps id) z73) (ha : ¬ (0 ≤ at_ ∧ at_ < x.f1.length)) (hxl : x.f1.length ≤ 65536) :
    Calls Try.prog 21 #[.pointer (some ⟨g, 0, none⟩), .int .i64 id, .int .i64 at_, .int .u8 bits] w fun e w' => e = .returned (.int .i64 232) ∧ Below w.heap.size w w' := by
  obtain ⟨i, hi⟩ : ∃ i, i = fnd ps id := ⟨_, rfl⟩
  have hil : i < ps.length := by rw [hi]; exact hq
  have HH := Lib.hid h
  have HQ := Lib.hid hq
  have hn2 : (i : Int) < (ps.length : Int) := by omega
  obtain ⟨hg, hlt, v, hblk0, hS0⟩ := h
  obtain ⟨gA, cap, rfl, _, hgl, _⟩ := Kd.S_form hS0 (by omega)
  obtain ⟨A5, c5, x', ⟨hz0, hz1, hz2, hz3, hz4, hz5⟩, hV0, HX⟩ := S_pk_at hS0 i hil
  obtain rfl : x = x' := by rw [HX.out, hx, hi]
  have HBK0 := Lib.hid hblk0
  have HI := Lib.hid hi
  clear hi hx hq hS0 hlt hg hblk0 hz0 hz1 hz2 hz3 hz4 hV0
  go_enter Try.func21, Try.ntmps21
  go_wp2_with fail
  refine (find_hit S g dev last id ps _ HH.out hd (by omega) HQ.out).mono ?_
  rintro e w1 ⟨rfl, hb⟩
  rw [← HI.out]
  have hblk := (hb.block g (blk_lt HBK0.out)).trans HBK0.out
  have z5 := pw_cell_below hb hz5
  have d2 := blk_cell hblk 2 (.slice (some ⟨gA, 0, none⟩) ps.length cap) rfl
  have HB := Lib.hid hb
  clear hblk hb hz5
  have ha2 : ((x.f1.length : Nat) : Int) ≤ 65536 := by omega
  by_cases h0 : at_ < 0
  · have hb0 : decide (at_ < 0) = true := decide_eq_true h0
    clear ha h0
    go_wp2_with fail
    go_ret
    exact ⟨rfl, HB.out⟩
  · have hb0 : decide (at_ < 0) = false := decide_eq_false h0
    have hb1 : decide ((x.f1.length : Int) ≤ at_) = true := decide_eq_true (by omega)
    clear ha h0
    go_wp2_with fail
    go_ret
    exact ⟨rfl, HB.out⟩
end Go.Proofs.Ytnognpfenefafaa
