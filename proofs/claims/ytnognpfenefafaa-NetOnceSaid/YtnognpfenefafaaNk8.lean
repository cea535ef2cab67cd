/- The walk of put. -/
import Derived.Test.YtnognpfenefafaaNk4
import Derived.Deep.RegionLaw
namespace Go.Proofs.Ytnognpfenefafaa
open Go.Proofs.Ytnognpfenefafaa.PNetRuns (S39 S73 k39 k73 z39 z73)
open Go.RowKit Go.Proofs.YtnognpfenefafaaW.PrintWords Go.Proofs.YtnognpfenefafaaW.PrintLast Go.Proofs.YtnognpfenefafaaW.PrintMore
theorem clone_any (okp : Nat → Prop) (A : Option Addr) (n c : Nat) (bs : List Int) (w : World) (hV : Kd.V KB 5 w 0 okp (.slice A n c) bs) (hl : bs.length ≤ 1000000) :
    Calls Try.prog 41 #[.slice A n c] w fun e w' => ∃ v, e = .returned v ∧ KB.R 5 w' w.heap.size (fun k => w.heap.size ≤ k) v bs ∧ Below w.heap.size w w' := by
  cases A with
  | some a => exact clone_ok okp a n c bs w hV hl
  | none =>
    obtain ⟨h1, h2, h3⟩ := Kd.V_reads' hV
    have h0 : n = 0 := by
      rcases Nat.eq_zero_or_pos n with h | h
      · exact h
      · obtain ⟨_, hx, _⟩ := h3.2.2 (by omega)
        cases hx
    subst h0
    obtain rfl : bs = [] := List.eq_nil_of_length_eq_zero h1.symm
    refine (clone_nil c w).mono ?_
    rintro e w' ⟨rfl, rfl⟩
    exact ⟨_, rfl, Kd.R_nil _ _ _ _ _, Below.refl _ _⟩
set_option maxRecDepth 100000 in
set_option maxHeartbeats 2000000 in
theorem put_no (S okp : Nat → Prop) (g : Nat) (dev last : Int) (ps : List S73) (w : World) (i0 fr to_ len0 : Int) (fo : Bool) (A : Option Addr) (n c : Nat) (bs : List Int) (h : No S g dev last ps w) (hV : Kd.V KB 5 w 0 okp (.slice A n c) bs) (hok : ∀ k, okp k → k ≠ g)
    (hl : bs.length ≤ 65536) (hps : ps.length < 16384) (h0 : 0 ≤ last) (h1 : last ≤ 4611686018427387904) :
    Calls Try.prog 33 #[.pointer (some ⟨g, 0, none⟩), .agg #[.int .i64 i0, .int .i64 fr, .int .i64 to_, .int .i64 len0, .bool fo], .slice A n c] w fun e w' => e = .returned (.tuple #[.int .i64 (last + 1), .bool true]) ∧ (∃ S' : Nat → Prop, No S' g dev (last + 1) (ps ++ [⟨⟨last + 1, fr, to_, bs.length, fo⟩, bs⟩]) w' ∧ ∀ k, S' k → S k ∨ w.heap.size ≤ k) ∧ Chg S w w' := by
  obtain ⟨hg, hlt, v, hblk, hR⟩ := h
  obtain ⟨A1, c1, rfl⟩ := Kd.S_slice hR
  obtain ⟨hn, hnc, _⟩ := Kd.V_at hV
  have d0 := blk_cell hblk 0 (.int .i64 dev) rfl
  have d1 := blk_cell hblk 1 (.int .i64 last) rfl
  have d2 := blk_cell hblk 2 (.slice A1 ps.length c1) rfl
  have f1 := blk_free hblk 1
  have f2 := blk_free hblk 2
  have HB := Lib.hid hblk
  have HV := Lib.hid hV
  have HS := Lib.hid hR
  have HLT := Lib.hid hlt
  have hgl := hlt g hg
  clear hblk hV hR hlt
  have fin : ∀ (w4 : World) (v4 : Value), w4.heap[g]? = some (.cells #[.int .i64 dev, .int .i64 (last + 1), .slice A1 ps.length c1] 54 (0, 0)) → Kd.S k73 69 w4 0 (fun k => (S k ∧ k ≠ g) ∨ w.heap.size ≤ k) v4 (ps ++ [⟨⟨last + 1, fr, to_, bs.length, fo⟩, bs⟩]) → Chg S w w4 →
      (∃ S' : Nat → Prop, No S' g dev (last + 1) (ps ++ [⟨⟨last + 1, fr, to_, bs.length, fo⟩, bs⟩]) (w4.setCell ⟨g, 2, none⟩ v4) ∧ ∀ k, S' k → S k ∨ w.heap.size ≤ k) ∧ Chg S w (w4.setCell ⟨g, 2, none⟩ v4) := by
    intro w4 v4 hb hs hc
    have hsz : (w4.setCell ⟨g, 2, none⟩ v4).heap.size = w4.heap.size := by simp [World.setCell]
    refine ⟨⟨fun k => (S k ∨ w.heap.size ≤ k) ∧ k < w4.heap.size, ⟨⟨.inl hg, blk_lt hb⟩, fun k hk => by rw [hsz]; exact hk.2, v4, by simpa using blk_set hb 2 v4, ?_⟩, fun k hk => hk.1⟩, hc.set _ _ (.inl hg)⟩
    refine Kd.S_far (Kd.S_mono (Kd.S_bound hs) ?_) (fun k hk => hk.2) v4
    intro k hk
    refine ⟨⟨?_, hk.2.2.1⟩, ?_⟩
    · rcases hk.1 with h | h
      · exact .inl h.1
      · exact .inr h
    · rcases hk.1 with h | h
      · exact h.2
      · intro he; omega
  have FIN := Lib.hid fin
  clear fin
  obtain ⟨m, hm⟩ : ∃ m, m = ps.length := ⟨_, rfl⟩
  rw [← hm] at d2 hps
  have HM := Lib.hid hm
  have HN := Lib.hid hn
  clear hm hn
  have hps' : decide ((16384 : Int) ≤ (m : Int)) = false := by simp; omega
  go_enter Try.func33, Try.ntmps33
  go_wp2_with fail
  have hb2 : ((w.setCell ⟨g, 1, none⟩ (.int .i64 (last + 1))).alloc (.cells #[.int .i64 (last + 1), .int .i64 fr, .int .i64 to_, .int .i64 n, .bool fo] 39)).heap[g]? = some (.cells #[.int .i64 dev, .int .i64 (last + 1), .slice A1 ps.length c1] 54 (0, 0)) :=
    (Below.heap_alloc _ _ g (by simpa [World.setCell] using hgl)).trans (by simpa using blk_set HB.out 1 (.int .i64 (last + 1)))
  have hV2 := Kd.V_alloc (Kd.V_far (p := ⟨g, 1, none⟩) HV.out hok (.int .i64 (last + 1))) (.cells #[.int .i64 (last + 1), .int .i64 fr, .int .i64 to_, .int .i64 n, .bool fo] 39)
  have hS2 := Kd.S_alloc (Kd.S_far (p := ⟨g, 1, none⟩) HS.out (fun k hk => hk.2) (.int .i64 (last + 1))) (.cells #[.int .i64 (last + 1), .int .i64 fr, .int .i64 to_, .int .i64 n, .bool fo] 39)
  have hC2 := ((Chg.refl S w).set ⟨g, 1, none⟩ (.int .i64 (last + 1)) (.inl hg)).alloc (.cells #[.int .i64 (last + 1), .int .i64 fr, .int .i64 to_, .int .i64 n, .bool fo] 39)
  have hbx := heap_alloc_new (w.setCell ⟨g, 1, none⟩ (.int .i64 (last + 1))) (.cells #[.int .i64 (last + 1), .int .i64 fr, .int .i64 to_, .int .i64 n, .bool fo] 39)
  have hz : (w.setCell ⟨g, 1, none⟩ (.int .i64 (last + 1))).heap.size = w.heap.size := by simp [World.setCell]
  rw [hz] at hbx
  have hsz2 : ((w.setCell ⟨g, 1, none⟩ (.int .i64 (last + 1))).alloc (.cells #[.int .i64 (last + 1), .int .i64 fr, .int .i64 to_, .int .i64 n, .bool fo] 39)).heap.size = w.heap.size + 1 := by rw [World.size_alloc, hz]
  generalize (w.setCell ⟨g, 1, none⟩ (.int .i64 (last + 1))).alloc (.cells #[.int .i64 (last + 1), .int .i64 fr, .int .i64 to_, .int .i64 n, .bool fo] 39) = W2 at *
  obtain ⟨g1, hg1⟩ : ∃ g1, g1 = w.heap.size := ⟨_, rfl⟩
  have HG1 := Lib.hid hg1
  rw [← hg1] at hbx hsz2 hgl ⊢
  have e2 := blk_cell hb2 2 (.slice A1 m c1) (by rw [HM.out]; rfl)
  have HB2 := Lib.hid hb2
  have HV2 := Lib.hid hV2
  rw [← HM.out] at hS2
  have hOW := (Kd.S_R hS2).1
  have HOW := Lib.hid hOW
  clear hOW
  have HS2 := Lib.hid hS2
  have HC2 := Lib.hid hC2
  have HZ2 := Lib.hid hsz2
  have t0 := blk_cell hbx 0 (.int .i64 (last + 1)) rfl
  have t1 := blk_cell hbx 1 (.int .i64 fr) rfl
  have t2 := blk_cell hbx 2 (.int .i64 to_) rfl
  have t3 := blk_cell hbx 3 (.int .i64 n) rfl
  have t4 := blk_cell hbx 4 (.bool fo) rfl
  clear hbx
  have hne1 : g ≠ g1 := Nat.ne_of_lt hgl
  have hne2 : g1 ≠ g := Ne.symm hne1
  clear hb2 hV2 hS2 hC2 hsz2 hz d0 d1 d2 f1 f2 hg1
  go_region_law (first
      | (refine Kd.S_append_step k73 (w0 := w3) 0 (by rfl) (.tmp 37) (.tmp 42) 52 69 (.agg #[.int .i64 0, .int .i64 0, .int .i64 0, .int .i64 0, .bool false, .slice none 0 0]) 64 (by rfl) Try.underlying52 Try.info69 rfl (by decide) (by omega) (.slice A1 m c1) ps ⟨⟨last + 1, fr, to_, bs.length, fo⟩, bs⟩ [.int .i64 (last + 1), .int .i64 fr, .int .i64 to_, .int .i64 n, .bool fo, .slice A3 bs.length c3] (fun k => (S k ∧ k ≠ g) ∨ w.heap.size ≤ k) (fun k => W2.heap.size ≤ k) (by rfl) (by rfl) ?aP ?aK ?aF ?aO ?aB ?aS ?aL ?_; (case aP => rw [HN.out]; exact PNetRuns.k73_mkM _ 0 (fun k => W2.heap.size ≤ k) _ (Kd.R_lower HR3.out (Nat.zero_le _))); (case aK => intro k hk; refine ⟨.inr (by have := HZ2.out; have := HG1.out; omega), fun he => ?_⟩; have h9 := HLT.out k (HOW.out k he.symm).1; have := HZ2.out; have := HG1.out; omega); (case aF => intro k hk; have := HC3.out.size; have := HZ2.out; have := HG1.out; exact .inr (by omega)); (case aO => exact Kd.S_mono (Kd.S_step HS2.out (fun k hk hlk => HC3.out.block k hlk id)) (fun k hk => ⟨.inl hk, fun h9 => by have := HLT.out k hk.1; have := HZ2.out; have := HG1.out; omega⟩)); (case aB => exact Below.refl _ _); (case aS => exact Nat.zero_le _); (case aL => rw [← HM.out]; omega); intro v4 w4 hs4 hb4 hg4 hat4; have hlt2 : g < W2.heap.size := (by have := HZ2.out; omega); have hlt3 : g < w3.heap.size := Nat.lt_of_lt_of_le hlt2 HC3.out.size; have hk4 := (hg4.block g hlt3 (fun he => (HOW.out g he.symm).2 rfl)).trans ((HC3.out.block g hlt2 id).trans HB2.out); have hc4 := (HC3.out.mono (T := S) (fun _ h => h.elim)).grown hg4 (fun k hk => .inl (HOW.out k hk).1); have hnS : ¬ S g1 := (fun h9 => by have := HLT.out g1 h9; have := HG1.out; omega); have u2 := blk_cell hk4 2 (.slice A1 m c1) (by rw [HM.out]; rfl); have v2 := blk_free hk4 2; have u1 := blk_cell hk4 1 (.int .i64 (last + 1)) rfl; have u3 := hc4.cell t0 hnS; have u4 := hc4.cell t1 hnS; have u5 := hc4.cell t2 hnS; have u6 := hc4.cell t3 hnS; have u7 := hc4.cell t4 hnS; have HK4 := Lib.hid hk4; have HC4 := Lib.hid (HC2.out.trans hc4 (fun i hi => .inl hi)); have HS4 := Lib.hid hs4; clear hs4 hb4 hg4 hat4 hk4 hc4 hnS hlt2 hlt3; obtain ⟨A4, c4, e4⟩ := Kd.S_slice HS4.out; rw [List.length_append] at e4; subst e4)
      | (go_simp; go_at_call 41; refine (clone_any okp A n c bs _ (Kd.V_drewN HV2.out _) (by omega)).mono ?_; rintro e w3 ⟨v3, rfl, hr3, hb3⟩; have HR3 := Lib.hid hr3; have hc3 := Chg.drawn _ _ _ (Chg.of_below hb3 (fun _ => False)); have HC3 := Lib.hid hc3; have s2 := hc3.cell e2 id; have s3 := hc3.cell t0 id; have s4 := hc3.cell t1 id; have s5 := hc3.cell t2 id; have s6 := hc3.cell t3 id; have s7 := hc3.cell t4 id; have sA := (fun o => Lib.cell?_alloc_some o s2); clear hr3 hb3 hc3; obtain ⟨A3, c3, e3⟩ := Kd.R_slice HR3.out; subst e3))
  all_goals
    go_wp2_with fail
    first | go_ret2 | (go_quiet (fail); go_wp2_with fail; go_ret2)
    exact ⟨rfl, FIN.out _ _ HK4.out HS4.out HC4.out⟩
end Go.Proofs.Ytnognpfenefafaa
