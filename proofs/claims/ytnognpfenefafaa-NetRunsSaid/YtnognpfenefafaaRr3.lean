/- The walks of the document's put and Send. -/
import Derived.Test.YtnognpfenefafaaNo1
import Derived.Deep.RegionLaw
namespace Go.Proofs.Ytnognpfenefafaa
open Go.Proofs.Ytnognpfenefafaa.PNetRuns (S39 S73 k39 k73 z39 z73)
open Go.RowKit Go.Proofs.YtnognpfenefafaaW.PrintWords Go.Proofs.YtnognpfenefafaaW.PrintLast Go.Proofs.YtnognpfenefafaaW.PrintMore
set_option maxRecDepth 100000 in
set_option maxHeartbeats 2000000 in
theorem rput_no (S okp : Nat → Prop) (g : Nat) (dev last : Int) (ps : List S73) (w : World) (fr to_ : Int) (fo : Bool) (A : Option Addr) (n c : Nat) (bs : List Int) (h : Rn S g dev last ps w) (hV : Kd.V KB 5 w 0 okp (.slice A n c) bs) (hok : ∀ k, okp k → k ≠ g)
    (hl : bs.length ≤ 65536) (hps : ps.length < 16384) (h0 : 0 ≤ last) (h1 : last ≤ 4611686018427387904) :
    Calls Try.prog 35 #[.pointer (some ⟨g, 0, none⟩), .int .i64 fr, .int .i64 to_, .slice A n c, .bool fo] w fun e w' => e = .returned (.tuple #[.int .i64 (last + 1), .bool true]) ∧ (∃ S' : Nat → Prop, Rn S' g dev (last + 1) (ps ++ [⟨⟨last + 1, fr, to_, bs.length, fo⟩, bs⟩]) w' ∧ ∀ k, S' k → S k ∨ w.heap.size ≤ k) ∧ Chg S w w' := by
  obtain ⟨hg, hlt, v, hblk, hR⟩ := h
  obtain ⟨A1, c1, rfl⟩ := Kd.S_slice hR
  obtain ⟨hn, hnc, _⟩ := Kd.V_at hV
  have d1 := blk_cell hblk 1 (.int .i64 last) rfl
  have f1 := blk_free hblk 1
  have hgl := hlt g hg
  have hB2 : (w.setCell ⟨g, 1, none⟩ (.int .i64 (last + 1))).heap[g]? = some (.cells #[.int .i64 dev, .int .i64 (last + 1), .slice A1 ps.length c1] 34 (0, 0)) := by simpa using blk_set hblk 1 (.int .i64 (last + 1))
  have hV2 := Kd.V_far (p := ⟨g, 1, none⟩) hV hok (.int .i64 (last + 1))
  have hS2 := Kd.S_far (p := ⟨g, 1, none⟩) hR (fun k hk => hk.2) (.int .i64 (last + 1))
  have hC2 := (Chg.refl S w).set ⟨g, 1, none⟩ (.int .i64 (last + 1)) (.inl hg)
  have hz : (w.setCell ⟨g, 1, none⟩ (.int .i64 (last + 1))).heap.size = w.heap.size := by simp [World.setCell]
  have HLT := Lib.hid hlt
  have fin : ∀ (w4 : World) (v4 : Value), w4.heap[g]? = some (.cells #[.int .i64 dev, .int .i64 (last + 1), .slice A1 ps.length c1] 34 (0, 0)) → Kd.S k73 73 w4 0 (fun k => (S k ∧ k ≠ g) ∨ w.heap.size ≤ k) v4 (ps ++ [⟨⟨last + 1, fr, to_, bs.length, fo⟩, bs⟩]) → Chg S w w4 →
      (∃ S' : Nat → Prop, Rn S' g dev (last + 1) (ps ++ [⟨⟨last + 1, fr, to_, bs.length, fo⟩, bs⟩]) (w4.setCell ⟨g, 2, none⟩ v4) ∧ ∀ k, S' k → S k ∨ w.heap.size ≤ k) ∧ Chg S w (w4.setCell ⟨g, 2, none⟩ v4) := by
    intro w4 v4 hb hs hc
    have hsz : (w4.setCell ⟨g, 2, none⟩ v4).heap.size = w4.heap.size := by simp [World.setCell]
    refine ⟨⟨fun k => (S k ∨ w.heap.size ≤ k) ∧ k < w4.heap.size, ⟨⟨.inl hg, blk_lt hb⟩, fun k hk => by rw [hsz]; exact hk.2, v4, by simpa using blk_set hb 2 v4, ?_⟩, fun k hk => hk.1⟩, hc.set _ _ (.inl hg)⟩
    refine Kd.S_far (Kd.S_mono (Kd.S_bound hs) ?_) (fun k hk => hk.2) v4
    intro k hk
    refine ⟨⟨?_, hk.2.2.1⟩, ?_⟩
    · rcases hk.1 with h | h
      · exact .inl h.1
      · exact .inr h
    · rcases hk.1 with h | h
      · exact h.2
      · intro he; omega
  have FIN := Lib.hid fin
  clear fin
  obtain ⟨m, hm⟩ : ∃ m, m = ps.length := ⟨_, rfl⟩
  have d2 := blk_cell hblk 2 (.slice A1 m c1) (by rw [hm]; rfl)
  have hpsm : m < 16384 := by omega
  have hps' : decide ((16384 : Int) ≤ (m : Int)) = false := by simp; omega
  have HM := Lib.hid hm
  have HN := Lib.hid hn
  clear hblk hR hlt hV hm hn hps hok
  go_enter Try.func35, Try.ntmps35
  go_wp2_with fail
  generalize w.setCell ⟨g, 1, none⟩ (.int .i64 (last + 1)) = W2 at *
  obtain ⟨g1, hg1⟩ : ∃ g1, g1 = w.heap.size := ⟨_, rfl⟩
  have HG1 := Lib.hid hg1
  rw [← hg1] at hgl
  have e1 := blk_cell hB2 1 (.int .i64 (last + 1)) rfl
  have e2 := blk_cell hB2 2 (.slice A1 m c1) (by rw [HM.out]; rfl)
  have e1a := fun o => Lib.cell?_alloc_some o e1
  have e2a := fun o => Lib.cell?_alloc_some o e2
  have HB2 := Lib.hid hB2
  have HV2 := Lib.hid hV2
  rw [← HM.out] at hS2
  have hOW := (Kd.S_R hS2).1
  have HOW := Lib.hid hOW
  have HS2 := Lib.hid hS2
  have HC2 := Lib.hid hC2
  have HZ2 := Lib.hid hz
  clear hB2 hV2 hS2 hC2 hz hOW d1 f1 d2 hg1
  go_region_law (first
      | (refine Kd.S_append_step k73 (w0 := w3) 0 (by rfl) (.tmp 33) (.tmp 48) 32 73 (.agg #[.int .i64 0, .int .i64 0, .int .i64 0, .int .i64 0, .bool false, .slice none 0 0]) 64 (by rfl) Try.underlying32 Try.info73 rfl (by decide) (by omega) (.slice A1 m c1) ps ⟨⟨last + 1, fr, to_, bs.length, fo⟩, bs⟩ [.int .i64 (last + 1), .int .i64 fr, .int .i64 to_, .int .i64 n, .bool fo, .slice A3 bs.length c3] (fun k => (S k ∧ k ≠ g) ∨ w.heap.size ≤ k) (fun k => W2.heap.size ≤ k) (by rfl) (by rfl) ?aP ?aK ?aF ?aO ?aB ?aS ?aL ?_; (case aP => rw [HN.out]; exact PNetRuns.k73_mkM _ 0 (fun k => W2.heap.size ≤ k) _ (Kd.R_lower HR3.out (Nat.zero_le _))); (case aK => intro k hk; refine ⟨.inr (by have := HZ2.out; omega), fun he => ?_⟩; have h9 := HLT.out k (HOW.out k he.symm).1; have := HZ2.out; omega); (case aF => intro k hk; have := HC3.out.size; have := HZ2.out; exact .inr (by omega)); (case aO => exact Kd.S_mono (Kd.S_step HS2.out (fun k hk hlk => HC3.out.block k hlk id)) (fun k hk => ⟨.inl hk, fun h9 => by have := HLT.out k hk.1; have := HZ2.out; omega⟩)); (case aB => exact Below.refl _ _); (case aS => exact Nat.zero_le _); (case aL => rw [← HM.out]; omega); intro v4 w4 hs4 hb4 hg4 hat4; have hlt2 : g < W2.heap.size := (by have := HZ2.out; have := HG1.out; omega); have hlt3 : g < w3.heap.size := Nat.lt_of_lt_of_le hlt2 HC3.out.size; have hk4 := (hg4.block g hlt3 (fun he => (HOW.out g he.symm).2 rfl)).trans ((HC3.out.block g hlt2 id).trans HB2.out); have hc4 := (HC3.out.mono (T := S) (fun _ h => h.elim)).grown hg4 (fun k hk => .inl (HOW.out k hk).1); have u2 := blk_cell hk4 2 (.slice A1 m c1) (by rw [HM.out]; rfl); have v2 := blk_free hk4 2; have u1 := blk_cell hk4 1 (.int .i64 (last + 1)) rfl; have HK4 := Lib.hid hk4; have HC4 := Lib.hid (HC2.out.trans hc4 (fun i hi => .inl hi)); have HS4 := Lib.hid hs4; clear hs4 hb4 hg4 hat4 hk4 hc4 hlt2 hlt3; obtain ⟨A4, c4, e4⟩ := Kd.S_slice HS4.out; rw [List.length_append] at e4; subst e4)
      | (refine Kd.R_append_rows_step KB (w0 := W2) W2.heap.size (by rfl) (.tmp 44) (.tmp 45) 23 5 (.int .u8 0) 1 (by rfl) Try.underlying23 Try.info5 rfl (by decide) (by omega) (.slice (some ⟨W2.heap.size, 0, none⟩) 0 0) [] bs A n c (fun k => W2.heap.size ≤ k) (fun _ => False) (by rfl) (by rfl) ?aO ?aR (fun _ _ h => h) (fun _ h => h.elim) ?aF ?aB ?aS ?aL ?_; (case aO => exact R_new_int W2.drew .u8 5 [] [] rfl (by simp) 0 rfl _ rfl); (case aR => rw [HN.out]; exact Kd.C_drew (Kd.C_alloc (Kd.V_reads' HV2.out).2.2 _)); (case aF => intro k hk; simp at hk; omega); (case aB => exact below_alloc (below_drew (Below.refl _ _)) _); (case aS => simp); (case aL => have := HN.out; simp; omega); intro v3 w3 hr3 hb3 hg3 hat3; rw [List.nil_append] at hr3; have HR3 := Lib.hid hr3; have hc3 := Chg.of_below hb3 (fun _ => False); have HC3 := Lib.hid hc3; have s1 := hc3.cell e1 id; have s2 := hc3.cell e2 id; have s1a := (fun o => Lib.cell?_alloc_some o s1); have s2a := (fun o => Lib.cell?_alloc_some o s2); clear hr3 hb3 hc3 hg3 hat3; obtain ⟨A3, c3, e3⟩ := Kd.R_slice HR3.out; subst e3))
  all_goals
    go_wp2_with fail
    first | go_ret2 | (go_quiet (fail); go_wp2_with fail; go_ret2)
    exact ⟨rfl, FIN.out _ _ HK4.out HS4.out HC4.out⟩
end Go.Proofs.Ytnognpfenefafaa
