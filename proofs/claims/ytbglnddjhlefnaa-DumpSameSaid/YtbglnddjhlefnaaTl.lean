/- The walks of List and of SameList at one list. -/
import Derived.Test.YtbglnddjhlefnaaTi2
namespace Go.Proofs.Ytbglnddjhlefnaa
open Go Go.RowKit Go.Proofs.YtbglnddjhlefnaaW.PrintWords Go.Proofs.YtbglnddjhlefnaaW.PrintLast Go.Proofs.YtbglnddjhlefnaaW.PrintMore
/-- A row of nodes that is read. -/
def RowR (w : World) (v : Value) (L : List Nd) : Prop :=
  ∃ b cap, v = .slice (some ⟨b, 0, none⟩) L.length cap ∧ L.length ≤ cap ∧ cap ≤ 9223372036854775807 ∧ ∀ i n, L[i]? = some n → w.cell? ⟨b, i * 3, none⟩ = some (.int .i64 n.1) ∧ w.cell? ⟨b, i * 3 + 1, none⟩ = some (.int .i64 n.2.1) ∧ w.cell? ⟨b, i * 3 + 2, none⟩ = some (.int .i64 n.2.2)
section
variable {g : Nat} {S : Nat → Prop} {T : Bd} {w w' : World} {v : Value} {L : List Nd}
theorem RowR.of_owns (h : w.ownsRow 0 83 3 v L.length (flatN L)) (hl : 0 < L.length) : RowR w v L := by
  rcases h.2 with ⟨_, h0⟩ | ⟨q, cap, cur, rfl, _, hc, hcap, hm, hcs, htk⟩
  · omega
  refine ⟨q, cap, rfl, hcap, by simpa [maxLen] using hm, fun i n hi => ?_⟩
  have hil := (List.getElem?_eq_some_iff.1 hi).1
  obtain ⟨q1, q2, q3⟩ := flatN_at L i n hi
  rw [← htk] at q1 q2 q3
  rw [List.getElem?_take, Array.getElem?_toList] at q1 q2 q3
  rw [if_pos (by omega)] at q1 q2 q3
  exact ⟨by rw [cell_of_row w q _ cur 83 (0, 0) hc]; exact q1, by rw [cell_of_row w q _ cur 83 (0, 0) hc]; exact q2, by rw [cell_of_row w q _ cur 83 (0, 0) hc]; exact q3⟩
theorem RowR.below (h : RowR w v L) (hl : ∀ n, v.ownBlock = some n → n < w.heap.size) (hb : Below w.heap.size w w') : RowR w' v L := by
  obtain ⟨b, cap, rfl, h1, h2, h3⟩ := h
  exact ⟨b, cap, rfl, h1, h2, fun i n hi => ⟨pw_cell_below hb (h3 i n hi).1, pw_cell_below hb (h3 i n hi).2.1, pw_cell_below hb (h3 i n hi).2.2⟩⟩
theorem RowR.drewN (h : RowR w v L) (d : Nat) : RowR (w.drewN d) v L := h
theorem stood83 : Try.prog.stoodInHeld 83 = false := by kernel_rfl
theorem eq83 (a b c : Int) (w : World) : (Op.equalIn 10000 83 (.agg #[.int .i64 a, .int .i64 b, .int .i64 c]) (.agg #[.int .i64 a, .int .i64 b, .int .i64 c])).run Try.prog w = .ok true w := by
  have := eqA_of (P := Try.prog) (w := w) (d := 9999) (r := (a == a && (b == b && c == c))) (xs := #[.int .i64 a, .int .i64 b, .int .i64 c]) (ys := #[.int .i64 a, .int .i64 b, .int .i64 c]) Try.underlying83 stood83
    (eqf_cons (f := _) rfl (p0 _ _ _ w) (p0 _ _ _ w) (int_run 3 Try.underlying3 _ _ _ w) (eqf_cons rfl (p1 _ _ _ w) (p1 _ _ _ w) (int_run 3 Try.underlying3 _ _ _ w) (eqf_last rfl (p2 _ _ _ w) (p2 _ _ _ w) (int_run 3 Try.underlying3 _ _ _ w))))
  simpa using this
set_option maxRecDepth 100000 in
set_option maxHeartbeats 1000000 in
theorem same_yes (va vb : Value) (L : List Nd) (w : World) (ha : RowR w va L) (hb : RowR w vb L) (hl : L.length ≤ 1000000) :
    Calls Try.prog 40 #[va, vb] w fun e w' => e = .returned (.bool true) ∧ ∃ d, w' = w.drewN d := by
  obtain ⟨b1, cap1, rfl, h1, h2, h3⟩ := ha
  obtain ⟨b2, cap2, rfl, k1, k2, k3⟩ := hb
  have H3 := Lib.hid h3
  have K3' := Lib.hid k3
  obtain ⟨n, hn⟩ : ∃ n, n = L.length := ⟨_, rfl⟩
  rw [← hn] at hl h1 k1 ⊢
  have HN := Lib.hid hn
  have t1 : ((n : Int) != (n : Int)) = false := by simp
  have heq := eq83
  clear h3 k3 hn
  go_enter Try.func40, Try.ntmps40
  go_wp2_with fail
  go_loopw [5] (fun v5 wr => ∃ i d : Nat, v5 = .int .i64 i ∧ i ≤ n ∧ wr = w.drewN d) (fun v5 _ => n - (intOf v5).toNat)
  case atStart => exact ⟨0, 0, rfl, Nat.zero_le _, rfl⟩
  case round =>
    obtain ⟨i, d, rfl, hi, rfl⟩ := hrel
    rcases Nat.lt_or_ge i n with hlt | hge
    · have hil : i < L.length := by rw [← HN.out]; exact hlt
      obtain ⟨x0, x1, x2⟩ := H3.out i _ (List.getElem?_eq_getElem hil)
      obtain ⟨y0, y1, y2⟩ := K3'.out i _ (List.getElem?_eq_getElem hil)
      generalize L[i] = m at x0 x1 x2 y0 y1 y2
      have hi64 : (i : Int) < (n : Int) := by omega
      have hin : (n : Int) ≤ 1000000 := by omega
      have hi0 : (0 : Int) ≤ (i : Int) := by omega
      clear hil
      go_wp2_with fail
      go_quiet (fail)
      go_wp2_with fail
      go_roundw
      case rel => exact ⟨i + 1, _, by go_num, by omega, rfl⟩
      case measure => simp [intOf]; omega
    · have hi64 : decide ((i : Int) < (n : Int)) = false := by simp; omega
      go_wp2_with fail
      go_ret
      exact ⟨rfl, d, rfl⟩
set_option maxRecDepth 100000 in
set_option maxHeartbeats 1000000 in
theorem List_w (h : Tab g S T w) (hf : Fine T) (hN : T.N.length ≤ 4000000000) (a : Nat) (hok : okR T.refs (a : Int) = true) (hlen : (listF T.N a).length ≤ 3000000000) :
    Calls Try.prog 24 #[.pointer (some ⟨g, 0, none⟩), .int .i64 a] w fun e w' => ∃ v, e = .returned (.tuple #[v, .int .i64 0]) ∧ LiP v (listF T.N a) w w' := by
  have hb0 := below_alloc (Below.refl _ (w.alloc (.cells #[.int .i64 0] 30))) (.cells #[.int .i64 a] 26)
  have hbe := below_alloc (Below.refl w.heap.size w) (.cells #[.int .i64 0] 30)
  have HC : Hid (Calls Try.prog 37 #[.pointer (some ⟨g, 0, none⟩), .slice (some ⟨w.heap.size + 1, 0, none⟩) 1 1] ((w.alloc (.cells #[.int .i64 0] 30)).alloc (.cells #[.int .i64 a] 26)) fun e w' => e = .returned (.tuple #[]) ∧ Below ((w.alloc (.cells #[.int .i64 0] 30)).alloc (.cells #[.int .i64 a] 26)).heap.size ((w.alloc (.cells #[.int .i64 0] 30)).alloc (.cells #[.int .i64 a] 26)) w') :=
    Lib.hid (ask_yes (xs := [(a : Int)]) ((h.below hbe).below hb0) (new_refs [(a : Int)] _ rfl (w.alloc (.cells #[.int .i64 0] 30)) (by simp) _ _ (World.size_alloc _ _).symm rfl) (by simp) (by simpa using hok))
  have hbw : Below w.heap.size w ((w.alloc (.cells #[.int .i64 0] 30)).alloc (.cells #[.int .i64 a] 26)) := below_alloc hbe _
  have HBW := Lib.hid hbw
  have HB0 := Lib.hid hb0
  have HLI := Lib.hid (fun w1 (hb : Below w.heap.size w w1) => list_w (h.below hb) hf.wf hN a (okR_val hf hok) hlen)
  have HSZ : Hid ((w.alloc (.cells #[.int .i64 0] 30)).heap.size = w.heap.size + 1) := Lib.hid (World.size_alloc _ _)
  generalize listF T.N a = L at HLI ⊢
  clear h hf hN hok hlen hb0 hbe hbw
  go_enter_defers Try.func24, Try.ntmps24
  go_wp2_with fail
  refine HC.out.mono ?_
  rintro e w1 ⟨rfl, hb1⟩
  have hbw1 := below_trans' HBW.out hb1 HBW.out.size
  have heb : Eb w.heap.size 0 w1 := (Eb.made 0 w).below (below_trans' HB0.out hb1 HB0.out.size)
  have HW1 := Lib.hid hbw1
  have HE1 := Lib.hid heb
  have HL1 := Lib.hid (HLI.out w1 hbw1)
  clear hb1 hbw1 heb HLI HC HBW HB0
  go_wp2_with fail
  refine HL1.out.mono ?_
  rintro e w2 ⟨v, rfl, r1, r2, r3⟩
  have heb2 := HE1.out.below r3
  have f0 := blk_free heb2 0
  have c0 := blk_cell heb2 0 (.int .i64 0) rfl
  have R1 := Lib.hid r1
  have R2 := Lib.hid r2
  have R3 := Lib.hid r3
  have E2 := Lib.hid heb2
  clear r1 r2 r3 heb2 HL1
  go_wp2_with fail
  have hb3 : Eb w.heap.size 0 (w2.setCell ⟨w.heap.size, 0, none⟩ (.int .i64 0)) := by
    have := blk_set E2.out 0 (.int .i64 0)
    simpa [Eb] using this
  have hlt1 : w.heap.size < w1.heap.size := blk_lt' HE1.out
  refine leave_ok rfl rfl hb3 rfl ⟨v, rfl, ?_, ?_, ?_⟩
  · exact ownsRow_step R1.out (fun k hk => Below.heap_setCell _ _ _ _ (fun e => by have := (R2.out k hk).1; have e : k = w.heap.size := e; omega))
  · intro n hn
    have h1 := R2.out n hn
    have h2 : w.heap.size ≤ w1.heap.size := HW1.out.size
    have h3 : (w2.setCell ⟨w.heap.size, 0, none⟩ (.int .i64 0)).heap.size = w2.heap.size := by simp [World.setCell]
    rw [h3]
    omega
  · exact (below_trans' HW1.out R3.out HW1.out.size).setCell (p := ⟨w.heap.size, 0, none⟩) (Nat.le_refl _) _
end
end Go.Proofs.Ytbglnddjhlefnaa
