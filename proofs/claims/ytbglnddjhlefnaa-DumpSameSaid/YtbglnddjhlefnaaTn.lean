/- The walks of choose and need. -/
import Derived.Test.YtbglnddjhlefnaaTj
import Derived.Test.YtbglnddjhlefnaaPc
namespace Go.Proofs.Ytbglnddjhlefnaa
open Go Go.RowKit Go.Proofs.YtbglnddjhlefnaaW.PrintWords Go.Proofs.YtbglnddjhlefnaaW.PrintLast Go.Proofs.YtbglnddjhlefnaaW.PrintMore
/-- What a call that may make nodes did. -/
def TbP (g : Nat) (S : Nat → Prop) (T' : Bd) (x : Value) (w : World) (e : Ending) (w' : World) : Prop :=
  e = .returned x ∧ ∃ S', Tab g S' T' w' ∧ Gr S S' w w'
section
variable {g lb : Nat} {S : Nat → Prop} {T : Bd} {D : Dn} {w w' : World} {l : List Nat}
theorem run_makeMap0 (w : World) (t : TypeId) : (Instr.makeMap t none).run Try.prog w = .ok (.map (some w.heap.size)) (w.alloc (.map #[] 0)) := by kernel_rfl
set_option maxRecDepth 100000 in
theorem choose_w (h : Tab g S T w) (hw : WF T.bits T.N) (a b c : Nat) (ha : Val T.N a) (hb : Val T.N b) (hc : Val T.N c) (r : Nat × List Nd × Dn) (hr : r = chooseF T.bits T.N a b c) (hlen : r.2.1.length ≤ 4000000000) :
    Calls Try.prog 41 #[.pointer (some ⟨g, 0, none⟩), .int .i64 a, .int .i64 b, .int .i64 c] w (TbP g S { T with N := r.2.1 } (.int .i64 r.1) w) := by
  have hB := below_alloc (Below.refl w.heap.size w) (.map #[] 0)
  have hn : ¬ S w.heap.size := fun hs => Nat.lt_irrefl _ (h.lt _ hs)
  have hI := ite_w (db := w.heap.size) (T.bits + 1) a b c S T [] (w.alloc (.map #[] 0)) (h.below hB) (MapG.made w encN) hn hw (fun p hp => by cases hp) ha hb hc (by omega) r hr hlen
  have hmm := run_makeMap0 w
  have HI := Lib.hid hI
  have HB := Lib.hid hB
  obtain ⟨db, hdb⟩ : ∃ db, db = w.heap.size := ⟨_, rfl⟩
  clear hI hB h hw ha hb hc hr hlen
  go_enter Try.func41, Try.ntmps41
  go_wp2_with fail
  refine HI.out.mono ?_
  rintro e w' ⟨rfl, S', q1, q2, q3⟩
  have Q1 := Lib.hid q1
  have Q3 := Lib.hid q3
  clear q1 q2 q3
  go_wp2_with fail
  go_ret
  refine ⟨rfl, S', Q1.out, Q3.out.up, fun k hk => (Q3.out.new k hk).imp id (fun h => Nat.le_trans HB.out.size h), ?_⟩
  have hc := (Chg.of_below HB.out S).trans Q3.out.chg (fun i hi => hi.elim .inl (fun h => .inr (Nat.le_of_eq h.symm)))
  exact hc
set_option maxRecDepth 100000 in
theorem need_stop (h : Tab g S T w) (hl : SetAt w lb l) (a : Nat) (hs : a < 2 ∨ a ∈ T.used ∨ a ∈ l) :
    Calls Try.prog 61 #[.pointer (some ⟨g, 0, none⟩), .int .i64 a, .map (some lb)] w fun e w' => e = .returned (.tuple #[]) ∧ w = w' := by
  obtain ⟨rb, ub, kb, v, h⟩ := h
  have d1 := blk_cell h.box 1 (.map (some ub)) rfl
  have k1 := h.used.look Try.underlying61 K3 (a : Int)
  have k2 := hl.look Try.underlying61 K3 (a : Int)
  rw [inS_nat] at k1 k2
  by_cases h2 : a < 2
  · have t1 : decide ((a : Int) < 2) = true := decide_eq_true (by omega)
    clear h hl hs
    go_enter Try.func61, Try.ntmps61
    go_wp2_with fail
    exact bodyPost_ret_by (results_none rfl _ _ _) rfl ⟨rfl, rfl⟩
  · have t1 : decide ((a : Int) < 2) = false := decide_eq_false (by omega)
    by_cases h3 : a ∈ T.used
    · rw [show T.used.contains a = true by simpa using h3] at k1
      clear h hl hs h2
      go_enter Try.func61, Try.ntmps61
      go_wp2_with fail
      exact bodyPost_ret_by (results_none rfl _ _ _) rfl ⟨rfl, rfl⟩
    · have h4 : a ∈ l := (hs.resolve_left h2).resolve_left h3
      rw [show T.used.contains a = false by simpa using h3] at k1
      rw [show l.contains a = true by simpa using h4] at k2
      clear h hl hs h2
      go_enter Try.func61, Try.ntmps61
      go_wp2_with fail
      exact bodyPost_ret_by (results_none rfl _ _ _) rfl ⟨rfl, rfl⟩
set_option maxRecDepth 100000 in
set_option maxHeartbeats 1000000 in
theorem need_w : ∀ (f a : Nat) (l : List Nat) (w : World), Tab g S T w → WF T.bits T.N → T.N.length ≤ 4000000000 → ¬ S lb → SetAt w lb l → Val T.N a → a ≤ f →
    Calls Try.prog 61 #[.pointer (some ⟨g, 0, none⟩), .int .i64 a, .map (some lb)] w fun e w' => e = .returned (.tuple #[]) ∧ SetAt w' lb (needF T.N T.used f a l) ∧ Chg (fun k => k = lb) w w' := by
  intro f
  induction f with
  | zero =>
    intro a l w h hw hl hn hs hv hf
    have : a = 0 := by omega
    subst this
    refine (need_stop h hs 0 (.inl (by omega))).mono ?_
    rintro e w' ⟨rfl, rfl⟩
    exact ⟨rfl, hs, Chg.refl _ _⟩
  | succ f ih =>
    intro a l w h hw hl hn hs hv hf
    rw [needF]
    by_cases hst : a < 2 ∨ a ∈ T.used ∨ a ∈ l
    · rw [if_pos hst]
      refine (need_stop h hs a hst).mono ?_
      rintro e w' ⟨rfl, rfl⟩
      exact ⟨rfl, hs, Chg.refl _ _⟩
    · rw [if_neg hst]
      simp only [not_or] at hst
      obtain ⟨h2, h3, h4⟩ := hst
      have t1 : decide ((a : Int) < 2) = false := decide_eq_false (by omega)
      obtain ⟨_, a1, a2, _⟩ := hw.at_ (a := a) (by omega) hv
      obtain ⟨o, ho⟩ := hs.put Try.underlying61 K3 a
      have hc := chg_putObj w lb o
      have keep : ∀ W, Chg (fun k => k = lb) w W → Tab g S T W := fun W hW => h.step hW.size (fun k hk hl => hW.block k hl (fun e => hn (e ▸ hk)))
      have atc : ∀ W, Chg (fun k => k = lb) w W → Calls Try.prog 46 #[.pointer (some ⟨g, 0, none⟩), .int .i64 a] W fun e w' => e = .returned (encN (ndAt T.N a)) ∧ Below W.heap.size W w' := fun W hW => at_w (keep W hW) a (by omega) hv hl
      have ihl := fun W (hW : Chg (fun k => k = lb) w W) (hs : SetAt W lb (a :: l)) => ih (ndAt T.N a).lo (a :: l) W (keep W hW) hw hl hn hs (hv.lo hw (by omega)) (by omega)
      have ihh := fun W l' (hW : Chg (fun k => k = lb) w W) (hs : SetAt W lb l') => ih (ndAt T.N a).hi l' W (keep W hW) hw hl hn hs (hv.hi hw (by omega)) (by omega)
      obtain ⟨rb, ub, kb, v, h⟩ := h
      have d1 := blk_cell h.box 1 (.map (some ub)) rfl
      have k1 := h.used.look Try.underlying61 K3 (a : Int)
      have k2 := hs.look Try.underlying61 K3 (a : Int)
      rw [inS_nat, show T.used.contains a = false by simpa using h3] at k1
      rw [inS_nat, show l.contains a = false by simpa using h4] at k2
      generalize ndAt T.N a = n at atc ihl ihh
      obtain ⟨n0, n1, n2⟩ := n
      have ATC : Hid (∀ W, Chg (fun k => k = lb) w W → Calls Try.prog 46 #[.pointer (some ⟨g, 0, none⟩), .int .i64 a] W fun e w' => e = .returned (.agg #[.int .i64 (n0 : Nat), .int .i64 (n1 : Nat), .int .i64 (n2 : Nat)]) ∧ Below W.heap.size W w') := Lib.hid atc
      have IHL : Hid (∀ W, Chg (fun k => k = lb) w W → SetAt W lb (a :: l) → Calls Try.prog 61 #[.pointer (some ⟨g, 0, none⟩), .int .i64 (n1 : Nat), .map (some lb)] W fun e w' => e = .returned (.tuple #[]) ∧ SetAt w' lb (needF T.N T.used f n1 (a :: l)) ∧ Chg (fun k => k = lb) W w') := Lib.hid ihl
      have IHH : Hid (∀ W l', Chg (fun k => k = lb) w W → SetAt W lb l' → Calls Try.prog 61 #[.pointer (some ⟨g, 0, none⟩), .int .i64 (n2 : Nat), .map (some lb)] W fun e w' => e = .returned (.tuple #[]) ∧ SetAt w' lb (needF T.N T.used f n2 l') ∧ Chg (fun k => k = lb) W w') := Lib.hid ihh
      show Calls Try.prog 61 #[.pointer (some ⟨g, 0, none⟩), .int .i64 a, .map (some lb)] w fun e w' => e = .returned (.tuple #[]) ∧ SetAt w' lb (needF T.N T.used f n2 (needF T.N T.used f n1 (a :: l))) ∧ Chg (fun k => k = lb) w w'
      have hf1 := field_l
      have hf2 := field_h
      obtain ⟨W1, HO, HS, HC⟩ : ∃ W1, Hid ((Instr.mapUpdate 61 (.map (some lb)) (.int .i64 (a : Int)) (.bool true)).run Try.prog w = .ok () W1) ∧ Hid (SetAt W1 lb (a :: l)) ∧ Hid (Chg (fun k => k = lb) w W1) := ⟨_, Lib.hid (ho 0).1, Lib.hid (ho 0).2, Lib.hid hc⟩
      clear h hw hl hn hs hv hf ih atc ihl ihh keep ho hc h2 h3 h4 a1 a2
      go_enter Try.func61, Try.ntmps61
      go_wp2_with fail
      rw [HO.out]
      go_wp2_with fail
      refine (ATC.out _ HC.out).mono ?_
      rintro e w2 ⟨rfl, b2⟩
      have C2 := Lib.hid (HC.out.trans (Chg.of_below b2 (fun k => k = lb)) (fun i hi => .inl hi))
      have S2 := Lib.hid (HS.out.step (b2.block lb HS.out.lt))
      clear b2
      go_wp2_with fail
      refine (IHL.out _ C2.out S2.out).mono ?_
      rintro e w3 ⟨rfl, s3, c3⟩
      have C3 := Lib.hid (C2.out.trans c3 (fun i hi => .inl hi))
      have S3 := Lib.hid s3
      clear s3 c3
      go_wp2_with fail
      refine (ATC.out _ C3.out).mono ?_
      rintro e w4 ⟨rfl, b4⟩
      have C4 := Lib.hid (C3.out.trans (Chg.of_below b4 (fun k => k = lb)) (fun i hi => .inl hi))
      have S4 := Lib.hid (S3.out.step (b4.block lb S3.out.lt))
      clear b4
      go_wp2_with fail
      refine (IHH.out _ _ C4.out S4.out).mono ?_
      rintro e w5 ⟨rfl, s5, c5⟩
      have C5 := Lib.hid (C4.out.trans c5 (fun i hi => .inl hi))
      have S5 := Lib.hid s5
      clear s5 c5
      go_wp2_with fail
      go_end0
      exact ⟨rfl, S5.out, C5.out⟩
end
end Go.Proofs.Ytbglnddjhlefnaa
