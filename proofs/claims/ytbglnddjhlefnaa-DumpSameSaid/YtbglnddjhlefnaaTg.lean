/- The walks of And and Or. -/
import Derived.Test.YtbglnddjhlefnaaTf
import Derived.Test.YtbglnddjhlefnaaPe
namespace Go.Proofs.Ytbglnddjhlefnaa
open Go Go.RowKit Go.Proofs.YtbglnddjhlefnaaW.PrintWords Go.Proofs.YtbglnddjhlefnaaW.PrintLast Go.Proofs.YtbglnddjhlefnaaW.PrintMore
/-- A table as it is behind any calls. -/
structure Fine (T : Bd) : Prop where
  wf : WF T.bits T.N
  b1 : 1 ≤ T.bits
  b2 : T.bits ≤ 128
  lim : T.lim ≤ 1048576
  nd : T.used.Nodup
  ur : ∀ a ∈ T.used, 2 ≤ a ∧ Val T.N a
  rv : ∀ a ∈ T.refs, Val T.N a
def foldR (T : Bd) (and : Bool) (l : List Nat) : Nat × Nat × Bd :=
  let r := foldC T.bits and T.N (if and then 1 else 0) l
  (r.1, 0, tellF { T with N := r.2 } r.1)
theorem okR_val {T : Bd} (hf : Fine T) {b : Nat} (h : okR T.refs (b : Int) = true) : Val T.N b := by
  unfold okR at h
  rw [inS_nat] at h
  simp at h
  rcases h with h | h | h
  · subst h; exact val0 _
  · have : b = 1 := by omega
    subst this; exact val1 _
  · exact hf.rv b h
section
variable {g eb : Nat} {S S' : Nat → Prop} {T : Bd} {w w0 w' : World} {okp : Nat → Prop} {A : Option Addr} {c : Nat} {l : List Nat}
/-- The loop over refs, under way. -/
def FdR (g eb : Nat) (S : Nat → Prop) (T : Bd) (and : Bool) (a0 : Nat) (l : List Nat) (i a : Nat) (w0 wr : World) : Prop :=
  ∃ N1 S', foldC T.bits and T.N a0 (l.take i) = (a, N1) ∧ Tab g S' { T with N := N1 } wr ∧ Gr S S' w0 wr ∧ Eb eb 0 wr
theorem FdR.kept {and : Bool} {a0 i a : Nat} (h : FdR g eb S T and a0 l i a w0 w) (he : ∀ S', Gr S S' w0 w → ¬ S' eb) : ∃ N1 S', foldC T.bits and T.N a0 (l.take i) = (a, N1) ∧ Tab g S' { T with N := N1 } w ∧ Gr S S' w0 w ∧ Eb eb 0 w ∧ ¬ S' eb := by
  obtain ⟨N1, S', h1, h2, h3, h4⟩ := h
  exact ⟨N1, S', h1, h2, h3, h4, he S' h3⟩
theorem take_succ_map (l : List Nat) (i : Nat) (h : i < l.length) : l.take (i + 1) = l.take i ++ [l.getD i 0] := by
  rw [List.take_succ_eq_append_getElem h, List.getD_eq_getElem?_getD, List.getElem?_eq_getElem h]
  rfl
set_option maxRecDepth 100000 in
set_option maxHeartbeats 2000000 in
theorem And_w (h : Tab g S T w) (hf : Fine T) (hV : Kd.V KI 26 w 0 okp (.slice A l.length c) (l.map (fun n : Nat => (n : Int)))) (hl : l.length ≤ 1000000) (hS : ∀ k, okp k → ¬ S k ∧ k < w.heap.size) (hok : ∀ b ∈ l, okR T.refs (b : Int) = true)
    (hlen : (foldC T.bits true T.N 1 l).2.length ≤ 4000000000) (hroom : Room { T with N := (foldC T.bits true T.N 1 l).2 } (foldC T.bits true T.N 1 l).1) :
    Calls Try.prog 17 #[.pointer (some ⟨g, 0, none⟩), .slice A l.length c] w (TwP g S (foldR T true l) w) := by
  have hsl := h.lt
  obtain ⟨w0, hw0⟩ : ∃ w0, w0 = w.alloc (.cells #[.int .i64 0] 30) := ⟨_, rfl⟩
  have hb0 : Below w.heap.size w w0 := by rw [hw0]; exact below_alloc (Below.refl _ _) _
  have h0 := h.below hb0
  have he : Eb w.heap.size 0 w0 := by rw [hw0]; exact Eb.made 0 w
  have hsz : w0.heap.size = w.heap.size + 1 := by rw [hw0]; exact World.size_alloc _ _
  have hV0 : Kd.V KI 26 w0 0 okp (.slice A l.length c) (l.map (fun n : Nat => (n : Int))) := Kd.V_step hV (fun k _ hl => hb0.block k hl)
  have hval : ∀ b ∈ l, Val T.N b := fun b hb => okR_val hf (hok b hb)
  have hall : (l.map (fun n : Nat => (n : Int))).all (okR T.refs) = true := by
    rw [List.all_eq_true]
    intro x hx
    obtain ⟨b, hb, rfl⟩ := List.mem_map.1 hx
    exact hok b hb
  have HC := Lib.hid (ask_yes (xs := l.map (fun n : Nat => (n : Int))) (A := A) (c := c) h0 (by rw [List.length_map]; exact hV0) (by rw [List.length_map]; omega) hall)
  rw [List.length_map] at HC
  have HA := Lib.hid (fun w1 (hb : Below w0.heap.size w0 w1) => (h0.below hb))
  have HE := Lib.hid (fun w1 (hb : Below w0.heap.size w0 w1) => he.below hb)
  have HNE : Hid (∀ S' w1, Gr S S' w0 w1 → ¬ S' w.heap.size) := Lib.hid (fun S' w1 hG hs => by rcases hG.new _ hs with h | h; exact Nat.lt_irrefl _ (hsl _ h); omega)
  have HV : Hid (∀ S' w1, Gr S S' w0 w1 → Kd.V KI 26 w1 0 okp (.slice A l.length c) (l.map (fun n : Nat => (n : Int)))) := Lib.hid (fun S' w1 hG => Kd.V_step hV0 (fun k hk hkl => hG.chg.block k hkl (hS k hk).1))
  have hpre : ∀ i, (foldC T.bits true T.N 1 (l.take i)).2.length ≤ 4000000000 := fun i => by
    have := foldC_pre true (l.take i) (l.drop i) T.N 1 hf.wf (val1 _) (by rw [List.take_append_drop]; exact hval)
    rw [List.take_append_drop] at this
    exact Nat.le_trans this.length_le hlen
  have HPRE := Lib.hid hpre
  have HW0 := Lib.hid hw0
  have HSL := Lib.hid hsl
  have HROOM := Lib.hid hroom
  have HF := Lib.hid hf
  have HVAL := Lib.hid hval
  have HLEN := Lib.hid hlen
  obtain ⟨n, hn⟩ : ∃ n, n = l.length := ⟨_, rfl⟩
  rw [← hn] at HC HV hl ⊢
  have HN := Lib.hid hn
  clear h hb0 h0 he hsl hw0 hf hV hV0 hS hok hroom hall hval hsz hpre hlen hn
  go_enter_defers Try.func17, Try.ntmps17
  go_wp2_with fail
  rw [← HW0.out]
  refine HC.out.mono ?_
  rintro e w1 ⟨rfl, hb⟩
  have HST : Hid (FdR g w.heap.size S T true 1 l 0 1 w0 w1) := Lib.hid ⟨T.N, S, by rw [List.take_zero]; rfl, HA.out w1 hb, Gr.of_below hb S, HE.out w1 hb⟩
  clear hb HC HA HE
  go_wp2_with fail
  go_loopw [6, 14] (fun v6 v14 wr => ∃ i a : Nat, i ≤ n ∧ v14 = .int .i64 i ∧ v6 = .int .i64 a ∧ Hid (FdR g w.heap.size S T true 1 l i a w0 wr)) (fun _ v14 _ => n - (intOf v14).toNat)
  case atStart => exact ⟨0, 1, Nat.zero_le _, rfl, rfl, HST⟩
  case round =>
    obtain ⟨i, a, hi, rfl, rfl, hrel⟩ := hrel
    obtain ⟨N1, S', g1, g2, g3, g4, g5⟩ := hrel.out.kept (fun S' hG => HNE.out S' _ hG)
    have OK := foldC_ok true (l.take i) T.N 1 HF.out.wf (val1 _) (fun b hb => HVAL.out b (List.mem_of_mem_take hb))
    have hl1 := HPRE.out i
    rw [g1] at OK hl1
    have hw1 : WF T.bits N1 := OK.wf
    have hp1 : T.N <+: N1 := OK.pre
    have hv1 : Val N1 a := OK.val
    rcases Nat.lt_or_ge i n with hlt | hge
    · have hil : i < l.length := by rw [← HN.out]; exact hlt
      obtain ⟨ad, x, rfl, hc, HX, _⟩ := V_int (HV.out S' _ g3) i (by rw [List.length_map]; exact hil)
      have hx : x = ((l.getD i 0 : Nat) : Int) := by
        rw [HX.out, List.getD_eq_getElem?_getD, List.getElem?_map, List.getElem?_eq_getElem hil, List.getD_eq_getElem?_getD, List.getElem?_eq_getElem hil]
        rfl
      obtain ⟨b, hb⟩ : ∃ b, b = l.getD i 0 := ⟨_, rfl⟩
      rw [← hb] at hx
      subst hx
      have hbv : Val N1 b := (HVAL.out b (by rw [hb, List.getD_eq_getElem?_getD, List.getElem?_eq_getElem hil]; exact List.getElem_mem _)).pre hp1
      have hsn := foldC_snoc T.bits true (l.take i) T.N 1 b
      rw [hb, ← take_succ_map l i hil, ← hb, g1] at hsn
      have hl2 := HPRE.out (i + 1)
      rw [hsn] at hl2
      have hi64 : (i : Int) < (n : Int) := by omega
      have hin : (n : Int) ≤ 1000000 := by omega
      have HCH := choose_w g2 hw1 a b 0 hv1 hbv (val0 _) _ rfl hl2
      have HSN : Hid (foldC T.bits true T.N 1 (l.take (i + 1)) = ((chooseF T.bits N1 a b 0).1, (chooseF T.bits N1 a b 0).2.1)) := Lib.hid hsn
      replace HCH := Lib.hid HCH
      have G3 := Lib.hid g3
      have G4 := Lib.hid g4
      have G5 := Lib.hid g5
      clear g1 g2 g3 g4 g5 OK hl1 hrel hw1 hp1 hv1 hbv hsn hl2 hb hil
      go_wp2_with fail
      refine HCH.out.mono ?_
      rintro e w2 ⟨rfl, S2, q1, q2⟩
      have heb2 : Eb w.heap.size 0 w2 := (q2.chg.block _ (blk_lt' G4.out) G5.out).trans G4.out
      have HR2 : Hid (FdR g w.heap.size S T true 1 l (i + 1) (chooseF T.bits N1 a b 0).1 w0 w2) := Lib.hid ⟨_, S2, HSN.out, q1, G3.out.trans q2, heb2⟩
      clear q1 q2 heb2
      go_wp2_with fail
      go_roundw
      case rel => exact ⟨i + 1, _, by omega, by go_num, rfl, HR2⟩
      case measure => simp [intOf]; omega
    · have hin : i = n := by omega
      have hi64 : decide ((i : Int) < (n : Int)) = false := by simp; omega
      rw [List.take_of_length_le (by rw [← HN.out]; omega)] at g1
      have hr := HROOM.out
      rw [g1] at hr
      have HTELL := Lib.hid (tell_w g2 hw1 hl1 (Nat.le_trans HF.out.lim (by decide)) a hv1 HF.out.nd hr)
      have HR : Hid (foldR T true l = (a, 0, tellF { T with N := N1 } a)) := Lib.hid (by unfold foldR; simp only [Bool.false_eq_true, if_false, if_true]; rw [g1])
      have G3 := Lib.hid g3
      have G4 := Lib.hid g4
      have G5 := Lib.hid g5
      clear g1 g2 g3 g4 g5 OK hl1 hrel hw1 hp1 hv1 hr hin
      go_wp2_with fail
      refine HTELL.out.mono ?_
      rintro e w2 ⟨rfl, S2, q1, q2⟩
      have heb2 : Eb w.heap.size 0 w2 := (q2.chg.block _ (blk_lt' G4.out) G5.out).trans G4.out
      have f0 := blk_free heb2 0
      have c0 := blk_cell heb2 0 (.int .i64 0) rfl
      have Q1 := Lib.hid q1
      have Q2 := Lib.hid (G3.out.trans q2)
      have EB := Lib.hid heb2
      clear q1 q2 heb2 HTELL
      go_wp2_with fail
      rw [HR.out]
      exact ok_end rfl a rfl rfl HW0.out EB.out Q1.out Q2.out HSL.out
set_option maxRecDepth 100000 in
set_option maxHeartbeats 2000000 in
theorem Or_w (h : Tab g S T w) (hf : Fine T) (hV : Kd.V KI 26 w 0 okp (.slice A l.length c) (l.map (fun n : Nat => (n : Int)))) (hl : l.length ≤ 1000000) (hS : ∀ k, okp k → ¬ S k ∧ k < w.heap.size) (hok : ∀ b ∈ l, okR T.refs (b : Int) = true)
    (hlen : (foldC T.bits false T.N 0 l).2.length ≤ 4000000000) (hroom : Room { T with N := (foldC T.bits false T.N 0 l).2 } (foldC T.bits false T.N 0 l).1) :
    Calls Try.prog 14 #[.pointer (some ⟨g, 0, none⟩), .slice A l.length c] w (TwP g S (foldR T false l) w) := by
  have hsl := h.lt
  obtain ⟨w0, hw0⟩ : ∃ w0, w0 = w.alloc (.cells #[.int .i64 0] 30) := ⟨_, rfl⟩
  have hb0 : Below w.heap.size w w0 := by rw [hw0]; exact below_alloc (Below.refl _ _) _
  have h0 := h.below hb0
  have he : Eb w.heap.size 0 w0 := by rw [hw0]; exact Eb.made 0 w
  have hsz : w0.heap.size = w.heap.size + 1 := by rw [hw0]; exact World.size_alloc _ _
  have hV0 : Kd.V KI 26 w0 0 okp (.slice A l.length c) (l.map (fun n : Nat => (n : Int))) := Kd.V_step hV (fun k _ hl => hb0.block k hl)
  have hval : ∀ b ∈ l, Val T.N b := fun b hb => okR_val hf (hok b hb)
  have hall : (l.map (fun n : Nat => (n : Int))).all (okR T.refs) = true := by
    rw [List.all_eq_true]
    intro x hx
    obtain ⟨b, hb, rfl⟩ := List.mem_map.1 hx
    exact hok b hb
  have HC := Lib.hid (ask_yes (xs := l.map (fun n : Nat => (n : Int))) (A := A) (c := c) h0 (by rw [List.length_map]; exact hV0) (by rw [List.length_map]; omega) hall)
  rw [List.length_map] at HC
  have HA := Lib.hid (fun w1 (hb : Below w0.heap.size w0 w1) => (h0.below hb))
  have HE := Lib.hid (fun w1 (hb : Below w0.heap.size w0 w1) => he.below hb)
  have HNE : Hid (∀ S' w1, Gr S S' w0 w1 → ¬ S' w.heap.size) := Lib.hid (fun S' w1 hG hs => by rcases hG.new _ hs with h | h; exact Nat.lt_irrefl _ (hsl _ h); omega)
  have HV : Hid (∀ S' w1, Gr S S' w0 w1 → Kd.V KI 26 w1 0 okp (.slice A l.length c) (l.map (fun n : Nat => (n : Int)))) := Lib.hid (fun S' w1 hG => Kd.V_step hV0 (fun k hk hkl => hG.chg.block k hkl (hS k hk).1))
  have hpre : ∀ i, (foldC T.bits false T.N 0 (l.take i)).2.length ≤ 4000000000 := fun i => by
    have := foldC_pre false (l.take i) (l.drop i) T.N 0 hf.wf (val0 _) (by rw [List.take_append_drop]; exact hval)
    rw [List.take_append_drop] at this
    exact Nat.le_trans this.length_le hlen
  have HPRE := Lib.hid hpre
  have HW0 := Lib.hid hw0
  have HSL := Lib.hid hsl
  have HROOM := Lib.hid hroom
  have HF := Lib.hid hf
  have HVAL := Lib.hid hval
  have HLEN := Lib.hid hlen
  obtain ⟨n, hn⟩ : ∃ n, n = l.length := ⟨_, rfl⟩
  rw [← hn] at HC HV hl ⊢
  have HN := Lib.hid hn
  clear h hb0 h0 he hsl hw0 hf hV hV0 hS hok hroom hall hval hsz hpre hlen hn
  go_enter_defers Try.func14, Try.ntmps14
  go_wp2_with fail
  rw [← HW0.out]
  refine HC.out.mono ?_
  rintro e w1 ⟨rfl, hb⟩
  have HST : Hid (FdR g w.heap.size S T false 0 l 0 0 w0 w1) := Lib.hid ⟨T.N, S, by rw [List.take_zero]; rfl, HA.out w1 hb, Gr.of_below hb S, HE.out w1 hb⟩
  clear hb HC HA HE
  go_wp2_with fail
  go_loopw [6, 14] (fun v6 v14 wr => ∃ i a : Nat, i ≤ n ∧ v14 = .int .i64 i ∧ v6 = .int .i64 a ∧ Hid (FdR g w.heap.size S T false 0 l i a w0 wr)) (fun _ v14 _ => n - (intOf v14).toNat)
  case atStart => exact ⟨0, 0, Nat.zero_le _, rfl, rfl, HST⟩
  case round =>
    obtain ⟨i, a, hi, rfl, rfl, hrel⟩ := hrel
    obtain ⟨N1, S', g1, g2, g3, g4, g5⟩ := hrel.out.kept (fun S' hG => HNE.out S' _ hG)
    have OK := foldC_ok false (l.take i) T.N 0 HF.out.wf (val0 _) (fun b hb => HVAL.out b (List.mem_of_mem_take hb))
    have hl1 := HPRE.out i
    rw [g1] at OK hl1
    have hw1 : WF T.bits N1 := OK.wf
    have hp1 : T.N <+: N1 := OK.pre
    have hv1 : Val N1 a := OK.val
    rcases Nat.lt_or_ge i n with hlt | hge
    · have hil : i < l.length := by rw [← HN.out]; exact hlt
      obtain ⟨ad, x, rfl, hc, HX, _⟩ := V_int (HV.out S' _ g3) i (by rw [List.length_map]; exact hil)
      have hx : x = ((l.getD i 0 : Nat) : Int) := by
        rw [HX.out, List.getD_eq_getElem?_getD, List.getElem?_map, List.getElem?_eq_getElem hil, List.getD_eq_getElem?_getD, List.getElem?_eq_getElem hil]
        rfl
      obtain ⟨b, hb⟩ : ∃ b, b = l.getD i 0 := ⟨_, rfl⟩
      rw [← hb] at hx
      subst hx
      have hbv : Val N1 b := (HVAL.out b (by rw [hb, List.getD_eq_getElem?_getD, List.getElem?_eq_getElem hil]; exact List.getElem_mem _)).pre hp1
      have hsn := foldC_snoc T.bits false (l.take i) T.N 0 b
      rw [hb, ← take_succ_map l i hil, ← hb, g1] at hsn
      have hl2 := HPRE.out (i + 1)
      rw [hsn] at hl2
      have hi64 : (i : Int) < (n : Int) := by omega
      have hin : (n : Int) ≤ 1000000 := by omega
      have HCH := choose_w g2 hw1 a 1 b hv1 (val1 _) hbv _ rfl hl2
      have HSN : Hid (foldC T.bits false T.N 0 (l.take (i + 1)) = ((chooseF T.bits N1 a 1 b).1, (chooseF T.bits N1 a 1 b).2.1)) := Lib.hid hsn
      replace HCH := Lib.hid HCH
      have G3 := Lib.hid g3
      have G4 := Lib.hid g4
      have G5 := Lib.hid g5
      clear g1 g2 g3 g4 g5 OK hl1 hrel hw1 hp1 hv1 hbv hsn hl2 hb hil
      go_wp2_with fail
      refine HCH.out.mono ?_
      rintro e w2 ⟨rfl, S2, q1, q2⟩
      have heb2 : Eb w.heap.size 0 w2 := (q2.chg.block _ (blk_lt' G4.out) G5.out).trans G4.out
      have HR2 : Hid (FdR g w.heap.size S T false 0 l (i + 1) (chooseF T.bits N1 a 1 b).1 w0 w2) := Lib.hid ⟨_, S2, HSN.out, q1, G3.out.trans q2, heb2⟩
      clear q1 q2 heb2
      go_wp2_with fail
      go_roundw
      case rel => exact ⟨i + 1, _, by omega, by go_num, rfl, HR2⟩
      case measure => simp [intOf]; omega
    · have hin : i = n := by omega
      have hi64 : decide ((i : Int) < (n : Int)) = false := by simp; omega
      rw [List.take_of_length_le (by rw [← HN.out]; omega)] at g1
      have hr := HROOM.out
      rw [g1] at hr
      have HTELL := Lib.hid (tell_w g2 hw1 hl1 (Nat.le_trans HF.out.lim (by decide)) a hv1 HF.out.nd hr)
      have HR : Hid (foldR T false l = (a, 0, tellF { T with N := N1 } a)) := Lib.hid (by unfold foldR; simp only [Bool.false_eq_true, if_false, if_true]; rw [g1])
      have G3 := Lib.hid g3
      have G4 := Lib.hid g4
      have G5 := Lib.hid g5
      clear g1 g2 g3 g4 g5 OK hl1 hrel hw1 hp1 hv1 hr hin
      go_wp2_with fail
      refine HTELL.out.mono ?_
      rintro e w2 ⟨rfl, S2, q1, q2⟩
      have heb2 : Eb w.heap.size 0 w2 := (q2.chg.block _ (blk_lt' G4.out) G5.out).trans G4.out
      have f0 := blk_free heb2 0
      have c0 := blk_cell heb2 0 (.int .i64 0) rfl
      have Q1 := Lib.hid q1
      have Q2 := Lib.hid (G3.out.trans q2)
      have EB := Lib.hid heb2
      clear q1 q2 heb2 HTELL
      go_wp2_with fail
      rw [HR.out]
      exact ok_end rfl a rfl rfl HW0.out EB.out Q1.out Q2.out HSL.out
end
end Go.Proofs.Ytbglnddjhlefnaa
