/- The walk of IndexFunc with find's closure. -/
import Derived.Test.YtnognpfenefafaaNk1
namespace Go.Proofs.Ytnognpfenefafaa
open Go.Proofs.Ytnognpfenefafaa.PNetRuns (S39 S73 k39 k73 z39 z73)
open Go.RowKit Go.Proofs.YtnognpfenefafaaW.PrintWords Go.Proofs.YtnognpfenefafaaW.PrintLast Go.Proofs.YtnognpfenefafaaW.PrintMore
/-- The six cells of a packet. -/
def Six (w : World) (p : Addr) (x : S73) (v5 : Value) : Prop :=
  w.cell? p = some (.int .i64 x.f0.f0) ∧ w.cell? ⟨p.block, p.off + 1, none⟩ = some (.int .i64 x.f0.f1) ∧ w.cell? ⟨p.block, p.off + 2, none⟩ = some (.int .i64 x.f0.f2) ∧ w.cell? ⟨p.block, p.off + 3, none⟩ = some (.int .i64 x.f0.f3) ∧ w.cell? ⟨p.block, p.off + 4, none⟩ = some (.bool x.f0.f4) ∧ w.cell? ⟨p.block, p.off + 5, none⟩ = some v5
/-- A packet of a row that is read. -/
theorem V_pk_at {w : World} {t b : Nat} {ok : Nat → Prop} {A : Option Addr} {n c : Nat} {ps : List S73} (h : Kd.V k73 t w b ok (.slice A n c) ps) (i : Nat) (hi : i < ps.length) :
    ∃ ad A5 c5, ∃ x : S73, A = some ad ∧ Six w (ad.add (i * 6)) x (.slice A5 x.f1.length c5) ∧ Kd.V KB 5 w b ok (.slice A5 x.f1.length c5) x.f1 ∧ Hid (x = ps.getD i z73) := by
  obtain ⟨hn, hl, hF⟩ := Kd.V_at h
  obtain ⟨ad, cs, e, hs, hr, hcell, _⟩ := Kd.F_get hF z73 (i : Int) (by omega) (by omega)
  obtain ⟨A5, c5, rfl, _, _⟩ := PNetRuns.k73_open (Kd.FK_now hr)
  have hc : ∀ j u, [Value.int .i64 (ps.getD i z73).f0.f0, .int .i64 (ps.getD i z73).f0.f1, .int .i64 (ps.getD i z73).f0.f2, .int .i64 (ps.getD i z73).f0.f3, .bool (ps.getD i z73).f0.f4, .slice A5 (ps.getD i z73).f1.length c5][j]? = some u → w.cell? (ad.add (i * 6 + j)) = some u := hcell
  refine ⟨ad, A5, c5, _, e, ⟨hc 0 _ rfl, by rw [← add_field _ _ 1 (by omega)]; exact hc 1 _ rfl, by rw [← add_field _ _ 2 (by omega)]; exact hc 2 _ rfl, by rw [← add_field _ _ 3 (by omega)]; exact hc 3 _ rfl, by rw [← add_field _ _ 4 (by omega)]; exact hc 4 _ rfl, by rw [← add_field _ _ 5 (by omega)]; exact hc 5 _ rfl⟩, ?_, rfl⟩
  refine V_of_FK (fun W' hW => ?_)
  obtain ⟨A6, c6, he, h1, h2⟩ := PNetRuns.k73_open (hr W' hW)
  simp only [List.cons.injEq] at he
  obtain ⟨_, _, _, _, _, he, _⟩ := he
  injection he with e1 _ e2
  subst e1; subst e2
  exact ⟨A5, c5, rfl, h1, h2⟩
set_option maxRecDepth 100000 in
set_option maxHeartbeats 1000000 in
theorem idxf (ps : List S73) (okp : Nat → Prop) (A : Option Addr) (c b : Nat) (id : Int) (w : World) (hV : Kd.V k73 69 w 0 okp (.slice A ps.length c) ps) (hb : w.cell? ⟨b, 0, none⟩ = some (.int .i64 id)) (hl : ps.length ≤ 100000) (r : Int) (hr : r = if fnd ps id < ps.length then (fnd ps id : Int) else -1) :
    Calls Try.prog 39 #[.slice A ps.length c, .func (.func 40) #[] #[.pointer (some ⟨b, 0, none⟩)]] w fun e w' => e = .returned (.int .i64 r) ∧ Below w.heap.size w w' := by
  have HV := Lib.hid hV
  have HR := Lib.hid hr
  clear hr
  have HBe := Lib.hid hb
  obtain ⟨n, hn⟩ : ∃ n, n = ps.length := ⟨_, rfl⟩
  rw [← hn]
  have HN := Lib.hid hn
  have hl' : n ≤ 100000 := by omega
  clear hV hb hn hl
  go_enter Try.func39, Try.ntmps39
  go_wp2_with fail
  go_loopw [8] (fun v wr => ∃ i : Nat, v = .int .i64 i ∧ i ≤ n ∧ i ≤ fnd ps id ∧ Below w.heap.size w wr) (fun v _ => n - (intOf v).toNat)
  case atStart => exact ⟨0, rfl, Nat.zero_le _, Nat.zero_le _, Below.refl _ _⟩
  case round =>
    obtain ⟨i, rfl, hi, hf, hbl⟩ := hrel
    have hli : i < n ∨ i = n := by omega
    rcases hli with hlt | hlt
    · have hlt' : i < ps.length := by rw [← HN.out]; exact hlt
      obtain ⟨ad, A5, c5, x, rfl, hc, hV5, HX⟩ := V_pk_at (Kd.V_step HV.out (fun k _ hl => hbl.block k hl)) i hlt'
      have hbc := pw_cell_below hbl HBe.out
      have HBL := Lib.hid hbl
      obtain ⟨hc0, hc1, hc2, hc3, hc4, hc5⟩ := hc
      clear hbl hlt' hV5
      have hi64 : (i : Int) < (n : Int) := by omega
      go_wp2_with fail
      refine (findc b id _ _ _ _ _ _ _ hbc).mono ?_
      rintro e w1 ⟨rfl, hb1⟩
      have HB1 := Lib.hid hb1
      have hin : (n : Int) ≤ 100000 := by omega
      clear hb1
      by_cases hq : x.f0.f0 = id
      · have hq' : (x.f0.f0 == id) = true := by rw [hq]; simp
        have hr9 : r = (i : Int) := by
          have h7 : fnd ps id = i := fnd_at (by rw [← HN.out]; exact hlt) hf (by rw [← HX.out]; exact hq)
          rw [HR.out, if_pos (by rw [← HN.out, h7]; exact hlt), h7]
        subst hr9
        clear hq hf hi
        rw [hq']
        go_wp2_with fail
        go_ret
        exact ⟨rfl, below_then HBL.out HBL.out.size HB1.out⟩
      · have hq' : (x.f0.f0 == id) = false := by simpa using hq
        have hf2 : i + 1 ≤ fnd ps id := fnd_next (by rw [← HN.out]; exact hlt) hf (by rw [← HX.out]; exact hq)
        have HF2 := Lib.hid hf2
        clear hq hf hi hf2
        rw [hq']
        go_wp2_with fail
        go_roundw
        case rel =>
          refine ⟨i + 1, ?_, by omega, HF2.out, below_then HBL.out HBL.out.size HB1.out⟩
          go_num
        case measure => simp [intOf]; omega
    · have h9 : r = -1 := by rw [HR.out, if_neg (by rw [← HN.out]; omega)]
      subst h9
      have hi64 : decide ((i : Int) < (n : Int)) = false := by simp; omega
      go_wp2_with fail
      go_ret
      exact ⟨rfl, hbl⟩
end Go.Proofs.Ytnognpfenefafaa
