/- An operation of a row that is read. -/
import Derived.Test.YtlnhjkbhhdcdeaaSq1
import Derived.Test.YtlnhjkbhhdcdeaaSw1
namespace Go.Proofs.Ytlnhjkbhhdcdeaa
open Go Go.RowKit Go.Proofs.YtlnhjkbhhdcdeaaW.PrintWords Go.Proofs.YtlnhjkbhhdcdeaaW.PrintLast Go.Proofs.YtlnhjkbhhdcdeaaW.PrintMore
open Go.Proofs.Ytlnhjkbhhdcdeaa.PSessionRuns (S27 k27 z27 S116 k116 z116)
set_option linter.unusedVariables false
theorem FK_pair {α β : Type} {a : Kd α} {b : Kd β} {w : World} {ok : Nat → Prop} {x : α × β} {c : List Value} (h : Kd.FK (Kd.pair a b) w ok x c) : Kd.FK a w ok x.1 (c.take a.sz) ∧ Kd.FK b w ok x.2 (c.drop a.sz) := by
  refine ⟨fun W' hW => ?_, fun W' hW => ?_⟩
  · obtain ⟨ca, cb, rfl, h1, h2⟩ := h W' hW
    have := a.K_len h1
    rw [List.take_left' this]
    exact h1
  · obtain ⟨ca, cb, rfl, h1, h2⟩ := h W' hW
    have := a.K_len h1
    rw [List.drop_left' this]
    exact h2
abbrev TFr := Int × Int × Int × Int × Int × List Int
abbrev TOp := Int × Int × List (List Int) × TFr
abbrev kfr : Kd TFr := Kd.pair (Kd.int .u8) (Kd.pair (Kd.int .u32) (Kd.pair (Kd.int .u32) (Kd.pair (Kd.int .u64) (Kd.pair (Kd.int .u64) (Kd.slice 5 (Kd.int .u8))))))
abbrev kop : Kd TOp := Kd.pair (Kd.int .i64) (Kd.pair (Kd.int .i64) (Kd.pair (Kd.slice 25 (Kd.slice 5 (Kd.int .u8))) kfr))
def frof (x : TFr) : S27 := ⟨x.1, x.2.1, x.2.2.1, x.2.2.2.1, x.2.2.2.2.1, x.2.2.2.2.2⟩
def zOp : TOp := (0, 0, [], 0, 0, 0, 0, 0, [])
theorem V_op_at {w : World} {t b : Nat} {ok : Nat → Prop} {A : Option Addr} {n c : Nat} {ops : List TOp} (h : Kd.V kop t w b ok (.slice A n c) ops) (i : Nat) (hi : i < ops.length) :
    ∃ ad AL cL A5 c5, ∃ o : TOp, A = some ad ∧ Hid (o = ops.getD i zOp) ∧ w.cell? (ad.add (i * 9)) = some (.int .i64 o.1) ∧ w.cell? (ad.add (i * 9 + 1)) = some (.int .i64 o.2.1) ∧ w.cell? (ad.add (i * 9 + 2)) = some (.slice AL o.2.2.1.length cL) ∧
      Kd.V (Kd.slice 5 KB) 45 w 0 ok (.slice AL o.2.2.1.length cL) o.2.2.1 ∧ Six w (ad.add (i * 9 + 3)) (frof o.2.2.2) (.slice A5 (frof o.2.2.2).f5.length c5) ∧ Kd.V KB 5 w 0 ok (.slice A5 (frof o.2.2.2).f5.length c5) (frof o.2.2.2).f5 := by
  obtain ⟨hn, hl, hF⟩ := Kd.V_at h
  obtain ⟨ad, cs, e, hs, hr, hcell, _⟩ := Kd.F_get hF zOp (i : Int) (by omega) (by omega)
  obtain ⟨g1, g2⟩ := FK_pair hr
  obtain ⟨g3, g4⟩ := FK_pair g2
  obtain ⟨g5, g6⟩ := FK_pair g4
  obtain ⟨o, ho⟩ : ∃ o, o = ops.getD i zOp := ⟨_, rfl⟩
  rw [show ((i : Int)).toNat = i from Int.toNat_natCast i, ← ho] at g1 g3 g5 g6
  have t1 : cs.take 1 = [.int .i64 o.1] := Kd.FK_now g1
  have t2 : (cs.drop 1).take 1 = [.int .i64 o.2.1] := Kd.FK_now g3
  obtain ⟨AL, cL, t3, hlL, _⟩ := Kd.FK_now g5
  have t3' : ((cs.drop 1).drop 1).take 1 = [.slice AL o.2.2.1.length cL] := t3
  have g6' : Kd.FK k27 w ok (frof o.2.2.2) (((cs.drop 1).drop 1).drop 1) := g6
  obtain ⟨A5, c5, t4, h5, h6⟩ := PSessionRuns.k27_openF g6'
  have hcs : cs = .int .i64 o.1 :: .int .i64 o.2.1 :: .slice AL o.2.2.1.length cL :: [.int .u8 (frof o.2.2.2).f0, .int .u32 (frof o.2.2.2).f1, .int .u32 (frof o.2.2.2).f2, .int .u64 (frof o.2.2.2).f3, .int .u64 (frof o.2.2.2).f4, .slice A5 (frof o.2.2.2).f5.length c5] := by
    rw [← List.take_append_drop 1 cs, t1, ← List.take_append_drop 1 (cs.drop 1), t2, ← List.take_append_drop 1 ((cs.drop 1).drop 1), t3', t4]
    rfl
  have hc : ∀ j u, cs[j]? = some u → w.cell? (ad.add (i * 9 + j)) = some u := hcell
  rw [hcs] at hc
  have hVL : Kd.V (Kd.slice 5 KB) 45 w 0 ok (.slice AL o.2.2.1.length cL) o.2.2.1 := by
    have g5' : Kd.FK (Kd.slice 25 (Kd.slice 5 (Kd.int .u8))) w ok o.2.2.1 (((cs.drop 1).drop 1).take 1) := g5
    rw [t3'] at g5'
    exact V_of_FK (e := 25) (b := 0) g5'
  exact ⟨ad, AL, cL, A5, c5, o, e, ho, hc 0 _ rfl, hc 1 _ rfl, hc 2 _ rfl, hVL, ⟨hc 3 _ rfl, by rw [← add_field _ _ 1 (by omega)]; exact hc 4 _ rfl, by rw [← add_field _ _ 2 (by omega)]; exact hc 5 _ rfl, by rw [← add_field _ _ 3 (by omega)]; exact hc 6 _ rfl, by rw [← add_field _ _ 4 (by omega)]; exact hc 7 _ rfl, by rw [← add_field _ _ 5 (by omega)]; exact hc 8 _ rfl⟩, ⟨A5, c5, rfl, h5, h6⟩⟩
end Go.Proofs.Ytlnhjkbhhdcdeaa
