/- The walk of the program's Put. -/
import Derived.Test.YtleomcilhhdngaaWkJoin
namespace Go.Proofs.Ytleomcilhhdngaa
open Go.RowKit Go.Proofs.YtleomcilhhdngaaW.PrintWords Go.Proofs.YtleomcilhhdngaaW.PrintLast Go.Proofs.YtleomcilhhdngaaW.PrintMore
/-- A joiner at block g: is a message open, its bytes, how many may be; all its blocks lie in S. -/
def Jo (S : Nat → Prop) (g : Nat) (is : Bool) (bs : List Int) (most : Int) (W : World) : Prop :=
  S g ∧ (∀ k, S k → k < W.heap.size) ∧ ∃ v, W.heap[g]? = some (.cells #[.bool is, v, .bool true, .int .i64 most] 37 (0, 0)) ∧ KB.R 5 W 0 (fun k => S k ∧ k ≠ g) v bs
theorem Jo.step {S : Nat → Prop} {g : Nat} {is : Bool} {bs : List Int} {most : Int} {w w' : World} (h : Jo S g is bs most w) (hs : w.heap.size ≤ w'.heap.size) (hm : ∀ k, S k → k < w.heap.size → w'.heap[k]? = w.heap[k]?) : Jo S g is bs most w' := by
  obtain ⟨h1, h2, v, h3, h4⟩ := h
  exact ⟨h1, fun k hk => Nat.lt_of_lt_of_le (h2 k hk) hs, v, (hm g h1 (h2 g h1)).trans h3, Kd.R_step h4 (fun k hk hl => hm k hk.1 hl)⟩
/-- What comes of a piece: the answer, and what is open behind it. -/
def putSpec (most : Int) (is : Bool) (bs : List Int) : List Int → (List Int × Bool × Int) × (Bool × List Int)
  | [] => (([], false, 190), (false, []))
  | x :: p => if 3 < x ∨ (decide (x % 2 = 1)) = is then (([], false, 190), (false, [])) else if most < (bs.length : Int) + (p.length : Int) then (([], false, 2), (false, []))
    else if x < 2 then (([], false, 0), (true, bs ++ p)) else ((bs ++ p, true, 0), (false, []))
set_option maxRecDepth 100000 in
set_option maxHeartbeats 1000000 in
theorem put_bad (S okp : Nat → Prop) (g : Nat) (is : Bool) (bs : List Int) (most : Int) (w : World) (A : Option Addr) (n cp : Nat) (pc : List Int) (hJ : Jo S g is bs most w) (hV : Kd.V KB 5 w 0 okp (.slice A n cp) pc)
    (hx : ∀ x p, pc = x :: p → 0 ≤ x ∧ (3 < x ∨ (decide (x % 2 = 1)) = is)) :
    Calls Try.prog 13 #[.pointer (some ⟨g, 0, none⟩), .slice A n cp] w fun e w' => e = .returned (.tuple #[.slice none 0 0, .bool false, .int .i64 190]) ∧ Jo S g false [] most w' ∧ Chg S w w' := by
  obtain ⟨hg, hlt, v, hblk, hR⟩ := hJ
  obtain ⟨rfl, hlp, hF⟩ := Kd.V_at hV
  have c0 := blk_cell hblk 0 _ rfl
  have c1 := blk_cell hblk 1 _ rfl
  have c2 := blk_cell hblk 2 _ rfl
  have c3 := blk_cell hblk 3 _ rfl
  have HB := Lib.hid hblk
  have HV := Lib.hid hV
  have HLT := Lib.hid hlt
  have fin : ∀ w', w'.heap[g]? = some (.cells #[.bool false, .slice none 0 0, .bool true, .int .i64 most] 37 (0, 0)) → Chg (fun k => k = g) w w' → Jo S g false [] most w' ∧ Chg S w w' :=
    fun w' hb hc => ⟨⟨hg, fun k hk => Nat.lt_of_lt_of_le (HLT.out k hk) hc.size, _, hb, Kd.R_nil _ _ _ _ _⟩, hc.mono (fun k hk => by rw [hk]; exact hg)⟩
  have FIN := Lib.hid fin
  clear hblk hV hF hR hlt fin
  cases pc with
  | nil =>
    clear hx
    go_enter Try.func13, Try.ntmps13
    go_wp2_with fail
    go_quiet (fail)
    go_wp2_with fail
    refine (drop_any g _ _ _ _ _ (by exact HB.out)).mono ?_
    rintro e w1 ⟨rfl, hb, hc⟩
    have HB1 := Lib.hid hb
    have HC1 := Lib.hid hc
    clear hb hc
    go_wp2_with fail
    go_ret3
    exact ⟨rfl, FIN.out _ HB1.out (Chg.drawn _ _ _ HC1.out)⟩
  | cons x p =>
    obtain ⟨hx0, hxx⟩ := hx x p rfl
    clear hx
    obtain ⟨ad, x', rfl, hc, HX, _⟩ := V_int HV.out 0 (by simp)
    obtain rfl : x' = x := HX.out
    have hc2 : w.cell? ad = some (.int .u8 x') := by rw [add_zero_] at hc; exact hc
    obtain ⟨n, hn⟩ : ∃ n, n = (x' :: p).length := ⟨_, rfl⟩
    have hn1 : 1 ≤ n := by rw [hn]; simp
    rw [← hn] at hlp ⊢
    have hlen : ((n : Int) == 0) = false := by simp; omega
    clear hn
    by_cases h3 : 3 < x'
    · clear hxx
      go_enter Try.func13, Try.ntmps13
      go_wp2_with fail
      go_quiet (fail)
      go_wp2_with fail
      refine (drop_any g _ _ _ _ _ (by exact HB.out)).mono ?_
      rintro e w1 ⟨rfl, hb, hc⟩
      have HB1 := Lib.hid hb
      have HC1 := Lib.hid hc
      clear hb hc
      go_wp2_with fail
      go_ret3
      exact ⟨rfl, FIN.out _ HB1.out (Chg.drawn _ _ _ HC1.out)⟩
    · have h4 : x' = 0 ∨ x' = 1 ∨ x' = 2 ∨ x' = 3 := by omega
      rcases hxx with hx | hx
      · exact absurd hx h3
      · subst hx
        rcases h4 with rfl | rfl | rfl | rfl
        all_goals
          go_enter Try.func13, Try.ntmps13
          go_wp2_with fail
          go_quiet (fail)
          go_wp2_with fail
          refine (drop_any g _ _ _ _ _ (by exact HB.out)).mono ?_
          rintro e w1 ⟨rfl, hb, hc⟩
          have HB1 := Lib.hid hb
          have HC1 := Lib.hid hc
          clear hb hc
          go_wp2_with fail
          go_ret3
          exact ⟨rfl, FIN.out _ HB1.out (Chg.drawn _ _ _ HC1.out)⟩

end Go.Proofs.Ytleomcilhhdngaa
