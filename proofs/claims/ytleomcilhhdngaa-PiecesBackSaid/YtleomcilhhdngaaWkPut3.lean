/- The walk of the program's Put, where the piece may be. -/
import Derived.Test.YtleomcilhhdngaaWkPut2
import Derived.StillTailTactics
import Derived.Deep.RegionWith
namespace Go.Proofs.Ytleomcilhhdngaa
open Go.RowKit Go.Proofs.YtleomcilhhdngaaW.PrintWords Go.Proofs.YtleomcilhhdngaaW.PrintLast Go.Proofs.YtleomcilhhdngaaW.PrintMore
set_option maxRecDepth 100000 in
set_option maxHeartbeats 1000000 in
theorem put_last (S okp : Nat → Prop) (g : Nat) (is : Bool) (bs : List Int) (most : Int) (w : World) (A : Option Addr) (n cp : Nat) (x : Int) (p : List Int) (hJ : Jo S g is bs most w) (hV : Kd.V KB 5 w 0 okp (.slice A n cp) (x :: p)) (hS : ∀ k, okp k → ¬ S k)
    (hx0 : 2 ≤ x) (hx3 : x ≤ 3) (hx1 : decide (x % 2 = 1) = !is) (hl1 : bs.length ≤ 16777216) (hl2 : p.length ≤ 16777216) (hm : (bs.length : Int) + (p.length : Int) ≤ most) :
    Calls Try.prog 13 #[.pointer (some ⟨g, 0, none⟩), .slice A n cp] w fun e w' => ∃ v, e = .returned (.tuple #[v, .bool true, .int .i64 0]) ∧ KB.R 5 w' 0 (fun k => (S k ∨ w.heap.size ≤ k) ∧ k ≠ g) v (bs ++ p) ∧ Jo (fun k => k = g) g false [] most w' ∧ Chg S w w' := by
  obtain ⟨hg, hlt, v, hblk, hR⟩ := hJ
  obtain ⟨hn, hlp, hF⟩ := Kd.V_at hV
  have HR := Lib.hid hR
  obtain ⟨A1, c1, rfl⟩ := Kd.R_slice hR
  have d0 := blk_cell hblk 0 _ rfl
  have d1 := blk_cell hblk 1 _ rfl
  have d2 := blk_cell hblk 2 _ rfl
  have d3 := blk_cell hblk 3 _ rfl
  have HB := Lib.hid hblk
  have HV := Lib.hid hV
  have HLT := Lib.hid hlt
  have hn' : n = p.length + 1 := hn
  -- the piece's part
  obtain ⟨i5, hi5, _, hs5, _⟩ := info_parts Try.info5
  have hcut := cut_from (P := Try.prog) 22 5 .i64 Try.underlying22 hi5 1 hs5 A n cp 1 (by omega) (by omega)
  rw [show (1 : Int).toNat = 1 from rfl] at hcut
  obtain ⟨A2, hA2⟩ : ∃ A2, A2 = (if cp = 1 then A else A.map (·.add (1 * 1))) := ⟨_, rfl⟩
  rw [← hA2] at hcut
  have hV2 : Kd.V KB 5 w 0 okp (.slice A2 (n - 1) (cp - 1)) p := by
    have h1 := Kd.F_cut (m := 1) hF (by simp) (by rw [← hn]; exact hlp)
    have e3 : (if cp = 1 then A else A.map (·.add (1 * (Kd.int .u8).sz))) = A2 := hA2.symm
    rw [e3] at h1
    have e4 : p.length = n - 1 := by omega
    have h2 : Kd.F KB w okp A2 p.length p := h1
    have := Kd.V_mk (e := 5) (base := 0) (c := cp - 1) (by omega) h2
    rwa [e4] at this
  have HV2 := Lib.hid hV2
  have HA2 := Lib.hid hA2
  obtain ⟨ad, x', rfl, hc, HX, hokad⟩ := V_int HV.out 0 (by simp)
  obtain rfl : x' = x := HX.out
  have hc2 : w.cell? ad = some (.int .u8 x') := by rw [add_zero_] at hc; exact hc
  have hblt : ad.block < w.heap.size := World.block_lt_of_cell? w ad hc2
  have hadS : ¬ (S ad.block ∨ ad.block = g) := fun h => h.elim (hS _ hokad) (fun e => hS _ hokad (by rw [e]; exact hg))
  have HAD := Lib.hid hadS
  have FIN : Hid (∀ w1 w2 : World, ∀ v' : Value, KB.R 5 w1 0 (fun k => (S k ∨ w.heap.size ≤ k) ∧ k ≠ g) v' (bs ++ p) → Chg (fun k => S k ∨ k = g) w w1 → w2.heap[g]? = some (.cells #[.bool false, .slice none 0 0, .bool true, .int .i64 most] 37 (0, 0)) → Chg (fun k => k = g) w1 w2 →
      KB.R 5 w2 0 (fun k => (S k ∨ w.heap.size ≤ k) ∧ k ≠ g) v' (bs ++ p) ∧ Jo (fun k => k = g) g false [] most w2 ∧ Chg S w w2) := by
    intro w1 w2 v' hr hc hb hc2
    refine ⟨Kd.R_step hr (hc2.step (fun k hk => hk.2)), ⟨rfl, fun k hk => by rw [hk]; exact blk_lt hb, _, hb, Kd.R_nil _ _ _ _ _⟩, ?_⟩
    exact (hc.mono (T := S) (fun k hk => hk.elim id (fun e => by rw [e]; exact hg))).trans hc2 (fun k hk => .inl (by rw [hk]; exact hg))
  clear hadS hokad hS
  have hn1 : 1 ≤ n := by omega
  have hn2 : n ≤ 16777217 := by omega
  have hlen : ((n : Int) == 0) = false := by simp; omega
  have hmo : (bs.length : Int) + (n : Int) - 1 ≤ most := by omega
  have hpl : p.length ≤ 16777216 := hl2
  clear hblk hV hF hR hlt hn hlp hc hn' hm hV2 hA2
  have his : is = !decide (x' % 2 = 1) := by rw [hx1]; simp
  subst his
  clear hx1
  have h4 : x' = 2 ∨ x' = 3 := by omega
  rcases h4 with rfl | rfl
  all_goals
    go_enter Try.func13, Try.ntmps13
    go_wp2_with fail
    go_quiet (fail)
    go_wp2_with fail
    go_quiet (fail)
    go_wp2_with fail
    go_region_with (first | (go_at_call 20; refine (add_any g _ _ bs p _ _ _ S okp A2 (n - 1) (cp - 1) (by exact HB.out) (by exact HR.out) (by exact HV2.out) (by omega)).mono ?_; rintro e w1 ⟨rfl, v', hb, hr, hcg⟩; have HCG := Lib.hid (Chg.drawn _ _ _ hcg); have e0 := (World.cell?_of_block (HCG.out.block ad.block hblt HAD.out)).trans hc2; have i1 := blk_cell hb 1 _ rfl; have HHB := Lib.hid hb; have HHR := Lib.hid hr; clear hb hr hcg; obtain ⟨A3, c3, e3⟩ := Kd.R_slice HHR.out; rw [List.length_append] at e3; subst e3))
    go_wp2_with fail
    refine (drop_any g _ _ _ _ _ (by exact HHB.out)).mono ?_
    rintro e w2 ⟨rfl, hb, hc⟩
    have HB2 := Lib.hid hb
    have HC2 := Lib.hid hc
    clear hb hc
    go_wp2_with fail
    go_ret3
    exact ⟨.slice A3 (bs.length + p.length) c3, rfl, FIN.out _ _ _ HHR.out HCG.out HB2.out HC2.out⟩
end Go.Proofs.Ytleomcilhhdngaa
