/- The walks of the reference's joiner. -/
import Derived.Test.YtleomcilhhdngaaWkPut
import Derived.Deep.RegionHeld3
import Derived.Deep.RegionLaw
namespace Go.Proofs.Ytleomcilhhdngaa
open Go.RowKit Go.Proofs.YtleomcilhhdngaaW.PrintWords Go.Proofs.YtleomcilhhdngaaW.PrintLast Go.Proofs.YtleomcilhhdngaaW.PrintMore
/-- The reference's joiner at block g. -/
def Ro (S : Nat → Prop) (g : Nat) (is : Bool) (bs : List Int) (most : Int) (W : World) : Prop :=
  S g ∧ (∀ k, S k → k < W.heap.size) ∧ ∃ v, W.heap[g]? = some (.cells #[.int .i64 most, .bool is, v] 51 (0, 0)) ∧ Kd.V KB 5 W 0 (fun k => S k ∧ k ≠ g) v bs
theorem Ro.step {S : Nat → Prop} {g : Nat} {is : Bool} {bs : List Int} {most : Int} {w w' : World} (h : Ro S g is bs most w) (hs : w.heap.size ≤ w'.heap.size) (hm : ∀ k, S k → k < w.heap.size → w'.heap[k]? = w.heap[k]?) : Ro S g is bs most w' := by
  obtain ⟨h1, h2, v, h3, h4⟩ := h
  exact ⟨h1, fun k hk => Nat.lt_of_lt_of_le (h2 k hk) hs, v, (hm g h1 (h2 g h1)).trans h3, Kd.V_step h4 (fun k hk hl => hm k hk.1 hl)⟩
/-- What the store of two fields leaves. -/
theorem ro_cleared {g : Nat} {w1 : World} {b c : Value} {most : Int} (hb : w1.heap[g]? = some (.cells #[.int .i64 most, b, c] 51 (0, 0))) :
    Ro (fun k => k = g) g false [] most ((w1.setCell ⟨g, 1, none⟩ (.bool false)).setCell ⟨g, 2, none⟩ (.slice none 0 0)) ∧ Chg (fun k => k = g) w1 ((w1.setCell ⟨g, 1, none⟩ (.bool false)).setCell ⟨g, 2, none⟩ (.slice none 0 0)) := by
  have hb2 := blk_set (blk_set hb 1 (.bool false)) 2 (.slice none 0 0)
  exact ⟨⟨rfl, fun k hk => by rw [hk]; exact blk_lt hb2, _, hb2, Kd.V_nil _ _ _ _ _⟩, ((Chg.refl (fun k => k = g) w1).set ⟨g, 1, none⟩ _ (.inl rfl)).set ⟨g, 2, none⟩ _ (.inl rfl)⟩
set_option maxRecDepth 100000 in
set_option maxHeartbeats 1000000 in
theorem rput_more (S okp : Nat → Prop) (g : Nat) (is : Bool) (bs : List Int) (most : Int) (w : World) (A : Option Addr) (n cp : Nat) (x : Int) (p : List Int) (hJ : Ro S g is bs most w) (hV : Kd.V KB 5 w 0 okp (.slice A n cp) (x :: p))
    (hx0 : 0 ≤ x) (hx3 : x ≤ 1) (hx1 : decide (x % 2 = 1) = !is) (hl1 : bs.length ≤ 16777216) (hl2 : p.length ≤ 16777216) (hm : (bs.length : Int) + (p.length : Int) ≤ most) :
    Calls Try.prog 18 #[.pointer (some ⟨g, 0, none⟩), .slice A n cp] w fun e w' => e = .returned (.tuple #[.slice none 0 0, .bool false, .int .i64 0]) ∧ (∃ S' : Nat → Prop, Ro S' g true (bs ++ p) most w' ∧ ∀ k, S' k → S k ∨ w.heap.size ≤ k) ∧ Chg (fun k => k = g) w w' := by
  obtain ⟨hg, hlt, v, hblk, hR⟩ := hJ
  obtain ⟨hn, hlp, hF⟩ := Kd.V_at hV
  have HR := Lib.hid hR
  obtain ⟨A1, c1, rfl⟩ := Kd.V_slice hR
  have d0 := blk_cell hblk 0 _ rfl
  have d1 := blk_cell hblk 1 _ rfl
  have d2 := blk_cell hblk 2 _ rfl
  have HB := Lib.hid hblk
  have HV := Lib.hid hV
  have HLT := Lib.hid hlt
  have hn' : n = p.length + 1 := hn
  obtain ⟨i5, hi5, _, hs5, _⟩ := info_parts Try.info5
  have hcut := cut_from (P := Try.prog) 22 5 .i64 Try.underlying22 hi5 1 hs5 A n cp 1 (by omega) (by omega)
  rw [show (1 : Int).toNat = 1 from rfl] at hcut
  obtain ⟨A2, hA2⟩ : ∃ A2, A2 = (if cp = 1 then A else A.map (·.add (1 * 1))) := ⟨_, rfl⟩
  rw [← hA2] at hcut
  have hV2 : Kd.V KB 5 w 0 okp (.slice A2 (n - 1) (cp - 1)) p := by
    have h1 := Kd.F_cut (m := 1) hF (by simp) (by rw [← hn]; exact hlp)
    have e3 : (if cp = 1 then A else A.map (·.add (1 * (Kd.int .u8).sz))) = A2 := hA2.symm
    rw [e3] at h1
    have e4 : p.length = n - 1 := by omega
    have h2 : Kd.F KB w okp A2 p.length p := h1
    have := Kd.V_mk (e := 5) (base := 0) (c := cp - 1) (by omega) h2
    rwa [e4] at this
  have HV2 := Lib.hid hV2
  have HA2 := Lib.hid hA2
  obtain ⟨ad, x', rfl, hc, HX, hokad⟩ := V_int HV.out 0 (by simp)
  obtain rfl : x' = x := HX.out
  have hc2 : w.cell? ad = some (.int .u8 x') := by rw [add_zero_] at hc; exact hc
  have hblt : ad.block < w.heap.size := World.block_lt_of_cell? w ad hc2
  have hgl : g < w.heap.size := blk_lt hblk
  have FIN : Hid (∀ (w2 : World) (v' : Value), Chg (fun _ => False) w w2 → w2.heap[g]? = some (.cells #[.int .i64 most, .bool is, .slice A1 bs.length c1] 51 (0, 0)) → KB.R 5 w2 w.heap.size (fun k => w.heap.size ≤ k) v' (bs ++ p) →
      (∃ S' : Nat → Prop, Ro S' g true (bs ++ p) most ((w2.setCell ⟨g, 1, none⟩ (.bool true)).setCell ⟨g, 2, none⟩ v') ∧ ∀ k, S' k → S k ∨ w.heap.size ≤ k) ∧ Chg (fun k => k = g) w ((w2.setCell ⟨g, 1, none⟩ (.bool true)).setCell ⟨g, 2, none⟩ v')) := by
    intro w2 v' hc hb hr
    have hb2 := blk_set (blk_set hb 1 (.bool true)) 2 v'
    have hv2 := Kd.V_bound (Kd.R_V (base' := 0) (Kd.R_far (p := ⟨g, 2, none⟩) (Kd.R_far (p := ⟨g, 1, none⟩) hr (fun k hk => by have : w.heap.size ≤ k := hk; show k ≠ g; omega) (.bool true)) (fun k hk => by have : w.heap.size ≤ k := hk; show k ≠ g; omega) v'))
    refine ⟨⟨fun k => (k = g ∨ w.heap.size ≤ k) ∧ k < ((w2.setCell ⟨g, 1, none⟩ (.bool true)).setCell ⟨g, 2, none⟩ v').heap.size, ⟨⟨.inl rfl, blk_lt hb2⟩, fun k hk => hk.2, v', hb2, Kd.V_mono hv2 (fun k hk => ⟨⟨.inr hk.1, hk.2⟩, by have : w.heap.size ≤ k := hk.1; omega⟩)⟩, fun k hk => hk.1.elim (fun e => .inl (by rw [e]; exact hg)) .inr⟩, ?_⟩
    exact ((hc.mono (T := fun k => k = g) (fun k hk => hk.elim)).set ⟨g, 1, none⟩ _ (.inl rfl)).set ⟨g, 2, none⟩ _ (.inl rfl)
  have hn1 : 1 ≤ n := by omega
  have hn2 : n ≤ 16777217 := by omega
  have hlen : ((n : Int) == 0) = false := by simp; omega
  have hmo : (bs.length : Int) + (n : Int) - 1 ≤ most := by omega
  clear hblk hV hF hR hlt hn hlp hc hn' hm hV2 hA2
  have his : is = !decide (x' % 2 = 1) := by rw [hx1]; simp
  subst his
  clear hx1
  have h4 : x' = 0 ∨ x' = 1 := by omega
  rcases h4 with rfl | rfl
  all_goals
    go_enter Try.func18, Try.ntmps18
    go_wp2_with fail
    go_quiet (fail)
    go_wp2_with fail
    go_quiet (fail)
    go_wp2_with fail
    go_region_held3 (fun w' => w'.cell? ⟨g, 2, none⟩ = some (.slice A1 bs.length c1)) (first | assumption | go_keep) (first
      | (refine Kd.R_append_rows_step KB (w0 := w) w.heap.size (by rfl) (.tmp 55) (.tmp 59) 22 5 (.int .u8 0) 1 (by rfl) Try.underlying22 Try.info5 rfl (by decide) (by omega) (.slice (some ⟨w.heap.size, 0, none⟩) 0 0) [] bs A1 bs.length c1 (fun k => w.heap.size ≤ k) (fun _ => False) (by rfl) (by rfl) ?aO ?aR (fun _ _ h => h) (fun _ h => h.elim) ?aF ?aB ?aS ?aL ?_; (case aO => exact R_new_int (w.drewN _) .u8 5 [] [] rfl (by simp) 0 rfl _ rfl); (case aR => exact Kd.C_alloc (Kd.C_drewN (Kd.V_reads' HR.out).2.2 _) _); (case aF => intro k hk; simp at hk; omega); (case aB => exact Below.alloc (pw_below_drewN (Below.refl w.heap.size w) _) (Nat.le_refl _) _); (case aS => simp); (case aL => simp; omega); intro v1 w1 hr1 hb1 hg1 hat1; have hc1 := (((Chg.refl (fun _ => False) w).drewN _).alloc _).grown hg1 (fun k hk => .inr (by simp [Value.ownBlock] at hk; omega)); have s1 := hc1.cell d2 id; have HR1 := Lib.hid hr1; have HB1 := Lib.hid hb1; have HC1 := Lib.hid hc1; clear hr1 hb1 hg1 hat1 hc1; rw [List.nil_append] at HR1; obtain ⟨A3, c3, e3⟩ := Kd.R_slice HR1.out; subst e3)
      | (refine Kd.R_append_rows_step KB (w0 := w) w.heap.size (by rfl) (.tmp 60) (.tmp 62) 22 5 (.int .u8 0) 1 (by rfl) Try.underlying22 Try.info5 rfl (by decide) (by omega) (.slice A3 bs.length c3) bs p A2 (n - 1) (cp - 1) (fun k => w.heap.size ≤ k) (fun _ => False) (by rfl) (by rfl) ?bO ?bR (fun _ _ h => h) (fun _ h => h.elim) ?bF ?bB ?bS ?bL ?_; (case bO => exact HR1.out); (case bR => exact Kd.F_now (Kd.V_F (Kd.V_step HV2.out (HC1.out.step (fun _ _ => id))))); (case bF => intro k hk; have := HC1.out.size; omega); (case bB => exact HB1.out); (case bS => exact HC1.out.size); (case bL => omega); intro v2 w2 hr2 hb2 hg2 hat2; have hc2' := HC1.out.grown hg2 (fun k hk => .inr (HR1.out.1 k hk)); have s2 := hc2'.cell d2 id; have e0 := hc2'.cell hc2 id; have hk2 := (hc2'.block g hgl id).trans HB.out; have i1 := blk_cell hk2 1 _ rfl; have f1 := blk_free hk2 1; have f2 := blk_free hk2 2; have HK2 := Lib.hid hk2; clear hk2; have HR2 := Lib.hid hr2; have HC2 := Lib.hid hc2'; clear hr2 hb2 hg2 hat2 hc2'; obtain ⟨A4, c4, e4⟩ := Kd.R_slice HR2.out; rw [List.length_append] at e4; subst e4))
    go_wp2_with fail
    go_ret3
    exact ⟨rfl, FIN.out _ _ HC2.out HK2.out HR2.out⟩
end Go.Proofs.Ytleomcilhhdngaa
