/- The walk of the program's Cut. -/
import Derived.Test.YtleomcilhhdngaaBase
import Derived.Test.YtleomcilhhdngaaPlCut
namespace Go.Proofs.Ytleomcilhhdngaa
open Go.RowKit Go.Proofs.YtleomcilhhdngaaW.PrintWords Go.Proofs.YtleomcilhhdngaaW.PrintLast Go.Proofs.YtleomcilhhdngaaW.PrintMore
attribute [local go_sem] max2_mx min2_mn max_two min_two
set_option maxHeartbeats 1000000 in
theorem cut_main (A : Option Addr) (n c : Nat) (b : List Int) (p : Nat) (w : World) (ok : Nat → Prop) (hb : Kd.V KB 5 w 0 ok (.slice A n c) b) (hp1 : 1 ≤ p) (hp2 : p ≤ 65535) (hlen : b.length ≤ 16777216) (hmany : many b.length p ≤ 65536) :
    Calls Try.prog 8 #[.slice A n c, .int .i64 ((p : Int) + 1)] w fun e w' => ∃ v, e = .returned (.tuple #[v, .int .i64 0]) ∧ Kd.N KBB 22 w' w.heap.size (fun k => w.heap.size ≤ k) v (pcs b p) ∧ Below w.heap.size w w' := by
  have HB := Lib.hid (Kd.V_mono (Kd.V_bound hb) (ok' := fun k => k < w.heap.size) (fun k hk => hk.2))
  obtain ⟨rfl, hl1, hF1⟩ := Kd.V_at hb
  clear hF1 hb
  have hq1 : mx 1 (((b.length : Int) + (p : Int) - 1) / (p : Int)) ≤ 65536 := by
    have h1 : ((b.length : Int) + (p : Int) - 1) / (p : Int) = (((b.length + p - 1) / p : Nat) : Int) := by
      rw [show ((b.length : Int) + (p : Int) - 1) = ((b.length + p - 1 : Nat) : Int) from by omega]; rfl
    rw [h1]; unfold many at hmany; unfold mx; split <;> omega
  have hp3 : (0 : Int) ≤ (p : Int) := by omega
  go_enter Try.func8, Try.ntmps8
  go_wp2
  clear hq1
  go_loopw [0, 7, 8, 9] (fun a v h _ wr => ∃ (i : Nat) (A' : Option Addr) (c' : Nat), a = .slice A' (b.drop (i * p)).length c' ∧ Kd.V KB 5 wr 0 (fun k => k < w.heap.size) a (b.drop (i * p)) ∧ i < many b.length p ∧
      Kd.N KBB 22 wr w.heap.size (fun k => w.heap.size ≤ k) v ((List.range i).map (pc b p (many b.length p))) ∧ h = .int .u8 (if i = 0 then 1 else 0) ∧ Below w.heap.size w wr)
    (fun a _ _ _ _ => match a with | .slice _ n _ => n | _ => 0)
  case atStart => exact ⟨0, A, c, by simp, by simpa using HB.out, many_pos _ _, by simpa using Kd.N_nil _ _ _ _ _, rfl, Below.refl _ _⟩
  case round =>
    obtain ⟨i, A', c', rfl, hV, hi, hN, rfl, hbel⟩ := hrel
    have hlast := many_last (len := b.length) (p := p) (i := i) hp1 hi
    have hbef := many_before (len := b.length) (p := p) (i := i) hp1 hi
    have hmul : (i + 1) * p = i * p + p := by rw [Nat.add_mul, Nat.one_mul]
    have hdl : (b.drop (i * p)).length = b.length - i * p := List.length_drop
    obtain ⟨x, hx⟩ : ∃ x, x = b.drop (i * p) := ⟨_, rfl⟩
    obtain ⟨h, hh⟩ : ∃ h : Int, h = if i = 0 then 1 else 0 := ⟨_, rfl⟩
    obtain ⟨out, ho⟩ : ∃ o, o = (List.range i).map (pc b p (many b.length p)) := ⟨_, rfl⟩
    have hol : out.length = i := by rw [ho]; simp
    rw [← hx] at hV hdl ⊢
    rw [← hh]
    rw [← ho] at hN
    have HX := Lib.hid hx
    have HH := Lib.hid hh
    have HO := Lib.hid ho
    have HV := Lib.hid hV
    have HN := Lib.hid hN
    have HBel := Lib.hid hbel
    have hxl : x.length ≤ 16777216 := by omega
    have hc' : x.length ≤ c' := (Kd.V_at hV).2.1
    have hsz := hbel.size
    have hol2 : out.length ≤ 65536 := by omega
    obtain ⟨i5, hi5, _, hs5, _⟩ := info_parts Try.info5
    by_cases hq : i + 1 = many b.length p
    · have hle := hlast.2 hq
      have hmn : mn (p : Int) (x.length : Int) = (x.length : Int) := by unfold mn; split <;> omega
      obtain ⟨h2, hh2⟩ : ∃ h2 : Int, h2 = if i = 0 then 3 else 2 := ⟨_, rfl⟩
      have hor : bits .or .u8 h 2 = h2 := by rw [hh, hh2]; split <;> decide
      have hand : bits .and .u8 h2 2 = 2 := by rw [hh2]; split <;> decide
      have hcut := cut_to (P := Try.prog) 22 5 .i64 Try.underlying22 hi5 A' x.length c' (x.length : Int) (by omega) (by omega) hc'
      rw [Int.toNat_natCast] at hcut
      have HH2 := Lib.hid hh2
      have HQ := Lib.hid hq
      clear hx hh ho hV hN hbel hdl hh2 hlast hol hq hmul
      have hA1 := R_new_int wr .u8 5 [h2] [.int .u8 h2] rfl (by simp) 1 rfl _ rfl
      have HA1 := Lib.hid hA1
      clear hA1
      go_wp2_with (first
        | ((with_reducible refine gate_builtin (b := .append) (xs := #[.tmp 42, .tmp 45]) rfl ?_); at_builtin; refine Kd.R_append_rows KB (w0 := wr) wr.heap.size rfl (.tmp 42) (.tmp 45) 22 5 (.int .u8 0) 1 rfl Try.underlying22 Try.info5 rfl (by decide) (by omega) (.slice (some ⟨wr.heap.size, 0, none⟩) 1 1) [h2] x A' x.length c' (fun k => wr.heap.size ≤ k) (fun _ => False) rfl rfl HA1.out ?aR (fun _ _ h => h) (fun _ h => h.elim) ?aF ?aB ?aS ?aL ?_; (case aR => exact Kd.C_alloc (Kd.V_reads' HV.out).2.2 _); (case aF => intro k hk; simp at hk; omega); (case aB => exact (Below.refl _ _).alloc (Nat.le_refl _) _); (case aS => simp); (case aL => simp; omega); intro v1 w1 hr1 hb1 hg1 hat1; have HR1 := Lib.hid hr1; have HB1 := Lib.hid hb1; clear hr1 hb1 hg1 hat1; obtain ⟨A1, c1, e1⟩ := Kd.R_slice HR1.out; subst e1)
        | ((with_reducible refine gate_builtin (b := .append) (xs := #[.tmp 40, .tmp 47]) rfl ?_); at_builtin; refine Kd.N_append KBB (w0 := w) w.heap.size rfl (.tmp 40) (.tmp 47) 23 22 (.slice none 0 0) 24 rfl Try.underlying23 Try.info22 rfl (by decide) (by omega) _ out ([h2] ++ x) [.slice A1 (x.length + 1) c1] (fun k => w.heap.size ≤ k) (fun k => wr.heap.size ≤ k ∧ k < w1.heap.size) rfl rfl ?bP ?bK ?bF ?bO ?bB ?bS ?bL ?_; (case bP => exact Kd.FK_of_M (Kd.M_row (Kd.R_mono (Kd.R_bound HR1.out) (fun k hk => ⟨hk.1, hk.2.2.1⟩)))); (case bK => intro k hk; exact ⟨by have := hk.1; omega, fun he => by have := Kd.N_lt HN.out k he.symm; omega⟩); (case bF => intro k hk; have := HB1.out.size; omega); (case bO => exact Kd.N_below HN.out HB1.out); (case bB => exact below_then HBel.out hsz HB1.out); (case bS => have := HB1.out.size; omega); (case bL => omega); intro v2 w2 hr2 hb2 hg2 hat2; have HR2 := Lib.hid hr2; have HB2 := Lib.hid hb2; clear hr2 hb2 hg2 hat2))
      go_ret2
      refine ⟨_, rfl, ?_, HB2.out⟩
      have he : out ++ [[h2] ++ x] = pcs b p := by
        have h1 := HQ.out
        rw [HO.out, HX.out, HH2.out, pc_eq h1 hle]
        unfold pcs
        rw [← h1, range_map_snoc, h1]
      rw [← he]
      exact HR2.out
    · have hlt : ¬ b.length ≤ (i + 1) * p := fun h => hq (hlast.1 h)
      have hxp : p < x.length := by omega
      have hmn : mn (p : Int) (x.length : Int) = (p : Int) := by unfold mn; split <;> omega
      have hne : ((p : Int) == (x.length : Int)) = false := beq_eq_false_iff_ne.2 (by omega)
      have hne2 : ((p : Int) != (x.length : Int)) = true := bne_iff_ne.2 (by omega)
      have hand : bits .and .u8 h 2 = 0 := by rw [hh]; split <;> decide
      have hcut := cut_to (P := Try.prog) 22 5 .i64 Try.underlying22 hi5 A' x.length c' (p : Int) (by omega) (by omega) hc'
      have hcutf := cut_from (P := Try.prog) 22 5 .i64 Try.underlying22 hi5 1 hs5 A' x.length c' (p : Int) (by omega) (by omega)
      rw [Int.toNat_natCast] at hcut hcutf
      obtain ⟨A2, hA2⟩ : ∃ A2, A2 = (if c' = p then A' else A'.map (·.add (p * 1))) := ⟨_, rfl⟩
      rw [← hA2] at hcutf
      have HA2 := Lib.hid hA2
      have HQ := Lib.hid hq
      have HOL := Lib.hid hol
      have HDL := Lib.hid hdl
      have HMUL := Lib.hid hmul
      clear hx hh ho hV hN hbel hdl hlast hol hq hmul hA2
      have hT : KB.C wr A' p (x.take p) := by
        have := Kd.F_now (Kd.F_take (m := p) (Kd.V_at HV.out).2.2 (by omega))
        rwa [List.length_take, Nat.min_eq_left (by omega)] at this
      have HT := Lib.hid hT
      have HLen : Hid (([h] ++ x.take p).length = p + 1) := by simp only [Hid, List.length_append, List.length_take, List.length_singleton]; omega
      clear hT
      have hA1 := R_new_int wr .u8 5 [h] [.int .u8 h] rfl (by simp) 1 rfl _ rfl
      have HA1 := Lib.hid hA1
      clear hA1
      go_wp2_with (first
        | ((with_reducible refine gate_builtin (b := .append) (xs := #[.tmp 42, .tmp 45]) rfl ?_); at_builtin; refine Kd.R_append_rows KB (w0 := wr) wr.heap.size rfl (.tmp 42) (.tmp 45) 22 5 (.int .u8 0) 1 rfl Try.underlying22 Try.info5 rfl (by decide) (by omega) (.slice (some ⟨wr.heap.size, 0, none⟩) 1 1) [h] (x.take p) A' p c' (fun k => wr.heap.size ≤ k) (fun _ => False) rfl rfl HA1.out ?aR (fun _ _ h => h) (fun _ h => h.elim) ?aF ?aB ?aS ?aL ?_; (case aR => exact Kd.C_alloc HT.out _); (case aF => intro k hk; simp at hk; omega); (case aB => exact (Below.refl _ _).alloc (Nat.le_refl _) _); (case aS => simp); (case aL => simp; omega); intro v1 w1 hr1 hb1 hg1 hat1; have HR1 := Lib.hid hr1; have HB1 := Lib.hid hb1; clear hr1 hb1 hg1 hat1; obtain ⟨A1, c1, e1⟩ := Kd.R_slice HR1.out; rw [HLen.out] at e1; subst e1)
        | ((with_reducible refine gate_builtin (b := .append) (xs := #[.tmp 40, .tmp 47]) rfl ?_); at_builtin; refine Kd.N_append KBB (w0 := w) w.heap.size rfl (.tmp 40) (.tmp 47) 23 22 (.slice none 0 0) 24 rfl Try.underlying23 Try.info22 rfl (by decide) (by omega) _ out ([h] ++ x.take p) [.slice A1 (p + 1) c1] (fun k => w.heap.size ≤ k) (fun k => wr.heap.size ≤ k ∧ k < w1.heap.size) rfl rfl ?bP ?bK ?bF ?bO ?bB ?bS ?bL ?_; (case bP => exact Kd.FK_of_M (Kd.M_row (Kd.R_mono (Kd.R_bound HR1.out) (fun k hk => ⟨hk.1, hk.2.2.1⟩)))); (case bK => intro k hk; exact ⟨by have := hk.1; omega, fun he => by have := Kd.N_lt HN.out k he.symm; omega⟩); (case bF => intro k hk; have := HB1.out.size; omega); (case bO => exact Kd.N_below HN.out HB1.out); (case bB => exact below_then HBel.out hsz HB1.out); (case bS => have := HB1.out.size; omega); (case bL => omega); intro v2 w2 hr2 hb2 hg2 hat2; have HR2 := Lib.hid hr2; have HB2 := Lib.hid hb2; clear hr2 hb2 hg2 hat2))
      go_roundw
      case rel =>
        have hl2 : (b.drop ((i + 1) * p)).length = x.length - p := by rw [List.length_drop, HDL.out, HMUL.out]; omega
        have hdr : x.drop p = b.drop ((i + 1) * p) := by rw [HX.out, List.drop_drop, HMUL.out]
        have hk2 : Kd.V KB 5 w2 0 (fun k => k < w.heap.size) (.slice A2 (b.drop ((i + 1) * p)).length (c' - p)) (b.drop ((i + 1) * p)) := by
          have hF := Kd.F_cut (m := p) (Kd.V_at HV.out).2.2 (by omega) hc'
          have e3 : (if c' = p then A' else A'.map (·.add (p * (Kd.int .u8).sz))) = A2 := HA2.out.symm
          rw [e3, hdr] at hF
          have hF2 : Kd.F KB w2 (fun k => k < w.heap.size) A2 (b.drop ((i + 1) * p)).length (b.drop ((i + 1) * p)) :=
            Kd.F_step hF (fun k hk hlt' => (HB2.out.block k hk).trans (HBel.out.block k hk).symm)
          exact Kd.V_mk (by rw [hl2]; omega) hF2
        have he : out ++ [[h] ++ x.take p] = (List.range (i + 1)).map (pc b p (many b.length p)) := by
          rw [HO.out, HX.out, HH.out, range_map_snoc, pc_ne HQ.out]
        have hn2 := HR2.out
        rw [he] at hn2
        exact ⟨i + 1, A2, c' - p, by rw [hl2], by first | exact hk2 | (rw [hl2] at hk2; exact hk2), by have := HQ.out; omega, hn2, by simp, HB2.out⟩
      case measure => simp; omega
end Go.Proofs.Ytleomcilhhdngaa
