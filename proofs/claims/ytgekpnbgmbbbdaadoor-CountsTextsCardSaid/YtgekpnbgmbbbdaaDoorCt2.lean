/- The walk of the program's Text. -/
import Derived.Test.YtgekpnbgmbbbdaaDoorCt1
namespace Go.Proofs.YtgekpnbgmbbbdaaDoor
open Go Go.RowKit Go.Shelf Go.Proofs.YtgekpnbgmbbbdaaDoorW.PrintWords Go.Proofs.YtgekpnbgmbbbdaaDoorW.PrintLast Go.Proofs.YtgekpnbgmbbbdaaDoorW.PrintMore
theorem Tryd.info9 : (Tryd.prog.info? 9).map (fun i => (i.zero, i.size, i.bytes)) = some (some (.string ⟨#[]⟩), 1, 16) := by kernel_rfl
theorem elsI_mem {c : Nat} : ∀ {k : Nat} {x : Int}, x ∈ elsI c k → ∃ j : Nat, j < k ∧ x = j
  | 0, _, h => by simp [elsI] at h
  | k + 1, x, h => by
    rw [elsI, List.mem_append] at h
    rcases h with h | h
    · obtain ⟨j, h1, h2⟩ := elsI_mem h
      exact ⟨j, by omega, h2⟩
    · split at h
      · rw [List.mem_singleton] at h
        exact ⟨k, by omega, h⟩
      · simp at h
/-- The texts of some elements. -/
def wordsB (t : Nat) (l : List Int) : List ByteArray := l.map (fun x => wordB t x.toNat)
/-- A set's text. -/
def textL (t : Nat) (l : List Int) : List UInt8 := 123 :: (Lib.join ((wordsB t l).map (·.data.toList)) [44] ++ [125])
def textR (t : Int) (c : Nat) : List UInt8 × Int := if chkF t [c] = 0 then (textL t.toNat (elsI c (t.toNat + 2)), 0) else ([], chkF t [c])
theorem tail_len (sep : List UInt8) (hs : sep.length = 1) : ∀ (l : List (List UInt8)), (∀ x ∈ l, x.length ≤ 3) → (Lib.joinTail sep l).length ≤ 4 * l.length
  | [], _ => by simp [Lib.joinTail]
  | x :: l, h => by
    have h1 := tail_len sep hs l (fun y hy => h y (List.mem_cons_of_mem _ hy))
    have h2 := h x (List.mem_cons_self ..)
    unfold Lib.joinTail at *
    rw [List.map_cons, List.flatten_cons, List.length_append, List.length_append, List.length_cons, hs]
    omega
theorem join_len (sep : List UInt8) (hs : sep.length = 1) (l : List (List UInt8)) (h : ∀ x ∈ l, x.length ≤ 3) : (Lib.join l sep).length ≤ 4 * l.length := by
  cases l with
  | nil => simp [Lib.join_nil]
  | cons x l =>
    rw [Lib.join_cons, List.length_append, List.length_cons]
    have h1 := tail_len sep hs l (fun y hy => h y (List.mem_cons_of_mem _ hy))
    have h2 := h x (List.mem_cons_self ..)
    omega
theorem wordL_len {t i : Nat} (ht : t < 100) (hi : i < 100) : (wordL t i).length ≤ 3 := by
  have h1 := dec_len t ht
  have h2 := dec_len i hi
  unfold wordL
  split
  · simp; omega
  · omega
theorem words_len {t c k : Nat} (ht : t < 100) (hk : k ≤ 100) : ∀ x ∈ (wordsB t (elsI c k)).map (·.data.toList), x.length ≤ 3 := by
  intro x hx
  unfold wordsB at hx
  rw [List.map_map, List.mem_map] at hx
  obtain ⟨y, hy, rfl⟩ := hx
  obtain ⟨j, hj, rfl⟩ := elsI_mem hy
  have := wordL_len ht (show j < 100 by omega)
  simpa [wordB] using this
theorem take_wordsB {t : Nat} {l : List Int} {i : Nat} (hi : i < l.length) : wordsB t (l.take (i + 1)) = wordsB t (l.take i) ++ [wordB t (l.getD i 0).toNat] := by
  unfold wordsB
  rw [List.take_add_one, List.getElem?_eq_getElem hi, List.map_append, List.getD_eq_getElem?_getD, List.getElem?_eq_getElem hi, Option.getD_some]
  rfl
theorem wrap_ba (l : List UInt8) : (ByteArray.mk #[123]) ++ (ByteArray.mk l.toArray) ++ (ByteArray.mk #[125]) = ByteArray.mk (123 :: (l ++ [125])).toArray := by
  apply ByteArray.ext
  simp [ByteArray.data_append]
theorem join_w (t : Nat) (l : List Int) (w : World) (base : Nat) (v : Value) (hR : Kd.string.R 9 w base (fun k => base ≤ k) v (wordsB t l)) (hl : l.length ≤ 100) (h3 : ∀ x ∈ (wordsB t l).map (·.data.toList), x.length ≤ 3) :
    Calls Tryd.prog 44 #[v, .string ⟨#[44]⟩] w fun e w' => e = .returned (.string ⟨(Lib.join ((wordsB t l).map (·.data.toList)) [44]).toArray⟩) ∧ Below w.heap.size w w' := by
  have hlen : (wordsB t l).length = l.length := List.length_map _
  by_cases h0 : 0 < (wordsB t l).length
  · obtain ⟨g, cap, rfl, _, hg, _⟩ := Kd.R_form hR h0
    have hR3 := Kd.R_reads' hR
    have hj := join_len [44] rfl _ h3
    rw [List.length_map] at hj
    refine (Tryd.strings_Join g 0 cap (wordsB t l) ⟨#[44]⟩ w (fun j x hx => ?_) hg (by omega) hR3.2.1 (by show (Lib.join _ [44]).length ≤ _; omega))
    have hjl := (List.getElem?_eq_some_iff.1 hx).1
    obtain ⟨ad, e, hc⟩ := Kd.at_string hR3.2.2 (j : Int) (by omega) (by omega)
    cases e
    have : rdOf ByteArray.empty (wordsB t l) (j : Int) = x := by
      unfold rdOf
      rw [Int.toNat_natCast, List.getD_eq_getElem?_getD, hx, Option.getD_some]
    rw [this, Int.toNat_natCast] at hc
    have ha : (Addr.mk g 0 none).add j = ⟨g, 0 + j, none⟩ := by
      unfold Addr.add
      split
      · rename_i h; subst h; rfl
      · rfl
    rw [ha] at hc
    exact hc
  · have hn : wordsB t l = [] := List.eq_nil_of_length_eq_zero (by omega)
    obtain ⟨A, c, rfl⟩ := Kd.R_slice hR
    rw [hn]
    refine (Tryd.strings_Join_none A c ⟨#[44]⟩ w).mono ?_
    rintro e w1 ⟨rfl, rfl⟩
    exact ⟨rfl, Below.refl _ _⟩
set_option maxRecDepth 100000 in
set_option maxHeartbeats 1000000 in
theorem text_w (t : Int) (c : Nat) (w : World) (hc : c < 2 ^ 64) (r : List UInt8 × Int) (hr : r = textR t c) :
    Calls Tryd.prog 28 #[.int .i64 t, .int .u64 c] w fun e w' => e = .returned (.tuple #[.string ⟨r.1.toArray⟩, .int .i64 r.2]) ∧ Below w.heap.size w w' := by
  have hlst := fun W => callsIn_wide.1 (list_in t c W hc (listF t c) rfl)
  by_cases h0 : chkF t [c] = 0
  · obtain ⟨m, rfl, hm⟩ := bnd_nat (chk_bnd h0)
    have hcf : r = (textL m (elsI c (m + 2)), 0) := by rw [hr]; unfold textR; rw [if_pos h0]; rfl
    have hlf : listF (m : Int) c = (elsI c (m + 2), 0) := by unfold listF; rw [if_pos h0]; rfl
    subst hcf
    rw [hlf] at hlst
    have hmem := fun x (hx : x ∈ elsI c (m + 2)) => elsI_mem hx
    have hle := elsI_le c (m + 2)
    have h3 := words_len (t := m) (c := c) (k := m + 2) (by omega) (by omega)
    generalize hL : elsI c (m + 2) = L at *
    have HL := Lib.hid hlst
    have HM := Lib.hid hmem
    have H3 := Lib.hid h3
    have hL100 : L.length ≤ 64 := by omega
    have hm2 : (m : Int) ≤ 62 := by omega
    clear hr h0 hlst hlf hmem h3 hle hL hc
    go_enter Tryd.func28, Tryd.ntmps28
    go_wp2_with fail
    refine (HL.out _).mono ?_
    rintro e w1 ⟨v, rfl, hR, hB⟩
    obtain ⟨A, c, rfl⟩ := Kd.R_slice hR
    have HC := Lib.hid (Kd.R_reads' hR).2.2
    have HB := Lib.hid hB
    clear hR hB HL
    go_wp2_with fail
    go_loopw [8, 22] (fun vo vi wr => ∃ i : Nat, vi = .int .i64 i ∧ i ≤ L.length ∧ Kd.string.R 9 wr w1.heap.size (fun k => w1.heap.size ≤ k) vo (wordsB m (L.take i)) ∧ Below w1.heap.size w1 wr) (fun _ vi _ => L.length - (intOf vi).toNat)
    case atStart => exact ⟨0, rfl, Nat.zero_le _, Kd.R_nil _ _ _ _ _, Below.refl _ _⟩
    case round =>
      obtain ⟨i, rfl, hi, hR, hb1⟩ := hrel
      have HR := Lib.hid hR
      have HB1 := Lib.hid hb1
      have hCr := Kd.C_below HC.out hb1
      have hlw : (wordsB m (L.take i)).length = i := by unfold wordsB; rw [List.length_map, List.length_take]; omega
      clear hR hb1
      have hli : i < L.length ∨ i = L.length := by omega
      rcases hli with hlt | hlt
      · obtain ⟨ad, x, rfl, hel, HX⟩ := C_int_at hCr i hlt
        have hxm : x ∈ L := by rw [HX.out, List.getD_eq_getElem?_getD, List.getElem?_eq_getElem hlt, Option.getD_some]; exact List.getElem_mem hlt
        obtain ⟨j, hj, rfl⟩ := HM.out x hxm
        have hst : wordsB m (L.take (i + 1)) = wordsB m (L.take i) ++ [wordB m j] := by rw [take_wordsB hlt, ← HX.out]; rfl
        have HST := Lib.hid hst
        have hi64 : (i : Int) < (L.length : Int) := by omega
        clear hCr hst hxm HX
        go_wp2_with fail
        refine (word_w m j hm (by omega) _).mono ?_
        rintro e w2 ⟨rfl, rfl⟩
        go_wp2_with (
          (with_reducible refine gate_builtin (b := .append) (xs := #[.tmp 26, .tmp 30]) rfl ?_); at_builtin; go_loud (refine Kd.R_append Kd.string (w0 := w1) (W := w2) w1.heap.size rfl (.tmp 26) (.tmp 30) 64 9 (.string ⟨#[]⟩) 16 rfl Tryd.underlying64 Tryd.info9 rfl (by decide) (by omega) _ _ (wordB m j) [.string (wordB m j)] (fun k => w1.heap.size ≤ k) (fun _ => False) rfl ?aX rfl (fun _ h => h.elim) ?aF HR.out ?aB ?aS ?aL ?_); (case aX => rfl); (case aF => intro k hk; have := HB1.out.size; omega); (case aB => exact HB1.out); (case aS => exact HB1.out.size); (case aL => rw [hlw]; omega); intro v2 w3 hr2 hb2 hg2 hat2; rw [← HST.out] at hr2; have HR2 := Lib.hid hr2; have HB2 := Lib.hid hb2; clear hr2 hb2 hg2 hat2)
        go_roundw
        case rel => exact ⟨i + 1, by simp, by omega, HR2.out, HB2.out⟩
        case measure => simp [intOf]; omega
      · subst hlt
        have hi64 : decide ((L.length : Int) < (L.length : Int)) = false := by simp
        have HRR := HR.out
        rw [List.take_length] at HRR
        have hjw := join_w m L wr w1.heap.size u8 HRR (by omega) H3.out
        have hjl := join_len [44] rfl _ H3.out
        rw [List.length_map] at hjl
        have hlw2 : (wordsB m L).length = L.length := by unfold wordsB; rw [List.length_map]
        have htx : textL m L = 123 :: (Lib.join ((wordsB m L).map (·.data.toList)) [44] ++ [125]) := rfl
        generalize Lib.join ((wordsB m L).map (·.data.toList)) [44] = jl at *
        have HJ := Lib.hid hjw
        have HT := Lib.hid htx
        have hjl2 : jl.length ≤ 1000 := by omega
        clear hjw htx HRR hCr hjl
        go_wp2_with fail
        refine HJ.out.mono ?_
        rintro e w3 ⟨rfl, hb3⟩
        have HB3 := Lib.hid hb3
        clear hb3
        go_wp2_with fail
        go_ret2
        refine ⟨by rw [HT.out, ← wrap_ba]; rfl, HB.out.trans (((HB1.out).trans (HB3.out.mono HB1.out.size)).mono HB.out.size)⟩
  · have hcf : r = ([], chkF t [c]) := by rw [hr]; unfold textR; rw [if_neg h0]
    have hlf : listF t c = ([], chkF t [c]) := by unfold listF; rw [if_neg h0]
    subst hcf
    rw [hlf] at hlst
    obtain ⟨z, hz⟩ : ∃ z, z = chkF t [c] := ⟨_, rfl⟩
    rw [← hz] at hlst h0 ⊢
    have e0 : (z == 0) = false := by simpa using h0
    have HL := Lib.hid hlst
    clear hr h0 hlst hlf hz
    go_enter Tryd.func28, Tryd.ntmps28
    go_wp2_with fail
    refine (HL.out _).mono ?_
    rintro e w1 ⟨v, rfl, hR, hB⟩
    have HB := Lib.hid hB
    clear hR hB
    go_wp2_with fail
    go_ret2
    exact ⟨rfl, HB.out⟩
end Go.Proofs.YtgekpnbgmbbbdaaDoor
