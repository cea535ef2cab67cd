/- The walk of the document's Text. -/
import Derived.Test.YtgekpnbgmbbbdaaDoorCt2
import Derived.Test.YtgekpnbgmbbbdaaDoorPb1
namespace Go.Proofs.YtgekpnbgmbbbdaaDoor
open Go Go.RowKit Go.Proofs.YtgekpnbgmbbbdaaDoorW.PrintWords Go.Proofs.YtgekpnbgmbbbdaaDoorW.PrintLast Go.Proofs.YtgekpnbgmbbbdaaDoorW.PrintMore
theorem tail_snoc (sep : List UInt8) (l : List (List UInt8)) (x : List UInt8) : Lib.joinTail sep (l ++ [x]) = Lib.joinTail sep l ++ (sep ++ x) := by
  simp [Lib.joinTail]
theorem join_snoc (sep : List UInt8) (l : List (List UInt8)) (x : List UInt8) : Lib.join (l ++ [x]) sep = if l = [] then x else Lib.join l sep ++ (sep ++ x) := by
  cases l with
  | nil => simp [Lib.join_cons, Lib.joinTail]
  | cons y l =>
    rw [List.cons_append, Lib.join_cons, Lib.join_cons, tail_snoc]
    simp
/-- The text of the first elements, open. -/
def openT (t : Nat) (l : List Int) : List UInt8 := 123 :: Lib.join ((wordsB t l).map (·.data.toList)) [44]
theorem openT_snoc (t : Nat) (l : List Int) (j : Nat) : openT t (l ++ [(j : Int)]) = if l = [] then openT t l ++ wordL t j else openT t l ++ 44 :: wordL t j := by
  unfold openT wordsB
  rw [List.map_append, List.map_append]
  show 123 :: Lib.join (_ ++ [wordL t j]) [44] = _
  rw [join_snoc]
  cases l with
  | nil => simp [Lib.join_nil]
  | cons x l => simp
theorem app_l (a b : List UInt8) : (ByteArray.mk a.toArray) ++ (ByteArray.mk b.toArray) = ByteArray.mk (a ++ b).toArray := by
  apply ByteArray.ext
  simp [ByteArray.data_append]
set_option maxRecDepth 100000 in
set_option maxHeartbeats 1000000 in
theorem rtext_w (t : Int) (c : Nat) (w : World) (hc : c < 2 ^ 64) (r : List UInt8 × Int) (hr : r = textR t c) :
    Calls Tryd.prog 29 #[.int .i64 t, .int .u64 c] w fun e w' => e = .returned (.tuple #[.string ⟨r.1.toArray⟩, .int .i64 r.2]) ∧ Below w.heap.size w w' := by
  have hlst := fun W => rlist_w t c W hc (listF t c) rfl
  by_cases h0 : chkF t [c] = 0
  · obtain ⟨m, rfl, hm⟩ := bnd_nat (chk_bnd h0)
    have hcf : r = (textL m (elsI c (m + 2)), 0) := by rw [hr]; unfold textR; rw [if_pos h0]; rfl
    have hlf : listF (m : Int) c = (elsI c (m + 2), 0) := by unfold listF; rw [if_pos h0]; rfl
    subst hcf
    rw [hlf] at hlst
    have hmem := fun x (hx : x ∈ elsI c (m + 2)) => elsI_mem hx
    have hle := elsI_le c (m + 2)
    have h3 := words_len (t := m) (c := c) (k := m + 2) (by omega) (by omega)
    generalize hL : elsI c (m + 2) = L at *
    have HL := Lib.hid hlst
    have HM := Lib.hid hmem
    have hol : ∀ i, (openT m (L.take i)).length ≤ 1000 := fun i => by
      have h5 := join_len [44] rfl ((wordsB m (L.take i)).map (·.data.toList)) (fun x hx => h3 x (by rw [List.mem_map] at hx ⊢; obtain ⟨y, hy, e⟩ := hx; refine ⟨y, ?_, e⟩; unfold wordsB at hy ⊢; rw [List.map_take] at hy; exact List.mem_of_mem_take hy))
      unfold openT
      rw [List.length_cons]
      simp only [List.length_map, wordsB, List.length_take] at h5 ⊢
      omega
    have HOL := Lib.hid hol
    have hL100 : L.length ≤ 64 := by omega
    have hm2 : (m : Int) ≤ 62 := by omega
    clear hr h0 hlst hlf hmem hle hL hc h3 hol
    go_enter Tryd.func29, Tryd.ntmps29
    go_wp2_with fail
    refine (HL.out _).mono ?_
    rintro e w1 ⟨v, rfl, hR, hB⟩
    obtain ⟨A, c, rfl⟩ := Kd.R_slice hR
    have HC := Lib.hid (Kd.R_reads' hR).2.2
    have HB := Lib.hid hB
    clear hR hB HL
    go_wp2_with fail
    go_loopw [8, 9] (fun vo vi wr => ∃ i : Nat, vi = .int .i64 i ∧ i ≤ L.length ∧ vo = .string ⟨(openT m (L.take i)).toArray⟩ ∧ wr = w1) (fun _ vi _ => L.length - (intOf vi).toNat)
    case atStart => exact ⟨0, rfl, Nat.zero_le _, rfl, rfl⟩
    case round =>
      obtain ⟨i, rfl, hi, rfl, rfl⟩ := hrel
      have hli : i < L.length ∨ i = L.length := by omega
      rcases hli with hlt | hlt
      · obtain ⟨ad, x, rfl, hel, HX⟩ := C_int_at HC.out i hlt
        have hxm : x ∈ L := by rw [HX.out, List.getD_eq_getElem?_getD, List.getElem?_eq_getElem hlt, Option.getD_some]; exact List.getElem_mem hlt
        obtain ⟨j, hj, rfl⟩ := HM.out x hxm
        have htk : L.take (i + 1) = L.take i ++ [(j : Int)] := by
          rw [List.take_add_one, List.getElem?_eq_getElem hlt, HX.out, List.getD_eq_getElem?_getD, List.getElem?_eq_getElem hlt, Option.getD_some]
          rfl
        have hst := openT_snoc m (L.take i) j
        rw [← htk] at hst
        have hlen0 : (L.take i).length = i := by rw [List.length_take]; omega
        have hi64 : (i : Int) < (L.length : Int) := by omega
        have hTl := HOL.out i
        have hwb : (wordB m j).size ≤ 3 := by
          have := wordL_len (t := m) (i := j) (by omega) (by omega)
          show (wordL m j).toArray.size ≤ 3
          rw [List.size_toArray]; exact this
        generalize openT m (L.take i) = T at hst hTl ⊢
        have hword := fun W => rword_w m j hm (by omega) W
        have HW := Lib.hid hword
        clear hword hxm HX htk
        by_cases hi0 : i = 0
        · have e0 : decide (0 < i) = false := decide_eq_false (by omega)
          rw [if_pos (List.eq_nil_of_length_eq_zero (by omega))] at hst
          have HST := Lib.hid hst
          clear hst hlen0 hi0
          go_wp2_with fail
          refine (HW.out _).mono ?_
          rintro e w2 ⟨rfl, rfl⟩
          go_wp2_with fail
          go_roundw
          case rel => exact ⟨i + 1, by simp, by omega, by rw [HST.out, ← app_l]; rfl, by first | trivial | rfl⟩
          case measure => simp [intOf]; omega
        · have e0 : decide (0 < i) = true := decide_eq_true (by omega)
          rw [if_neg (fun h => by rw [h] at hlen0; simp at hlen0; omega)] at hst
          have HST := Lib.hid hst
          clear hst hlen0 hi0
          go_wp2_with fail
          refine (HW.out _).mono ?_
          rintro e w2 ⟨rfl, rfl⟩
          go_wp2_with fail
          go_roundw
          case rel => exact ⟨i + 1, by simp, by omega, by rw [HST.out, show 44 :: wordL m j = [44] ++ wordL m j from rfl, ← List.append_assoc, ← app_l, ← app_l]; rfl, by first | trivial | rfl⟩
          case measure => simp [intOf]; omega
      · subst hlt
        have hi64 : decide ((L.length : Int) < (L.length : Int)) = false := by simp
        rw [List.take_length]
        have htx : textL m L = openT m L ++ [125] := rfl
        have HT := Lib.hid htx
        have hTl := HOL.out L.length
        rw [List.take_length] at hTl
        clear htx
        generalize openT m L = T at HT hTl ⊢
        go_wp2_with fail
        go_ret2
        refine ⟨by rw [HT.out, ← app_l]; rfl, HB.out⟩
  · have hcf : r = ([], chkF t [c]) := by rw [hr]; unfold textR; rw [if_neg h0]
    have hlf : listF t c = ([], chkF t [c]) := by unfold listF; rw [if_neg h0]
    subst hcf
    rw [hlf] at hlst
    obtain ⟨z, hz⟩ : ∃ z, z = chkF t [c] := ⟨_, rfl⟩
    rw [← hz] at hlst h0 ⊢
    have e0 : (z == 0) = false := by simpa using h0
    have HL := Lib.hid hlst
    clear hr h0 hlst hlf hz
    go_enter Tryd.func29, Tryd.ntmps29
    go_wp2_with fail
    refine (HL.out _).mono ?_
    rintro e w1 ⟨v, rfl, hR, hB⟩
    have HB := Lib.hid hB
    clear hR hB
    go_wp2_with fail
    go_ret2
    exact ⟨rfl, HB.out⟩
end Go.Proofs.YtgekpnbgmbbbdaaDoor
