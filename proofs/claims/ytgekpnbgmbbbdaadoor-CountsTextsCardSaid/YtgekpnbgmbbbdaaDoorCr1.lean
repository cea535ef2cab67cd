/- The walk of sign, a method of the reader of texts. -/
import Derived.Test.YtgekpnbgmbbbdaaDoorCl3
import Derived.BigQuiet
namespace Go.Proofs.YtgekpnbgmbbbdaaDoor
open Go Go.RowKit Go.Proofs.YtgekpnbgmbbbdaaDoorW.PrintWords Go.Proofs.YtgekpnbgmbbbdaaDoorW.PrintLast Go.Proofs.YtgekpnbgmbbbdaaDoorW.PrintMore
/-- A reader. -/
def Rd (W : World) (g : Nat) (t : Int) (s : ByteArray) (k : Nat) (c : Nat) : Prop := W.heap[g]? = some (.cells #[.int .i64 t, .string s, .int .i64 (k : Nat), .int .u64 (c : Nat)] 71 (0, 0))
/-- A fault of the reader. -/
def faultE (k : Nat) : Ending := .panicked [{ v := .iface 67 (.int .i64 (k : Nat)), recovered := false }]
set_option maxRecDepth 100000 in
set_option maxHeartbeats 1000000 in
theorem sign_end (g : Nat) (t : Int) (s : ByteArray) (k c : Nat) (st : ByteArray) (W : World) (hb : Rd W g t s k c) (hk : k = s.size) :
    Calls Tryd.prog 47 #[.pointer (some ⟨g, 0, none⟩), .string st] W fun e w' => e = faultE k ∧ Rd w' g t s k c ∧ Chg (fun i => i = g) W w' := by
  subst hk
  have a1 := blk_cell hb 1 (.string s) rfl
  have a2 := blk_cell hb 2 (.int .i64 (s.size : Nat)) rfl
  have hd : decide ((s.size : Int) ≤ (s.size : Int)) = true := by simp
  have HB := Lib.hid hb
  clear hb
  go_enter Tryd.func47, Tryd.ntmps47
  go_wp2_with fail
  go_quiet (fail)
  go_wp2_with fail
  exact ⟨rfl, rfl, HB.out, (Chg.refl _ _).drewN _⟩
theorem byte_at {s : ByteArray} {k : Nat} {b : UInt8} (h : s.data.toList[k]? = some b) : ∃ hk : k < s.size, s[k] = b := by
  obtain ⟨h1, h2⟩ := List.getElem?_eq_some_iff.1 h
  have h3 : k < s.size := by
    have : k < s.data.size := by simpa using h1
    exact this
  refine ⟨h3, ?_⟩
  rw [← h2]
  rfl
theorem ixb_w (st : ByteArray) (b : UInt8) (W : World) : Calls Tryd.prog 55 #[.string st, .int .u8 (b.toNat : Nat)] W fun e w' => e = .returned (.int .i64 (Lib.indexByte st.data.toList b)) ∧ w' = W := by
  have h := Tryd.strings_IndexByte st (b.toNat : Nat) W
  have e : ((b.toNat : Nat) : Int).toNat.toUInt8 = b := by simp
  rw [e] at h
  exact h
set_option maxRecDepth 100000 in
set_option maxHeartbeats 1000000 in
theorem sign_no (g : Nat) (t : Int) (s : ByteArray) (k c : Nat) (st : ByteArray) (W : World) (hb : Rd W g t s k c) (b : UInt8) (hk0 : s.data.toList[k]? = some b) (hz : Lib.indexByte st.data.toList b < 0) :
    Calls Tryd.prog 47 #[.pointer (some ⟨g, 0, none⟩), .string st] W fun e w' => e = faultE k ∧ Rd w' g t s k c ∧ Chg (fun i => i = g) W w' := by
  obtain ⟨hk, hkb⟩ := byte_at hk0
  have a1 := blk_cell hb 1 (.string s) rfl
  have a2 := blk_cell hb 2 (.int .i64 (k : Nat)) rfl
  have hd : decide ((s.size : Int) ≤ (k : Int)) = false := decide_eq_false (by omega)
  have hk2 : (k : Int) < (s.size : Int) := by omega
  have HB := Lib.hid hb
  have hix := fun W => ixb_w st b W
  have hzd : decide (Lib.indexByte st.data.toList b < 0) = true := decide_eq_true hz
  generalize Lib.indexByte st.data.toList b = z at hix hzd
  have HIX := Lib.hid hix
  clear hb hz hix hk0
  go_enter Tryd.func47, Tryd.ntmps47
  go_wp2_with fail
  go_quiet (first | (go_at_call 55; refine Calls.quiet_of_same (HIX.out _)))
  go_wp2_with fail
  exact ⟨rfl, rfl, HB.out, (Chg.refl _ _).drewN _⟩
set_option maxRecDepth 100000 in
set_option maxHeartbeats 1000000 in
theorem sign_yes (g : Nat) (t : Int) (s : ByteArray) (k c : Nat) (st : ByteArray) (W : World) (hb : Rd W g t s k c) (hs : s.size ≤ 140737488351232) (b : UInt8) (hk0 : s.data.toList[k]? = some b) (hz : ¬ Lib.indexByte st.data.toList b < 0) :
    Calls Tryd.prog 47 #[.pointer (some ⟨g, 0, none⟩), .string st] W fun e w' => e = .returned (.int .u8 (b.toNat : Nat)) ∧ Rd w' g t s (k + 1) c ∧ Chg (fun i => i = g) W w' := by
  obtain ⟨hk, hkb⟩ := byte_at hk0
  have a1 := blk_cell hb 1 (.string s) rfl
  have a2 := blk_cell hb 2 (.int .i64 (k : Nat)) rfl
  have f2 := blk_free hb 2
  have hd : decide ((s.size : Int) ≤ (k : Int)) = false := decide_eq_false (by omega)
  have hk2 : (k : Int) < (s.size : Int) := by omega
  have hb2 := blk_set hb 2 (.int .i64 ((k : Int) + 1))
  have HB2 := Lib.hid hb2
  have c1 := blk_cell hb2 1 (.string s) rfl
  have c2 := blk_cell hb2 2 (.int .i64 ((k : Int) + 1)) rfl
  have hix := fun W => ixb_w st b W
  have hzd : decide (Lib.indexByte st.data.toList b < 0) = false := decide_eq_false hz
  generalize Lib.indexByte st.data.toList b = z at hix hzd
  have HIX := Lib.hid hix
  clear hb hz hix hk0 hb2
  go_enter Tryd.func47, Tryd.ntmps47
  go_wp2_with fail
  go_quiet (first | (go_at_call 55; refine Calls.quiet_of_same (HIX.out _)))
  go_wp2_with fail
  go_quiet (fail)
  go_wp2_with fail
  go_ret
  refine ⟨rfl, ?_, ?_⟩
  · exact HB2.out
  · exact (((Chg.refl (fun i => i = g) W).drewN _).set ⟨g, 2, none⟩ _ (.inl rfl)).drewN _
end Go.Proofs.YtgekpnbgmbbbdaaDoor
