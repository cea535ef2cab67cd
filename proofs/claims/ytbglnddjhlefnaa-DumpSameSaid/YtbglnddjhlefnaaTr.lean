/- Who is refused: a table that nobody made, a ref that was not told. -/
import Derived.Test.YtbglnddjhlefnaaTd
namespace Go.Proofs.Ytbglnddjhlefnaa
open Go Go.RowKit Go.Proofs.YtbglnddjhlefnaaW.PrintWords Go.Proofs.YtbglnddjhlefnaaW.PrintLast Go.Proofs.YtbglnddjhlefnaaW.PrintMore
section
variable {g : Nat} {S : Nat → Prop} {T : Bd} {w w' : World} {okp : Nat → Prop} {A : Option Addr} {c0 : Nat} {xs : List Int}
theorem Eb.below {e : Nat} {x : Int} (h : Eb e x w) (hb : Below w.heap.size w w') : Eb e x w' := (hb.block e (blk_lt' h)).trans h
theorem Eb.made (x : Int) (w : World) : Eb w.heap.size x (w.alloc (.cells #[.int .i64 x] 30)) := heap_alloc_new w _
theorem below_err {w1 : World} (hb : Below (w.alloc (.cells #[.int .i64 0] 30)).heap.size (w.alloc (.cells #[.int .i64 0] 30)) w1) (k : Int) : Below w.heap.size w (w1.setCell ⟨w.heap.size, 0, none⟩ (.int .i64 k)) :=
  (((below_alloc (Below.refl w.heap.size w) _).trans (hb.mono (by rw [World.size_alloc]; omega)))).setCell (p := ⟨w.heap.size, 0, none⟩) (Nat.le_refl _) _

set_option maxRecDepth 100000 in
theorem Has_nob {p : Option Addr} (h : Nob p w) (a : Int) (s : ByteArray) : Calls Try.prog 11 #[.pointer p, .int .i64 a, .string s] w fun e w' => e = .returned (.tuple #[.bool false, .int .i64 4]) ∧ Below w.heap.size w w' := by
  go_enter_defers Try.func11, Try.ntmps11
  go_wp2_with fail
  refine (ask_nob ((h.step (below_alloc (Below.refl _ _) (.cells #[.int .i64 0] 30))).step (below_alloc (Below.refl _ _) _)) _).mono ?_
  rintro e w1 ⟨rfl, rfl⟩
  exact leave_err rfl 4 rfl ((Eb.made 0 w).below (below_alloc (Below.refl _ _) _)) rfl ⟨rfl, below_err (below_alloc (Below.refl _ _) _) 4⟩
set_option maxRecDepth 100000 in
theorem Has_bad (h : Tab g S T w) (a : Int) (s : ByteArray) (hok : ([a] : List Int).all (okR T.refs) = false) : Calls Try.prog 11 #[.pointer (some ⟨g, 0, none⟩), .int .i64 a, .string s] w fun e w' => e = .returned (.tuple #[.bool false, .int .i64 22]) ∧ Below w.heap.size w w' := by
  have hb0 := below_alloc (Below.refl _ (w.alloc (.cells #[.int .i64 0] 30))) (.cells #[.int .i64 a] 26)
  have HC : Hid (Calls Try.prog 37 #[.pointer (some ⟨g, 0, none⟩), .slice (some ⟨w.heap.size + 1, 0, none⟩) 1 1] ((w.alloc (.cells #[.int .i64 0] 30)).alloc (.cells #[.int .i64 a] 26)) fun e w' => e = errE 22 ∧ Below ((w.alloc (.cells #[.int .i64 0] 30)).alloc (.cells #[.int .i64 a] 26)).heap.size ((w.alloc (.cells #[.int .i64 0] 30)).alloc (.cells #[.int .i64 a] 26)) w') :=
    Lib.hid (ask_no (xs := [a]) ((h.below (below_alloc (Below.refl _ _) (.cells #[.int .i64 0] 30))).below hb0) (new_refs [a] _ rfl (w.alloc (.cells #[.int .i64 0] 30)) (by simp) _ _ (World.size_alloc _ _).symm rfl) (by simp) hok)
  have HB0 := Lib.hid hb0
  clear h hok hb0
  go_enter_defers Try.func11, Try.ntmps11
  go_wp2_with fail
  refine HC.out.mono ?_
  rintro e w1 ⟨rfl, hb⟩
  have hb2 := below_trans' HB0.out hb HB0.out.size
  exact leave_err rfl 22 rfl ((Eb.made 0 w).below hb2) rfl ⟨rfl, below_err hb2 22⟩
set_option maxRecDepth 100000 in
theorem Or_nob {p : Option Addr} (h : Nob p w) (v : Value) : Calls Try.prog 14 #[.pointer p, v] w fun e w' => e = .returned (.tuple #[.int .i64 0, .int .i64 4]) ∧ Below w.heap.size w w' := by
  go_enter_defers Try.func14, Try.ntmps14
  go_wp2_with fail
  refine (ask_nob (h.step (below_alloc (Below.refl _ _) (.cells #[.int .i64 0] 30))) _).mono ?_
  rintro e w1 ⟨rfl, rfl⟩
  exact leave_err rfl 4 rfl (Eb.made 0 w) rfl ⟨rfl, below_err (Below.refl _ _) 4⟩
set_option maxRecDepth 100000 in
theorem Or_bad (h : Tab g S T w) (hV : Kd.V KI 26 w 0 okp (.slice A xs.length c0) xs) (hl : xs.length ≤ 140737488351232) (hok : xs.all (okR T.refs) = false) : Calls Try.prog 14 #[.pointer (some ⟨g, 0, none⟩), .slice A xs.length c0] w fun e w' => e = .returned (.tuple #[.int .i64 0, .int .i64 22]) ∧ Below w.heap.size w w' := by
  have HC := Lib.hid (ask_no (h.below (below_alloc (Below.refl _ _) (.cells #[.int .i64 0] 30))) (Kd.V_alloc hV (.cells #[.int .i64 0] 30)) hl hok)
  clear h hV hok
  go_enter_defers Try.func14, Try.ntmps14
  go_wp2_with fail
  refine HC.out.mono ?_
  rintro e w1 ⟨rfl, hb⟩
  exact leave_err rfl 22 rfl ((Eb.made 0 w).below hb) rfl ⟨rfl, below_err hb 22⟩
set_option maxRecDepth 100000 in
theorem Cubes_nob {p : Option Addr} (h : Nob p w) (a m : Int) : Calls Try.prog 15 #[.pointer p, .int .i64 a, .int .i64 m] w fun e w' => e = .returned (.tuple #[.slice none 0 0, .int .i64 4]) ∧ Below w.heap.size w w' := by
  go_enter_defers Try.func15, Try.ntmps15
  go_wp2_with fail
  refine (ask_nob ((h.step (below_alloc (Below.refl _ _) (.cells #[.int .i64 0] 30))).step (below_alloc (Below.refl _ _) _)) _).mono ?_
  rintro e w1 ⟨rfl, rfl⟩
  exact leave_err rfl 4 rfl ((Eb.made 0 w).below (below_alloc (Below.refl _ _) _)) rfl ⟨rfl, below_err (below_alloc (Below.refl _ _) _) 4⟩
set_option maxRecDepth 100000 in
theorem Cubes_bad (h : Tab g S T w) (a m : Int) (hok : ([a] : List Int).all (okR T.refs) = false) : Calls Try.prog 15 #[.pointer (some ⟨g, 0, none⟩), .int .i64 a, .int .i64 m] w fun e w' => e = .returned (.tuple #[.slice none 0 0, .int .i64 22]) ∧ Below w.heap.size w w' := by
  have hb0 := below_alloc (Below.refl _ (w.alloc (.cells #[.int .i64 0] 30))) (.cells #[.int .i64 a] 26)
  have HC : Hid (Calls Try.prog 37 #[.pointer (some ⟨g, 0, none⟩), .slice (some ⟨w.heap.size + 1, 0, none⟩) 1 1] ((w.alloc (.cells #[.int .i64 0] 30)).alloc (.cells #[.int .i64 a] 26)) fun e w' => e = errE 22 ∧ Below ((w.alloc (.cells #[.int .i64 0] 30)).alloc (.cells #[.int .i64 a] 26)).heap.size ((w.alloc (.cells #[.int .i64 0] 30)).alloc (.cells #[.int .i64 a] 26)) w') :=
    Lib.hid (ask_no (xs := [a]) ((h.below (below_alloc (Below.refl _ _) (.cells #[.int .i64 0] 30))).below hb0) (new_refs [a] _ rfl (w.alloc (.cells #[.int .i64 0] 30)) (by simp) _ _ (World.size_alloc _ _).symm rfl) (by simp) hok)
  have HB0 := Lib.hid hb0
  clear h hok hb0
  go_enter_defers Try.func15, Try.ntmps15
  go_wp2_with fail
  refine HC.out.mono ?_
  rintro e w1 ⟨rfl, hb⟩
  have hb2 := below_trans' HB0.out hb HB0.out.size
  exact leave_err rfl 22 rfl ((Eb.made 0 w).below hb2) rfl ⟨rfl, below_err hb2 22⟩
set_option maxRecDepth 100000 in
theorem Cube_nob {p : Option Addr} (h : Nob p w) (s : ByteArray) : Calls Try.prog 16 #[.pointer p, .string s] w fun e w' => e = .returned (.tuple #[.int .i64 0, .int .i64 4]) ∧ Below w.heap.size w w' := by
  go_enter_defers Try.func16, Try.ntmps16
  go_wp2_with fail
  refine (ask_nob (h.step (below_alloc (Below.refl _ _) (.cells #[.int .i64 0] 30))) _).mono ?_
  rintro e w1 ⟨rfl, rfl⟩
  exact leave_err rfl 4 rfl (Eb.made 0 w) rfl ⟨rfl, below_err (Below.refl _ _) 4⟩
set_option maxRecDepth 100000 in
theorem And_nob {p : Option Addr} (h : Nob p w) (v : Value) : Calls Try.prog 17 #[.pointer p, v] w fun e w' => e = .returned (.tuple #[.int .i64 0, .int .i64 4]) ∧ Below w.heap.size w w' := by
  go_enter_defers Try.func17, Try.ntmps17
  go_wp2_with fail
  refine (ask_nob (h.step (below_alloc (Below.refl _ _) (.cells #[.int .i64 0] 30))) _).mono ?_
  rintro e w1 ⟨rfl, rfl⟩
  exact leave_err rfl 4 rfl (Eb.made 0 w) rfl ⟨rfl, below_err (Below.refl _ _) 4⟩
set_option maxRecDepth 100000 in
theorem And_bad (h : Tab g S T w) (hV : Kd.V KI 26 w 0 okp (.slice A xs.length c0) xs) (hl : xs.length ≤ 140737488351232) (hok : xs.all (okR T.refs) = false) : Calls Try.prog 17 #[.pointer (some ⟨g, 0, none⟩), .slice A xs.length c0] w fun e w' => e = .returned (.tuple #[.int .i64 0, .int .i64 22]) ∧ Below w.heap.size w w' := by
  have HC := Lib.hid (ask_no (h.below (below_alloc (Below.refl _ _) (.cells #[.int .i64 0] 30))) (Kd.V_alloc hV (.cells #[.int .i64 0] 30)) hl hok)
  clear h hV hok
  go_enter_defers Try.func17, Try.ntmps17
  go_wp2_with fail
  refine HC.out.mono ?_
  rintro e w1 ⟨rfl, hb⟩
  exact leave_err rfl 22 rfl ((Eb.made 0 w).below hb) rfl ⟨rfl, below_err hb 22⟩
set_option maxRecDepth 100000 in
theorem Ite_nob {p : Option Addr} (h : Nob p w) (a b c : Int) : Calls Try.prog 23 #[.pointer p, .int .i64 a, .int .i64 b, .int .i64 c] w fun e w' => e = .returned (.tuple #[.int .i64 0, .int .i64 4]) ∧ Below w.heap.size w w' := by
  go_enter_defers Try.func23, Try.ntmps23
  go_wp2_with fail
  refine (ask_nob ((h.step (below_alloc (Below.refl _ _) (.cells #[.int .i64 0] 30))).step (below_alloc (Below.refl _ _) _)) _).mono ?_
  rintro e w1 ⟨rfl, rfl⟩
  exact leave_err rfl 4 rfl ((Eb.made 0 w).below (below_alloc (Below.refl _ _) _)) rfl ⟨rfl, below_err (below_alloc (Below.refl _ _) _) 4⟩
set_option maxRecDepth 100000 in
theorem Ite_bad (h : Tab g S T w) (a b c : Int) (hok : ([a, b, c] : List Int).all (okR T.refs) = false) : Calls Try.prog 23 #[.pointer (some ⟨g, 0, none⟩), .int .i64 a, .int .i64 b, .int .i64 c] w fun e w' => e = .returned (.tuple #[.int .i64 0, .int .i64 22]) ∧ Below w.heap.size w w' := by
  have hb0 := below_alloc (Below.refl _ (w.alloc (.cells #[.int .i64 0] 30))) (.cells #[.int .i64 a, .int .i64 b, .int .i64 c] 26)
  have HC : Hid (Calls Try.prog 37 #[.pointer (some ⟨g, 0, none⟩), .slice (some ⟨w.heap.size + 1, 0, none⟩) 3 3] ((w.alloc (.cells #[.int .i64 0] 30)).alloc (.cells #[.int .i64 a, .int .i64 b, .int .i64 c] 26)) fun e w' => e = errE 22 ∧ Below ((w.alloc (.cells #[.int .i64 0] 30)).alloc (.cells #[.int .i64 a, .int .i64 b, .int .i64 c] 26)).heap.size ((w.alloc (.cells #[.int .i64 0] 30)).alloc (.cells #[.int .i64 a, .int .i64 b, .int .i64 c] 26)) w') :=
    Lib.hid (ask_no (xs := [a, b, c]) ((h.below (below_alloc (Below.refl _ _) (.cells #[.int .i64 0] 30))).below hb0) (new_refs [a, b, c] _ rfl (w.alloc (.cells #[.int .i64 0] 30)) (by simp) _ _ (World.size_alloc _ _).symm rfl) (by simp) hok)
  have HB0 := Lib.hid hb0
  clear h hok hb0
  go_enter_defers Try.func23, Try.ntmps23
  go_wp2_with fail
  refine HC.out.mono ?_
  rintro e w1 ⟨rfl, hb⟩
  have hb2 := below_trans' HB0.out hb HB0.out.size
  exact leave_err rfl 22 rfl ((Eb.made 0 w).below hb2) rfl ⟨rfl, below_err hb2 22⟩
set_option maxRecDepth 100000 in
theorem List_nob {p : Option Addr} (h : Nob p w) (a : Int) : Calls Try.prog 24 #[.pointer p, .int .i64 a] w fun e w' => e = .returned (.tuple #[.slice none 0 0, .int .i64 4]) ∧ Below w.heap.size w w' := by
  go_enter_defers Try.func24, Try.ntmps24
  go_wp2_with fail
  refine (ask_nob ((h.step (below_alloc (Below.refl _ _) (.cells #[.int .i64 0] 30))).step (below_alloc (Below.refl _ _) _)) _).mono ?_
  rintro e w1 ⟨rfl, rfl⟩
  exact leave_err rfl 4 rfl ((Eb.made 0 w).below (below_alloc (Below.refl _ _) _)) rfl ⟨rfl, below_err (below_alloc (Below.refl _ _) _) 4⟩
set_option maxRecDepth 100000 in
theorem List_bad (h : Tab g S T w) (a : Int) (hok : ([a] : List Int).all (okR T.refs) = false) : Calls Try.prog 24 #[.pointer (some ⟨g, 0, none⟩), .int .i64 a] w fun e w' => e = .returned (.tuple #[.slice none 0 0, .int .i64 22]) ∧ Below w.heap.size w w' := by
  have hb0 := below_alloc (Below.refl _ (w.alloc (.cells #[.int .i64 0] 30))) (.cells #[.int .i64 a] 26)
  have HC : Hid (Calls Try.prog 37 #[.pointer (some ⟨g, 0, none⟩), .slice (some ⟨w.heap.size + 1, 0, none⟩) 1 1] ((w.alloc (.cells #[.int .i64 0] 30)).alloc (.cells #[.int .i64 a] 26)) fun e w' => e = errE 22 ∧ Below ((w.alloc (.cells #[.int .i64 0] 30)).alloc (.cells #[.int .i64 a] 26)).heap.size ((w.alloc (.cells #[.int .i64 0] 30)).alloc (.cells #[.int .i64 a] 26)) w') :=
    Lib.hid (ask_no (xs := [a]) ((h.below (below_alloc (Below.refl _ _) (.cells #[.int .i64 0] 30))).below hb0) (new_refs [a] _ rfl (w.alloc (.cells #[.int .i64 0] 30)) (by simp) _ _ (World.size_alloc _ _).symm rfl) (by simp) hok)
  have HB0 := Lib.hid hb0
  clear h hok hb0
  go_enter_defers Try.func24, Try.ntmps24
  go_wp2_with fail
  refine HC.out.mono ?_
  rintro e w1 ⟨rfl, hb⟩
  have hb2 := below_trans' HB0.out hb HB0.out.size
  exact leave_err rfl 22 rfl ((Eb.made 0 w).below hb2) rfl ⟨rfl, below_err hb2 22⟩
set_option maxRecDepth 100000 in
theorem Keep_nob {p : Option Addr} (h : Nob p w) (v : Value) : Calls Try.prog 25 #[.pointer p, v] w fun e w' => e = .returned (.tuple #[.slice none 0 0, .int .i64 4]) ∧ Below w.heap.size w w' := by
  go_enter_defers Try.func25, Try.ntmps25
  go_wp2_with fail
  refine (ask_nob (h.step (below_alloc (Below.refl _ _) (.cells #[.int .i64 0] 30))) _).mono ?_
  rintro e w1 ⟨rfl, rfl⟩
  exact leave_err rfl 4 rfl (Eb.made 0 w) rfl ⟨rfl, below_err (Below.refl _ _) 4⟩
set_option maxRecDepth 100000 in
theorem Keep_bad (h : Tab g S T w) (hV : Kd.V KI 26 w 0 okp (.slice A xs.length c0) xs) (hl : xs.length ≤ 140737488351232) (hok : xs.all (okR T.refs) = false) : Calls Try.prog 25 #[.pointer (some ⟨g, 0, none⟩), .slice A xs.length c0] w fun e w' => e = .returned (.tuple #[.slice none 0 0, .int .i64 22]) ∧ Below w.heap.size w w' := by
  have HC := Lib.hid (ask_no (h.below (below_alloc (Below.refl _ _) (.cells #[.int .i64 0] 30))) (Kd.V_alloc hV (.cells #[.int .i64 0] 30)) hl hok)
  clear h hV hok
  go_enter_defers Try.func25, Try.ntmps25
  go_wp2_with fail
  refine HC.out.mono ?_
  rintro e w1 ⟨rfl, hb⟩
  exact leave_err rfl 22 rfl ((Eb.made 0 w).below hb) rfl ⟨rfl, below_err hb 22⟩
set_option maxRecDepth 100000 in
theorem Any_nob {p : Option Addr} (h : Nob p w) (a : Int) : Calls Try.prog 18 #[.pointer p, .int .i64 a] w fun e w' => e = .returned (.tuple #[.string ⟨#[]⟩, .bool false, .int .i64 4]) ∧ Below w.heap.size w w' := by
  go_enter_defers Try.func18, Try.ntmps18
  go_wp2_with fail
  refine (ask_nob ((h.step (below_alloc (Below.refl _ _) (.cells #[.int .i64 0] 30))).step (below_alloc (Below.refl _ _) _)) _).mono ?_
  rintro e w1 ⟨rfl, rfl⟩
  exact leave_err3 rfl 4 rfl ((Eb.made 0 w).below (below_alloc (Below.refl _ _) _)) rfl rfl ⟨rfl, below_err (below_alloc (Below.refl _ _) _) 4⟩
set_option maxRecDepth 100000 in
theorem Any_bad (h : Tab g S T w) (a : Int) (hok : ([a] : List Int).all (okR T.refs) = false) : Calls Try.prog 18 #[.pointer (some ⟨g, 0, none⟩), .int .i64 a] w fun e w' => e = .returned (.tuple #[.string ⟨#[]⟩, .bool false, .int .i64 22]) ∧ Below w.heap.size w w' := by
  have hb0 := below_alloc (Below.refl _ (w.alloc (.cells #[.int .i64 0] 30))) (.cells #[.int .i64 a] 26)
  have HC : Hid (Calls Try.prog 37 #[.pointer (some ⟨g, 0, none⟩), .slice (some ⟨w.heap.size + 1, 0, none⟩) 1 1] ((w.alloc (.cells #[.int .i64 0] 30)).alloc (.cells #[.int .i64 a] 26)) fun e w' => e = errE 22 ∧ Below ((w.alloc (.cells #[.int .i64 0] 30)).alloc (.cells #[.int .i64 a] 26)).heap.size ((w.alloc (.cells #[.int .i64 0] 30)).alloc (.cells #[.int .i64 a] 26)) w') :=
    Lib.hid (ask_no (xs := [a]) ((h.below (below_alloc (Below.refl _ _) (.cells #[.int .i64 0] 30))).below hb0) (new_refs [a] _ rfl (w.alloc (.cells #[.int .i64 0] 30)) (by simp) _ _ (World.size_alloc _ _).symm rfl) (by simp) hok)
  have HB0 := Lib.hid hb0
  clear h hok hb0
  go_enter_defers Try.func18, Try.ntmps18
  go_wp2_with fail
  refine HC.out.mono ?_
  rintro e w1 ⟨rfl, hb⟩
  have hb2 := below_trans' HB0.out hb HB0.out.size
  exact leave_err3 rfl 22 rfl ((Eb.made 0 w).below hb2) rfl rfl ⟨rfl, below_err hb2 22⟩
set_option maxRecDepth 100000 in
theorem Make_nob {p : Option Addr} (h : Nob p w) (v : Value) : Calls Try.prog 26 #[.pointer p, v] w fun e w' => e = .returned (.tuple #[.int .i64 0, .int .i64 0, .int .i64 4]) ∧ Below w.heap.size w w' := by
  go_enter_defers Try.func26, Try.ntmps26
  go_wp2_with fail
  refine (ask_nob (h.step (below_alloc (Below.refl _ _) (.cells #[.int .i64 0] 30))) _).mono ?_
  rintro e w1 ⟨rfl, rfl⟩
  exact leave_err3 rfl 4 rfl (Eb.made 0 w) rfl rfl ⟨rfl, below_err (Below.refl _ _) 4⟩
set_option maxRecDepth 100000 in
theorem Not_nob {p : Option Addr} (h : Nob p w) (a : Int) : Calls Try.prog 21 #[.pointer p, .int .i64 a] w fun e w' => e = .returned (.tuple #[.int .i64 0, .int .i64 4]) ∧ Below w.heap.size w w' := by
  have HC := Lib.hid (Ite_nob h (a) (0) (1))
  clear h
  go_enter Try.func21, Try.ntmps21
  go_wp2_with fail
  refine HC.out.mono ?_
  rintro e w1 ⟨rfl, hb⟩
  have HB := Lib.hid hb
  clear hb
  go_wp2_with fail
  go_ret2
  exact ⟨rfl, HB.out⟩
set_option maxRecDepth 100000 in
theorem Not_bad (h : Tab g S T w) (a : Int) (hok : ([a, 0, 1] : List Int).all (okR T.refs) = false) : Calls Try.prog 21 #[.pointer (some ⟨g, 0, none⟩), .int .i64 a] w fun e w' => e = .returned (.tuple #[.int .i64 0, .int .i64 22]) ∧ Below w.heap.size w w' := by
  have HC := Lib.hid (Ite_bad h (a) (0) (1) hok)
  clear h hok
  go_enter Try.func21, Try.ntmps21
  go_wp2_with fail
  refine HC.out.mono ?_
  rintro e w1 ⟨rfl, hb⟩
  have HB := Lib.hid hb
  clear hb
  go_wp2_with fail
  go_ret2
  exact ⟨rfl, HB.out⟩
set_option maxRecDepth 100000 in
theorem Diff_nob {p : Option Addr} (h : Nob p w) (a b : Int) : Calls Try.prog 22 #[.pointer p, .int .i64 a, .int .i64 b] w fun e w' => e = .returned (.tuple #[.int .i64 0, .int .i64 4]) ∧ Below w.heap.size w w' := by
  have HC := Lib.hid (Ite_nob h (b) (0) (a))
  clear h
  go_enter Try.func22, Try.ntmps22
  go_wp2_with fail
  refine HC.out.mono ?_
  rintro e w1 ⟨rfl, hb⟩
  have HB := Lib.hid hb
  clear hb
  go_wp2_with fail
  go_ret2
  exact ⟨rfl, HB.out⟩
set_option maxRecDepth 100000 in
theorem Diff_bad (h : Tab g S T w) (a b : Int) (hok : ([b, 0, a] : List Int).all (okR T.refs) = false) : Calls Try.prog 22 #[.pointer (some ⟨g, 0, none⟩), .int .i64 a, .int .i64 b] w fun e w' => e = .returned (.tuple #[.int .i64 0, .int .i64 22]) ∧ Below w.heap.size w w' := by
  have HC := Lib.hid (Ite_bad h (b) (0) (a) hok)
  clear h hok
  go_enter Try.func22, Try.ntmps22
  go_wp2_with fail
  refine HC.out.mono ?_
  rintro e w1 ⟨rfl, hb⟩
  have HB := Lib.hid hb
  clear hb
  go_wp2_with fail
  go_ret2
  exact ⟨rfl, HB.out⟩
set_option maxRecDepth 100000 in
theorem Bits_nob {p : Option Addr} (h : Nob p w) : Calls Try.prog 27 #[.pointer p] w fun e w' => e = .returned (.int .i64 0) ∧ w = w' := by
  have HC := Lib.hid (is_nob h)
  clear h
  go_enter Try.func27, Try.ntmps27
  go_wp2_with fail
  refine HC.out.mono ?_
  rintro e w1 ⟨rfl, rfl⟩
  go_wp2_with fail
  go_ret
  exact ⟨rfl, rfl⟩
set_option maxRecDepth 100000 in
theorem Limit_nob {p : Option Addr} (h : Nob p w) : Calls Try.prog 28 #[.pointer p] w fun e w' => e = .returned (.int .i64 0) ∧ w = w' := by
  have HC := Lib.hid (is_nob h)
  clear h
  go_enter Try.func28, Try.ntmps28
  go_wp2_with fail
  refine HC.out.mono ?_
  rintro e w1 ⟨rfl, rfl⟩
  go_wp2_with fail
  go_ret
  exact ⟨rfl, rfl⟩
set_option maxRecDepth 100000 in
theorem Size_nob {p : Option Addr} (h : Nob p w) : Calls Try.prog 20 #[.pointer p] w fun e w' => e = .returned (.int .i64 0) ∧ w = w' := by
  have HC := Lib.hid (is_nob h)
  clear h
  go_enter Try.func20, Try.ntmps20
  go_wp2_with fail
  refine HC.out.mono ?_
  rintro e w1 ⟨rfl, rfl⟩
  go_wp2_with fail
  go_ret
  exact ⟨rfl, rfl⟩
end
end Go.Proofs.Ytbglnddjhlefnaa
