/- The walks of ask and caught; what a deferred caught does. -/
import Derived.Test.YtbglnddjhlefnaaTc
namespace Go.Proofs.Ytbglnddjhlefnaa
open Go Go.RowKit Go.Proofs.YtbglnddjhlefnaaW.PrintWords Go.Proofs.YtbglnddjhlefnaaW.PrintLast Go.Proofs.YtbglnddjhlefnaaW.PrintMore
/-- A panic with an error. -/
def errE (k : Int) : Ending := .panicked [{ v := .iface 30 (.int .i64 k), recovered := false }]
section
variable {g : Nat} {S : Nat → Prop} {T : Bd} {w w' : World} {okp : Nat → Prop} {A : Option Addr} {c : Nat} {xs : List Int}
set_option maxRecDepth 100000 in
theorem ask_yes (h : Tab g S T w) (hV : Kd.V KI 26 w 0 okp (.slice A xs.length c) xs) (hl : xs.length ≤ 140737488351232) (hok : xs.all (okR T.refs) = true) :
    Calls Try.prog 37 #[.pointer (some ⟨g, 0, none⟩), .slice A xs.length c] w fun e w' => e = .returned (.tuple #[]) ∧ Below w.heap.size w w' := by
  have HC := knows_w h hV hl
  rw [hok] at HC
  have HI := Lib.hid (is_w h)
  replace HC := Lib.hid HC
  generalize xs.length = n at HC ⊢
  clear h hV hl hok
  go_enter Try.func37, Try.ntmps37
  go_wp2_with fail
  refine HI.out.mono ?_
  rintro e w1 ⟨rfl, rfl⟩
  go_wp2_with fail
  refine HC.out.mono ?_
  rintro e w1 ⟨rfl, hb⟩
  have HB := Lib.hid hb
  clear hb
  go_wp2_with fail
  go_end0
  exact ⟨rfl, HB.out⟩
set_option maxRecDepth 100000 in
theorem ask_no (h : Tab g S T w) (hV : Kd.V KI 26 w 0 okp (.slice A xs.length c) xs) (hl : xs.length ≤ 140737488351232) (hok : xs.all (okR T.refs) = false) :
    Calls Try.prog 37 #[.pointer (some ⟨g, 0, none⟩), .slice A xs.length c] w fun e w' => e = errE 22 ∧ Below w.heap.size w w' := by
  have HC := knows_w h hV hl
  rw [hok] at HC
  have HI := Lib.hid (is_w h)
  replace HC := Lib.hid HC
  generalize xs.length = n at HC ⊢
  clear h hV hl hok
  go_enter Try.func37, Try.ntmps37
  go_wp2_with fail
  refine HI.out.mono ?_
  rintro e w1 ⟨rfl, rfl⟩
  go_wp2_with fail
  refine HC.out.mono ?_
  rintro e w1 ⟨rfl, hb⟩
  have HB := Lib.hid hb
  clear hb
  go_wp2_with fail
  exact ⟨rfl, rfl, HB.out⟩
/-- Nobody's table: no pointer, or a struct that is zero. -/
def Nob (p : Option Addr) (w : World) : Prop := p = none ∨ ∃ g, p = some ⟨g, 0, none⟩ ∧ w.heap[g]? = some (.cells #[.map none, .map none, .int .i64 0, .int .i64 0, .slice none 0 0, .map none] 67 (0, 0))
theorem Nob.step {p : Option Addr} (h : Nob p w) (hb : Below w.heap.size w w') : Nob p w' := by
  rcases h with rfl | ⟨g, rfl, h⟩
  · exact .inl rfl
  · exact .inr ⟨g, rfl, (hb.block g (blk_lt' h)).trans h⟩
set_option maxRecDepth 100000 in
theorem is_nob {p : Option Addr} (h : Nob p w) : Calls Try.prog 48 #[.pointer p] w fun e w' => e = .returned (.bool false) ∧ w = w' := by
  rcases h with rfl | ⟨g, rfl, h⟩
  · go_enter Try.func48, Try.ntmps48
    go_wp2_with fail
    go_ret
    exact ⟨rfl, rfl⟩
  · have d5 := blk_cell h 5 (.map none) rfl
    have hmn := fun (w : World) => run_neq_map_nil w 65 95 3 none Try.underlying65
    clear h
    go_enter Try.func48, Try.ntmps48
    go_wp2_with fail
    go_ret
    exact ⟨rfl, rfl⟩
set_option maxRecDepth 100000 in
theorem ask_nob {p : Option Addr} (h : Nob p w) (v : Value) : Calls Try.prog 37 #[.pointer p, v] w fun e w' => e = errE 4 ∧ w = w' := by
  have HI := Lib.hid (is_nob h)
  clear h
  go_enter Try.func37, Try.ntmps37
  go_wp2_with fail
  refine HI.out.mono ?_
  rintro e w1 ⟨rfl, rfl⟩
  go_wp2_with fail
  exact ⟨rfl, rfl, rfl⟩
theorem new_refs (xs : List Int) (cs : List Value) (hcs : cs = xs.map (Value.int .i64)) (w : World) (hl : xs.length ≤ 100) (g n : Nat) (hg : g = w.heap.size) (hn : n = xs.length) : Kd.V KI 26 (w.alloc (.cells cs.toArray 26)) 0 (fun k => k = g) (.slice (some ⟨g, 0, none⟩) n n) xs := by
  subst hg hn
  exact Kd.V_mono (V_block (heap_alloc_new w _) (Reps_ints (ok := fun k => k = w.heap.size) .i64 xs _ hcs) rfl (Nat.le_refl _) (by omega)) (fun k hk => hk.elim id id)
/-- A box of an error. -/
def Eb (e : Nat) (x : Int) (w : World) : Prop := w.heap[e]? = some (.cells #[.int .i64 x] 30 (0, 0))
theorem caught_idle (p : Addr) (w : World) :
    CallsD Try.prog 36 #[.pointer (some p)] .returning w fun e u' w' => e = .returned (.tuple #[]) ∧ u' = .returning ∧ w' = w := by
  refine callsD_of_wpS Try.func36 rfl fun c₀ cs hu => ?_
  apply wpS_seq
  apply wpS_region
  simp [wpOpsS, go_sem, recoverD, hu, Try.ntmps36, Exit.thenS]
  refine wpS_of_wp ?_
  simp only [List.setIfInBounds_toArray, List.set_cons_zero, List.set_cons_succ, Array.replicate_succ, Array.replicate_zero, List.push_toArray, List.append_toArray, List.nil_append, List.cons_append]
  go_wp2_with fail
  cases c₀
  simp_all [bodyPostS, results]
theorem assert30 (v : Value) (w : World) : (Instr.typeAssert (.iface 30 v) 20 30 true).run Try.prog w = .ok (.tuple #[v, .bool true]) w := by kernel_rfl
set_option maxRecDepth 100000 in
set_option maxHeartbeats 1000000 in
theorem caught_err (p : Addr) (k : Int) (a : Value) (older : List PanicEntry) (w : World) (hp : w.cell? p = some a) (fp : w.frozen? p = false) :
    CallsD Try.prog 36 #[.pointer (some p)] (.panicking ({ v := .iface 30 (.int .i64 k), recovered := false } :: older)) w fun e u' w' =>
      e = .returned (.tuple #[]) ∧ u' = .panicking ({ v := .iface 30 (.int .i64 k), recovered := true } :: older) ∧ w' = w.setCell p (.int .i64 k) := by
  have hta := assert30 (.int .i64 k)
  refine callsD_of_wpS Try.func36 rfl fun c₀ cs hu => ?_
  apply wpS_seq
  apply wpS_region
  simp [wpOpsS, go_sem, recoverD, hu, Try.ntmps36, Exit.thenS]
  refine wpS_of_wp ?_
  simp only [List.setIfInBounds_toArray, List.set_cons_zero, List.set_cons_succ, Array.replicate_succ, Array.replicate_zero, List.push_toArray, List.append_toArray, List.nil_append, List.cons_append]
  go_wp2_with fail
  simp [bodyPostS, results]
theorem load30 {g : Nat} {x : Int} (h : Eb g x w) : (loadVar 30 ⟨g, 0, none⟩).run Try.prog w = .ok (.int .i64 x) w := by
  have hc := blk_cell h 0 (.int .i64 x) rfl
  go_simp
theorem results_tc {P : Program} {fn : Func} {a t : Tmp} {T : TypeId} (h : fn.results = #[.tmp t, .cell a T]) {tmps : Array Value} {w : World} {g : Nat} {V : Value} (hp : tmps.getD a undef = .pointer (some ⟨g, 0, none⟩)) (hl : (loadVar T ⟨g, 0, none⟩).run P w = .ok V w) :
    (results fn tmps).run P w = .ok (.tuple #[tmps.getD t undef, V]) w := by
  have hp' : tmps[a]?.getD undef = .pointer (some ⟨g, 0, none⟩) := by simpa using hp
  simp [results, h, hp', asAddr, hl]
theorem results_ttc {P : Program} {fn : Func} {a t u : Tmp} {T : TypeId} (h : fn.results = #[.tmp t, .tmp u, .cell a T]) {tmps : Array Value} {w : World} {g : Nat} {V : Value} (hp : tmps.getD a undef = .pointer (some ⟨g, 0, none⟩)) (hl : (loadVar T ⟨g, 0, none⟩).run P w = .ok V w) :
    (results fn tmps).run P w = .ok (.tuple #[tmps.getD t undef, tmps.getD u undef, V]) w := by
  have hp' : tmps[a]?.getD undef = .pointer (some ⟨g, 0, none⟩) := by simpa using hp
  simp [results, h, hp', asAddr, hl]
/-- The deferred call. -/
abbrev DFc (eb : Nat) : List Deferred := [{ target := .fn (.func 36) #[], args := #[.pointer (some ⟨eb, 0, none⟩)] }]
/-- A panic with an error is caught: two results. -/
theorem leave_err {fn : Func} {a c : Tmp} (hr : fn.results = #[.tmp a, .cell c 30]) {tmps : Array Value} {eb : Nat} {W : World} {x : Int} (k : Int) (p5 : tmps.getD c undef = .pointer (some ⟨eb, 0, none⟩)) (hb : Eb eb x W) {Q : Ending → World → Prop} {v : Value} (p4 : tmps.getD a undef = v)
    (hQ : Q (.returned (.tuple #[v, .int .i64 k])) (W.setCell ⟨eb, 0, none⟩ (.int .i64 k))) : Leaves Try.prog fn tmps Q (DFc eb) (.panicking [{ v := .iface 30 (.int .i64 k), recovered := false }]) W := by
  refine leaves_cons (f := 36) (args := #[.pointer (some ⟨eb, 0, none⟩)]) (by simp) (by simp [go_sem]) ?_
  refine (caught_err _ k _ [] W (blk_cell hb 0 _ rfl) (blk_free hb 0)).mono ?_
  rintro e u' w'' ⟨rfl, rfl, rfl⟩
  have hb2 : Eb eb k (W.setCell ⟨eb, 0, none⟩ (.int .i64 k)) := by
    have := blk_set hb 0 (.int .i64 k)
    simpa [Eb] using this
  refine ⟨_, results_tc hr p5 (load30 hb2), ?_⟩
  rw [p4]
  exact hQ
theorem leave_ok {fn : Func} {a c : Tmp} (hr : fn.results = #[.tmp a, .cell c 30]) {tmps : Array Value} {eb : Nat} {W : World} {x : Int} (p5 : tmps.getD c undef = .pointer (some ⟨eb, 0, none⟩)) (hb : Eb eb x W) {Q : Ending → World → Prop} {v : Value} (p4 : tmps.getD a undef = v)
    (hQ : Q (.returned (.tuple #[v, .int .i64 x])) W) : Leaves Try.prog fn tmps Q (DFc eb) .returning W := by
  refine leaves_cons (f := 36) (args := #[.pointer (some ⟨eb, 0, none⟩)]) (by simp) (by simp [go_sem]) ?_
  refine (caught_idle _ W).mono ?_
  rintro e u' w'' ⟨rfl, rfl, rfl⟩
  refine ⟨_, results_tc hr p5 (load30 hb), ?_⟩
  rw [p4]
  exact hQ
/-- Three results. -/
theorem leave_err3 {fn : Func} {a b c : Tmp} (hr : fn.results = #[.tmp a, .tmp b, .cell c 30]) {tmps : Array Value} {eb : Nat} {W : World} {x : Int} (k : Int) (p5 : tmps.getD c undef = .pointer (some ⟨eb, 0, none⟩)) (hb : Eb eb x W) {Q : Ending → World → Prop} {u v : Value} (p3 : tmps.getD a undef = u) (p4 : tmps.getD b undef = v)
    (hQ : Q (.returned (.tuple #[u, v, .int .i64 k])) (W.setCell ⟨eb, 0, none⟩ (.int .i64 k))) : Leaves Try.prog fn tmps Q (DFc eb) (.panicking [{ v := .iface 30 (.int .i64 k), recovered := false }]) W := by
  refine leaves_cons (f := 36) (args := #[.pointer (some ⟨eb, 0, none⟩)]) (by simp) (by simp [go_sem]) ?_
  refine (caught_err _ k _ [] W (blk_cell hb 0 _ rfl) (blk_free hb 0)).mono ?_
  rintro e u' w'' ⟨rfl, rfl, rfl⟩
  have hb2 : Eb eb k (W.setCell ⟨eb, 0, none⟩ (.int .i64 k)) := by
    have := blk_set hb 0 (.int .i64 k)
    simpa [Eb] using this
  refine ⟨_, results_ttc hr p5 (load30 hb2), ?_⟩
  rw [p3, p4]
  exact hQ
theorem leave_ok3 {fn : Func} {a b c : Tmp} (hr : fn.results = #[.tmp a, .tmp b, .cell c 30]) {tmps : Array Value} {eb : Nat} {W : World} {x : Int} (p5 : tmps.getD c undef = .pointer (some ⟨eb, 0, none⟩)) (hb : Eb eb x W) {Q : Ending → World → Prop} {u v : Value} (p3 : tmps.getD a undef = u) (p4 : tmps.getD b undef = v)
    (hQ : Q (.returned (.tuple #[u, v, .int .i64 x])) W) : Leaves Try.prog fn tmps Q (DFc eb) .returning W := by
  refine leaves_cons (f := 36) (args := #[.pointer (some ⟨eb, 0, none⟩)]) (by simp) (by simp [go_sem]) ?_
  refine (caught_idle _ W).mono ?_
  rintro e u' w'' ⟨rfl, rfl, rfl⟩
  refine ⟨_, results_ttc hr p5 (load30 hb), ?_⟩
  rw [p3, p4]
  exact hQ
end
end Go.Proofs.Ytbglnddjhlefnaa
