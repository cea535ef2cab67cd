/- The walks of Read's deferred closure. -/
import Derived.Test.YtgekpnbgmbbbdaaDoorCr2
import Derived.Recover
namespace Go.Proofs.YtgekpnbgmbbbdaaDoor
open Go Go.RowKit Go.Proofs.YtgekpnbgmbbbdaaDoorW.PrintWords Go.Proofs.YtgekpnbgmbbbdaaDoorW.PrintLast Go.Proofs.YtgekpnbgmbbbdaaDoorW.PrintMore
theorem catch_idle (p q r : Addr) (w : World) :
    CallsD Tryd.prog 46 #[.pointer (some p), .pointer (some q), .pointer (some r)] .returning w fun e u' w' => e = .returned (.tuple #[]) ∧ u' = .returning ∧ w' = w := by
  refine callsD_of_wpS Tryd.func46 rfl fun c₀ cs hu => ?_
  apply wpS_seq
  apply wpS_region
  simp [wpOpsS, go_sem, recoverD, hu, Tryd.ntmps46, Exit.thenS]
  refine wpS_of_wp ?_
  simp only [List.setIfInBounds_toArray, List.set_cons_zero, List.set_cons_succ, Array.replicate_succ, Array.replicate_zero, List.push_toArray, List.append_toArray, List.nil_append, List.cons_append]
  go_wp2_with fail
  cases c₀
  simp_all [bodyPostS, results]
theorem assert67 (v : Value) (w : World) : (Instr.typeAssert (.iface 67 v) 20 67 true).run Tryd.prog w = .ok (.tuple #[v, .bool true]) w := by kernel_rfl
set_option maxRecDepth 100000 in
set_option maxHeartbeats 1000000 in
theorem catch_panicking (p q r : Addr) (k : Int) (a b c : Value) (older : List PanicEntry) (w : World) (hp : w.cell? p = some a) (fp : w.frozen? p = false)
    (hq : (w.setCell p (.int .u64 0)).cell? q = some b) (fq : (w.setCell p (.int .u64 0)).frozen? q = false) (hr : ((w.setCell p (.int .u64 0)).setCell q (.int .i64 k)).cell? r = some c) (fr : ((w.setCell p (.int .u64 0)).setCell q (.int .i64 k)).frozen? r = false) :
    CallsD Tryd.prog 46 #[.pointer (some p), .pointer (some q), .pointer (some r)] (.panicking ({ v := .iface 67 (.int .i64 k), recovered := false } :: older)) w fun e u' w' =>
      e = .returned (.tuple #[]) ∧ u' = .panicking ({ v := .iface 67 (.int .i64 k), recovered := true } :: older) ∧ w' = ((w.setCell p (.int .u64 0)).setCell q (.int .i64 k)).setCell r (.int .i64 21) := by
  have hta := assert67 (.int .i64 k)
  refine callsD_of_wpS Tryd.func46 rfl fun c₀ cs hu => ?_
  apply wpS_seq
  apply wpS_region
  simp [wpOpsS, go_sem, recoverD, hu, Tryd.ntmps46, Exit.thenS]
  refine wpS_of_wp ?_
  simp only [List.setIfInBounds_toArray, List.set_cons_zero, List.set_cons_succ, Array.replicate_succ, Array.replicate_zero, List.push_toArray, List.append_toArray, List.nil_append, List.cons_append]
  go_wp2_with fail
  simp [bodyPostS, results]
end Go.Proofs.YtgekpnbgmbbbdaaDoor
