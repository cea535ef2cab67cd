/- Tables as they are behind any calls: what stays. -/
import Derived.Test.YtbglnddjhlefnaaTl
namespace Go.Proofs.Ytbglnddjhlefnaa
open Go Go.RowKit
theorem Fine.new {b l : Nat} (h1 : 1 ≤ b) (h2 : b ≤ 128) (h3 : l ≤ 1048576) : Fine (newB b l) :=
  ⟨⟨List.nodup_nil, fun i n hi => by simp [newB] at hi⟩, h1, h2, h3, by simp [newB], by simp [newB], by simp [newB]⟩
/-- More nodes. -/
theorem Fine.grow {T : Bd} (h : Fine T) {N : List Nd} (hw : WF T.bits N) (hp : T.N <+: N) : Fine { T with N := N } :=
  ⟨hw, h.b1, h.b2, h.lim, h.nd, fun a ha => ⟨(h.ur a ha).1, (h.ur a ha).2.pre hp⟩, fun a ha => (h.rv a ha).pre hp⟩
/-- One told. -/
theorem Fine.tell {T : Bd} (h : Fine T) {a : Nat} (hv : Val T.N a) : Fine (tellF T a) := by
  have hn := needF_ok (used := T.used) h.wf a a [] hv ⟨by simp, by simp, by simp⟩
  refine ⟨h.wf, h.b1, h.b2, h.lim, ?_, ?_, ?_⟩
  · refine List.nodup_append.2 ⟨hn.nodup, h.nd, fun x hx y hy e => hn.apart x hx (e ▸ hy)⟩
  · intro x hx
    rcases List.mem_append.1 hx with hx | hx
    · exact hn.range x hx
    · exact h.ur x hx
  · intro x hx
    unfold tellF at hx
    simp only at hx
    split at hx
    · rcases List.mem_cons.1 hx with rfl | hx
      · exact hv
      · exact h.rv x hx
    · exact h.rv x hx
/-- There is room where there are no more nodes than the limit. -/
theorem Fine.room {T : Bd} (h : Fine T) {a : Nat} (hv : Val T.N a) (hl : T.N.length ≤ T.lim) : Room T a := by
  have := used_le (h.tell hv).nd (h.tell hv).ur
  unfold Room
  simp only [tellF, List.length_append] at this
  omega
theorem Fine.cube {T : Bd} (h : Fine T) (s : List UInt8) : Fine (cubeR T s).2.2 := by
  unfold cubeR
  split
  · exact h
  · rename_i hl
    have hl : s.length = T.bits := by omega
    have OK := cubeG_ok h.wf s 0 (by omega)
    generalize cubeG T.N s 0 = x at OK
    obtain ⟨o, N1⟩ := x
    cases o with
    | none => exact h.grow OK.wf OK.pre
    | some a => exact (h.grow OK.wf OK.pre).tell (OK.val a rfl).1
theorem Fine.fold {T : Bd} (h : Fine T) (and : Bool) (l : List Nat) (hl : ∀ b ∈ l, Val T.N b) : Fine (foldR T and l).2.2 := by
  have OK := foldC_ok and l T.N (if and then 1 else 0) h.wf (by cases and; exact val0 _; exact val1 _) hl
  exact (h.grow OK.wf OK.pre).tell OK.val
end Go.Proofs.Ytbglnddjhlefnaa
