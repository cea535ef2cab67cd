/- Plain law for NetOnce: the datagram with number 1 stays alone and as it was sent; an act opened out of a row. -/
import Derived.Test.YtnognpfenefafaaNo1
namespace Go.Proofs.Ytnognpfenefafaa
open Go.Proofs.Ytnognpfenefafaa.PNetRuns (S39 S73 k39 k73 z39 z73)
open Go.RowKit Go.Proofs.YtnognpfenefafaaW.PrintWords Go.Proofs.YtnognpfenefafaaW.PrintLast Go.Proofs.YtnognpfenefafaaW.PrintMore
/-- An act. -/
abbrev TOp := Int × Int × Int × Int × Int × Int × List Int
abbrev kop : Kd TOp := Kd.pair (Kd.int .i64) (Kd.pair (Kd.int .i64) (Kd.pair (Kd.int .i64) (Kd.pair (Kd.int .i64) (Kd.pair (Kd.int .i64) (Kd.pair (Kd.int .u8) (Kd.slice 5 (Kd.int .u8)))))))
def zop : TOp := (0, 0, 0, 0, 0, 0, [])
theorem kop_open {w : World} {x : TOp} {cs : List Value} (h : kop.K w x cs) : ∃ A6 c6, cs = [.int .i64 x.1, .int .i64 x.2.1, .int .i64 x.2.2.1, .int .i64 x.2.2.2.1, .int .i64 x.2.2.2.2.1, .int .u8 x.2.2.2.2.2.1, .slice A6 x.2.2.2.2.2.2.length c6] ∧ x.2.2.2.2.2.2.length ≤ c6 ∧ KB.C w A6 x.2.2.2.2.2.2.length x.2.2.2.2.2.2 := by
  obtain ⟨_, _, rfl, rfl, ⟨_, _, rfl, rfl, ⟨_, _, rfl, rfl, ⟨_, _, rfl, rfl, ⟨_, _, rfl, rfl, ⟨_, _, rfl, rfl, ⟨A6, c6, rfl, l6, g6⟩⟩⟩⟩⟩⟩⟩ := h
  exact ⟨A6, c6, rfl, l6, g6⟩
theorem V_op_at {w : World} {t b : Nat} {ok : Nat → Prop} {A : Option Addr} {n c : Nat} {ops : List TOp} (h : Kd.V kop t w b ok (.slice A n c) ops) (i : Nat) (hi : i < ops.length) :
    ∃ ad k fr to_ id at_ bits A6 c6 bs, A = some ad ∧ w.cell? (ad.add (i * 7)) = some (.int .i64 k) ∧ w.cell? ⟨(ad.add (i * 7)).block, (ad.add (i * 7)).off + 1, none⟩ = some (.int .i64 fr) ∧ w.cell? ⟨(ad.add (i * 7)).block, (ad.add (i * 7)).off + 2, none⟩ = some (.int .i64 to_) ∧
      w.cell? ⟨(ad.add (i * 7)).block, (ad.add (i * 7)).off + 3, none⟩ = some (.int .i64 id) ∧ w.cell? ⟨(ad.add (i * 7)).block, (ad.add (i * 7)).off + 4, none⟩ = some (.int .i64 at_) ∧ w.cell? ⟨(ad.add (i * 7)).block, (ad.add (i * 7)).off + 5, none⟩ = some (.int .u8 bits) ∧
      w.cell? ⟨(ad.add (i * 7)).block, (ad.add (i * 7)).off + 6, none⟩ = some (.slice A6 bs.length c6) ∧ Kd.V KB 5 w b ok (.slice A6 bs.length c6) bs ∧ Hid ((k, fr, to_, id, at_, bits, bs) = ops.getD i zop) := by
  obtain ⟨hn, hl, hF⟩ := Kd.V_at h
  obtain ⟨ad, cs, e, hs, hr, hcell, _⟩ := Kd.F_get hF zop (i : Int) (by omega) (by omega)
  rw [show ((i : Int)).toNat = i by omega] at hr hcell
  obtain ⟨x, hx⟩ : ∃ x, x = ops.getD i zop := ⟨_, rfl⟩
  rw [← hx] at hr
  obtain ⟨k, fr, to_, id, at_, bits, bs⟩ := x
  obtain ⟨A6, c6, rfl, _, _⟩ := kop_open (Kd.FK_now hr)
  have hc : ∀ j u, [Value.int .i64 k, .int .i64 fr, .int .i64 to_, .int .i64 id, .int .i64 at_, .int .u8 bits, .slice A6 bs.length c6][j]? = some u → w.cell? (ad.add (i * 7 + j)) = some u := hcell
  refine ⟨ad, k, fr, to_, id, at_, bits, A6, c6, bs, e, hc 0 _ rfl, by rw [← add_field _ _ 1 (by omega)]; exact hc 1 _ rfl, by rw [← add_field _ _ 2 (by omega)]; exact hc 2 _ rfl, by rw [← add_field _ _ 3 (by omega)]; exact hc 3 _ rfl, by rw [← add_field _ _ 4 (by omega)]; exact hc 4 _ rfl, by rw [← add_field _ _ 5 (by omega)]; exact hc 5 _ rfl, by rw [← add_field _ _ 6 (by omega)]; exact hc 6 _ rfl, ?_, hx⟩
  refine V_of_FK (fun W' hW => ?_)
  obtain ⟨A7, c7, he, h1, h2⟩ := kop_open (hr W' hW)
  simp only [List.cons.injEq] at he
  obtain ⟨_, _, _, _, _, _, he, _⟩ := he
  injection he with e1 _ e2
  subst e1; subst e2
  exact ⟨A6, c6, rfl, h1, h2⟩
/-- Those with the number 1. -/
def one1 (ps : List S73) : List S73 := ps.filter (fun p => p.f0.f0 == 1)
theorem split_at {ps : List S73} {i : Nat} (hi : i < ps.length) : ps = ps.take i ++ ps.getD i z73 :: ps.drop (i + 1) := by
  rw [List.getD_eq_getElem?_getD, List.getElem?_eq_getElem hi, Option.getD_some, List.getElem_cons_drop, List.take_append_drop]
theorem one1_erase {ps : List S73} {id : Int} (h : id ≠ 1) : one1 (ps.eraseIdx (fnd ps id)) = one1 ps := by
  by_cases hq : fnd ps id < ps.length
  · have h2 := fnd_id hq
    have h3 := split_at hq
    unfold one1
    rw [List.eraseIdx_eq_take_drop_succ]
    conv => rhs; rw [h3]
    rw [List.filter_append, List.filter_append, List.filter_cons_of_neg (by rw [h2]; simpa using h)]
  · rw [List.eraseIdx_of_length_le (by omega)]
theorem one1_set {ps : List S73} {id : Int} (h : id ≠ 1) (x : S73) (hx : x.f0.f0 = (ps.getD (fnd ps id) z73).f0.f0) : one1 (ps.set (fnd ps id) x) = one1 ps := by
  by_cases hq : fnd ps id < ps.length
  · have h2 := fnd_id hq
    have h3 := split_at hq
    unfold one1
    rw [List.set_eq_take_append_cons_drop, if_pos hq]
    conv => rhs; rw [h3]
    rw [List.filter_append, List.filter_append, List.filter_cons_of_neg (a := x) (by rw [hx, h2]; simpa using h), List.filter_cons_of_neg (a := ps.getD (fnd ps id) z73) (by rw [h2]; simpa using h)]
  · rw [List.set_eq_of_length_le (by omega)]
/-- What the law keeps: one datagram has the number 1, and its bytes are b. -/
structure Inv1 (b : List Int) (j : Nat) (last : Int) (ps : List S73) : Prop where
  len : ps.length ≤ j + 1
  lo : 1 ≤ last
  hi : last ≤ j + 1
  good : ∀ p ∈ ps, p.f1.length ≤ 65536
  one : ∃ x, one1 ps = [x] ∧ x.f1 = b
theorem Inv1.append {b : List Int} {j : Nat} {last : Int} {ps : List S73} (h : Inv1 b j last ps) (x : S73) (h1 : x.f0.f0 = last + 1) (h2 : x.f1.length ≤ 65536) : Inv1 b (j + 1) (last + 1) (ps ++ [x]) := by
  refine ⟨by have := h.len; simp; omega, by have := h.lo; omega, by have := h.hi; omega, fun p hp => ?_, ?_⟩
  · rcases List.mem_append.1 hp with hp | hp
    · exact h.good p hp
    · rw [List.mem_singleton] at hp; rw [hp]; exact h2
  · have hlo := h.lo
    have : one1 (ps ++ [x]) = one1 ps := by
      unfold one1
      rw [List.filter_append, List.filter_cons_of_neg (by rw [h1]; simp; omega), List.filter_nil, List.append_nil]
    rw [this]
    exact h.one
theorem Inv1.next {b : List Int} {j : Nat} {last : Int} {ps : List S73} (h : Inv1 b j last ps) : Inv1 b (j + 1) last ps := ⟨by have := h.len; omega, h.lo, by have := h.hi; omega, h.good, h.one⟩
theorem Inv1.enter {b : List Int} {j : Nat} {last : Int} {ps : List S73} (h : Inv1 b j last ps) (dev fr to_ : Int) (fo : Bool) (bs : List Int) : Inv1 b (j + 1) (enterF dev last ps fr to_ fo bs).last (enterF dev last ps fr to_ fo bs).ps := by
  unfold enterF
  split
  · split
    · exact h.append _ rfl (by assumption)
    · exact h.next
  · exact h.next
theorem Inv1.erase {b : List Int} {j : Nat} {last : Int} {ps : List S73} (h : Inv1 b j last ps) {id : Int} (hid : id ≠ 1) : Inv1 b (j + 1) last (ps.eraseIdx (fnd ps id)) :=
  ⟨by have := h.len; have := List.length_eraseIdx_le ps (fnd ps id); omega, h.lo, by have := h.hi; omega, fun p hp => h.good p (List.mem_of_mem_eraseIdx hp), by rw [one1_erase hid]; exact h.one⟩
theorem Inv1.set {b : List Int} {j : Nat} {last : Int} {ps : List S73} (h : Inv1 b j last ps) {id : Int} (hid : id ≠ 1) (x : S73) (hx : x.f0.f0 = (ps.getD (fnd ps id) z73).f0.f0) (hl : x.f1.length ≤ 65536) : Inv1 b (j + 1) last (ps.set (fnd ps id) x) :=
  ⟨by have := h.len; rw [List.length_set]; omega, h.lo, by have := h.hi; omega, fun p hp => by
    rcases List.mem_or_eq_of_mem_set hp with hp | rfl
    · exact h.good p hp
    · exact hl, by rw [one1_set hid x hx]; exact h.one⟩
theorem getD_mem {ps : List S73} {i : Nat} (hi : i < ps.length) : ps.getD i z73 ∈ ps := by
  rw [List.getD_eq_getElem?_getD, List.getElem?_eq_getElem hi, Option.getD_some]
  exact List.getElem_mem hi
theorem Inv1.step {b : List Int} {j : Nat} {last : Int} {ps : List S73} (h : Inv1 b j last ps) (dev k fr to_ id at_ bits : Int) (bs : List Int) (hg : k ≤ 2 ∨ k = 5 ∨ (id ≠ 1 ∧ k < 7)) :
    Inv1 b (j + 1) (stepF dev last ps k fr to_ id at_ bits bs).1 (stepF dev last ps k fr to_ id at_ bits bs).2 := by
  unfold stepF
  split
  · exact h.enter ..
  split
  · exact h.enter ..
  split
  · exact h.erase (by omega)
  split
  · split
    · rename_i hq
      exact h.append _ rfl (show (ps.getD (fnd ps id) z73).f1.length ≤ _ from h.good _ (getD_mem hq))
    · exact h.next
  split
  · split
    · rename_i hq
      exact h.set (by omega) _ rfl (by show (List.set _ _ _).length ≤ _; rw [List.length_set]; exact h.good _ (getD_mem hq.1))
    · exact h.next
  split
  · omega
  · exact h.next
theorem Inv1.found {b : List Int} {j : Nat} {last : Int} {ps : List S73} (h : Inv1 b j last ps) : fnd ps 1 < ps.length ∧ (ps.getD (fnd ps 1) z73).f1 = b ∧ ¬ fnd (ps.eraseIdx (fnd ps 1)) 1 < (ps.eraseIdx (fnd ps 1)).length := by
  obtain ⟨x, h1, h2⟩ := h.one
  have hx : x ∈ one1 ps := by rw [h1]; exact List.mem_singleton.2 rfl
  unfold one1 at hx
  rw [List.mem_filter] at hx
  have hq : fnd ps 1 < ps.length := List.findIdx_lt_length_of_exists ⟨x, hx.1, hx.2⟩
  have hid := fnd_id hq
  have h3 := split_at hq
  have h4 : one1 ps = one1 (ps.take (fnd ps 1)) ++ ps.getD (fnd ps 1) z73 :: one1 (ps.drop (fnd ps 1 + 1)) := by
    unfold one1
    conv => lhs; rw [h3]
    rw [List.filter_append, List.filter_cons_of_pos (by rw [hid]; simp)]
  rw [h1] at h4
  have h5 : one1 (ps.take (fnd ps 1)) = [] ∧ x = ps.getD (fnd ps 1) z73 ∧ one1 (ps.drop (fnd ps 1 + 1)) = [] := by
    cases hA : one1 (ps.take (fnd ps 1)) with
    | nil => rw [hA] at h4; simp only [List.nil_append, List.cons.injEq] at h4; exact ⟨rfl, h4.1, h4.2.symm⟩
    | cons a r => rw [hA] at h4; simp at h4
  refine ⟨hq, by rw [← h5.2.1]; exact h2, fun h6 => ?_⟩
  have h7 := getD_mem h6
  have h8 := fnd_id h6
  rw [List.eraseIdx_eq_take_drop_succ] at h7
  have h9 : one1 (ps.take (fnd ps 1) ++ ps.drop (fnd ps 1 + 1)) = [] := by
    unfold one1 at h5 ⊢
    rw [List.filter_append, h5.1, h5.2.2, List.append_nil]
  have h10 : (List.getD (ps.eraseIdx (fnd ps 1)) (fnd (ps.eraseIdx (fnd ps 1)) 1) z73) ∈ one1 (ps.take (fnd ps 1) ++ ps.drop (fnd ps 1 + 1)) := by
    unfold one1
    rw [List.mem_filter]
    refine ⟨?_, by rw [h8]; simp⟩
    rw [List.eraseIdx_eq_take_drop_succ]
    exact h7
  rw [h9] at h10
  exact absurd h10 List.not_mem_nil
theorem Inv1.start (b : List Int) (hb : b.length ≤ 65536) : Inv1 b 0 1 [⟨⟨1, 0, 0, b.length, false⟩, b⟩] :=
  ⟨by simp, by omega, by omega, fun p hp => by rw [List.mem_singleton] at hp; rw [hp]; exact hb, ⟨_, rfl, rfl⟩⟩
end Go.Proofs.Ytnognpfenefafaa
