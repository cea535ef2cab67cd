/- The walk of act beside a reference that is empty. -/
import Derived.Test.YtnognpfenefafaaNa3
namespace Go.Proofs.Ytnognpfenefafaa
open Go.Proofs.Ytnognpfenefafaa.PNetRuns (S39 S73 k39 k73 z39 z73)
open Go.RowKit Go.Proofs.YtnognpfenefafaaW.PrintWords Go.Proofs.YtnognpfenefafaaW.PrintLast Go.Proofs.YtnognpfenefafaaW.PrintMore
/-- The net behind a call. -/
def NP (S : Nat → Prop) (g : Nat) (dev last : Int) (ps : List S73) (w w' : World) : Prop :=
  (∃ S' : Nat → Prop, No S' g dev last ps w' ∧ ∀ k, S' k → S k ∨ w.heap.size ≤ k) ∧ Chg S w w'
section
variable {S SR : Nat → Prop} {g gR : Nat} {dev last devR lastR : Int} {ps psR : List S73} {w w1 w2 : World}
theorem NP.start {o : Obj} (h : NP S g dev last ps (w.alloc o) w1) : NP S g dev last ps w w1 := by
  obtain ⟨⟨S', h1, h2⟩, h3⟩ := h
  refine ⟨⟨S', h1, fun k hk => (h2 k hk).imp id (fun h => by rw [World.size_alloc] at h; omega)⟩, ((Chg.refl S w).alloc o).trans h3 (fun k hk => .inl hk)⟩
theorem NP.below (h : NP S g dev last ps w w1) (hb : Below w1.heap.size w1 w2) : NP S g dev last ps w w2 := by
  obtain ⟨⟨S', h1, h2⟩, h3⟩ := h
  exact ⟨⟨S', h1.step hb.size (fun _ _ hl => hb.block _ hl), h2⟩, h3.then_below hb⟩
theorem NP.same (h : No S g dev last ps w) (hb : Below w.heap.size w w1) : NP S g dev last ps w w1 :=
  ⟨⟨S, h.step hb.size (fun _ _ hl => hb.block _ hl), fun _ hk => .inl hk⟩, Chg.of_below hb S⟩
theorem NP.rn (h : NP S g dev last ps w w1) (hr : Rn SR gR devR lastR psR w) (hd : ∀ k, SR k → ¬ S k) : Rn SR gR devR lastR psR w1 := hr.step h.2.size (h.2.step hd)
theorem NP.box {o : Obj} (h : NP S g dev last ps (w.alloc o) w1) (hS : ∀ k, S k → k < w.heap.size) : w1.heap[w.heap.size]? = (w.alloc o).heap[w.heap.size]? :=
  h.2.block w.heap.size (by rw [World.size_alloc]; omega) (fun hs => by have := hS _ hs; omega)
end
theorem below_alloc' (w : World) (o : Obj) : Below w.heap.size w (w.alloc o) := below_alloc (Below.refl _ _) o
theorem keepB {w w1 : World} (h : Below w.heap.size w w1) {g : Nat} {o : Obj} (hg : w.heap[g]? = some o) : w1.heap[g]? = some o := (h.block g (blk_lt hg)).trans hg
/-- A second datagram on its way. -/
def twin (last : Int) (x : S73) : S73 := ⟨⟨last + 1, x.f0.f1, x.f0.f2, x.f1.length, x.f0.f4⟩, x.f1⟩
/-- A datagram whose byte is turned. -/
def spoilt (x : S73) (a : Nat) (b : Int) : S73 := ⟨x.f0, x.f1.set a (xr (x.f1.getD a 0) b)⟩
/-- What an act leaves: the last number, and what is on its way. -/
def stepF (dev last : Int) (ps : List S73) (k fr to_ id at_ bits : Int) (bs : List Int) : Int × List S73 :=
  if k = 1 then ((enterF dev last ps fr to_ false bs).last, (enterF dev last ps fr to_ false bs).ps)
  else if k = 2 then ((enterF dev last ps fr to_ true bs).last, (enterF dev last ps fr to_ true bs).ps)
  else if k = 3 ∨ k = 4 then (last, ps.eraseIdx (fnd ps id))
  else if k = 5 then (if fnd ps id < ps.length then (last + 1, ps ++ [twin last (ps.getD (fnd ps id) z73)]) else (last, ps))
  else if k = 6 then (if fnd ps id < ps.length ∧ 0 ≤ at_ ∧ at_ < (ps.getD (fnd ps id) z73).f1.length then (last, ps.set (fnd ps id) (spoilt (ps.getD (fnd ps id) z73) at_.toNat bits)) else (last, ps))
  else if k = 7 then (last, [])
  else (last, ps)
theorem act_once (S SR okp : Nat → Prop) (g gR : Nat) (dev last : Int) (ps : List S73) (w : World) (k fr to_ id at_ bits : Int) (A : Option Addr) (n c : Nat) (bs : List Int) (h : No S g dev last ps w) (hr : Rn SR gR 0 0 [] w) (hdis : ∀ k, SR k → ¬ S k)
    (hd : 0 < dev) (hV : Kd.V KB 5 w 0 okp (.slice A n c) bs) (hok : ∀ k, okp k → ¬ S k) (hgood : ∀ p ∈ ps, p.f1.length ≤ 65536) (hps : ps.length < 16384) (h0 : 0 ≤ last) (h1 : last ≤ 4611686018427387904) (hk : k ≤ 6) :
    Calls Try.prog 9 #[.pointer (some ⟨g, 0, none⟩), .pointer (some ⟨gR, 0, none⟩), .agg (opc k fr to_ id at_ bits (.slice A n c))] w fun en w' => AR en False ∧ NP S g dev (stepF dev last ps k fr to_ id at_ bits bs).1 (stepF dev last ps k fr to_ id at_ bits bs).2 w w' := by
  have hS := h.2.1
  have hg : S g := h.1
  have hb0 := below_alloc' w (.cells (opc k fr to_ id at_ bits (.slice A n c)) 36)
  have hbox := heap_alloc_new w (.cells (opc k fr to_ id at_ bits (.slice A n c)) 36)
  have hN := h.step (w' := w.alloc (.cells (opc k fr to_ id at_ bits (.slice A n c)) 36)) hb0.size (fun k _ hl => hb0.block k hl)
  have hR := hr.step (w' := w.alloc (.cells (opc k fr to_ id at_ bits (.slice A n c)) 36)) hb0.size (fun k _ hl => hb0.block k hl)
  have hV' := Kd.V_below hV hb0
  have hokg : ∀ k, okp k → k ≠ g := fun k hk he => hok k hk (he ▸ hg)
  have hnil : ∀ i, ¬ fnd ([] : List S73) i < ([] : List S73).length := fun i => by simp
  have hE : ∀ a b : Int, ¬ (0 ≤ a ∧ a < 0 ∧ 0 ≤ b ∧ b < 0) := fun a b => by omega
  have hx : fnd ps id < ps.length → (ps.getD (fnd ps id) z73).f1.length ≤ 65536 := fun hq => by
    rw [List.getD_eq_getElem?_getD, List.getElem?_eq_getElem hq, Option.getD_some]
    exact hgood _ (List.getElem_mem hq)
  rcases (show k < 1 ∨ k = 1 ∨ k = 2 ∨ k = 3 ∨ k = 4 ∨ k = 5 ∨ k = 6 by omega) with hk0 | rfl | rfl | rfl | rfl | rfl | rfl
  · refine (opc_none _ _ k fr to_ id at_ bits _ w (.inl hk0)).mono ?_
    rintro en w' ⟨rfl, rfl⟩
    refine ⟨⟨_, rfl, False.elim⟩, ?_⟩
    unfold stepF
    rw [if_neg (by omega), if_neg (by omega), if_neg (by omega), if_neg (by omega), if_neg (by omega), if_neg (by omega)]
    exact NP.same h hb0
  · refine (act1 _ _ fr to_ id at_ bits _ w (enterF dev last ps fr to_ false bs).a 0 (enterF dev last ps fr to_ false bs).ok false (enterF dev last ps fr to_ false bs).e 230 False False.elim (fun w1 => NP S g dev (stepF dev last ps 1 fr to_ id at_ bits bs).1 (stepF dev last ps 1 fr to_ id at_ bits bs).2 w w1) (fun w1 => NP S g dev (stepF dev last ps 1 fr to_ id at_ bits bs).1 (stepF dev last ps 1 fr to_ id at_ bits bs).2 w w1) ((send_any S okp g dev last ps _ fr to_ A n c bs hN hd hV' hokg hps h0 h1 _ rfl).mono ?_) (fun w1 hw1 => (rsend_end SR gR 0 0 [] w1 fr to_ _ false (hw1.rn hr hdis) (hE _ _)).mono ?_)).mono ?_
    · rintro en w1 ⟨rfl, h2, h3⟩
      have hP : NP S g dev (stepF dev last ps 1 fr to_ id at_ bits bs).1 (stepF dev last ps 1 fr to_ id at_ bits bs).2 _ w1 := ⟨h2, h3⟩
      exact ⟨rfl, (hP.box hS).trans hbox, hP.start⟩
    · rintro en w2 ⟨rfl, rfl⟩
      exact ⟨rfl, hw1⟩
    · exact fun en w2 h9 => h9
  · refine (act2 _ _ fr to_ id at_ bits _ w (enterF dev last ps fr to_ true bs).a 0 (enterF dev last ps fr to_ true bs).ok false (enterF dev last ps fr to_ true bs).e 230 False False.elim (fun w1 => NP S g dev (stepF dev last ps 2 fr to_ id at_ bits bs).1 (stepF dev last ps 2 fr to_ id at_ bits bs).2 w w1) (fun w1 => NP S g dev (stepF dev last ps 2 fr to_ id at_ bits bs).1 (stepF dev last ps 2 fr to_ id at_ bits bs).2 w w1) ((forge_any S okp g dev last ps _ fr to_ A n c bs hN hd hV' hokg hps h0 h1 _ rfl).mono ?_) (fun w1 hw1 => (rsend_end SR gR 0 0 [] w1 fr to_ _ true (hw1.rn hr hdis) (hE _ _)).mono ?_)).mono ?_
    · rintro en w1 ⟨rfl, h2, h3⟩
      have hP : NP S g dev (stepF dev last ps 2 fr to_ id at_ bits bs).1 (stepF dev last ps 2 fr to_ id at_ bits bs).2 _ w1 := ⟨h2, h3⟩
      exact ⟨rfl, (hP.box hS).trans hbox, hP.start⟩
    · rintro en w2 ⟨rfl, rfl⟩
      exact ⟨rfl, hw1⟩
    · exact fun en w2 h9 => h9
  · have hst : stepF dev last ps 3 fr to_ id at_ bits bs = (last, ps.eraseIdx (fnd ps id)) := rfl
    rw [hst]
    by_cases hq : fnd ps id < ps.length
    · obtain ⟨A5, c5, x, HX, hC⟩ := deliver_no S g dev last id ps _ hN hd (by omega) hq
      refine (act3 _ _ fr to_ id at_ bits _ w x.f0 ⟨0, 0, 0, 0, false⟩ A5 none x.f1.length c5 0 0 x.f1 [] 0 231 False False.elim (fun w1 => NP S g dev last (ps.eraseIdx (fnd ps id)) w w1 ∧ Kd.V KB 5 w1 0 (fun k => S k ∧ k ≠ g) (.slice A5 x.f1.length c5) x.f1) (fun w1 => NP S g dev last (ps.eraseIdx (fnd ps id)) w w1) (hC.mono ?_) (fun w1 hw1 => (rdeliver_gone SR gR 0 0 id [] _ ((hw1.1.rn hr hdis).step (below_alloc' w1 _).size (fun k _ hl => (below_alloc' w1 _).block k hl)) (by simp) (hnil id)).mono ?_)).mono ?_
      · rintro en w1 ⟨rfl, h2, h3, h4⟩
        have hP : NP S g dev last (ps.eraseIdx (fnd ps id)) _ w1 := ⟨⟨S, h2, fun k hk => .inl hk⟩, h3⟩
        exact ⟨rfl, (hP.box hS).trans hbox, hP.start, h4⟩
      · rintro en w2 ⟨rfl, hb⟩
        exact ⟨rfl, keepB hb (heap_alloc_new w1 _), (Kd.V_reads' (Kd.V_below (Kd.V_below hw1.2 (below_alloc' w1 _)) hb)).2.2, Kd.C_nil _ _, hw1.1.below ((below_alloc' w1 _).trans (hb.mono (below_alloc' w1 _).size))⟩
      · rintro en w2 ⟨h8, w3, h9, h10⟩
        exact ⟨h8, h9.below h10⟩
    · have he : ps.eraseIdx (fnd ps id) = ps := List.eraseIdx_of_length_le (by omega)
      rw [he]
      refine (act3 _ _ fr to_ id at_ bits _ w ⟨0, 0, 0, 0, false⟩ ⟨0, 0, 0, 0, false⟩ none none 0 0 0 0 [] [] 231 231 False False.elim (fun w1 => NP S g dev last ps w w1) (fun w1 => NP S g dev last ps w w1) ((deliver_gone S g dev last id ps _ hN hd (by omega) hq).mono ?_) (fun w1 hw1 => (rdeliver_gone SR gR 0 0 id [] _ ((hw1.rn hr hdis).step (below_alloc' w1 _).size (fun k _ hl => (below_alloc' w1 _).block k hl)) (by simp) (hnil id)).mono ?_)).mono ?_
      · rintro en w1 ⟨rfl, hb⟩
        exact ⟨rfl, keepB hb hbox, (NP.same hN hb).start⟩
      · rintro en w2 ⟨rfl, hb⟩
        exact ⟨rfl, keepB hb (heap_alloc_new w1 _), Kd.C_nil _ _, Kd.C_nil _ _, hw1.below ((below_alloc' w1 _).trans (hb.mono (below_alloc' w1 _).size))⟩
      · rintro en w2 ⟨h8, w3, h9, h10⟩
        exact ⟨h8, h9.below h10⟩
  · have hst : stepF dev last ps 4 fr to_ id at_ bits bs = (last, ps.eraseIdx (fnd ps id)) := rfl
    rw [hst]
    refine (act4 _ _ fr to_ id at_ bits _ w ⟨0, 0, 0, 0, false⟩ (.slice none 0 0) (if fnd ps id < ps.length then 0 else 231) 231 False False.elim (fun w1 => Below w.heap.size w w1) (fun w1 => NP S g dev last (ps.eraseIdx (fnd ps id)) w w1) ((rdeliver_gone SR gR 0 0 id [] _ hR (by simp) (hnil id)).mono ?_) (fun w1 m hw1 => ?_)).mono ?_
    · rintro en w1 ⟨rfl, hb⟩
      exact ⟨rfl, keepB hb hbox, hb0.trans (hb.mono hb0.size)⟩
    · have hb1 := below_alloc' w1 (.cells (dgc ⟨0, 0, 0, 0, false⟩) 39)
      have hb2 : Below w.heap.size w ((w1.alloc (.cells (dgc ⟨0, 0, 0, 0, false⟩) 39)).drewN m) := pw_below_drewN (hw1.trans (hb1.mono hw1.size)) m
      have hN2 := h.step hb2.size (fun k _ hl => hb2.block k hl)
      by_cases hq : fnd ps id < ps.length
      · rw [if_pos hq]
        refine (drop_no S g dev last id ps _ hN2 hd (by omega) hq).mono ?_
        rintro en w2 ⟨rfl, h2, h3⟩
        exact ⟨rfl, ⟨S, h2, fun k hk => .inl hk⟩, (Chg.of_below hb2 S).trans h3 (fun k hk => .inl hk)⟩
      · rw [if_neg hq]
        refine (drop_gone S g dev last id ps _ hN2 hd (by omega) hq).mono ?_
        rintro en w2 ⟨rfl, hb⟩
        rw [List.eraseIdx_of_length_le (by omega)]
        exact ⟨rfl, NP.same h (hb2.trans (hb.mono hb2.size))⟩
    · exact fun en w2 h9 => h9
  · by_cases hq : fnd ps id < ps.length
    · have hst : stepF dev last ps 5 fr to_ id at_ bits bs = (last + 1, ps ++ [twin last (ps.getD (fnd ps id) z73)]) := by unfold stepF; rw [if_neg (by omega), if_neg (by omega), if_neg (by omega), if_pos rfl, if_pos hq]
      rw [hst]
      refine (act5 _ _ fr to_ id at_ bits _ w (last + 1) 0 true false 0 231 False False.elim (fun w1 => NP S g dev (last + 1) (ps ++ [twin last (ps.getD (fnd ps id) z73)]) w w1) (fun w1 => NP S g dev (last + 1) (ps ++ [twin last (ps.getD (fnd ps id) z73)]) w w1) ((twice_no S g dev last id ps _ _ hN hd hps hq rfl (hx hq) h0 h1).mono ?_) (fun w1 hw1 => (rtwice_gone SR gR 0 0 id [] w1 (hw1.rn hr hdis) (by simp) (hnil id)).mono ?_)).mono ?_
      · rintro en w1 ⟨rfl, h2, h3⟩
        have hP : NP S g dev (last + 1) (ps ++ [twin last (ps.getD (fnd ps id) z73)]) _ w1 := ⟨h2, h3⟩
        exact ⟨rfl, (hP.box hS).trans hbox, hP.start⟩
      · rintro en w2 ⟨rfl, rfl⟩
        exact ⟨rfl, hw1⟩
      · exact fun en w2 h9 => h9
    · have hst : stepF dev last ps 5 fr to_ id at_ bits bs = (last, ps) := by unfold stepF; rw [if_neg (by omega), if_neg (by omega), if_neg (by omega), if_pos rfl, if_neg hq]
      rw [hst]
      refine (act5 _ _ fr to_ id at_ bits _ w 0 0 false false 231 231 False False.elim (fun w1 => NP S g dev last ps w w1) (fun w1 => NP S g dev last ps w w1) ((twice_gone S g dev last id ps _ hN hd (by omega) hq).mono ?_) (fun w1 hw1 => (rtwice_gone SR gR 0 0 id [] w1 (hw1.rn hr hdis) (by simp) (hnil id)).mono ?_)).mono ?_
      · rintro en w1 ⟨rfl, hb⟩
        exact ⟨rfl, keepB hb hbox, (NP.same hN hb).start⟩
      · rintro en w2 ⟨rfl, rfl⟩
        exact ⟨rfl, hw1⟩
      · exact fun en w2 h9 => h9
  · have hfin : ∀ (e : Int) (l2 : List S73), (∀ m, Calls Try.prog 21 #[.pointer (some ⟨g, 0, none⟩), .int .i64 id, .int .i64 at_, .int .u8 bits] ((w.alloc (.cells (opc 6 fr to_ id at_ bits (.slice A n c)) 36)).drewN m) fun en w1 => en = .returned (.int .i64 e) ∧ NP S g dev last l2 (w.alloc (.cells (opc 6 fr to_ id at_ bits (.slice A n c)) 36)) w1) →
        Calls Try.prog 9 #[.pointer (some ⟨g, 0, none⟩), .pointer (some ⟨gR, 0, none⟩), .agg (opc 6 fr to_ id at_ bits (.slice A n c))] w fun en w' => AR en False ∧ NP S g dev last l2 w w' := by
      intro e l2 hc
      refine (act6 _ _ fr to_ id at_ bits _ w e 231 False False.elim (fun w1 => NP S g dev last l2 w w1 ∧ w1.heap[w.heap.size]? = some (.cells (opc 6 fr to_ id at_ bits (.slice A n c)) 36 (0, 0))) (fun w1 => NP S g dev last l2 w w1) (fun m => (hc m).mono ?_) (fun w1 hw1 => (rspoil_gone SR gR 0 0 id at_ bits [] w1 (hw1.1.rn hr hdis) (by simp) (hnil id)).mono ?_)).mono ?_
      · rintro en w1 ⟨rfl, hP⟩
        exact ⟨rfl, (hP.box hS).trans hbox, hP.start, (hP.box hS).trans hbox⟩
      · rintro en w2 ⟨rfl, rfl⟩
        exact ⟨rfl, hw1.2, hw1.1⟩
      · exact fun en w2 h9 => h9
    have hdr : ∀ m, Below (w.alloc (.cells (opc 6 fr to_ id at_ bits (.slice A n c)) 36)).heap.size (w.alloc (.cells (opc 6 fr to_ id at_ bits (.slice A n c)) 36)) ((w.alloc (.cells (opc 6 fr to_ id at_ bits (.slice A n c)) 36)).drewN m) := fun m => pw_below_drewN (Below.refl _ _) m
    have hNd : ∀ m, No S g dev last ps ((w.alloc (.cells (opc 6 fr to_ id at_ bits (.slice A n c)) 36)).drewN m) := fun m => hN.step (hdr m).size (fun k _ hl => (hdr m).block k hl)
    by_cases hq : fnd ps id < ps.length
    · by_cases ha : 0 ≤ at_ ∧ at_ < (ps.getD (fnd ps id) z73).f1.length
      · have hst : stepF dev last ps 6 fr to_ id at_ bits bs = (last, ps.set (fnd ps id) (spoilt (ps.getD (fnd ps id) z73) at_.toNat bits)) := by unfold stepF; rw [if_neg (by omega), if_neg (by omega), if_neg (by omega), if_neg (by omega), if_pos rfl, if_pos ⟨hq, ha⟩]
        rw [hst]
        refine hfin 0 _ (fun m => ?_)
        obtain ⟨a, rfl⟩ := Int.eq_ofNat_of_zero_le ha.1
        refine (spoil_no S g dev last id bits ps _ a _ (hNd m) hd (by omega) hq rfl (by omega) (hx hq)).mono ?_
        rintro en w1 ⟨rfl, h2, h3⟩
        exact ⟨rfl, ⟨S, h2, fun k hk => .inl hk⟩, (Chg.of_below (hdr m) S).trans h3 (fun k hk => .inl hk)⟩
      · have hst : stepF dev last ps 6 fr to_ id at_ bits bs = (last, ps) := by unfold stepF; rw [if_neg (by omega), if_neg (by omega), if_neg (by omega), if_neg (by omega), if_pos rfl, if_neg (fun h9 => ha h9.2)]
        rw [hst]
        refine hfin 232 _ (fun m => (spoil_bad S g dev last id bits at_ ps _ _ (hNd m) hd (by omega) hq rfl ha (hx hq)).mono ?_)
        rintro en w1 ⟨rfl, hb⟩
        exact ⟨rfl, NP.same hN ((hdr m).trans (hb.mono (hdr m).size))⟩
    · have hst : stepF dev last ps 6 fr to_ id at_ bits bs = (last, ps) := by unfold stepF; rw [if_neg (by omega), if_neg (by omega), if_neg (by omega), if_neg (by omega), if_pos rfl, if_neg (fun h9 => hq h9.1)]
      rw [hst]
      refine hfin 231 _ (fun m => (spoil_gone S g dev last id at_ bits ps _ (hNd m) hd (by omega) hq).mono ?_)
      rintro en w1 ⟨rfl, hb⟩
      exact ⟨rfl, NP.same hN ((hdr m).trans (hb.mono (hdr m).size))⟩
end Go.Proofs.Ytnognpfenefafaa
