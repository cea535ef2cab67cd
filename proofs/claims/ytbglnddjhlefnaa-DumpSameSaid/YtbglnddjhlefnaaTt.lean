/- The walk of tell. -/
import Derived.Test.YtbglnddjhlefnaaTn
import Derived.Maps.RangeWalk
namespace Go.Proofs.Ytbglnddjhlefnaa
open Go Go.RowKit Go.Proofs.YtbglnddjhlefnaaW.PrintWords Go.Proofs.YtbglnddjhlefnaaW.PrintLast Go.Proofs.YtbglnddjhlefnaaW.PrintMore
def needL (T : Bd) (a : Nat) : List Nat := needF T.N T.used a a []
def tellF (T : Bd) (a : Nat) : Bd := { T with used := needL T a ++ T.used, refs := if 1 < a then a :: T.refs else T.refs }
theorem SetAt.congr {w : World} {b : Nat} {S S' : List Nat} (h : SetAt w b S) (he : ∀ n, n ∈ S ↔ n ∈ S') : SetAt w b S' := by
  obtain ⟨L, h1, h2, h3, h4⟩ := h
  exact ⟨L, h1, h2, h3, fun n => by rw [h4]; exact exists_congr (fun m => by rw [he m])⟩
/-- The set's entries, under a range. -/
theorem SetAt.entries {w : World} {b : Nat} {S : List Nat} (h : SetAt w b S) : ∃ es clock, w.heap[b]? = some (.map es clock) ∧ (∀ e ∈ es.toList, (∃ c ∈ S, e.key = .int .i64 ((c : Nat) : Int)) ∧ e.val = .bool true) ∧ (∀ c ∈ S, ∃ e ∈ es.toList, e.key = .int .i64 ((c : Nat) : Int)) ∧ (es.toList.map (·.born)).Nodup ∧ ∀ e ∈ es.toList, e.born < clock := by
  obtain ⟨L, ⟨es, clock, hb, hL, hS1, hS2⟩, h2, _, h4⟩ := h
  have hmem : ∀ e ∈ es.toList, ∃ p ∈ L, e.key = .int .i64 p.1 ∧ e.val = p.2 := by
    intro e he
    have : (e.key, e.val) ∈ es.toList.map (fun e => (e.key, e.val)) := List.mem_map.2 ⟨e, he, rfl⟩
    rw [hL] at this
    obtain ⟨p, hp, hpe⟩ := List.mem_map.1 this
    simp only [Prod.mk.injEq] at hpe
    exact ⟨p, hp, hpe.1.symm, hpe.2.symm⟩
  refine ⟨es, clock, hb, fun e he => ?_, fun c hc => ?_, hS1.imp (fun h => Nat.ne_of_lt h), hS2⟩
  · obtain ⟨p, hp, k1, k2⟩ := hmem e he
    obtain ⟨m, hm, hk⟩ := (h4 p.1).1 (List.mem_map.2 ⟨p, hp, rfl⟩)
    exact ⟨⟨m, hm, by rw [k1, hk]⟩, by rw [k2, h2 p hp]⟩
  · obtain ⟨p, hp, hpk⟩ := List.mem_map.1 ((h4 (c : Int)).2 ⟨c, hc, rfl⟩)
    have : (Value.int .i64 p.1, p.2) ∈ L.map (fun p => (encI p.1, p.2)) := List.mem_map.2 ⟨p, hp, rfl⟩
    rw [← hL] at this
    obtain ⟨e, he, hee⟩ := List.mem_map.1 this
    simp only [Prod.mk.injEq] at hee
    exact ⟨e, he, by rw [hee.1, hpk]⟩
/-- The loop over what is needed, under way. -/
def TlR (g lb r : Nat) (S : Nat → Prop) (T : Bd) (ln : List Nat) (es : Array MapEntry) (clock : Nat) (w2 wr : World) (n : Nat) : Prop :=
  ∃ C seen c0, Tab g S { T with used := C ++ T.used } wr ∧ wr.heap[lb]? = some (.map es clock) ∧ wr.heap[r]? = some (.mapIter (some lb) clock seen c0) ∧ clock ≤ c0 ∧ (∀ e ∈ es.toList, seen.contains e.born = true → ∃ c ∈ C, e.key = .int .i64 ((c : Nat) : Int)) ∧ (∀ c ∈ C, c ∈ ln) ∧
    Chg (fun k => S k ∨ k = r) w2 wr ∧ (leftOf es seen).size = n
theorem blk_lt' {w : World} {b : Nat} {o : Obj} (h : w.heap[b]? = some o) : b < w.heap.size := (Array.getElem?_eq_some_iff.1 h).1
theorem nodup_at {α : Type} {l : List α} (hl : l.Nodup) {i j : Nat} {n : α} (hi : l[i]? = some n) (hj : l[j]? = some n) : i = j := by
  obtain ⟨hi', hi⟩ := List.getElem?_eq_some_iff.1 hi
  obtain ⟨hj', hj⟩ := List.getElem?_eq_some_iff.1 hj
  exact (List.getElem_inj hl).1 (hi.trans hj.symm)
theorem leftOf_push (es : Array MapEntry) (seen : Array Nat) (e : MapEntry) (he : e ∈ (leftOf es seen).toList) : (leftOf es (seen.push e.born)).size < (leftOf es seen).size := by
  have h1 : leftOf es (seen.push e.born) = (leftOf es seen).filter (fun x => !(x.born == e.born)) := by
    unfold leftOf
    rw [Array.filter_filter]
    congr 1
    funext x
    rw [Array.contains_push]
    cases seen.contains x.born <;> cases x.born == e.born <;> rfl
  rw [h1]
  have h2 := List.length_filter_lt_length_iff_exists (p := fun x : MapEntry => !(x.born == e.born)) (l := (leftOf es seen).toList)
  have := h2.2 ⟨e, he, by simp⟩
  have h3 : (leftOf es (seen.push e.born)).toList = (leftOf es seen).toList.filter (fun x => !(x.born == e.born)) := by rw [h1, Array.toList_filter]
  have h4 := congrArg List.length h3
  rw [Array.length_toList] at h4
  rw [← h1, h4, ← Array.length_toList]
  exact this
section
variable {g lb : Nat} {S : Nat → Prop} {T : Bd} {w w' : World} {l : List Nat}
/-- One more node is used. -/
theorem Tab.use (h : Tab g S T w) (a : Nat) : ∃ ub, w.cell? ⟨g, 1, none⟩ = some (.map (some ub)) ∧ S ub ∧ ∃ W1, (Instr.mapUpdate 61 (.map (some ub)) (.int .i64 (a : Int)) (.bool true)).run Try.prog w = .ok () W1 ∧ Tab g S { T with used := a :: T.used } W1 ∧ Chg (fun k => k = ub) w W1 ∧ W1.heap.size = w.heap.size := by
  obtain ⟨rb, ub, kb, v, h⟩ := h
  obtain ⟨o, ho⟩ := h.used.put Try.underlying61 K3 a
  have far : ∀ k, k ≠ ub → (w.putObj ub o).heap[k]? = w.heap[k]? := fun k hk => putObj_far _ _ _ _ hk
  refine ⟨ub, blk_cell h.box 1 _ rfl, h.su, _, (ho 0).1, ⟨rb, ub, kb, v, ?_⟩, chg_putObj w ub o, putObj_size _ _ _⟩
  exact ⟨h.sg, h.sr, h.su, h.sk, fun k hk => by rw [putObj_size]; exact h.lt k hk, h.ru, h.rk, h.uk, (far g h.gne.2.1).trans h.box, h.refs.step (far rb h.ru), (ho 0).2, h.known.step (far kb (fun e => h.uk e.symm)), ownsRow_step h.row (fun k hk => far k (h.nne k hk).2.2.1), h.sn⟩
/-- One more ref is told. -/
theorem Tab.refd (h : Tab g S T w) (a : Nat) : ∃ rb, w.cell? ⟨g, 0, none⟩ = some (.map (some rb)) ∧ S rb ∧ ∃ W1, (Instr.mapUpdate 60 (.map (some rb)) (.int .i64 (a : Int)) (.bool true)).run Try.prog w = .ok () W1 ∧ Tab g S { T with refs := a :: T.refs } W1 ∧ Chg (fun k => k = rb) w W1 ∧ W1.heap.size = w.heap.size := by
  obtain ⟨rb, ub, kb, v, h⟩ := h
  obtain ⟨o, ho⟩ := h.refs.put Try.underlying60 K26 a
  have far : ∀ k, k ≠ rb → (w.putObj rb o).heap[k]? = w.heap[k]? := fun k hk => putObj_far _ _ _ _ hk
  refine ⟨rb, blk_cell h.box 0 _ rfl, h.sr, _, (ho 0).1, ⟨rb, ub, kb, v, ?_⟩, chg_putObj w rb o, putObj_size _ _ _⟩
  exact ⟨h.sg, h.sr, h.su, h.sk, fun k hk => by rw [putObj_size]; exact h.lt k hk, h.ru, h.rk, h.uk, (far g h.gne.1).trans h.box, (ho 0).2, h.used.step (far ub (fun e => h.ru e.symm)), h.known.step (far kb (fun e => h.rk e.symm)), ownsRow_step h.row (fun k hk => far k (h.nne k hk).2.1), h.sn⟩
/-- A round: one entry comes. -/
theorem TlR.next {r : Nat} {ln : List Nat} {es : Array MapEntry} {clock : Nat} {w2 wr : World} {n : Nat} (h : TlR g lb r S T ln es clock w2 wr n) (hes : ∀ e ∈ es.toList, (∃ c ∈ ln, e.key = .int .i64 ((c : Nat) : Int)) ∧ e.val = .bool true) (hnd : (es.toList.map (·.born)).Nodup) (hcl : ∀ e ∈ es.toList, e.born < clock) (hr : ¬ S r) (hlb : ¬ S lb) (hrl : r ≠ lb) (ty : TypeId) :
    (n = 0 ∧ (Instr.next (.pointer (some ⟨r, 0, none⟩)) false ty).run Try.prog wr = .ok (.tuple #[.bool false]) wr) ∨
    ∃ (c : Nat) (W : World), (Instr.next (.pointer (some ⟨r, 0, none⟩)) false ty).run Try.prog wr = .ok (.tuple #[.bool true, .int .i64 c, .bool true]) W ∧ (Instr.entry (.pointer (some ⟨r, 0, none⟩))).run Try.prog W = .ok (.tuple #[.int .i64 c, .bool true]) W ∧
      ∃ ub W1, W.cell? ⟨g, 1, none⟩ = some (.map (some ub)) ∧ (Instr.mapUpdate 61 (.map (some ub)) (.int .i64 (c : Int)) (.bool true)).run Try.prog W = .ok () W1 ∧ ∃ m, m < n ∧ TlR g lb r S T ln es clock w2 W1 m := by
  obtain ⟨C, seen, c0, q1, q2, q3, q4, q5, q6, q7, q8⟩ := h
  rcases run_next_at (P := Try.prog) wr ty r lb clock c0 seen es clock q3 q2 hcl q4 with ⟨h0, hrun⟩ | ⟨e, he, w1, hw1, hrun⟩
  · exact .inl ⟨by omega, hrun⟩
  · right
    have hel : e ∈ es.toList ∧ seen.contains e.born = false := by
      unfold leftOf at he
      simp only [Array.toList_filter, List.mem_filter, Bool.not_eq_eq_eq_not, Bool.not_true] at he
      exact he
    obtain ⟨⟨c, hc, hk⟩, hv⟩ := hes e hel.1
    rw [hk, hv] at hrun
    have hw1h : w1.heap = wr.heap := by rcases hw1 with rfl | rfl <;> rfl
    have hrlt : r < w1.heap.size := by rw [hw1h]; exact (Array.getElem?_eq_some_iff.1 q3).1
    have hW : ∀ k, k ≠ r → (ChangeMaps.setBlock w1 r (.mapIter (some lb) clock (seen.push e.born) clock)).heap[k]? = wr.heap[k]? := fun k hk => by
      show (w1.heap.setIfInBounds r _)[k]? = _
      rw [Array.getElem?_setIfInBounds_ne (Ne.symm hk), hw1h]
    have hWr : (ChangeMaps.setBlock w1 r (.mapIter (some lb) clock (seen.push e.born) clock)).heap[r]? = some (.mapIter (some lb) clock (seen.push e.born) clock) := by
      show (w1.heap.setIfInBounds r _)[r]? = _
      rw [Array.getElem?_setIfInBounds_self_of_lt hrlt]
    have hWs : (ChangeMaps.setBlock w1 r (.mapIter (some lb) clock (seen.push e.born) clock)).heap.size = wr.heap.size := by
      show (w1.heap.setIfInBounds r _).size = _
      rw [Array.size_setIfInBounds, hw1h]
    have hWo : (ChangeMaps.setBlock w1 r (.mapIter (some lb) clock (seen.push e.born) clock)).os = wr.os ∧ (ChangeMaps.setBlock w1 r (.mapIter (some lb) clock (seen.push e.born) clock)).tape = wr.tape ∧ (ChangeMaps.setBlock w1 r (.mapIter (some lb) clock (seen.push e.born) clock)).output = wr.output := by
      rcases hw1 with rfl | rfl <;> exact ⟨rfl, rfl, rfl⟩
    generalize hWW : ChangeMaps.setBlock w1 r (.mapIter (some lb) clock (seen.push e.born) clock) = W at hrun hW hWr hWs hWo
    have hT : Tab g S { T with used := C ++ T.used } W := q1.step (Nat.le_of_eq hWs.symm) (fun k hk _ => hW k (fun e => hr (e ▸ hk)))
    have hl2 : W.heap[lb]? = some (.map es clock) := (hW lb (fun e => hrl e.symm)).trans q2
    have hent := run_entry_at (P := Try.prog) W r lb clock seen es clock e hWr hl2 hel.1 hnd
    rw [hk, hv] at hent
    obtain ⟨ub, u1, u2, W1, u3, u4, u5, u6⟩ := hT.use c
    have hul : ub ≠ lb := fun e => hlb (e ▸ u2)
    have hur : ub ≠ r := fun e => hr (e ▸ u2)
    refine ⟨c, W, hrun, hent, ub, W1, u1, u3, (leftOf es (seen.push e.born)).size, ?_, c :: C, seen.push e.born, clock, u4, ?_, ?_, Nat.le_refl _, ?_, ?_, ?_, rfl⟩
    · rw [← q8]
      exact leftOf_push es seen e he
    · exact (u5.block lb (blk_lt' hl2) (fun e => hul e.symm)).trans hl2
    · exact (u5.block r (by rw [hWs, ← hw1h]; exact hrlt) (fun e => hur e.symm)).trans hWr
    · intro e' he' hs
      rw [Array.contains_push] at hs
      by_cases hb : e'.born = e.born
      · have : e' = e := by
          have h1 := List.getElem?_of_mem he'
          have h2 := List.getElem?_of_mem hel.1
          obtain ⟨i, hi⟩ := h1
          obtain ⟨j, hj⟩ := h2
          have hi' : (es.toList.map (·.born))[i]? = some e'.born := by rw [List.getElem?_map, hi]; rfl
          have hj' : (es.toList.map (·.born))[j]? = some e'.born := by rw [List.getElem?_map, hj, hb]; rfl
          have := nodup_at hnd hi' hj'
          subst this
          rw [hi] at hj
          exact Option.some.inj hj
        subst this
        exact ⟨c, List.mem_cons_self, hk⟩
      · have hs' : seen.contains e'.born = true := by simpa [hb] using hs
        obtain ⟨d, hd, hdk⟩ := q5 e' he' hs'
        exact ⟨d, List.mem_cons_of_mem _ hd, hdk⟩
    · intro d hd
      rcases List.mem_cons.1 hd with rfl | hd
      · exact hc
      · exact q6 d hd
    · have hcW : Chg (fun k => S k ∨ k = r) wr W := ⟨hWo.1, hWo.2.1, hWo.2.2, Nat.le_of_eq hWs.symm, fun k _ hk => hW k (fun e => hk (.inr e))⟩
      exact (q7.trans hcW (fun i hi => .inl hi)).trans u5 (fun i hi => .inl (.inl (hi ▸ u2)))
theorem TlR.left {r : Nat} {ln : List Nat} {es : Array MapEntry} {clock : Nat} {w2 wr : World} {n : Nat} (h : TlR g lb r S T ln es clock w2 wr n) : wr.rangeLeft lb r = n := by
  obtain ⟨C, seen, c0, q1, q2, q3, q4, q5, q6, q7, q8⟩ := h
  simp only [World.rangeLeft, q2, q3]
  exact q8
theorem Tab.used_congr (h : Tab g S T w) (l : List Nat) (he : ∀ n, n ∈ T.used ↔ n ∈ l) : Tab g S { T with used := l } w := by
  obtain ⟨rb, ub, kb, v, h⟩ := h
  exact ⟨rb, ub, kb, v, h.sg, h.sr, h.su, h.sk, h.lt, h.ru, h.rk, h.uk, h.box, h.refs, h.used.congr he, h.known, h.row, h.sn⟩
/-- All have come. -/
theorem TlR.done {r : Nat} {ln : List Nat} {es : Array MapEntry} {clock : Nat} {w2 wr : World} (h : TlR g lb r S T ln es clock w2 wr 0) (he2 : ∀ c ∈ ln, ∃ e ∈ es.toList, e.key = .int .i64 ((c : Nat) : Int)) : Tab g S { T with used := ln ++ T.used } wr ∧ Chg (fun k => S k ∨ k = r) w2 wr := by
  obtain ⟨C, seen, c0, q1, q2, q3, q4, q5, q6, q7, q8⟩ := h
  refine ⟨q1.used_congr (ln ++ T.used) (fun n => ?_), q7⟩
  simp only [List.mem_append]
  have hall : ∀ e ∈ es.toList, seen.contains e.born = true := by
    intro e he
    have h0 : leftOf es seen = #[] := Array.eq_empty_of_size_eq_zero q8
    unfold leftOf at h0
    rw [Array.filter_eq_empty_iff] at h0
    have := h0 e (by simpa using he)
    simpa using this
  constructor
  · rintro (hn | hn)
    · exact .inl (q6 n hn)
    · exact .inr hn
  · rintro (hn | hn)
    · obtain ⟨e, he, hk⟩ := he2 n hn
      obtain ⟨c, hc, hk2⟩ := q5 e he (hall e he)
      rw [hk] at hk2
      injection hk2 with _ hk2
      have : n = c := by omega
      exact .inl (this ▸ hc)
    · exact .inr hn
set_option maxRecDepth 100000 in
set_option maxHeartbeats 2000000 in
theorem tell_w (h : Tab g S T w) (hw : WF T.bits T.N) (hl : T.N.length ≤ 4000000000) (hlim : T.lim ≤ 4000000000) (a : Nat) (hv : Val T.N a) (hu : T.used.Nodup) (hroom : T.used.length + (needL T a).length ≤ T.lim) :
    Calls Try.prog 42 #[.pointer (some ⟨g, 0, none⟩), .int .i64 a] w (TbP g S (tellF T a) (.int .i64 a) w) := by
  have hNd := needF_ok (used := T.used) hw a a [] hv ⟨by simp, by simp, by simp⟩
  have hB := below_alloc (Below.refl w.heap.size w) (.map #[] 0)
  have hn : ¬ S w.heap.size := fun hs => Nat.lt_irrefl _ (h.lt _ hs)
  have hcall := need_w (lb := w.heap.size) a a [] (w.alloc (.map #[] 0)) (h.below hB) hw hl hn (SetAt.made w) hv (Nat.le_refl _)
  have hmm := run_makeMap0 w
  obtain ⟨lb, hlb⟩ : ∃ lb, lb = w.heap.size := ⟨_, rfl⟩
  rw [← hlb] at hcall hn hmm
  have hTW := h.below hB
  have hsz : (w.alloc (.map #[] 0)).heap.size = w.heap.size + 1 := World.size_alloc _ _
  have HB := Lib.hid hB
  have HC := Lib.hid hcall
  have HT := Lib.hid hTW
  have HLB := Lib.hid hlb
  have HSZ := Lib.hid hsz
  have HSL := Lib.hid h.lt
  obtain ⟨ln, hln⟩ : ∃ ln, ln = needL T a := ⟨_, rfl⟩
  have HC : Hid (Calls Try.prog 61 #[.pointer (some ⟨g, 0, none⟩), .int .i64 a, .map (some lb)] (w.alloc (.map #[] 0)) fun e w' => e = .returned (.tuple #[]) ∧ SetAt w' lb ln ∧ Chg (fun k => k = lb) (w.alloc (.map #[] 0)) w') := by rw [hln]; exact HC
  have hNd : Need T.N T.used ln := by rw [hln]; exact hNd
  rw [← hln] at hroom
  have HLN := Lib.hid hln
  have HU := Lib.hid hu
  have HND := Lib.hid hNd
  have hd : T.used.length + ln.length ≤ T.lim := hroom
  have HLIM := Lib.hid hlim
  have HR := Lib.hid hd
  clear h hw hl hlim hv hu hroom hNd hB hcall hTW hlb hsz hln hd
  go_enter Try.func42, Try.ntmps42
  go_wp2_with fail
  refine HC.out.mono ?_
  rintro e w1 ⟨rfl, s1, c1⟩
  have hT1 : Tab g S T w1 := HT.out.step c1.size (fun k hk hkl => c1.block k hkl (fun e => hn (e ▸ hk)))
  obtain ⟨rb, ub, kb, v, hA⟩ := hT1
  have d1 := blk_cell hA.box 1 (.map (some ub)) rfl
  have d3 := blk_cell hA.box 3 (.int .i64 T.lim) rfl
  have k1 : ∀ n, (Builtin.len_ #[61] 3 #[.map (some ub)]).run Try.prog (w1.drewN n) = .ok (.int .i64 T.used.length) (w1.drewN n) := fun n => (SetAt.step (w' := w1.drewN n) hA.used rfl).len Try.underlying61 HU.out 3
  have k2 : ∀ n, (Builtin.len_ #[61] 3 #[.map (some lb)]).run Try.prog (w1.drewN n) = .ok (.int .i64 ln.length) (w1.drewN n) := fun n => (SetAt.step (w' := w1.drewN n) s1 rfl).len Try.underlying61 HND.out.nodup 3
  obtain ⟨n1, hn1⟩ : ∃ n1, n1 = T.used.length := ⟨_, rfl⟩
  obtain ⟨n2, hn2⟩ : ∃ n2, n2 = ln.length := ⟨_, rfl⟩
  rw [← hn1] at k1
  rw [← hn2] at k2
  have q1 : n1 + n2 ≤ T.lim := by rw [hn1, hn2]; exact HR.out
  have q2 : T.lim ≤ 4000000000 := HLIM.out
  obtain ⟨lim, hlm⟩ : ∃ lim, lim = T.lim := ⟨_, rfl⟩
  rw [← hlm] at q1 q2 d3
  have hcmp : decide ((lim : Int) < (n1 : Int) + (n2 : Int)) = false := decide_eq_false (by omega)
  have hsum : IntKind.i64.wrap ((n1 : Int) + (n2 : Int)) = (n1 : Int) + (n2 : Int) := IntWalk.i64_in _ (by omega)
  have HA := Lib.hid hA
  have S1 := Lib.hid s1
  have C1 := Lib.hid c1
  clear hn1 hn2 hlm q1 q2 hA s1 c1 HC HT
  go_wp2_with fail
  go_quiet (fail)
  go_wp2_with fail
  obtain ⟨es, clock, hes, he1, he2, he3, he4⟩ := S1.out.entries
  obtain ⟨W1, hW1⟩ : ∃ W1, W1 = w1.drewN nq := ⟨_, rfl⟩
  rw [← hW1]
  have hesW : W1.heap[lb]? = some (.map es clock) := by rw [hW1]; exact hes
  have hTW : Tab g S T W1 := by rw [hW1]; exact Tab.drewN ⟨rb, ub, kb, v, HA.out⟩ nq
  have hcW : Chg S w W1 := by
    rw [hW1]
    have := (Chg.of_below HB.out S).trans (C1.out.drewN nq) (fun i hi => .inr (by rw [hi, HLB.out]; exact Nat.le_refl _))
    exact this
  obtain ⟨r, hr⟩ : ∃ r, r = W1.heap.size := ⟨_, rfl⟩
  have hrun := run_range_map (P := Try.prog) W1 61 3 4 lb es clock Try.underlying61 hesW
  rw [← hr] at hrun
  have hlw : w.heap.size ≤ W1.heap.size := hcW.size
  have hnr : ¬ S r := fun hs => by have := HSL.out r hs; omega
  have hrl : r ≠ lb := fun e => by have := blk_lt' hesW; omega
  obtain ⟨W2, hW2⟩ : ∃ W2, W2 = W1.alloc (.mapIter (some lb) clock #[] clock) := ⟨_, rfl⟩
  rw [← hW2] at hrun
  have hb2 : Below W1.heap.size W1 W2 := by rw [hW2]; exact below_alloc (Below.refl _ _) _
  have hst : TlR g lb r S T ln es clock W2 W2 (leftOf es #[]).size :=
    ⟨[], #[], clock, by simpa using hTW.below hb2, (hb2.block lb (blk_lt' hesW)).trans hesW, by rw [hW2, hr]; exact heap_alloc_new W1 _, Nat.le_refl _, by simp, by simp, Chg.refl _ _, rfl⟩
  have hcW2 : Chg S w W2 := hcW.then_below hb2
  rw [hrun]
  have HR2 := Lib.hid hst
  have HE := Lib.hid (And.intro he1 (And.intro he3 he4))
  have HE2 := Lib.hid he2
  have HN := Lib.hid (And.intro hnr (And.intro hn hrl))
  have HCW := Lib.hid hcW2
  have HRW := Lib.hid (show w.heap.size ≤ r by omega)
  clear hmm d1 d3 k1 k2 hcmp hsum hes he1 he2 he3 he4 hW1 hesW hTW hcW hr hrun hlw hnr hrl hW2 hb2 hst hcW2 S1 C1 HA hn hNd
  go_wp2_with fail
  go_loopw [] (fun wr => ∃ n, Hid (TlR g lb r S T ln es clock W2 wr n)) (fun wr => wr.rangeLeft lb r)
  case atStart => exact ⟨_, HR2⟩
  case round =>
    obtain ⟨n, hrl⟩ := hrel
    go_wp2_with fail
    rcases hrl.out.next HE.out.1 HE.out.2.1 HE.out.2.2 HN.out.1 HN.out.2.1 HN.out.2.2 0 with ⟨h0, hrun⟩ | ⟨c, W, hrun, hent, ub2, W3, u1, u2, m, hm, hrl2⟩
    · rw [hrun]
      have hrl0 := hrl.out
      rw [h0] at hrl0
      obtain ⟨hT2, hC2⟩ := hrl0.done HE2.out
      have HC2 := Lib.hid (HCW.out.trans hC2 (fun i hi => hi.elim .inl (fun h => .inr (h ▸ HRW.out))))
      by_cases h1 : 1 < a
      · have t1 : decide ((1 : Int) < (a : Int)) = true := decide_eq_true (by omega)
        have htf : tellF T a = { T with used := ln ++ T.used, refs := a :: T.refs } := by unfold tellF; rw [if_pos h1, ← HLN.out]
        obtain ⟨rb2, k1, k2, W3, k3, k4, k5, k6⟩ := hT2.refd a
        have K3 := Lib.hid k3
        have K4 := Lib.hid k4
        have K5 := Lib.hid (HC2.out.trans k5 (fun i hi => .inl (hi ▸ k2)))
        have HTF := Lib.hid htf
        clear hrun hrl hrl0 h0 hT2 hC2 k2 k3 k4 k5 k6 h1 htf
        go_wp2_with fail
        rw [K3.out]
        go_wp2_with fail
        go_ret
        rw [HTF.out]
        exact ⟨rfl, S, K4.out, fun _ h => h, fun _ h => .inl h, K5.out⟩
      · have t1 : decide ((1 : Int) < (a : Int)) = false := decide_eq_false (by omega)
        have htf : tellF T a = { T with used := ln ++ T.used } := by unfold tellF; rw [if_neg h1, ← HLN.out]
        have HTF := Lib.hid htf
        have HT2 := Lib.hid hT2
        clear hrun hrl hrl0 h0 hT2 hC2 h1 htf
        go_wp2_with fail
        go_ret
        rw [HTF.out]
        exact ⟨rfl, S, HT2.out, fun _ h => h, fun _ h => .inl h, HC2.out⟩
    · rw [hrun]
      have hm2 := hrl.out.left
      have hm3 := hrl2.left
      have HM := Lib.hid (show W3.rangeLeft lb r < wr.rangeLeft lb r by rw [hm2, hm3]; exact hm)
      have HRL2 := Lib.hid hrl2
      have HU2 := Lib.hid u2
      have HEN := Lib.hid hent
      clear hrun hrl hm2 hm3 hrl2 hm u2 hent
      go_wp2_with fail
      rw [HEN.out]
      go_wp2_with fail
      rw [HU2.out]
      go_wp2_with fail
      go_roundw
      case rel => exact ⟨m, HRL2⟩
      case measure => exact HM.out
end
end Go.Proofs.Ytbglnddjhlefnaa
