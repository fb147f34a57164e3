import Derived.Test.YtjdljckgphbkmaaDoorM
set_option linter.unusedVariables false
set_option linter.unusedSimpArgs false
/- The reference's asked and Worth, and the laws' worths. -/
namespace Wb
open Go Go.Proofs Enc Row
set_option linter.unusedSimpArgs false
set_option linter.unusedVariables false
set_option maxRecDepth 20000
set_option maxHeartbeats 4000000
-- f57 asked
def askedM (b : PBook) (x : Bool) : Int := if bookOk b then (if x then 0 else 61) else 60
theorem asked_fn (b : PBook) (h4 : Big4 b) (x : Bool) : Fn E15 0 57 Tryd.f57 (Tryd.f57.body.getD .skip) [.agg (encB b), .bool x] (.int .i64 (askedM b x)) := by
  have hdb : (dec (.agg (encB b)) : Option PBook) = some b := dec_book b
  unfold Fn Tryd.f57 askedM
  cases hb : bookOk b with
  | false =>
    obtain ⟨ps, ks, gr, fr, un, fe, st⟩ := b
    simp only [encB] at hdb
    simp only [go_sem, Nat.reduceAdd, Nat.reduceSub, Nat.reduceMul, Nat.reduceEqDiff, Nat.reduceLT, Nat.reduceLeDiff, Nat.reduceBEq, Nat.reduceBNe, Int.reduceToNat, Int.reduceLE, Int.reduceLT, Int.reduceNe, Int.reduceNeg, reduceCtorEq, Int.reduceBEq, Int.reduceBNe, @callV_spec E15 17 s17 rfl, @callV_specT E15 17 s17 rfl, @stepV_spec E15 17 s17 rfl, @effV_spec E15 17 s17 rfl, s17, encB, callSpec, hdb, h4, hb]
  | true =>
    obtain ⟨ps, ks, gr, fr, un, fe, st⟩ := b
    simp only [encB] at hdb
    cases x <;> simp only [go_sem, Nat.reduceAdd, Nat.reduceSub, Nat.reduceMul, Nat.reduceEqDiff, Nat.reduceLT, Nat.reduceLeDiff, Nat.reduceBEq, Nat.reduceBNe, Int.reduceToNat, Int.reduceLE, Int.reduceLT, Int.reduceNe, Int.reduceNeg, reduceCtorEq, Int.reduceBEq, Int.reduceBNe, @callV_spec E15 17 s17 rfl, @callV_specT E15 17 s17 rfl, @stepV_spec E15 17 s17 rfl, @effV_spec E15 17 s17 rfl, s17, encB, callSpec, hdb, h4, hb]
def s57 : Spec := spec2 (fun (b : PBook) (_ : Bool) => Big4 b) (fun b x => .int .i64 (askedM b x))
theorem s57_ok : SpecOK Tryd.prog glB 57 s57 := spec2_ok E15_ok Tryd.func57 rfl (by kernel_rfl) fun b x h => asked_fn b h x
-- f52
theorem wsum52_fn (b : PBook) (hG : GBook b) (l : List Int) (hl : inP b l) (hn : l.length ≤ 1000) : Fn E15 0 52 Tryd.f52 (Tryd.f52.body.getD .skip) [.agg (encB b), .sl (il l) false] (.int .i64 (sumP b .worth l)) := by
  unfold Fn Tryd.f52
  generalize hr : sumP b .worth l = r
  obtain ⟨ps, ks, gr, fr, un, fe, st⟩ := b
  simp only [go_sem, Nat.reduceAdd, Nat.reduceSub, Nat.reduceMul, Nat.reduceEqDiff, Nat.reduceLT, Nat.reduceLeDiff, Nat.reduceBEq, Nat.reduceBNe, Int.reduceToNat, Int.reduceLE, Int.reduceLT, Int.reduceNe, Int.reduceNeg, reduceCtorEq, Int.reduceBEq, Int.reduceBNe, encB]
  refine ev_loopS [1, 2] (fun j : Nat => [(5, .int .i64 (sumP ⟨ps, ks, gr, fr, un, fe, st⟩ .worth (l.take j))), (6, .int .i64 j)])
    (fun j H => j ≤ l.length ∧ H (([], 52000000) : Key) = some (.cells (encB ⟨ps, ks, gr, fr, un, fe, st⟩) 1 false))
    (fun j => l.length - j) 0 ?_ ⟨Nat.zero_le _, ?_⟩ ?_
  · simp only [go_sem, Nat.reduceAdd, Nat.reduceSub, Nat.reduceMul, Nat.reduceEqDiff, Nat.reduceLT, Nat.reduceLeDiff, Nat.reduceBEq, Nat.reduceBNe, Int.reduceToNat, Int.reduceLE, Int.reduceLT, Int.reduceNe, Int.reduceNeg, reduceCtorEq, Int.reduceBEq, Int.reduceBNe]
    rfl
  · simp only [go_sem, Nat.reduceAdd, Nat.reduceSub, Nat.reduceMul, Nat.reduceEqDiff, Nat.reduceLT, Nat.reduceLeDiff, Nat.reduceBEq, Nat.reduceBNe, Int.reduceToNat, Int.reduceLE, Int.reduceLT, Int.reduceNe, Int.reduceNeg, reduceCtorEq, Int.reduceBEq, Int.reduceBNe, encB]
  · simp only [go_sem, Nat.reduceAdd, Nat.reduceSub, Nat.reduceMul, Nat.reduceEqDiff, Nat.reduceLT, Nat.reduceLeDiff, Nat.reduceBEq, Nat.reduceBNe, Int.reduceToNat, Int.reduceLE, Int.reduceLT, Int.reduceNe, Int.reduceNeg, reduceCtorEq, Int.reduceBEq, Int.reduceBNe]
    intro K j H ⟨hj, h1⟩ hK hE
    have h1' := h1
    simp only [encB] at h1'
    simp only [go_sem, Nat.reduceAdd, Nat.reduceSub, Nat.reduceMul, Nat.reduceEqDiff, Nat.reduceLT, Nat.reduceLeDiff, Nat.reduceBEq, Nat.reduceBNe, Int.reduceToNat, Int.reduceLE, Int.reduceLT, Int.reduceNe, Int.reduceNeg, reduceCtorEq, Int.reduceBEq, Int.reduceBNe, il_length]
    rw [condK_bool]
    refine ⟨fun h => ?_, fun h => ?_⟩
    · have h' : j < l.length := by simpa using h
      have hjj : (j : Int) < (l.length : Int) := by omega
      have w2 : IntKind.i64.wrap ((j : Int) + 1) = ((j + 1 : Nat) : Int) := by rw [Int.natCast_add, Int.natCast_one]; exact wrap_id (by omega)
      have hm : l.getD j 0 ∈ l := by simp [List.getD_eq_getElem?_getD, h']
      have hp := hl _ hm
      obtain ⟨q, hq⟩ : ∃ q : Nat, l.getD j 0 = (q : Int) := ⟨(l.getD j 0).toNat, by omega⟩
      simp only at hp
      have hqp : q < ps.length := by omega
      have hqi : (q : Int) < (ps.length : Int) := by omega
      have hy : ps.getD q default = pieceAt ⟨ps, ks, gr, fr, un, fe, st⟩ (q : Int) := rfl
      have t1 := sumP_take ⟨ps, ks, gr, fr, un, fe, st⟩ .worth h'
      have b1 := sumP_le hG .worth (inP_take hl (j + 1))
      have hlt := List.length_take_le (j + 1) l
      rw [hq] at t1
      generalize hxx : pieceAt ⟨ps, ks, gr, fr, un, fe, st⟩ (q : Int) = x at *
      have w3 : IntKind.i64.wrap (sumP ⟨ps, ks, gr, fr, un, fe, st⟩ .worth (l.take j) + x.worth) = sumP ⟨ps, ks, gr, fr, un, fe, st⟩ .worth (l.take (j + 1)) := by
        rw [t1]; exact wrap_id (show _ ∧ _ by simp only [What.of] at *; omega)
      simp only [go_sem, Nat.reduceAdd, Nat.reduceSub, Nat.reduceMul, Nat.reduceEqDiff, Nat.reduceLT, Nat.reduceLeDiff, Nat.reduceBEq, Nat.reduceBNe, Int.reduceToNat, Int.reduceLE, Int.reduceLT, Int.reduceNe, Int.reduceNeg, reduceCtorEq, Int.reduceBEq, Int.reduceBNe, h1', h', hjj, il_getD, il_length, hq, hqp, hqi, getD_mapN encP ps q _ hqp, hy, encP, List.length_map]
      refine hK (j + 1) _ _ ?_ ⟨h', ?_⟩ (by omega)
      · simp only [go_sem, Nat.reduceAdd, Nat.reduceSub, Nat.reduceMul, Nat.reduceEqDiff, Nat.reduceLT, Nat.reduceLeDiff, Nat.reduceBEq, Nat.reduceBNe, Int.reduceToNat, Int.reduceLE, Int.reduceLT, Int.reduceNe, Int.reduceNeg, reduceCtorEq, Int.reduceBEq, Int.reduceBNe, w2, w3, il_length]
      · simp only [go_sem, Nat.reduceAdd, Nat.reduceSub, Nat.reduceMul, Nat.reduceEqDiff, Nat.reduceLT, Nat.reduceLeDiff, Nat.reduceBEq, Nat.reduceBNe, Int.reduceToNat, Int.reduceLE, Int.reduceLT, Int.reduceNe, Int.reduceNeg, reduceCtorEq, Int.reduceBEq, Int.reduceBNe, h1]
    · have hjl : j = l.length := by simp only [decide_eq_false_iff_not] at h; omega
      subst hjl
      refine hE _ _ _ (by simp) ?_
      simp only [go_sem, Nat.reduceAdd, Nat.reduceSub, Nat.reduceMul, Nat.reduceEqDiff, Nat.reduceLT, Nat.reduceLeDiff, Nat.reduceBEq, Nat.reduceBNe, Int.reduceToNat, Int.reduceLE, Int.reduceLT, Int.reduceNe, Int.reduceNeg, reduceCtorEq, Int.reduceBEq, Int.reduceBNe, List.take_length, hr]
def s52 : Spec := spec2 (fun (b : PBook) (l : List Int) => GBook b ∧ inP b l ∧ l.length ≤ 1000) (fun b l => .int .i64 (sumP b .worth l))
theorem s52_ok : SpecOK Tryd.prog glB 52 s52 := spec2_ok E15_ok Tryd.func52 rfl (by kernel_rfl) fun b l h => wsum52_fn b h.1 l h.2.1 h.2.2
-- f78
theorem wsum78_fn (b : PBook) (hG : GBook b) (l : List Int) (hl : inP b l) (hn : l.length ≤ 1000) : Fn E15 0 78 Tryd.f78 (Tryd.f78.body.getD .skip) [.agg (encB b), .sl (il l) false] (.int .i64 (sumP b .worth l)) := by
  unfold Fn Tryd.f78
  generalize hr : sumP b .worth l = r
  obtain ⟨ps, ks, gr, fr, un, fe, st⟩ := b
  simp only [go_sem, Nat.reduceAdd, Nat.reduceSub, Nat.reduceMul, Nat.reduceEqDiff, Nat.reduceLT, Nat.reduceLeDiff, Nat.reduceBEq, Nat.reduceBNe, Int.reduceToNat, Int.reduceLE, Int.reduceLT, Int.reduceNe, Int.reduceNeg, reduceCtorEq, Int.reduceBEq, Int.reduceBNe, encB]
  refine ev_loopS [1, 2] (fun j : Nat => [(5, .int .i64 (sumP ⟨ps, ks, gr, fr, un, fe, st⟩ .worth (l.take j))), (6, .int .i64 j)])
    (fun j H => j ≤ l.length ∧ H (([], 78000000) : Key) = some (.cells (encB ⟨ps, ks, gr, fr, un, fe, st⟩) 1 false))
    (fun j => l.length - j) 0 ?_ ⟨Nat.zero_le _, ?_⟩ ?_
  · simp only [go_sem, Nat.reduceAdd, Nat.reduceSub, Nat.reduceMul, Nat.reduceEqDiff, Nat.reduceLT, Nat.reduceLeDiff, Nat.reduceBEq, Nat.reduceBNe, Int.reduceToNat, Int.reduceLE, Int.reduceLT, Int.reduceNe, Int.reduceNeg, reduceCtorEq, Int.reduceBEq, Int.reduceBNe]
    rfl
  · simp only [go_sem, Nat.reduceAdd, Nat.reduceSub, Nat.reduceMul, Nat.reduceEqDiff, Nat.reduceLT, Nat.reduceLeDiff, Nat.reduceBEq, Nat.reduceBNe, Int.reduceToNat, Int.reduceLE, Int.reduceLT, Int.reduceNe, Int.reduceNeg, reduceCtorEq, Int.reduceBEq, Int.reduceBNe, encB]
  · simp only [go_sem, Nat.reduceAdd, Nat.reduceSub, Nat.reduceMul, Nat.reduceEqDiff, Nat.reduceLT, Nat.reduceLeDiff, Nat.reduceBEq, Nat.reduceBNe, Int.reduceToNat, Int.reduceLE, Int.reduceLT, Int.reduceNe, Int.reduceNeg, reduceCtorEq, Int.reduceBEq, Int.reduceBNe]
    intro K j H ⟨hj, h1⟩ hK hE
    have h1' := h1
    simp only [encB] at h1'
    simp only [go_sem, Nat.reduceAdd, Nat.reduceSub, Nat.reduceMul, Nat.reduceEqDiff, Nat.reduceLT, Nat.reduceLeDiff, Nat.reduceBEq, Nat.reduceBNe, Int.reduceToNat, Int.reduceLE, Int.reduceLT, Int.reduceNe, Int.reduceNeg, reduceCtorEq, Int.reduceBEq, Int.reduceBNe, il_length]
    rw [condK_bool]
    refine ⟨fun h => ?_, fun h => ?_⟩
    · have h' : j < l.length := by simpa using h
      have hjj : (j : Int) < (l.length : Int) := by omega
      have w2 : IntKind.i64.wrap ((j : Int) + 1) = ((j + 1 : Nat) : Int) := by rw [Int.natCast_add, Int.natCast_one]; exact wrap_id (by omega)
      have hm : l.getD j 0 ∈ l := by simp [List.getD_eq_getElem?_getD, h']
      have hp := hl _ hm
      obtain ⟨q, hq⟩ : ∃ q : Nat, l.getD j 0 = (q : Int) := ⟨(l.getD j 0).toNat, by omega⟩
      simp only at hp
      have hqp : q < ps.length := by omega
      have hqi : (q : Int) < (ps.length : Int) := by omega
      have hy : ps.getD q default = pieceAt ⟨ps, ks, gr, fr, un, fe, st⟩ (q : Int) := rfl
      have t1 := sumP_take ⟨ps, ks, gr, fr, un, fe, st⟩ .worth h'
      have b1 := sumP_le hG .worth (inP_take hl (j + 1))
      have hlt := List.length_take_le (j + 1) l
      rw [hq] at t1
      generalize hxx : pieceAt ⟨ps, ks, gr, fr, un, fe, st⟩ (q : Int) = x at *
      have w3 : IntKind.i64.wrap (sumP ⟨ps, ks, gr, fr, un, fe, st⟩ .worth (l.take j) + x.worth) = sumP ⟨ps, ks, gr, fr, un, fe, st⟩ .worth (l.take (j + 1)) := by
        rw [t1]; exact wrap_id (show _ ∧ _ by simp only [What.of] at *; omega)
      simp only [go_sem, Nat.reduceAdd, Nat.reduceSub, Nat.reduceMul, Nat.reduceEqDiff, Nat.reduceLT, Nat.reduceLeDiff, Nat.reduceBEq, Nat.reduceBNe, Int.reduceToNat, Int.reduceLE, Int.reduceLT, Int.reduceNe, Int.reduceNeg, reduceCtorEq, Int.reduceBEq, Int.reduceBNe, h1', h', hjj, il_getD, il_length, hq, hqp, hqi, getD_mapN encP ps q _ hqp, hy, encP, List.length_map]
      refine hK (j + 1) _ _ ?_ ⟨h', ?_⟩ (by omega)
      · simp only [go_sem, Nat.reduceAdd, Nat.reduceSub, Nat.reduceMul, Nat.reduceEqDiff, Nat.reduceLT, Nat.reduceLeDiff, Nat.reduceBEq, Nat.reduceBNe, Int.reduceToNat, Int.reduceLE, Int.reduceLT, Int.reduceNe, Int.reduceNeg, reduceCtorEq, Int.reduceBEq, Int.reduceBNe, w2, w3, il_length]
      · simp only [go_sem, Nat.reduceAdd, Nat.reduceSub, Nat.reduceMul, Nat.reduceEqDiff, Nat.reduceLT, Nat.reduceLeDiff, Nat.reduceBEq, Nat.reduceBNe, Int.reduceToNat, Int.reduceLE, Int.reduceLT, Int.reduceNe, Int.reduceNeg, reduceCtorEq, Int.reduceBEq, Int.reduceBNe, h1]
    · have hjl : j = l.length := by simp only [decide_eq_false_iff_not] at h; omega
      subst hjl
      refine hE _ _ _ (by simp) ?_
      simp only [go_sem, Nat.reduceAdd, Nat.reduceSub, Nat.reduceMul, Nat.reduceEqDiff, Nat.reduceLT, Nat.reduceLeDiff, Nat.reduceBEq, Nat.reduceBNe, Int.reduceToNat, Int.reduceLE, Int.reduceLT, Int.reduceNe, Int.reduceNeg, reduceCtorEq, Int.reduceBEq, Int.reduceBNe, List.take_length, hr]
def s78 : Spec := spec2 (fun (b : PBook) (l : List Int) => GBook b ∧ inP b l ∧ l.length ≤ 1000) (fun b l => .int .i64 (sumP b .worth l))
theorem s78_ok : SpecOK Tryd.prog glB 78 s78 := spec2_ok E15_ok Tryd.func78 rfl (by kernel_rfl) fun b l h => wsum78_fn b h.1 l h.2.1 h.2.2
end Wb
/- The reference's least. -/
namespace Wb
open Go Go.Proofs Enc Row
set_option linter.unusedSimpArgs false
set_option linter.unusedVariables false
set_option maxRecDepth 20000
set_option maxHeartbeats 4000000
theorem few_le {st : List Int} (hst : ∀ w ∈ st, 1 ≤ w) {m : Nat} (hm : m ≤ 30000) : 0 ≤ few st m ∧ few st m ≤ 1000000 := by
  rcases few_low hst m (by omega) with ⟨e, _⟩ | ⟨v, h, e, _⟩
  · rw [e]; omega
  · have h1 := sum_le_dot st v h.len.symm hst h.pos
    have h2 := sum_nonneg v h.pos
    rw [h.sum] at h1
    rw [e]; omega
theorem Own2.fin {H : Heap} {S : Key → Prop} {p : PV} {sz : Nat} {rs : List (List PV)} (h : Own2 H S p sz rs) : (Wb.frz (α := PV) 8 p fun t _ => .ret t).wp True (fun t _ => wk t (.sl rs false)) H := by
  obtain ⟨K, v, ex, _, rfl, h2⟩ := h
  simp only [Wb.frz, Prg.wp, h2]
  exact ⟨fun _ => by simp, wkR_refl rs, fun h => by cases h⟩
theorem leastT_succ (st : List Int) (n : Nat) : leastT st (n + 1) = leastT st n ++ [(List.range st.length).foldl (lowS st (fun m => (leastT st n).getD m 0) (n + 1)) 1000000] := rfl
theorem least_fn (st : List Int) (hst : ∀ w ∈ st, 1 ≤ w ∧ w ≤ 1000) (h5 : st.length ≤ 5) (most : Nat) (hm : most ≤ 30000) : Fn E15 0 73 Tryd.f73 (Tryd.f73.body.getD .skip) [.sl (il st) false, .int .i64 most] (.sl (il (leastT st most)) false) := by
  unfold Fn Tryd.f73
  have hst1 : ∀ w ∈ st, 1 ≤ w := fun w hw => (hst w hw).1
  simp only [go_sem, Nat.reduceAdd, Nat.reduceSub, Nat.reduceMul, Nat.reduceEqDiff, Nat.reduceLT, Nat.reduceLeDiff, Nat.reduceBEq, Nat.reduceBNe, Int.reduceToNat, Int.reduceLE, Int.reduceLT, Int.reduceNe, Int.reduceNeg, reduceCtorEq, Int.reduceBEq, Int.reduceBNe]
  refine ev_loopS [0, 1] (fun x : Nat × PV => [(5, x.2), (6, .int .i64 (x.1 + 1))])
    (fun x H => x.1 ≤ most ∧ Own2 H (fun K => K = ([], 73001000) ∨ K = ([], 73011003)) x.2 1 (il (leastT st x.1)))
    (fun x => most - x.1) (0, .sref ([], 73001000) 1 1 1 true) ?_ ⟨Nat.zero_le _, ([], 73001000), 1, true, .inl rfl, rfl, ?_⟩ ?_
  · simp only [go_sem, Nat.reduceAdd, Nat.reduceSub, Nat.reduceMul, Nat.reduceEqDiff, Nat.reduceLT, Nat.reduceLeDiff, Nat.reduceBEq, Nat.reduceBNe, Int.reduceToNat, Int.reduceLE, Int.reduceLT, Int.reduceNe, Int.reduceNeg, reduceCtorEq, Int.reduceBEq, Int.reduceBNe, Int.natCast_zero, Int.zero_add]
  · simp only [go_sem, Nat.reduceAdd, Nat.reduceSub, Nat.reduceMul, Nat.reduceEqDiff, Nat.reduceLT, Nat.reduceLeDiff, Nat.reduceBEq, Nat.reduceBNe, Int.reduceToNat, Int.reduceLE, Int.reduceLT, Int.reduceNe, Int.reduceNeg, reduceCtorEq, Int.reduceBEq, Int.reduceBNe]
    rfl
  · simp only [go_sem, Nat.reduceAdd, Nat.reduceSub, Nat.reduceMul, Nat.reduceEqDiff, Nat.reduceLT, Nat.reduceLeDiff, Nat.reduceBEq, Nat.reduceBNe, Int.reduceToNat, Int.reduceLE, Int.reduceLT, Int.reduceNe, Int.reduceNeg, reduceCtorEq, Int.reduceBEq, Int.reduceBNe]
    intro K x H ⟨hi, k2⟩ hK hE
    obtain ⟨i, p⟩ := x
    simp only at hi k2
    obtain ⟨t1, t2, t3, t4, t5⟩ := Own2Taint k2
    rw [condK_bool]
    refine ⟨fun h => ?_, fun h => ?_⟩
    · have h' : i + 1 ≤ most := by simp only [decide_eq_true_eq] at h; omega
      have w6 : IntKind.i64.wrap ((i : Int) + 1 + 1) = ((i + 1 : Nat) : Int) + 1 := by rw [Int.natCast_add, Int.natCast_one]; exact wrap_id (by omega)
      simp only [go_sem, Nat.reduceAdd, Nat.reduceSub, Nat.reduceMul, Nat.reduceEqDiff, Nat.reduceLT, Nat.reduceLeDiff, Nat.reduceBEq, Nat.reduceBNe, Int.reduceToNat, Int.reduceLE, Int.reduceLT, Int.reduceNe, Int.reduceNeg, reduceCtorEq, Int.reduceBEq, Int.reduceBNe]
      refine ev_loopS [0, 1, 5, 6] (fun j : Nat => [(7, .int .i64 ((List.range j).foldl (lowS st (fun m => (leastT st i).getD m 0) (i + 1)) 1000000)), (8, .int .i64 j)])
        (fun j H => j ≤ st.length ∧ Own2 H (fun K => K = ([], 73001000) ∨ K = ([], 73011003)) p 1 (il (leastT st i)))
        (fun j => st.length - j) 0 ?_ ⟨Nat.zero_le _, ?_⟩ ?_
      · simp only [go_sem, Nat.reduceAdd, Nat.reduceSub, Nat.reduceMul, Nat.reduceEqDiff, Nat.reduceLT, Nat.reduceLeDiff, Nat.reduceBEq, Nat.reduceBNe, Int.reduceToNat, Int.reduceLE, Int.reduceLT, Int.reduceNe, Int.reduceNeg, reduceCtorEq, Int.reduceBEq, Int.reduceBNe, List.range_zero, List.foldl_nil, Int.natCast_zero]
      · exact k2.frame fun K hK => by rcases hK with rfl | rfl <;> simp only [go_sem, Nat.reduceAdd, Nat.reduceSub, Nat.reduceMul, Nat.reduceEqDiff, Nat.reduceLT, Nat.reduceLeDiff, Nat.reduceBEq, Nat.reduceBNe, Int.reduceToNat, Int.reduceLE, Int.reduceLT, Int.reduceNe, Int.reduceNeg, reduceCtorEq, Int.reduceBEq, Int.reduceBNe]
      · simp only [go_sem, Nat.reduceAdd, Nat.reduceSub, Nat.reduceMul, Nat.reduceEqDiff, Nat.reduceLT, Nat.reduceLeDiff, Nat.reduceBEq, Nat.reduceBNe, Int.reduceToNat, Int.reduceLE, Int.reduceLT, Int.reduceNe, Int.reduceNeg, reduceCtorEq, Int.reduceBEq, Int.reduceBNe]
        intro K2 j H2 ⟨hj, g2⟩ hK2 hE2
        simp only [go_sem, Nat.reduceAdd, Nat.reduceSub, Nat.reduceMul, Nat.reduceEqDiff, Nat.reduceLT, Nat.reduceLeDiff, Nat.reduceBEq, Nat.reduceBNe, Int.reduceToNat, Int.reduceLE, Int.reduceLT, Int.reduceNe, Int.reduceNeg, reduceCtorEq, Int.reduceBEq, Int.reduceBNe, il_length]
        rw [condK_bool]
        refine ⟨fun hc => ?_, fun hc => ?_⟩
        · have hj' : j < st.length := by simp only [decide_eq_true_eq] at hc; omega
          have hji : (j : Int) < (st.length : Int) := by omega
          have w8 : IntKind.i64.wrap ((j : Int) + 1) = ((j + 1 : Nat) : Int) := by rw [Int.natCast_add, Int.natCast_one]; exact wrap_id (by omega)
          have hsj := hst (st.getD j 0) (by simp [List.getD_eq_getElem?_getD, hj'])
          have hfold : (List.range (j + 1)).foldl (lowS st (fun m => (leastT st i).getD m 0) (i + 1)) 1000000 = lowS st (fun m => (leastT st i).getD m 0) (i + 1) ((List.range j).foldl (lowS st (fun m => (leastT st i).getD m 0) (i + 1)) 1000000) j := by
            rw [List.range_succ, List.foldl_append]; rfl
          have hfold2 := hfold
          rw [List.range_succ] at hfold2
          generalize (List.range j).foldl (lowS st (fun m => (leastT st i).getD m 0) (i + 1)) 1000000 = best at *
          obtain ⟨K0, v0, ex, hK0, rfl, hH0⟩ := g2
          simp only [go_sem, Nat.reduceAdd, Nat.reduceSub, Nat.reduceMul, Nat.reduceEqDiff, Nat.reduceLT, Nat.reduceLeDiff, Nat.reduceBEq, Nat.reduceBNe, Int.reduceToNat, Int.reduceLE, Int.reduceLT, Int.reduceNe, Int.reduceNeg, reduceCtorEq, Int.reduceBEq, Int.reduceBNe, hj', hji, il_getD, il_length]
          rw [condK_bool]
          refine ⟨fun hc2 => ?_, fun hc2 => ?_⟩
          · have hle : st.getD j 0 ≤ (i : Int) + 1 := by simpa using hc2
            obtain ⟨m, hme⟩ : ∃ m : Nat, (m : Int) = (i : Int) + 1 - st.getD j 0 := ⟨((i : Int) + 1 - st.getD j 0).toNat, by omega⟩
            have hmi : m ≤ i := by omega
            have wm : IntKind.i64.wrap ((i : Int) + 1 - st.getD j 0) = (m : Int) := by rw [← hme]; exact wrap_id (by omega)
            have hml : m < (leastT st i).length := by rw [leastT_len]; omega
            have hmli : (m : Int) < ((leastT st i).length : Int) := by omega
            have hget := leastT_get st i m hmi
            have hfl := few_le hst1 (m := m) (by omega)
            have wf : IntKind.i64.wrap (few st m + 1) = few st m + 1 := wrap_id (by omega)
            have hlow : lowS st (fun m => (leastT st i).getD m 0) (i + 1) best j = if few st m + 1 < best then few st m + 1 else best := by
              unfold lowS
              rw [if_pos (by omega), show i + 1 - (st.getD j 0).toNat = m by omega]
              simp only [hget]
            rw [hlow] at hfold hfold2
            simp only [go_sem, Nat.reduceAdd, Nat.reduceSub, Nat.reduceMul, Nat.reduceEqDiff, Nat.reduceLT, Nat.reduceLeDiff, Nat.reduceBEq, Nat.reduceBNe, Int.reduceToNat, Int.reduceLE, Int.reduceLT, Int.reduceNe, Int.reduceNeg, reduceCtorEq, Int.reduceBEq, Int.reduceBNe, hj', hji, il_getD, il_length, hH0, wm, hml, hmli, hget, wf]
            refine hK2 (j + 1) _ _ ?_ ⟨hj', K0, v0, ex, hK0, rfl, hH0⟩ (by omega)
            simp only [go_sem, Nat.reduceAdd, Nat.reduceSub, Nat.reduceMul, Nat.reduceEqDiff, Nat.reduceLT, Nat.reduceLeDiff, Nat.reduceBEq, Nat.reduceBNe, Int.reduceToNat, Int.reduceLE, Int.reduceLT, Int.reduceNe, Int.reduceNeg, reduceCtorEq, Int.reduceBEq, Int.reduceBNe, w8, il_length, hfold, hfold2]
          · have hgt : ¬ st.getD j 0 ≤ (i : Int) + 1 := by simpa using hc2
            have hlow : lowS st (fun m => (leastT st i).getD m 0) (i + 1) best j = best := by
              unfold lowS
              rw [if_neg (by omega)]
            rw [hlow] at hfold hfold2
            simp only [go_sem, Nat.reduceAdd, Nat.reduceSub, Nat.reduceMul, Nat.reduceEqDiff, Nat.reduceLT, Nat.reduceLeDiff, Nat.reduceBEq, Nat.reduceBNe, Int.reduceToNat, Int.reduceLE, Int.reduceLT, Int.reduceNe, Int.reduceNeg, reduceCtorEq, Int.reduceBEq, Int.reduceBNe]
            refine hK2 (j + 1) _ _ ?_ ⟨hj', K0, v0, ex, hK0, rfl, hH0⟩ (by omega)
            simp only [go_sem, Nat.reduceAdd, Nat.reduceSub, Nat.reduceMul, Nat.reduceEqDiff, Nat.reduceLT, Nat.reduceLeDiff, Nat.reduceBEq, Nat.reduceBNe, Int.reduceToNat, Int.reduceLE, Int.reduceLT, Int.reduceNe, Int.reduceNeg, reduceCtorEq, Int.reduceBEq, Int.reduceBNe, w8, il_length, hfold, hfold2]
        · have hjl : j = st.length := by simp only [decide_eq_false_iff_not] at hc; omega
          subst hjl
          refine hE2 _ _ _ (by simp) ?_
          simp only [go_sem, Nat.reduceAdd, Nat.reduceSub, Nat.reduceMul, Nat.reduceEqDiff, Nat.reduceLT, Nat.reduceLeDiff, Nat.reduceBEq, Nat.reduceBNe, Int.reduceToNat, Int.reduceLE, Int.reduceLT, Int.reduceNe, Int.reduceNeg, reduceCtorEq, Int.reduceBEq, Int.reduceBNe, t1, t2, t3, t4, t5]
          refine app_own2 (ro := false) (E := E15) (t := 24) (e := 3) (sz := 1) (S := fun K => K = ([], 73001000) ∨ K = ([], 73011003)) (rs := il (leastT st i)) (row := [.int .i64 ((List.range st.length).foldl (lowS st (fun m => (leastT st i).getD m 0) (i + 1)) 1000000)]) trivial rfl rfl (by decide) (by decide) ?_ (g2.frame fun K hK => ?_) (.inr rfl) ?_ ⟨rfl, rfl⟩ ?_
          · simp only [go_sem, Nat.reduceAdd, Nat.reduceSub, Nat.reduceMul, Nat.reduceEqDiff, Nat.reduceLT, Nat.reduceLeDiff, Nat.reduceBEq, Nat.reduceBNe, Int.reduceToNat, Int.reduceLE, Int.reduceLT, Int.reduceNe, Int.reduceNeg, reduceCtorEq, Int.reduceBEq, Int.reduceBNe]
          · rcases hK with rfl | rfl <;> simp only [go_sem, Nat.reduceAdd, Nat.reduceSub, Nat.reduceMul, Nat.reduceEqDiff, Nat.reduceLT, Nat.reduceLeDiff, Nat.reduceBEq, Nat.reduceBNe, Int.reduceToNat, Int.reduceLE, Int.reduceLT, Int.reduceNe, Int.reduceNeg, reduceCtorEq, Int.reduceBEq, Int.reduceBNe]
          · rw [il_length, leastT_len]; show (i + 1 + 1) * 8 ≤ _; omega
          intro p' H3 hO hF
          rw [show il (leastT st i) ++ [[PV.int .i64 ((List.range st.length).foldl (lowS st (fun m => (leastT st i).getD m 0) (i + 1)) 1000000)]] = il (leastT st (i + 1)) by rw [leastT_succ, il_append']; rfl] at hO
          obtain ⟨y1, y2, y3, y4, y5⟩ := Own2Taint hO
          simp only [go_sem, Nat.reduceAdd, Nat.reduceSub, Nat.reduceMul, Nat.reduceEqDiff, Nat.reduceLT, Nat.reduceLeDiff, Nat.reduceBEq, Nat.reduceBNe, Int.reduceToNat, Int.reduceLE, Int.reduceLT, Int.reduceNe, Int.reduceNeg, reduceCtorEq, Int.reduceBEq, Int.reduceBNe, y1, y2, y3, y4, y5]
          refine hK (i + 1, p') _ _ ?_ ⟨h', hO⟩ (by simp only; omega)
          simp only [go_sem, Nat.reduceAdd, Nat.reduceSub, Nat.reduceMul, Nat.reduceEqDiff, Nat.reduceLT, Nat.reduceLeDiff, Nat.reduceBEq, Nat.reduceBNe, Int.reduceToNat, Int.reduceLE, Int.reduceLT, Int.reduceNe, Int.reduceNeg, reduceCtorEq, Int.reduceBEq, Int.reduceBNe, w6]
    · have hil : i = most := by simp only [decide_eq_false_iff_not] at h; omega
      subst hil
      refine hE _ _ _ (by simp) ?_
      simp only [go_sem, Nat.reduceAdd, Nat.reduceSub, Nat.reduceMul, Nat.reduceEqDiff, Nat.reduceLT, Nat.reduceLeDiff, Nat.reduceBEq, Nat.reduceBNe, Int.reduceToNat, Int.reduceLE, Int.reduceLT, Int.reduceNe, Int.reduceNeg, reduceCtorEq, Int.reduceBEq, Int.reduceBNe, t1, t2, t3, t4, t5]
      exact k2.fin
def s73 : Spec := spec2 (fun (st : List Int) (m : Int) => (∀ w ∈ st, 1 ≤ w ∧ w ≤ 1000) ∧ st.length ≤ 5 ∧ 0 ≤ m ∧ m ≤ 30000) (fun st m => .sl (il (leastT st m.toNat)) false)
theorem s73_ok : SpecOK Tryd.prog glB 73 s73 := spec2_ok E15_ok Tryd.func73 rfl (by kernel_rfl) fun st m h => by
  have e : m = ((m.toNat : Nat) : Int) := by omega
  have := least_fn st h.1 h.2.1 m.toNat (by omega)
  rw [← e] at this
  exact this
end Wb
/- The reference's Stamp. -/
namespace Wb
open Go Go.Proofs Enc Row
set_option linter.unusedSimpArgs false
set_option linter.unusedVariables false
set_option maxRecDepth 20000
set_option maxHeartbeats 4000000
noncomputable def E16t : List (Nat × Spec) := [(57, s57), (52, s52), (78, s78), (73, s73)] ++ E15t
theorem E16t_ok : AllOK E16t := ⟨⟨s57_ok, Tryd.call57⟩, ⟨s52_ok, Tryd.call52⟩, ⟨s78_ok, Tryd.call78⟩, ⟨s73_ok, Tryd.call73⟩, E15t_ok⟩
noncomputable def E16 : Env := mkE E16t []
theorem E16_ok : EnvOK Tryd.prog E16 := envOK E16t_ok trivial
theorem E16_ti {t : Nat} : E16.ti t = ti t := rfl
theorem E16_q0 : (E16).eqt 130 = true := rfl
theorem E16_q1 : (E16).keyt 3 = true := rfl
theorem E16_q2 : (E16).keyt 85 = true := rfl
attribute [go_sem] E16_ti E16_q0 E16_q1 E16_q2
theorem stamp_near {st : List Int} (h1 : st ≠ []) (h5 : st.length ≤ 5) (hst : ∀ w ∈ st, 1 ≤ w ∧ w ≤ 1000) (c : Nat) : (stampV st c : Int) < c + st.getD 0 0 := by
  obtain ⟨a1, a2, a3, _, a5⟩ := stampV_ok h1 h5 hst c
  match st, h1, hst with
  | w :: st, _, hst =>
    obtain ⟨w1, w2⟩ := hst w (by simp)
    have hq := Int.emod_add_mul_ediv (c + w - 1 : Int) w
    have r0 := Int.emod_nonneg (c + w - 1 : Int) (show w ≠ 0 by omega)
    have r1 := Int.emod_lt_of_pos (c + w - 1 : Int) (show 0 < w by omega)
    have q0 := Int.ediv_nonneg (a := (c + w - 1 : Int)) (b := w) (by omega) (by omega)
    generalize (c + w - 1 : Int) / w = q at *
    rw [List.getD_cons_zero]
    by_cases h : (stampV (w :: st) c : Int) < c + w
    · exact h
    · exfalso
      have hu : (((w * q).toNat : Nat) : Int) = w * q := by omega
      refine (a5 (w * q).toNat (by omega) (by omega)).2 (q :: List.replicate st.length 0) ⟨by simp, fun a ha => ?_, ?_⟩
      · rcases List.mem_cons.1 ha with rfl | ha
        · exact q0
        · rw [(List.mem_replicate.1 ha).2]; exact Int.le_refl _
      · simp only [dot, dot_rep]; omega
theorem few_at {st : List Int} (hst : ∀ w ∈ st, 1 ≤ w) {n : Nat} (hn : n < 1000000) {v : List Int} (h : Opt st n v) : few st n = sumL v := by
  rcases few_low hst n hn with ⟨_, h2⟩ | ⟨u, h1, h2, h3⟩
  · exact absurd h.is (h2 v)
  · have a := h3 v h.is
    have b := h.best u h1
    unfold leO at b
    omega
theorem few_no {st : List Int} (hst : ∀ w ∈ st, 1 ≤ w) {n : Nat} (hn : n < 1000000) (h : ∀ v, ¬ Makes st n v) : few st n = 1000000 := by
  rcases few_low hst n hn with ⟨e, _⟩ | ⟨u, h1, _⟩
  · exact e
  · exact absurd h1 (h u)
theorem rStamp_fn (b : PBook) (h4 : Big4 b) (cc : Int) : Fn E16 0 32 Tryd.f32 (Tryd.f32.body.getD .skip) [.agg (encB b), .int .i64 cc] (.tup [.sl (il (stampO b cc).1) false, .int .i64 (stampO b cc).2]) := by
  have hdb : (dec (.agg (encB b)) : Option PBook) = some b := dec_book b
  unfold Fn Tryd.f32 stampO
  cases hb : bookOk b with
  | false =>
    have ha : ∀ x, askedM b x = 60 := fun x => by unfold askedM; rw [hb]; rfl
    obtain ⟨ps, ks, gr, fr, un, fe, st⟩ := b
    simp only [encB] at hdb
    simp only [go_sem, Nat.reduceAdd, Nat.reduceSub, Nat.reduceMul, Nat.reduceEqDiff, Nat.reduceLT, Nat.reduceLeDiff, Nat.reduceBEq, Nat.reduceBNe, Int.reduceToNat, Int.reduceLE, Int.reduceLT, Int.reduceNe, Int.reduceNeg, reduceCtorEq, Int.reduceBEq, Int.reduceBNe, @callV_spec E16 41 sTween rfl, @callV_specT E16 41 sTween rfl, @stepV_spec E16 41 sTween rfl, @effV_spec E16 41 sTween rfl, sTween, @callV_spec E16 57 s57 rfl, @callV_specT E16 57 s57 rfl, @stepV_spec E16 57 s57 rfl, @effV_spec E16 57 s57 rfl, s57, encB, callSpec, hdb, h4, hb, ha, il_nil0]
  | true =>
    cases hz : (decide (0 ≤ cc) && decide (cc ≤ 20000)) with
    | false =>
      have ha : askedM b false = 61 := by unfold askedM; rw [hb]; rfl
      obtain ⟨ps, ks, gr, fr, un, fe, st⟩ := b
      simp only [encB] at hdb
      simp only [go_sem, Nat.reduceAdd, Nat.reduceSub, Nat.reduceMul, Nat.reduceEqDiff, Nat.reduceLT, Nat.reduceLeDiff, Nat.reduceBEq, Nat.reduceBNe, Int.reduceToNat, Int.reduceLE, Int.reduceLT, Int.reduceNe, Int.reduceNeg, reduceCtorEq, Int.reduceBEq, Int.reduceBNe, @callV_spec E16 41 sTween rfl, @callV_specT E16 41 sTween rfl, @stepV_spec E16 41 sTween rfl, @effV_spec E16 41 sTween rfl, sTween, @callV_spec E16 57 s57 rfl, @callV_specT E16 57 s57 rfl, @stepV_spec E16 57 s57 rfl, @effV_spec E16 57 s57 rfl, s57, encB, callSpec, hdb, h4, hb, hz, ha, il_nil0]
    | true =>
      have ha : askedM b true = 0 := by unfold askedM; rw [hb]; rfl
      have hG := book_good hb
      have s1 := hG.s1
      have s5 := hG.s5
      have hst := stamps_in hG.st
      obtain ⟨c, hcc⟩ : ∃ c : Nat, cc = (c : Int) := ⟨cc.toNat, by simp at hz; omega⟩
      subst hcc
      have hc : c ≤ 20000 := by simp at hz; omega
      rw [Int.toNat_natCast]
      have hne : b.stamps ≠ [] := by intro e; simp [e] at s1
      have hnear := stamp_near hne s5 hst c
      obtain ⟨a1, a2, a3, _, a5⟩ := stampV_ok hne s5 hst c
      generalize stampV b.stamps c = V at *
      generalize hlM : stampM b.stamps c = l at *
      obtain ⟨ps, ks, gr, fr, un, fe, st⟩ := b
      simp only [encB] at hdb
      simp only at s1 s5 hst hnear a3 a5
      have hst1 : ∀ w ∈ st, 1 ≤ w := fun w hw => (hst w hw).1
      have hs0 := hst (st.getD 0 0) (by simp [List.getD_eq_getElem?_getD, show 0 < st.length by omega])
      obtain ⟨m, hm⟩ : ∃ m : Nat, (c : Int) + st.getD 0 0 = (m : Int) := ⟨((c : Int) + st.getD 0 0).toNat, by omega⟩
      have wm : IntKind.i64.wrap ((c : Int) + st.getD 0 0) = (m : Int) := by rw [hm]; exact wrap_id (by omega)
      have h0l : 0 < st.length := by omega
      have h0i : (0 : Int) < (st.length : Int) := by omega
      have hm30 : ((m : Int) ≤ 30000) = True := eq_true (by omega)
      have hstT : (∀ w ∈ st, 1 ≤ w ∧ w ≤ 1000) = True := eq_true hst
      have hcd : ((c : Int) ≤ 20000) = True := eq_true (by omega)
      have hVm : V ≤ m := by omega
      have hfV := few_at hst1 (n := V) (by omega) a3
      have hsV : sumL l ≤ V := by
        have := sum_le_dot st l a3.is.len.symm hst1 a3.is.pos
        rw [a3.is.sum] at this; exact this
      have hmT : (leastT st m).length = m + 1 := leastT_len st m
      simp only [go_sem, Nat.reduceAdd, Nat.reduceSub, Nat.reduceMul, Nat.reduceEqDiff, Nat.reduceLT, Nat.reduceLeDiff, Nat.reduceBEq, Nat.reduceBNe, Int.reduceToNat, Int.reduceLE, Int.reduceLT, Int.reduceNe, Int.reduceNeg, reduceCtorEq, Int.reduceBEq, Int.reduceBNe, @callV_spec E16 41 sTween rfl, @callV_specT E16 41 sTween rfl, @stepV_spec E16 41 sTween rfl, @effV_spec E16 41 sTween rfl, sTween, @callV_spec E16 57 s57 rfl, @callV_specT E16 57 s57 rfl, @stepV_spec E16 57 s57 rfl, @effV_spec E16 57 s57 rfl, s57, @callV_spec E16 73 s73 rfl, @callV_specT E16 73 s73 rfl, @stepV_spec E16 73 s73 rfl, @effV_spec E16 73 s73 rfl, s73, encB, callSpec, hdb, h4, hb, hcd, ha, il_getD, il_length, h0l, h0i, wm, hm30, hstT, s5, Int.natCast_nonneg, Int.toNat_natCast]
      refine ev_loopS [2, 7] (fun w : Nat => [(8, .int .i64 w)])
        (fun w H => (c ≤ w ∧ w ≤ V) ∧ H (([], 32000000) : Key) = some (.cells (encB ⟨ps, ks, gr, fr, un, fe, st⟩) 1 false))
        (fun w => V - w) c ?_ ⟨⟨Nat.le_refl _, a1⟩, ?_⟩ ?_
      · simp only [go_sem, Nat.reduceAdd, Nat.reduceSub, Nat.reduceMul, Nat.reduceEqDiff, Nat.reduceLT, Nat.reduceLeDiff, Nat.reduceBEq, Nat.reduceBNe, Int.reduceToNat, Int.reduceLE, Int.reduceLT, Int.reduceNe, Int.reduceNeg, reduceCtorEq, Int.reduceBEq, Int.reduceBNe]
      · simp only [go_sem, Nat.reduceAdd, Nat.reduceSub, Nat.reduceMul, Nat.reduceEqDiff, Nat.reduceLT, Nat.reduceLeDiff, Nat.reduceBEq, Nat.reduceBNe, Int.reduceToNat, Int.reduceLE, Int.reduceLT, Int.reduceNe, Int.reduceNeg, reduceCtorEq, Int.reduceBEq, Int.reduceBNe, encB]
      · simp only [go_sem, Nat.reduceAdd, Nat.reduceSub, Nat.reduceMul, Nat.reduceEqDiff, Nat.reduceLT, Nat.reduceLeDiff, Nat.reduceBEq, Nat.reduceBNe, Int.reduceToNat, Int.reduceLE, Int.reduceLT, Int.reduceNe, Int.reduceNeg, reduceCtorEq, Int.reduceBEq, Int.reduceBNe]
        intro K w H ⟨⟨hw1, hw2⟩, h1⟩ hK hE
        have h1' := h1
        simp only [encB] at h1'
        have hwl : w < (leastT st m).length := by omega
        have hwi : (w : Int) < ((leastT st m).length : Int) := by omega
        have hget := leastT_get st m w (by omega)
        simp only [go_sem, Nat.reduceAdd, Nat.reduceSub, Nat.reduceMul, Nat.reduceEqDiff, Nat.reduceLT, Nat.reduceLeDiff, Nat.reduceBEq, Nat.reduceBNe, Int.reduceToNat, Int.reduceLE, Int.reduceLT, Int.reduceNe, Int.reduceNeg, reduceCtorEq, Int.reduceBEq, Int.reduceBNe, il_getD, il_length, hwl, hwi, hget]
        rw [condK_bool]
        refine ⟨fun hc2 => ?_, fun hc2 => ?_⟩
        · have hge : few st w ≥ 1000000 := by simpa using hc2
          have hlt : w < V := by
            by_cases h : w = V
            · subst h; rw [hfV] at hge; omega
            · omega
          have w2 : IntKind.i64.wrap ((w : Int) + 1) = ((w + 1 : Nat) : Int) := by rw [Int.natCast_add, Int.natCast_one]; exact wrap_id (by omega)
          simp only [go_sem, Nat.reduceAdd, Nat.reduceSub, Nat.reduceMul, Nat.reduceEqDiff, Nat.reduceLT, Nat.reduceLeDiff, Nat.reduceBEq, Nat.reduceBNe, Int.reduceToNat, Int.reduceLE, Int.reduceLT, Int.reduceNe, Int.reduceNeg, reduceCtorEq, Int.reduceBEq, Int.reduceBNe]
          refine hK (w + 1) _ _ ?_ ⟨⟨by omega, hlt⟩, h1⟩ (by omega)
          simp only [go_sem, Nat.reduceAdd, Nat.reduceSub, Nat.reduceMul, Nat.reduceEqDiff, Nat.reduceLT, Nat.reduceLeDiff, Nat.reduceBEq, Nat.reduceBNe, Int.reduceToNat, Int.reduceLE, Int.reduceLT, Int.reduceNe, Int.reduceNeg, reduceCtorEq, Int.reduceBEq, Int.reduceBNe, w2]
        · have hlt : few st w < 1000000 := by simpa using hc2
          have hwV : w = V := by
            by_cases h : w < V
            · have := few_no hst1 (n := w) (by omega) (a5 w hw1 h).2
              omega
            · omega
          subst hwV
          refine hE _ _ _ (by simp) ?_
          simp only [go_sem, Nat.reduceAdd, Nat.reduceSub, Nat.reduceMul, Nat.reduceEqDiff, Nat.reduceLT, Nat.reduceLeDiff, Nat.reduceBEq, Nat.reduceBNe, Int.reduceToNat, Int.reduceLE, Int.reduceLT, Int.reduceNe, Int.reduceNeg, reduceCtorEq, Int.reduceBEq, Int.reduceBNe, il_getD, il_length, hwl, hwi, hget, hfV]
          refine ev_loopS [2] (fun x : Nat × PV => [(9, .int .i64 (dot (st.drop x.1) (l.drop x.1))), (10, .int .i64 (sumL (l.drop x.1))), (11, x.2), (12, .int .i64 x.1)])
            (fun x H => x.1 ≤ st.length ∧ Opt (st.drop x.1) (dot (st.drop x.1) (l.drop x.1)) (l.drop x.1) ∧ (0 ≤ dot (st.drop x.1) (l.drop x.1) ∧ dot (st.drop x.1) (l.drop x.1) ≤ 21000) ∧ H (([], 32000000) : Key) = some (.cells (encB ⟨ps, ks, gr, fr, un, fe, st⟩) 1 false) ∧ Own H (fun K => K = ([], 32017003)) x.2 1 (il (l.take x.1)))
            (fun x => st.length - x.1) (0, .sl [] true) ?_ ⟨Nat.zero_le _, ?_, ?_, ?_, Own.nil⟩ ?_
          · simp only [go_sem, Nat.reduceAdd, Nat.reduceSub, Nat.reduceMul, Nat.reduceEqDiff, Nat.reduceLT, Nat.reduceLeDiff, Nat.reduceBEq, Nat.reduceBNe, Int.reduceToNat, Int.reduceLE, Int.reduceLT, Int.reduceNe, Int.reduceNeg, reduceCtorEq, Int.reduceBEq, Int.reduceBNe, List.drop_zero, a3.is.sum, Int.natCast_zero]
          · simp only [List.drop_zero, a3.is.sum]; exact a3
          · simp only [List.drop_zero, a3.is.sum]; omega
          · simp only [go_sem, Nat.reduceAdd, Nat.reduceSub, Nat.reduceMul, Nat.reduceEqDiff, Nat.reduceLT, Nat.reduceLeDiff, Nat.reduceBEq, Nat.reduceBNe, Int.reduceToNat, Int.reduceLE, Int.reduceLT, Int.reduceNe, Int.reduceNeg, reduceCtorEq, Int.reduceBEq, Int.reduceBNe, h1]
          · simp only [go_sem, Nat.reduceAdd, Nat.reduceSub, Nat.reduceMul, Nat.reduceEqDiff, Nat.reduceLT, Nat.reduceLeDiff, Nat.reduceBEq, Nat.reduceBNe, Int.reduceToNat, Int.reduceLE, Int.reduceLT, Int.reduceNe, Int.reduceNeg, reduceCtorEq, Int.reduceBEq, Int.reduceBNe]
            intro K x H ⟨hi, g1, g2, g3, g4⟩ hK hE
            obtain ⟨i, p⟩ := x
            simp only at hi g1 g2 g3 g4
            have g3' := g3
            simp only [encB] at g3'
            obtain ⟨t1, t2, t3, t4, t5⟩ := OwnTaint g4
            simp only [go_sem, Nat.reduceAdd, Nat.reduceSub, Nat.reduceMul, Nat.reduceEqDiff, Nat.reduceLT, Nat.reduceLeDiff, Nat.reduceBEq, Nat.reduceBNe, Int.reduceToNat, Int.reduceLE, Int.reduceLT, Int.reduceNe, Int.reduceNeg, reduceCtorEq, Int.reduceBEq, Int.reduceBNe, g3', il_length]
            rw [condK_bool]
            refine ⟨fun h => ?_, fun h => ?_⟩
            · have h' : i < st.length := by simpa using h
              have hii : (i : Int) < (st.length : Int) := by omega
              have hll : i < l.length := by rw [a3.is.len]; exact h'
              have w2 : IntKind.i64.wrap ((i : Int) + 1) = ((i + 1 : Nat) : Int) := by rw [Int.natCast_add, Int.natCast_one]; exact wrap_id (by omega)
              have es : st.drop i = st.getD i 0 :: st.drop (i + 1) := by rw [List.drop_eq_getElem_cons h']; simp [List.getD_eq_getElem?_getD, h']
              have el : l.drop i = l.getD i 0 :: l.drop (i + 1) := by rw [List.drop_eq_getElem_cons hll]; simp [List.getD_eq_getElem?_getD, hll]
              obtain ⟨left, hleft⟩ : ∃ left : Nat, dot (st.drop i) (l.drop i) = (left : Int) := ⟨(dot (st.drop i) (l.drop i)).toNat, by omega⟩
              rw [hleft] at g1 g2
              have hgr := greedy_step (w := st.getD i 0) (st := st.drop (i + 1)) (left := left) (a := l.getD i 0) (v := l.drop (i + 1)) (fun w hw => by rw [← es] at hw; exact hst1 w (List.mem_of_mem_drop hw)) (by omega) (by rw [← es, ← el]; exact g1)
              have hild : (il st).drop (i + 1) = il (st.drop (i + 1)) := by simp [il, List.map_drop]
              have hlT : (((i + 1 : Nat) : Int) ≤ (st.length : Int)) = True := eq_true (by omega)
              simp only [go_sem, Nat.reduceAdd, Nat.reduceSub, Nat.reduceMul, Nat.reduceEqDiff, Nat.reduceLT, Nat.reduceLeDiff, Nat.reduceBEq, Nat.reduceBNe, Int.reduceToNat, Int.reduceLE, Int.reduceLT, Int.reduceNe, Int.reduceNeg, reduceCtorEq, Int.reduceBEq, Int.reduceBNe, @callV_spec E16 73 s73 rfl, @callV_specT E16 73 s73 rfl, @stepV_spec E16 73 s73 rfl, @effV_spec E16 73 s73 rfl, s73, callSpec, g3', il_length, w2, hild, hleft, hlT]
              refine ⟨il_row st, ⟨fun w hw => hst w (List.mem_of_mem_drop hw), by rw [List.length_drop]; omega, by omega⟩, ?_⟩
              have hst2 : ∀ w ∈ st.drop (i + 1), 1 ≤ w := fun w hw => hst1 w (List.mem_of_mem_drop hw)
              have hsi := hst (st.getD i 0) (by simp [List.getD_eq_getElem?_getD, h'])
              obtain ⟨q1, q2, q3, q4, q5⟩ := hgr
              obtain ⟨a, haN⟩ : ∃ a : Nat, l.getD i 0 = (a : Int) := ⟨(l.getD i 0).toNat, by omega⟩
              rw [haN] at q2 q3 q4 q5 el
              have hsum : sumL (l.drop i) = (a : Int) + sumL (l.drop (i + 1)) := by rw [el]; rfl
              have hsum2 : sumL ((a : Int) :: l.drop (i + 1)) = sumL (l.drop i) := by rw [el]
              rw [hsum2] at q5
              have hv0 := sum_nonneg _ q4.is.pos
              have hvl : sumL (l.drop i) ≤ left := by
                have := sum_le_dot (st.drop i) (l.drop i) g1.is.len.symm (fun w hw => hst1 w (List.mem_of_mem_drop hw)) g1.is.pos
                rw [g1.is.sum] at this; exact this
              have hrl : (leastT (st.drop (i + 1)) left).length = left + 1 := leastT_len _ _
              refine ev_loopS [2, 9, 10, 11, 12, 13] (fun n : Nat => [(14, .int .i64 n)])
                (fun n H => n ≤ a ∧ H (([], 32000000) : Key) = some (.cells (encB ⟨ps, ks, gr, fr, un, fe, st⟩) 1 false) ∧ Own H (fun K => K = ([], 32017003)) p 1 (il (l.take i)))
                (fun n => a - n) 0 ?_ ⟨Nat.zero_le _, g3, g4⟩ ?_
              · simp only [go_sem, Nat.reduceAdd, Nat.reduceSub, Nat.reduceMul, Nat.reduceEqDiff, Nat.reduceLT, Nat.reduceLeDiff, Nat.reduceBEq, Nat.reduceBNe, Int.reduceToNat, Int.reduceLE, Int.reduceLT, Int.reduceNe, Int.reduceNeg, reduceCtorEq, Int.reduceBEq, Int.reduceBNe, Int.natCast_zero]
              · simp only [go_sem, Nat.reduceAdd, Nat.reduceSub, Nat.reduceMul, Nat.reduceEqDiff, Nat.reduceLT, Nat.reduceLeDiff, Nat.reduceBEq, Nat.reduceBNe, Int.reduceToNat, Int.reduceLE, Int.reduceLT, Int.reduceNe, Int.reduceNeg, reduceCtorEq, Int.reduceBEq, Int.reduceBNe]
                intro K2 n H2 ⟨hn, f1, f2⟩ hK2 hE2
                have f1' := f1
                simp only [encB] at f1'
                have hns : 0 ≤ (n : Int) * st.getD i 0 := Int.mul_nonneg (by omega) (by omega)
                have hna : (n : Int) * st.getD i 0 ≤ (a : Int) * st.getD i 0 := Int.mul_le_mul_of_nonneg_right (by omega) (by omega)
                obtain ⟨u, hu⟩ : ∃ u : Nat, (left : Int) - (n : Int) * st.getD i 0 = (u : Int) := ⟨((left : Int) - (n : Int) * st.getD i 0).toNat, by omega⟩
                have w3 : IntKind.i64.wrap ((n : Int) * st.getD i 0) = (n : Int) * st.getD i 0 := wrap_id (by omega)
                have w4 : IntKind.i64.wrap ((left : Int) - (n : Int) * st.getD i 0) = (u : Int) := by rw [hu]; exact wrap_id (by omega)
                have w5 : IntKind.i64.wrap (sumL (l.drop i) - (n : Int)) = sumL (l.drop i) - (n : Int) := wrap_id (by omega)
                have hul : u < (leastT (st.drop (i + 1)) left).length := by omega
                have hui : (u : Int) < ((leastT (st.drop (i + 1)) left).length : Int) := by omega
                have hget := leastT_get (st.drop (i + 1)) left u (by omega)
                simp only [go_sem, Nat.reduceAdd, Nat.reduceSub, Nat.reduceMul, Nat.reduceEqDiff, Nat.reduceLT, Nat.reduceLeDiff, Nat.reduceBEq, Nat.reduceBNe, Int.reduceToNat, Int.reduceLE, Int.reduceLT, Int.reduceNe, Int.reduceNeg, reduceCtorEq, Int.reduceBEq, Int.reduceBNe, f1', il_getD, il_length, h', hii, w3, w4, w5, hul, hui, hget]
                rw [condK_bool]
                refine ⟨fun hc => ?_, fun hc => ?_⟩
                · have hne2 : few (st.drop (i + 1)) u ≠ sumL (l.drop i) - (n : Int) := by simpa using hc
                  have hlt : n < a := by
                    by_cases h : n = a
                    · exfalso
                      subst h
                      rw [hu, Int.toNat_natCast] at q3
                      exact hne2 (by rw [q3, hsum]; omega)
                    · omega
                  have w6 : IntKind.i64.wrap ((n : Int) + 1) = ((n + 1 : Nat) : Int) := by rw [Int.natCast_add, Int.natCast_one]; exact wrap_id (by omega)
                  simp only [go_sem, Nat.reduceAdd, Nat.reduceSub, Nat.reduceMul, Nat.reduceEqDiff, Nat.reduceLT, Nat.reduceLeDiff, Nat.reduceBEq, Nat.reduceBNe, Int.reduceToNat, Int.reduceLE, Int.reduceLT, Int.reduceNe, Int.reduceNeg, reduceCtorEq, Int.reduceBEq, Int.reduceBNe]
                  refine hK2 (n + 1) _ _ ?_ ⟨hlt, f1, f2⟩ (by omega)
                  simp only [go_sem, Nat.reduceAdd, Nat.reduceSub, Nat.reduceMul, Nat.reduceEqDiff, Nat.reduceLT, Nat.reduceLeDiff, Nat.reduceBEq, Nat.reduceBNe, Int.reduceToNat, Int.reduceLE, Int.reduceLT, Int.reduceNe, Int.reduceNeg, reduceCtorEq, Int.reduceBEq, Int.reduceBNe, w6]
                · have heq : few (st.drop (i + 1)) u = sumL (l.drop i) - (n : Int) := by simpa using hc
                  have hna2 : n = a := by
                    by_cases h : n < a
                    · exfalso
                      have := (q5 n (by omega) (by omega)).2
                      rw [hu, Int.toNat_natCast] at this
                      exact this heq
                    · omega
                  subst hna2
                  refine hE2 _ _ _ (by simp) ?_
                  simp only [go_sem, Nat.reduceAdd, Nat.reduceSub, Nat.reduceMul, Nat.reduceEqDiff, Nat.reduceLT, Nat.reduceLeDiff, Nat.reduceBEq, Nat.reduceBNe, Int.reduceToNat, Int.reduceLE, Int.reduceLT, Int.reduceNe, Int.reduceNeg, reduceCtorEq, Int.reduceBEq, Int.reduceBNe, t1, t2, t3, t4, t5]
                  refine app_one (S := fun K => K = ([], 32017003)) trivial rfl rfl (by decide) (by decide) (set_at_eq _ _ _) (f2.frame fun K hK => ?_) rfl ?_ (il_row _) ⟨rfl, rfl⟩ fun p' H' hO hF => ?_
                  · subst hK; simp only [go_sem, Nat.reduceAdd, Nat.reduceSub, Nat.reduceMul, Nat.reduceEqDiff, Nat.reduceLT, Nat.reduceLeDiff, Nat.reduceBEq, Nat.reduceBNe, Int.reduceToNat, Int.reduceLE, Int.reduceLT, Int.reduceNe, Int.reduceNeg, reduceCtorEq, Int.reduceBEq, Int.reduceBNe]
                  · rw [il_length, List.length_take]; show (_ + 1) * 8 ≤ _; omega
                  have e6 := (hF ([], 32000000) (by simp)).trans (show _ = some (.cells (encB ⟨ps, ks, gr, fr, un, fe, st⟩) 1 false) by simp only [go_sem, Nat.reduceAdd, Nat.reduceSub, Nat.reduceMul, Nat.reduceEqDiff, Nat.reduceLT, Nat.reduceLeDiff, Nat.reduceBEq, Nat.reduceBNe, Int.reduceToNat, Int.reduceLE, Int.reduceLT, Int.reduceNe, Int.reduceNeg, reduceCtorEq, Int.reduceBEq, Int.reduceBNe, f1])
                  have e6' := e6
                  simp only [encB] at e6'
                  have htk : l.take (i + 1) = l.take i ++ [(n : Int)] := by
                    rw [List.take_succ_eq_append_getElem hll]
                    congr 2
                    rw [← haN]; simp [List.getD_eq_getElem?_getD, hll]
                  rw [show il (l.take i) ++ [[PV.int .i64 (n : Int)]] = il (l.take (i + 1)) by rw [htk, il_append']; rfl] at hO
                  obtain ⟨y1, y2, y3, y4, y5⟩ := OwnTaint hO
                  have hd2 : dot (st.drop (i + 1)) (l.drop (i + 1)) = (u : Int) := by rw [q4.is.sum, hu]
                  have hs2 : sumL (l.drop (i + 1)) = sumL (l.drop i) - (n : Int) := by rw [hsum]; omega
                  simp only [go_sem, Nat.reduceAdd, Nat.reduceSub, Nat.reduceMul, Nat.reduceEqDiff, Nat.reduceLT, Nat.reduceLeDiff, Nat.reduceBEq, Nat.reduceBNe, Int.reduceToNat, Int.reduceLE, Int.reduceLT, Int.reduceNe, Int.reduceNeg, reduceCtorEq, Int.reduceBEq, Int.reduceBNe, e6', h', hii, il_getD, il_length, y1, y2, y3, y4, y5, w3, w4, w5]
                  refine hK (i + 1, p') _ _ ?_ ⟨h', by simp only; rw [q4.is.sum]; exact q4, by simp only; omega, ?_, ?_⟩ (by simp only; omega)
                  · simp only [go_sem, Nat.reduceAdd, Nat.reduceSub, Nat.reduceMul, Nat.reduceEqDiff, Nat.reduceLT, Nat.reduceLeDiff, Nat.reduceBEq, Nat.reduceBNe, Int.reduceToNat, Int.reduceLE, Int.reduceLT, Int.reduceNe, Int.reduceNeg, reduceCtorEq, Int.reduceBEq, Int.reduceBNe, w2, hd2, hs2]
                  · simp only [go_sem, Nat.reduceAdd, Nat.reduceSub, Nat.reduceMul, Nat.reduceEqDiff, Nat.reduceLT, Nat.reduceLeDiff, Nat.reduceBEq, Nat.reduceBNe, Int.reduceToNat, Int.reduceLE, Int.reduceLT, Int.reduceNe, Int.reduceNeg, reduceCtorEq, Int.reduceBEq, Int.reduceBNe, e6]
                  · exact hO.frame fun K hK => by subst hK; simp only [go_sem, Nat.reduceAdd, Nat.reduceSub, Nat.reduceMul, Nat.reduceEqDiff, Nat.reduceLT, Nat.reduceLeDiff, Nat.reduceBEq, Nat.reduceBNe, Int.reduceToNat, Int.reduceLE, Int.reduceLT, Int.reduceNe, Int.reduceNeg, reduceCtorEq, Int.reduceBEq, Int.reduceBNe]
            · have hil : i = st.length := by simp only [decide_eq_false_iff_not] at h; omega
              subst hil
              refine hE _ _ _ (by simp) ?_
              rw [← a3.is.len, List.take_length] at g4
              simp only [go_sem, Nat.reduceAdd, Nat.reduceSub, Nat.reduceMul, Nat.reduceEqDiff, Nat.reduceLT, Nat.reduceLeDiff, Nat.reduceBEq, Nat.reduceBNe, Int.reduceToNat, Int.reduceLE, Int.reduceLT, Int.reduceNe, Int.reduceNeg, reduceCtorEq, Int.reduceBEq, Int.reduceBNe, t1, t2, t3, t4, t5]
              rcases g4 with ⟨e1, rfl⟩ | ⟨K0, v0, _, rfl, hH⟩
              · rw [e1]; exact ⟨⟨trivial, fun h => by cases h⟩, rfl, trivial⟩
              · simp only [Wb.frz, Prg.wp, hH]
                exact ⟨fun _ => by simp, ⟨wkR_refl _, fun h => h⟩, rfl, trivial⟩
def s32 : Spec := spec2 (fun (b : PBook) (_ : Int) => Big4 b) (fun b c => .tup [.sl (il (stampO b c).1) false, .int .i64 (stampO b c).2])
theorem s32_ok : SpecOK Tryd.prog glB 32 s32 := spec2_ok E16_ok Tryd.func32 rfl (by kernel_rfl) fun b c h => rStamp_fn b h c
end Wb
/- ParcelStamps. -/
namespace Wb
open Go Go.Proofs Enc Row
set_option linter.unusedSimpArgs false
set_option linter.unusedVariables false
set_option maxRecDepth 20000
set_option maxHeartbeats 4000000
noncomputable def E17t : List (Nat × Spec) := [(32, s32)] ++ E16t
theorem E17t_ok : AllOK E17t := ⟨⟨s32_ok, Tryd.call32⟩, E16t_ok⟩
noncomputable def E17 : Env := mkE E17t []
theorem E17_ok : EnvOK Tryd.prog E17 := envOK E17t_ok trivial
theorem E17_ti {t : Nat} : E17.ti t = ti t := rfl
theorem E17_q0 : (E17).eqt 130 = true := rfl
theorem E17_q1 : (E17).keyt 3 = true := rfl
theorem E17_q2 : (E17).keyt 85 = true := rfl
attribute [go_sem] E17_ti E17_q0 E17_q1 E17_q2
theorem stampO_len (b : PBook) (c : Int) : big (stampO b c).1.length = True := eq_true (by
  unfold stampO
  cases hb : bookOk b with
  | false => simp [big]
  | true =>
    have hG := book_good hb
    have s5 := hG.s5
    have h : (stampM b.stamps c.toNat).length ≤ b.stamps.length := by unfold stampM; exact List.length_take_le _ _
    simp only [if_true]
    split
    · unfold big; simp only; omega
    · simp [big])
theorem stamps_law (b : PBook) (h4 : Big4 b) (c : Int) : Fn E17 0 5 Tryd.f5 (Tryd.f5.body.getD .skip) [.agg (encB b), .int .i64 c] (.bool true) := by
  have hdb : (dec (.agg (encB b)) : Option PBook) = some b := dec_book b
  have hbl := stampO_len b c
  unfold Fn Tryd.f5
  generalize hl : stampO b c = l at *
  obtain ⟨l1, l2⟩ := l
  obtain ⟨ps, ks, gr, fr, un, fe, st⟩ := b
  simp only [encB] at hdb
  simp only at hbl
  simp only [go_sem, Nat.reduceAdd, Nat.reduceSub, Nat.reduceMul, Nat.reduceEqDiff, Nat.reduceLT, Nat.reduceLeDiff, Nat.reduceBEq, Nat.reduceBNe, Int.reduceToNat, Int.reduceLE, Int.reduceLT, Int.reduceNe, Int.reduceNeg, reduceCtorEq, Int.reduceBEq, Int.reduceBNe, @callV_spec E17 31 s31 rfl, @callV_specT E17 31 s31 rfl, @stepV_spec E17 31 s31 rfl, @effV_spec E17 31 s31 rfl, s31, @callV_spec E17 32 s32 rfl, @callV_specT E17 32 s32 rfl, @stepV_spec E17 32 s32 rfl, @effV_spec E17 32 s32 rfl, s32, @callV_spec E17 22 s22 rfl, @callV_specT E17 22 s22 rfl, @stepV_spec E17 22 s22 rfl, @effV_spec E17 22 s22 rfl, s22, @callV_spec E17 23 s23 rfl, @callV_specT E17 23 s23 rfl, @stepV_spec E17 23 s23 rfl, @effV_spec E17 23 s23 rfl, s23, encB, callSpec, hdb, h4, hl, hbl, beq_self_eq_true]
end Wb
