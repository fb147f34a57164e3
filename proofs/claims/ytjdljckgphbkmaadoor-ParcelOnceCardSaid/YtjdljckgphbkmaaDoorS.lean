import Derived.Test.YtjdljckgphbkmaaDoorN
set_option linter.unusedVariables false
set_option linter.unusedSimpArgs false
/- The reference's isParcel. -/
namespace Wb
open Go Go.Proofs Enc Row
set_option linter.unusedSimpArgs false
set_option linter.unusedVariables false
set_option maxRecDepth 20000
set_option maxHeartbeats 4000000
theorem parcOk_eq (b : PBook) (q : Parc) : parcOk b q = ((decide (0 ≤ q.kind) && decide (q.kind ≤ (b.kinds.length : Int) - 1)) && decide ((q.pieces.length : Int) > 0) && climbsF b.pieces.length (-1) q.pieces) := by
  unfold parcOk loadM
  have e : decide ((q.pieces.length : Int) > 0) = decide (q.pieces ≠ []) := by
    cases q.pieces with
    | nil => rfl
    | cons a l => simp <;> omega
  rw [e]
  cases climbsF b.pieces.length (-1) q.pieces <;> simp
theorem isParcel_fn (b : PBook) (h4 : Big4 b) (q : Parc) (hq : big q.pieces.length) : Fn E17 0 58 Tryd.f58 (Tryd.f58.body.getD .skip) [.agg (encB b), .agg (encQ q)] (.bool (parcOk b q)) := by
  rw [parcOk_eq]
  unfold Fn Tryd.f58
  obtain ⟨k, pieces⟩ := q
  have hkb := h4.k
  obtain ⟨ps, ks, gr, fr, un, fe, st⟩ := b
  simp only at hq hkb
  have wk1 : IntKind.i64.wrap ((ks.length : Int) - 1) = (ks.length : Int) - 1 := wrap_id (by unfold big at hkb; omega)
  simp only [go_sem, Nat.reduceAdd, Nat.reduceSub, Nat.reduceMul, Nat.reduceEqDiff, Nat.reduceLT, Nat.reduceLeDiff, Nat.reduceBEq, Nat.reduceBNe, Int.reduceToNat, Int.reduceLE, Int.reduceLT, Int.reduceNe, Int.reduceNeg, reduceCtorEq, Int.reduceBEq, Int.reduceBNe, @callV_spec E17 41 sTween rfl, @callV_specT E17 41 sTween rfl, @stepV_spec E17 41 sTween rfl, @effV_spec E17 41 sTween rfl, sTween, @callV_spec E17 37 s37 rfl, @callV_specT E17 37 s37 rfl, @stepV_spec E17 37 s37 rfl, @effV_spec E17 37 s37 rfl, s37, encB, encQ, callSpec, il_length, hq, wk1, List.length_map]
def s58 : Spec := spec2 (fun (b : PBook) (q : Parc) => Big4 b ∧ big q.pieces.length) (fun b q => .bool (parcOk b q))
theorem s58_ok : SpecOK Tryd.prog glB 58 s58 := spec2_ok E17_ok Tryd.func58 rfl (by kernel_rfl) fun b q h => isParcel_fn b h.1 q h.2
end Wb
/- The reference's fits. -/
namespace Wb
open Go Go.Proofs Enc Row
set_option linter.unusedSimpArgs false
set_option linter.unusedVariables false
set_option maxRecDepth 20000
set_option maxHeartbeats 4000000
def anyAlone (b : PBook) (l : List Int) : Bool := l.any fun k => (pieceAt b k).alone
theorem takes_any {b : PBook} {k : Int} {l : List Int} (hne : l ≠ []) : takesM b k l = (decide (sumP b .size l ≤ (b.kinds.getD k.toNat default).room) && decide (sumP b .weight l ≤ (b.kinds.getD k.toNat default).most) && (!anyAlone b l || ((l.length : Int) == 1))) := by
  have key : ∀ m : List Int, m.any (lonely b l) = (m.any (fun k => (pieceAt b k).alone) && decide ((l.length : Int) > 1)) := by
    intro m
    induction m with
    | nil => rfl
    | cons a m ih =>
      rw [List.any_cons, List.any_cons, ih]
      unfold lonely
      cases (pieceAt b a).alone <;> cases m.any (fun k => (pieceAt b k).alone) <;> simp
  have hl : 0 < l.length := List.length_pos_iff.2 hne
  have e : ((l.length : Int) == 1) = !decide ((l.length : Int) > 1) := by
    by_cases h : (l.length : Int) > 1
    · rw [decide_eq_true h]; simp; omega
    · rw [decide_eq_false h]; simp; omega
  unfold takesM anyAlone
  rw [key, e]
  cases l.any (fun k => (pieceAt b k).alone) <;> cases decide ((l.length : Int) > 1) <;> simp
theorem rfits_fn (b : PBook) (hG : GBook b) (k : Int) (hk : 0 ≤ k ∧ k < b.kinds.length) (l : List Int) (hl : inP b l) (hn : l.length ≤ 1000) (hne : l ≠ []) : Fn E17 0 59 Tryd.f59 (Tryd.f59.body.getD .skip) [.agg (encB b), .agg (encQ ⟨k, l⟩)] (.bool (takesM b k l)) := by
  obtain ⟨kn, hkn⟩ : ∃ kn : Nat, k = (kn : Int) := ⟨k.toNat, by omega⟩
  subst hkn
  have hk' : kn < b.kinds.length := by omega
  unfold Fn Tryd.f59
  rw [takes_any hne, Int.toNat_natCast]
  obtain ⟨ps, ks, gr, fr, un, fe, st⟩ := b
  simp only at hk'
  simp only [go_sem, Nat.reduceAdd, Nat.reduceSub, Nat.reduceMul, Nat.reduceEqDiff, Nat.reduceLT, Nat.reduceLeDiff, Nat.reduceBEq, Nat.reduceBNe, Int.reduceToNat, Int.reduceLE, Int.reduceLT, Int.reduceNe, Int.reduceNeg, reduceCtorEq, Int.reduceBEq, Int.reduceBNe, encB, encQ]
  refine ev_loopS [2, 3] (fun j : Nat => [(5, .int .i64 (sumP ⟨ps, ks, gr, fr, un, fe, st⟩ .size (l.take j))), (6, .int .i64 (sumP ⟨ps, ks, gr, fr, un, fe, st⟩ .weight (l.take j))), (7, .bool (anyAlone ⟨ps, ks, gr, fr, un, fe, st⟩ (l.take j))), (8, .int .i64 j)])
    (fun j H => j ≤ l.length ∧ H (([], 59000000) : Key) = some (.cells (encB ⟨ps, ks, gr, fr, un, fe, st⟩) 1 false) ∧ H (([], 59000001) : Key) = some (.cells [.int .i64 kn, .sl (il l) false] 1 false))
    (fun j => l.length - j) 0 ?_ ⟨Nat.zero_le _, ?_, ?_⟩ ?_
  · simp only [go_sem, Nat.reduceAdd, Nat.reduceSub, Nat.reduceMul, Nat.reduceEqDiff, Nat.reduceLT, Nat.reduceLeDiff, Nat.reduceBEq, Nat.reduceBNe, Int.reduceToNat, Int.reduceLE, Int.reduceLT, Int.reduceNe, Int.reduceNeg, reduceCtorEq, Int.reduceBEq, Int.reduceBNe]
    exact ⟨rfl, rfl, rfl⟩
  · simp only [go_sem, Nat.reduceAdd, Nat.reduceSub, Nat.reduceMul, Nat.reduceEqDiff, Nat.reduceLT, Nat.reduceLeDiff, Nat.reduceBEq, Nat.reduceBNe, Int.reduceToNat, Int.reduceLE, Int.reduceLT, Int.reduceNe, Int.reduceNeg, reduceCtorEq, Int.reduceBEq, Int.reduceBNe, encB]
  · simp only [go_sem, Nat.reduceAdd, Nat.reduceSub, Nat.reduceMul, Nat.reduceEqDiff, Nat.reduceLT, Nat.reduceLeDiff, Nat.reduceBEq, Nat.reduceBNe, Int.reduceToNat, Int.reduceLE, Int.reduceLT, Int.reduceNe, Int.reduceNeg, reduceCtorEq, Int.reduceBEq, Int.reduceBNe]
  · simp only [go_sem, Nat.reduceAdd, Nat.reduceSub, Nat.reduceMul, Nat.reduceEqDiff, Nat.reduceLT, Nat.reduceLeDiff, Nat.reduceBEq, Nat.reduceBNe, Int.reduceToNat, Int.reduceLE, Int.reduceLT, Int.reduceNe, Int.reduceNeg, reduceCtorEq, Int.reduceBEq, Int.reduceBNe]
    intro K j H ⟨hj, h1, h2⟩ hK hE
    have h1' := h1
    simp only [encB] at h1'
    simp only [go_sem, Nat.reduceAdd, Nat.reduceSub, Nat.reduceMul, Nat.reduceEqDiff, Nat.reduceLT, Nat.reduceLeDiff, Nat.reduceBEq, Nat.reduceBNe, Int.reduceToNat, Int.reduceLE, Int.reduceLT, Int.reduceNe, Int.reduceNeg, reduceCtorEq, Int.reduceBEq, Int.reduceBNe, h2, il_length]
    rw [condK_bool]
    refine ⟨fun h => ?_, fun h => ?_⟩
    · have h' : j < l.length := by simpa using h
      have hjj : (j : Int) < (l.length : Int) := by omega
      have w2 : IntKind.i64.wrap ((j : Int) + 1) = ((j + 1 : Nat) : Int) := by rw [Int.natCast_add, Int.natCast_one]; exact wrap_id (by omega)
      have hm : l.getD j 0 ∈ l := by simp [List.getD_eq_getElem?_getD, h']
      have hp := hl _ hm
      obtain ⟨q, hq⟩ : ∃ q : Nat, l.getD j 0 = (q : Int) := ⟨(l.getD j 0).toNat, by omega⟩
      simp only at hp
      have hqp : q < ps.length := by omega
      have hqi : (q : Int) < (ps.length : Int) := by omega
      have hy : ps.getD q default = pieceAt ⟨ps, ks, gr, fr, un, fe, st⟩ (q : Int) := rfl
      have t1 := sumP_take ⟨ps, ks, gr, fr, un, fe, st⟩ .size h'
      have t2 := sumP_take ⟨ps, ks, gr, fr, un, fe, st⟩ .weight h'
      have hany := any_take (fun k => (pieceAt ⟨ps, ks, gr, fr, un, fe, st⟩ k).alone) h'
      have b1 := sumP_le hG .size (inP_take hl (j + 1))
      have b2 := sumP_le hG .weight (inP_take hl (j + 1))
      have hlt := List.length_take_le (j + 1) l
      rw [hq] at t1 t2 hany
      have hany : anyAlone ⟨ps, ks, gr, fr, un, fe, st⟩ (l.take (j + 1)) = (anyAlone ⟨ps, ks, gr, fr, un, fe, st⟩ (l.take j) || (pieceAt ⟨ps, ks, gr, fr, un, fe, st⟩ (q : Int)).alone) := hany
      generalize hyy : pieceAt ⟨ps, ks, gr, fr, un, fe, st⟩ (q : Int) = y at *
      have w3 : IntKind.i64.wrap (sumP ⟨ps, ks, gr, fr, un, fe, st⟩ .size (l.take j) + y.size) = sumP ⟨ps, ks, gr, fr, un, fe, st⟩ .size (l.take (j + 1)) := by
        rw [t1]; exact wrap_id (show _ ∧ _ by simp only [What.of] at *; omega)
      have w4 : IntKind.i64.wrap (sumP ⟨ps, ks, gr, fr, un, fe, st⟩ .weight (l.take j) + y.weight) = sumP ⟨ps, ks, gr, fr, un, fe, st⟩ .weight (l.take (j + 1)) := by
        rw [t2]; exact wrap_id (show _ ∧ _ by simp only [What.of] at *; omega)
      simp only [go_sem, Nat.reduceAdd, Nat.reduceSub, Nat.reduceMul, Nat.reduceEqDiff, Nat.reduceLT, Nat.reduceLeDiff, Nat.reduceBEq, Nat.reduceBNe, Int.reduceToNat, Int.reduceLE, Int.reduceLT, Int.reduceNe, Int.reduceNeg, reduceCtorEq, Int.reduceBEq, Int.reduceBNe, h1', h2, h', hjj, il_getD, il_length, hq, hqp, hqi, getD_mapN encP ps q _ hqp, hy, encP, List.length_map]
      refine hK (j + 1) _ _ ?_ ⟨h', ?_, ?_⟩ (by omega)
      · simp only [go_sem, Nat.reduceAdd, Nat.reduceSub, Nat.reduceMul, Nat.reduceEqDiff, Nat.reduceLT, Nat.reduceLeDiff, Nat.reduceBEq, Nat.reduceBNe, Int.reduceToNat, Int.reduceLE, Int.reduceLT, Int.reduceNe, Int.reduceNeg, reduceCtorEq, Int.reduceBEq, Int.reduceBNe, w2, w3, w4, hany, il_length]
      · simp only [go_sem, Nat.reduceAdd, Nat.reduceSub, Nat.reduceMul, Nat.reduceEqDiff, Nat.reduceLT, Nat.reduceLeDiff, Nat.reduceBEq, Nat.reduceBNe, Int.reduceToNat, Int.reduceLE, Int.reduceLT, Int.reduceNe, Int.reduceNeg, reduceCtorEq, Int.reduceBEq, Int.reduceBNe, h1]
      · simp only [go_sem, Nat.reduceAdd, Nat.reduceSub, Nat.reduceMul, Nat.reduceEqDiff, Nat.reduceLT, Nat.reduceLeDiff, Nat.reduceBEq, Nat.reduceBNe, Int.reduceToNat, Int.reduceLE, Int.reduceLT, Int.reduceNe, Int.reduceNeg, reduceCtorEq, Int.reduceBEq, Int.reduceBNe, h2]
    · have hjl : j = l.length := by simp only [decide_eq_false_iff_not] at h; omega
      subst hjl
      have hki : (kn : Int) < (ks.length : Int) := by omega
      generalize hyy : ks.getD kn default = y at *
      refine hE _ _ _ (by simp) ?_
      simp only [go_sem, Nat.reduceAdd, Nat.reduceSub, Nat.reduceMul, Nat.reduceEqDiff, Nat.reduceLT, Nat.reduceLeDiff, Nat.reduceBEq, Nat.reduceBNe, Int.reduceToNat, Int.reduceLE, Int.reduceLT, Int.reduceNe, Int.reduceNeg, reduceCtorEq, Int.reduceBEq, Int.reduceBNe, h1', h2, hk', hki, getD_mapN encK ks kn _ hk', hyy, encK, List.take_length, List.length_map, il_length]
      exact fun a b => ⟨a, b⟩
def okRef (b : PBook) (q : Parc) : Prop := GBook b ∧ (0 ≤ q.kind ∧ q.kind < b.kinds.length) ∧ inP b q.pieces ∧ q.pieces.length ≤ 1000 ∧ q.pieces ≠ []
def s59 : Spec := spec2 (fun (b : PBook) (q : Parc) => okRef b q) (fun b q => .bool (takesM b q.kind q.pieces))
theorem s59_ok : SpecOK Tryd.prog glB 59 s59 := spec2_ok E17_ok Tryd.func59 rfl (by kernel_rfl) fun b q h => rfits_fn b h.1 q.kind h.2.1 q.pieces h.2.2.1 h.2.2.2.1 h.2.2.2.2
end Wb
/- The reference's postage. -/
namespace Wb
open Go Go.Proofs Enc Row
set_option linter.unusedSimpArgs false
set_option linter.unusedVariables false
set_option maxRecDepth 20000
set_option maxHeartbeats 4000000
theorem over_ceil {n m : Int} (hm : 1 ≤ m) : overF n m = (n + m - 1) / m := by
  unfold overF
  have h1 := Int.emod_add_mul_ediv (-n) m
  have h2 := Int.emod_nonneg (-n) (show m ≠ 0 by omega)
  have h3 := Int.emod_lt_of_pos (-n) (show 0 < m by omega)
  generalize -n / m = e at *
  have h4 : n + m - 1 = (m - 1 - (-n) % m) + m * (-e) := by rw [Int.mul_neg]; omega
  rw [h4, Int.add_mul_ediv_left _ _ (by omega), Int.ediv_eq_zero_of_lt (by omega) (by omega)]
  omega
theorem rpost_fn (b : PBook) (hG : GBook b) (k : Int) (hk : 0 ≤ k ∧ k < b.kinds.length) (l : List Int) (hl : inP b l) (hn : l.length ≤ 1000) (h0 : 1 ≤ sumP b .weight l) (z : Int) (hz : 0 ≤ z ∧ z ≤ 4) :
    Fn E17 0 63 Tryd.f63 (Tryd.f63.body.getD .skip) [.agg (encB b), .agg (encQ ⟨k, l⟩), .int .i64 z] (.int .i64 (costsM b k l z)) := by
  obtain ⟨kn, hkn⟩ : ∃ kn : Nat, k = (kn : Int) := ⟨k.toNat, by omega⟩
  subst hkn
  obtain ⟨zn, hzn⟩ : ∃ zn : Nat, z = (zn : Int) := ⟨z.toNat, by omega⟩
  subst hzn
  have hk' : kn < b.kinds.length := by omega
  have hkm : b.kinds.getD kn default ∈ b.kinds := by simp [List.getD_eq_getElem?_getD, hk']
  obtain ⟨g1, g2, g3, g4, g5⟩ := hG.ks _ hkm
  have hgr := hG.grams
  have hfr := hG.free
  have hun := hG.unit
  have hfe := hG.fee
  have hpr := zone_le hG hk' hz
  have hW := sumP_le hG .weight hl
  have hV := sumP_le hG .worth hl
  have hdb : (dec (.agg (encB b)) : Option PBook) = some b := dec_book b
  unfold Fn Tryd.f63 costsM
  rw [Int.toNat_natCast]
  generalize hW' : sumP b .weight l = W at *
  generalize hV' : sumP b .worth l = V at *
  obtain ⟨ps, ks, gr, fr, un, fe, st⟩ := b
  simp only [encB] at hdb
  simp only at hk' hgr hfr hun hfe g3
  have hki : (kn : Int) < (ks.length : Int) := by omega
  have hpz : (ks.getD kn default).zones.getD zn 0 = priceB ⟨ps, ks, gr, fr, un, fe, st⟩ zn kn := rfl
  have hst : stepsM ⟨ps, ks, gr, fr, un, fe, st⟩ kn W = (ks.getD kn default).step * (overF W gr - 1) := by unfold stepsM; rw [over_ceil (by omega)]
  have hov := over_ok (n := W) (m := gr) (by omega) (by omega)
  rw [hst]
  generalize hyy : ks.getD kn default = y at *
  have hzl : zn < y.zones.length := by omega
  have hzi : (zn : Int) < (y.zones.length : Int) := by omega
  generalize hP : priceB ⟨ps, ks, gr, fr, un, fe, st⟩ zn kn = P at *
  simp only [go_sem, Nat.reduceAdd, Nat.reduceSub, Nat.reduceMul, Nat.reduceEqDiff, Nat.reduceLT, Nat.reduceLeDiff, Nat.reduceBEq, Nat.reduceBNe, Int.reduceToNat, Int.reduceLE, Int.reduceLT, Int.reduceNe, Int.reduceNeg, reduceCtorEq, Int.reduceBEq, Int.reduceBNe, encB, encQ]
  refine ev_loopS [2, 3, 4] (fun j : Nat => [(7, .int .i64 (sumP ⟨ps, ks, gr, fr, un, fe, st⟩ .weight (l.take j))), (8, .int .i64 j)])
    (fun j H => j ≤ l.length ∧ H (([], 63000000) : Key) = some (.cells (encB ⟨ps, ks, gr, fr, un, fe, st⟩) 1 false) ∧ H (([], 63000001) : Key) = some (.cells [.int .i64 kn, .sl (il l) false] 1 false))
    (fun j => l.length - j) 0 ?_ ⟨Nat.zero_le _, ?_, ?_⟩ ?_
  · simp only [go_sem, Nat.reduceAdd, Nat.reduceSub, Nat.reduceMul, Nat.reduceEqDiff, Nat.reduceLT, Nat.reduceLeDiff, Nat.reduceBEq, Nat.reduceBNe, Int.reduceToNat, Int.reduceLE, Int.reduceLT, Int.reduceNe, Int.reduceNeg, reduceCtorEq, Int.reduceBEq, Int.reduceBNe]
    rfl
  · simp only [go_sem, Nat.reduceAdd, Nat.reduceSub, Nat.reduceMul, Nat.reduceEqDiff, Nat.reduceLT, Nat.reduceLeDiff, Nat.reduceBEq, Nat.reduceBNe, Int.reduceToNat, Int.reduceLE, Int.reduceLT, Int.reduceNe, Int.reduceNeg, reduceCtorEq, Int.reduceBEq, Int.reduceBNe, encB]
  · simp only [go_sem, Nat.reduceAdd, Nat.reduceSub, Nat.reduceMul, Nat.reduceEqDiff, Nat.reduceLT, Nat.reduceLeDiff, Nat.reduceBEq, Nat.reduceBNe, Int.reduceToNat, Int.reduceLE, Int.reduceLT, Int.reduceNe, Int.reduceNeg, reduceCtorEq, Int.reduceBEq, Int.reduceBNe]
  · simp only [go_sem, Nat.reduceAdd, Nat.reduceSub, Nat.reduceMul, Nat.reduceEqDiff, Nat.reduceLT, Nat.reduceLeDiff, Nat.reduceBEq, Nat.reduceBNe, Int.reduceToNat, Int.reduceLE, Int.reduceLT, Int.reduceNe, Int.reduceNeg, reduceCtorEq, Int.reduceBEq, Int.reduceBNe]
    intro K j H ⟨hj, h1, h2⟩ hK hE
    have h1' := h1
    simp only [encB] at h1'
    simp only [go_sem, Nat.reduceAdd, Nat.reduceSub, Nat.reduceMul, Nat.reduceEqDiff, Nat.reduceLT, Nat.reduceLeDiff, Nat.reduceBEq, Nat.reduceBNe, Int.reduceToNat, Int.reduceLE, Int.reduceLT, Int.reduceNe, Int.reduceNeg, reduceCtorEq, Int.reduceBEq, Int.reduceBNe, h2, il_length]
    rw [condK_bool]
    refine ⟨fun h => ?_, fun h => ?_⟩
    · have h' : j < l.length := by simpa using h
      have hjj : (j : Int) < (l.length : Int) := by omega
      have w2 : IntKind.i64.wrap ((j : Int) + 1) = ((j + 1 : Nat) : Int) := by rw [Int.natCast_add, Int.natCast_one]; exact wrap_id (by omega)
      have hm : l.getD j 0 ∈ l := by simp [List.getD_eq_getElem?_getD, h']
      have hp := hl _ hm
      obtain ⟨q, hq⟩ : ∃ q : Nat, l.getD j 0 = (q : Int) := ⟨(l.getD j 0).toNat, by omega⟩
      simp only at hp
      have hqp : q < ps.length := by omega
      have hqi : (q : Int) < (ps.length : Int) := by omega
      have hy : ps.getD q default = pieceAt ⟨ps, ks, gr, fr, un, fe, st⟩ (q : Int) := rfl
      have t2 := sumP_take ⟨ps, ks, gr, fr, un, fe, st⟩ .weight h'
      have b2 := sumP_le hG .weight (inP_take hl (j + 1))
      have hlt := List.length_take_le (j + 1) l
      rw [hq] at t2
      generalize hxx : pieceAt ⟨ps, ks, gr, fr, un, fe, st⟩ (q : Int) = x at *
      have w4 : IntKind.i64.wrap (sumP ⟨ps, ks, gr, fr, un, fe, st⟩ .weight (l.take j) + x.weight) = sumP ⟨ps, ks, gr, fr, un, fe, st⟩ .weight (l.take (j + 1)) := by
        rw [t2]; exact wrap_id (show _ ∧ _ by simp only [What.of] at *; omega)
      simp only [go_sem, Nat.reduceAdd, Nat.reduceSub, Nat.reduceMul, Nat.reduceEqDiff, Nat.reduceLT, Nat.reduceLeDiff, Nat.reduceBEq, Nat.reduceBNe, Int.reduceToNat, Int.reduceLE, Int.reduceLT, Int.reduceNe, Int.reduceNeg, reduceCtorEq, Int.reduceBEq, Int.reduceBNe, h1', h2, h', hjj, il_getD, il_length, hq, hqp, hqi, getD_mapN encP ps q _ hqp, hy, encP, List.length_map]
      refine hK (j + 1) _ _ ?_ ⟨h', ?_, ?_⟩ (by omega)
      · simp only [go_sem, Nat.reduceAdd, Nat.reduceSub, Nat.reduceMul, Nat.reduceEqDiff, Nat.reduceLT, Nat.reduceLeDiff, Nat.reduceBEq, Nat.reduceBNe, Int.reduceToNat, Int.reduceLE, Int.reduceLT, Int.reduceNe, Int.reduceNeg, reduceCtorEq, Int.reduceBEq, Int.reduceBNe, w2, w4, il_length]
      · simp only [go_sem, Nat.reduceAdd, Nat.reduceSub, Nat.reduceMul, Nat.reduceEqDiff, Nat.reduceLT, Nat.reduceLeDiff, Nat.reduceBEq, Nat.reduceBNe, Int.reduceToNat, Int.reduceLE, Int.reduceLT, Int.reduceNe, Int.reduceNeg, reduceCtorEq, Int.reduceBEq, Int.reduceBNe, h1]
      · simp only [go_sem, Nat.reduceAdd, Nat.reduceSub, Nat.reduceMul, Nat.reduceEqDiff, Nat.reduceLT, Nat.reduceLeDiff, Nat.reduceBEq, Nat.reduceBNe, Int.reduceToNat, Int.reduceLE, Int.reduceLT, Int.reduceNe, Int.reduceNeg, reduceCtorEq, Int.reduceBEq, Int.reduceBNe, h2]
    · have hjl : j = l.length := by simp only [decide_eq_false_iff_not] at h; omega
      subst hjl
      refine hE _ _ _ (by simp) ?_
      have hsm : (small W ∧ 1 ≤ gr ∧ gr ≤ 4611686018427387904) = True := eq_true ⟨by unfold small; omega, by omega, by omega⟩
      obtain ⟨o, hoE⟩ : ∃ o, overF W gr = o := ⟨_, rfl⟩
      rw [hoE] at hov hst
      have ho1 := Int.mul_le_mul_of_nonneg_right (a := 1) (b := gr) (c := o) (by omega) hov.1
      have ho2 : 1 ≤ o := by
        by_cases h : o = 0
        · subst h; omega
        · omega
      have m1 := Int.mul_le_mul_of_nonneg_right (a := y.step) (b := 1000) (c := o - 1) (by omega) (by omega)
      have m0 := Int.mul_nonneg (a := y.step) (b := o - 1) (by omega) (by omega)
      have w5 : IntKind.i64.wrap (o - 1) = o - 1 := wrap_id (by omega)
      have w6 : IntKind.i64.wrap (y.step * (o - 1)) = y.step * (o - 1) := wrap_id (by omega)
      have w7 : IntKind.i64.wrap (P + y.step * (o - 1)) = P + y.step * (o - 1) := wrap_id (by omega)
      generalize hP2 : P + y.step * (o - 1) = P2 at *
      have hP2b : 0 ≤ P2 ∧ P2 ≤ 20000000000 := by omega
      simp only [go_sem, Nat.reduceAdd, Nat.reduceSub, Nat.reduceMul, Nat.reduceEqDiff, Nat.reduceLT, Nat.reduceLeDiff, Nat.reduceBEq, Nat.reduceBNe, Int.reduceToNat, Int.reduceLE, Int.reduceLT, Int.reduceNe, Int.reduceNeg, reduceCtorEq, Int.reduceBEq, Int.reduceBNe, @callV_spec E17 49 s49 rfl, @callV_specT E17 49 s49 rfl, @stepV_spec E17 49 s49 rfl, @effV_spec E17 49 s49 rfl, s49, @callV_spec E17 78 s78 rfl, @callV_specT E17 78 s78 rfl, @stepV_spec E17 78 s78 rfl, @effV_spec E17 78 s78 rfl, s78, callSpec, h1', h2, hk', hki, getD_mapN encK ks kn _ hk', hyy, encK, hzl, hzi, hpz, il_getD, il_length, List.take_length, List.length_map, hW', hsm, w5, w6, hP2, w7, hV', hoE]
      refine ⟨⟨hG, hl, hn⟩, ?_⟩
      rw [condK_bool]
      refine ⟨fun hc => ?_, fun hc => ?_⟩
      · have hgt : V > fr := by simpa using hc
        have hov2 := over_ok (n := V - fr) (m := un) (by omega) (by omega)
        have hI : insM ⟨ps, ks, gr, fr, un, fe, st⟩ V = fe * overF (V - fr) un := by
          unfold insM
          simp only
          rw [if_pos (by omega), over_ceil (by omega)]
        obtain ⟨o2, hoE2⟩ : ∃ o, overF (V - fr) un = o := ⟨_, rfl⟩
        rw [hoE2] at hov2 hI
        have hp1 := Int.mul_le_mul_of_nonneg_right (a := 1) (b := un) (c := o2) (by omega) hov2.1
        have m3 := Int.mul_le_mul_of_nonneg_right (a := fe) (b := 1000) (c := o2) (by omega) hov2.1
        have m4 := Int.mul_nonneg (a := fe) (b := o2) (by omega) hov2.1
        have w8 : IntKind.i64.wrap (V - fr) = V - fr := wrap_id (by omega)
        have w9 : IntKind.i64.wrap (fe * o2) = fe * o2 := wrap_id (by omega)
        have w10 : IntKind.i64.wrap (P2 + fe * o2) = P2 + fe * o2 := wrap_id (by omega)
        have hsm2 : (small (V - fr) ∧ 1 ≤ un ∧ un ≤ 4611686018427387904) = True := eq_true ⟨by unfold small; omega, by omega, by omega⟩
        simp only [go_sem, Nat.reduceAdd, Nat.reduceSub, Nat.reduceMul, Nat.reduceEqDiff, Nat.reduceLT, Nat.reduceLeDiff, Nat.reduceBEq, Nat.reduceBNe, Int.reduceToNat, Int.reduceLE, Int.reduceLT, Int.reduceNe, Int.reduceNeg, reduceCtorEq, Int.reduceBEq, Int.reduceBNe, @callV_spec E17 49 s49 rfl, @callV_specT E17 49 s49 rfl, @stepV_spec E17 49 s49 rfl, @effV_spec E17 49 s49 rfl, s49, callSpec, h1', w8, w9, w10, hsm2, hoE2, hI, hoE, hP2]
      · have hle : ¬ V > fr := by simpa using hc
        have hI : insM ⟨ps, ks, gr, fr, un, fe, st⟩ V = 0 := by
          unfold insM
          simp only
          rw [if_neg (by omega), Int.zero_add, Int.ediv_eq_zero_of_lt (by omega) (by omega), Int.mul_zero]
        simp only [go_sem, Nat.reduceAdd, Nat.reduceSub, Nat.reduceMul, Nat.reduceEqDiff, Nat.reduceLT, Nat.reduceLeDiff, Nat.reduceBEq, Nat.reduceBNe, Int.reduceToNat, Int.reduceLE, Int.reduceLT, Int.reduceNe, Int.reduceNeg, reduceCtorEq, Int.reduceBEq, Int.reduceBNe, hI, Int.add_zero, hoE, hP2]
def s63 : Spec := spec3 (fun (b : PBook) (q : Parc) (z : Int) => okRef b q ∧ 1 ≤ sumP b .weight q.pieces ∧ 0 ≤ z ∧ z ≤ 4) (fun b q z => .int .i64 (costsM b q.kind q.pieces z))
theorem s63_ok : SpecOK Tryd.prog glB 63 s63 := spec3_ok E17_ok Tryd.func63 rfl (by kernel_rfl) fun b q z h => rpost_fn b h.1.1 q.kind h.1.2.1 q.pieces h.1.2.2.1 h.1.2.2.2.1 h.2.1 z h.2.2
end Wb
