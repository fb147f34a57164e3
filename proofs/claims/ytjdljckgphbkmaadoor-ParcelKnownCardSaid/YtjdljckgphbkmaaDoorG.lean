import Derived.Test.YtjdljckgphbkmaaDoorF
set_option linter.unusedVariables false
set_option linter.unusedSimpArgs false
/- Check. -/
namespace Wb
open Go Go.Proofs Enc Row
set_option linter.unusedSimpArgs false
set_option linter.unusedVariables false
set_option maxRecDepth 20000
set_option maxHeartbeats 4000000
theorem all_take {α : Type} [Inhabited α] (p : α → Bool) {l : List α} {i : Nat} (h : i < l.length) : (l.take (i + 1)).all p = ((l.take i).all p && p (l.getD i default)) := by
  rw [List.take_succ_eq_append_getElem h, List.all_append]
  simp [h]
def headOk (b : PBook) : Bool := btw b.pieces.length 1 7 && btw b.kinds.length 1 4 && btw b.grams 1 5000 && btw b.free 0 10000 && btw b.unit 1 10000 && btw b.fee 0 1000 && btw b.stamps.length 1 5
def kindHead (k : Kind) : Bool := btw k.room 1 500 && btw k.most 1 5000 && decide (k.zones.length = 5) && btw k.step 0 1000
theorem kindOk_eq (k : Kind) : kindOk k = (kindHead k && k.zones.all fun n => btw n 1 1000) := rfl
theorem bookOk_eq (b : PBook) : bookOk b = (headOk b && b.pieces.all pieceOk && b.kinds.all kindOk && stampsOk 0 b.stamps) := rfl
theorem stamps_drop {l : List Int} {i : Nat} (h : i < l.length) (last : Int) : stampsOk last (l.drop i) = (btw (l.getD i 0) (last + 1) 1000 && stampsOk (l.getD i 0) (l.drop (i + 1))) := by
  rw [List.drop_eq_getElem_cons h]
  simp [stampsOk, h]
theorem check_fn (b : PBook) (hp : big b.pieces.length) (hk : big b.kinds.length) (hz : ∀ k ∈ b.kinds, big k.zones.length) (hst : big b.stamps.length) : Fn E6 0 16 Tryd.f16 (Tryd.f16.body.getD .skip) [.agg (encB b)] (.int .i64 (if bookOk b then 0 else 60)) := by
  have hh : headOk b = (btw b.pieces.length 1 7 && btw b.kinds.length 1 4 && btw b.grams 1 5000 && btw b.free 0 10000 && btw b.unit 1 10000 && btw b.fee 0 1000 && btw b.stamps.length 1 5) := rfl
  rw [bookOk_eq]
  generalize headOk b = hd at *
  obtain ⟨ps, ks, gr, fr, un, fe, st⟩ := b
  simp only at hp hk hz hst hh
  unfold big at hp hk hst
  unfold btw at hh
  unfold Fn Tryd.f16
  simp only [go_sem, Nat.reduceAdd, Nat.reduceSub, Nat.reduceMul, Nat.reduceEqDiff, Nat.reduceLT, Nat.reduceLeDiff, Nat.reduceBEq, Nat.reduceBNe, Int.reduceToNat, Int.reduceLE, Int.reduceLT, Int.reduceNe, Int.reduceNeg, reduceCtorEq, Int.reduceBEq, Int.reduceBNe, @callV_spec E6 60 sTween rfl, @callV_specT E6 60 sTween rfl, @stepV_spec E6 60 sTween rfl, @effV_spec E6 60 sTween rfl, sTween, callSpec, encB, List.length_map, il_length, ← hh]
  refine ev_loopS [1, 50, 51] (fun i : Nat => [(2, .int .i64 0), (3, .bool (hd && (ps.take i).all pieceOk)), (52, .int .i64 i)])
    (fun i H => i ≤ ps.length ∧ H (([], 16000000) : Key) = some (.cells (encB ⟨ps, ks, gr, fr, un, fe, st⟩) 1 false)) (fun i => ps.length - i) 0 ?_ ⟨Nat.zero_le _, ?_⟩ ?_
  · simp only [go_sem, Nat.reduceAdd, Nat.reduceSub, Nat.reduceMul, Nat.reduceEqDiff, Nat.reduceLT, Nat.reduceLeDiff, Nat.reduceBEq, Nat.reduceBNe, Int.reduceToNat, Int.reduceLE, Int.reduceLT, Int.reduceNe, Int.reduceNeg, reduceCtorEq, Int.reduceBEq, Int.reduceBNe]
  · simp only [go_sem, Nat.reduceAdd, Nat.reduceSub, Nat.reduceMul, Nat.reduceEqDiff, Nat.reduceLT, Nat.reduceLeDiff, Nat.reduceBEq, Nat.reduceBNe, Int.reduceToNat, Int.reduceLE, Int.reduceLT, Int.reduceNe, Int.reduceNeg, reduceCtorEq, Int.reduceBEq, Int.reduceBNe, encB]
  · simp only [go_sem, Nat.reduceAdd, Nat.reduceSub, Nat.reduceMul, Nat.reduceEqDiff, Nat.reduceLT, Nat.reduceLeDiff, Nat.reduceBEq, Nat.reduceBNe, Int.reduceToNat, Int.reduceLE, Int.reduceLT, Int.reduceNe, Int.reduceNeg, reduceCtorEq, Int.reduceBEq, Int.reduceBNe]
    intro K i H ⟨hi, h1⟩ hK hE
    rw [condK_bool]
    refine ⟨fun h => ?_, fun h => ?_⟩
    · have h' : i < ps.length := by simpa using h
      have hii : (i : Int) < (ps.length : Int) := by omega
      have w2 : IntKind.i64.wrap ((i : Int) + 1) = (i : Int) + 1 := wrap_id (by omega)
      have hgp := getD_mapN encP ps i [PV.int IntKind.i64 0, PV.int IntKind.i64 0, PV.int IntKind.i64 0, PV.bool false] h'
      have hta := all_take pieceOk h'
      simp only [go_sem, Nat.reduceAdd, Nat.reduceSub, Nat.reduceMul, Nat.reduceEqDiff, Nat.reduceLT, Nat.reduceLeDiff, Nat.reduceBEq, Nat.reduceBNe, Int.reduceToNat, Int.reduceLE, Int.reduceLT, Int.reduceNe, Int.reduceNeg, reduceCtorEq, Int.reduceBEq, Int.reduceBNe, @callV_spec E6 60 sTween rfl, @callV_specT E6 60 sTween rfl, @stepV_spec E6 60 sTween rfl, @effV_spec E6 60 sTween rfl, sTween, callSpec, hii, List.length_map, hgp, encP]
      refine hK (i + 1) _ _ ?_ ⟨h', ?_⟩ (by omega)
      · simp only [go_sem, Nat.reduceAdd, Nat.reduceSub, Nat.reduceMul, Nat.reduceEqDiff, Nat.reduceLT, Nat.reduceLeDiff, Nat.reduceBEq, Nat.reduceBNe, Int.reduceToNat, Int.reduceLE, Int.reduceLT, Int.reduceNe, Int.reduceNeg, reduceCtorEq, Int.reduceBEq, Int.reduceBNe, w2, Int.natCast_add, Int.natCast_one, hta, pieceOk, btw, Bool.and_assoc]
      · simp only [go_sem, Nat.reduceAdd, Nat.reduceSub, Nat.reduceMul, Nat.reduceEqDiff, Nat.reduceLT, Nat.reduceLeDiff, Nat.reduceBEq, Nat.reduceBNe, Int.reduceToNat, Int.reduceLE, Int.reduceLT, Int.reduceNe, Int.reduceNeg, reduceCtorEq, Int.reduceBEq, Int.reduceBNe, h1]
    · have h' : i = ps.length := by have : ¬ ((i : Int) < (ps.length : Int)) := by simpa using h
                                    omega
      subst h'
      refine hE _ _ _ (by simp) ?_
      have h1' := h1
      simp only [encB] at h1'
      simp only [go_sem, Nat.reduceAdd, Nat.reduceSub, Nat.reduceMul, Nat.reduceEqDiff, Nat.reduceLT, Nat.reduceLeDiff, Nat.reduceBEq, Nat.reduceBNe, Int.reduceToNat, Int.reduceLE, Int.reduceLT, Int.reduceNe, Int.reduceNeg, reduceCtorEq, Int.reduceBEq, Int.reduceBNe, h1', List.take_length, List.length_map]
      generalize hb1 : (hd && ps.all pieceOk) = b1
      refine ev_loopS [1, 74, 75] (fun i : Nat => [(2, .int .i64 0), (3, .bool (b1 && (ks.take i).all kindOk)), (76, .int .i64 i)])
        (fun i H => i ≤ ks.length ∧ H (([], 16000000) : Key) = some (.cells (encB ⟨ps, ks, gr, fr, un, fe, st⟩) 1 false)) (fun i => ks.length - i) 0 ?_ ⟨Nat.zero_le _, h1⟩ ?_
      · simp only [go_sem, Nat.reduceAdd, Nat.reduceSub, Nat.reduceMul, Nat.reduceEqDiff, Nat.reduceLT, Nat.reduceLeDiff, Nat.reduceBEq, Nat.reduceBNe, Int.reduceToNat, Int.reduceLE, Int.reduceLT, Int.reduceNe, Int.reduceNeg, reduceCtorEq, Int.reduceBEq, Int.reduceBNe]
      · simp only [go_sem, Nat.reduceAdd, Nat.reduceSub, Nat.reduceMul, Nat.reduceEqDiff, Nat.reduceLT, Nat.reduceLeDiff, Nat.reduceBEq, Nat.reduceBNe, Int.reduceToNat, Int.reduceLE, Int.reduceLT, Int.reduceNe, Int.reduceNeg, reduceCtorEq, Int.reduceBEq, Int.reduceBNe]
        intro K2 i H2 ⟨hi, h1⟩ hK2 hE2
        rw [condK_bool]
        refine ⟨fun h => ?_, fun h => ?_⟩
        · have h' : i < ks.length := by simpa using h
          have hii : (i : Int) < (ks.length : Int) := by omega
          have w2 : IntKind.i64.wrap ((i : Int) + 1) = (i : Int) + 1 := wrap_id (by omega)
          have hgk := getD_mapN encK ks i [PV.int IntKind.i64 0, PV.int IntKind.i64 0, PV.sl [] true, PV.int IntKind.i64 0] h'
          have hta := all_take kindOk h'
          have hzk : big (ks.getD i default).zones.length := hz _ (by rw [List.getD_eq_getElem?_getD, List.getElem?_eq_getElem h']; exact List.getElem_mem _)
          unfold big at hzk
          have hkh : kindHead (ks.getD i default) = (btw (ks.getD i default).room 1 500 && btw (ks.getD i default).most 1 5000 && decide ((ks.getD i default).zones.length = 5) && btw (ks.getD i default).step 0 1000) := rfl
          rw [kindOk_eq] at hta
          generalize ks.getD i default = kk at *
          generalize kindHead kk = kh at *
          generalize hb2 : (ks.take i).all kindOk = b2 at *
          simp only [go_sem, Nat.reduceAdd, Nat.reduceSub, Nat.reduceMul, Nat.reduceEqDiff, Nat.reduceLT, Nat.reduceLeDiff, Nat.reduceBEq, Nat.reduceBNe, Int.reduceToNat, Int.reduceLE, Int.reduceLT, Int.reduceNe, Int.reduceNeg, reduceCtorEq, Int.reduceBEq, Int.reduceBNe, @callV_spec E6 60 sTween rfl, @callV_specT E6 60 sTween rfl, @stepV_spec E6 60 sTween rfl, @effV_spec E6 60 sTween rfl, sTween, callSpec, hii, List.length_map, hgk, encK, il_length]
          have hz5 : (((kk.zones.length : Int)) == 5) = decide (kk.zones.length = 5) := by rw [Bool.eq_iff_iff]; simp; omega
          have hkh' : (b1 && b2 && (decide (1 ≤ kk.room) && decide (kk.room ≤ 500)) && (decide (1 ≤ kk.most) && decide (kk.most ≤ 5000)) && (((kk.zones.length : Int)) == 5) && (decide (0 ≤ kk.step) && decide (kk.step ≤ 1000))) = (b1 && b2 && kh) := by
            rw [hkh, hz5]; simp only [btw, Bool.and_assoc]
          rw [hkh']
          refine ev_loopS [1, 2, 74, 75, 76, 103, 104] (fun j : Nat => [(3, .bool (b1 && b2 && kh && (kk.zones.take j).all fun n => btw n 1 1000)), (105, .int .i64 j)])
            (fun j H => j ≤ kk.zones.length ∧ H (([], 16000000) : Key) = some (.cells (encB ⟨ps, ks, gr, fr, un, fe, st⟩) 1 false)) (fun j => kk.zones.length - j) 0 ?_ ⟨Nat.zero_le _, ?_⟩ ?_
          · simp only [go_sem, Nat.reduceAdd, Nat.reduceSub, Nat.reduceMul, Nat.reduceEqDiff, Nat.reduceLT, Nat.reduceLeDiff, Nat.reduceBEq, Nat.reduceBNe, Int.reduceToNat, Int.reduceLE, Int.reduceLT, Int.reduceNe, Int.reduceNeg, reduceCtorEq, Int.reduceBEq, Int.reduceBNe]
          · simp only [go_sem, Nat.reduceAdd, Nat.reduceSub, Nat.reduceMul, Nat.reduceEqDiff, Nat.reduceLT, Nat.reduceLeDiff, Nat.reduceBEq, Nat.reduceBNe, Int.reduceToNat, Int.reduceLE, Int.reduceLT, Int.reduceNe, Int.reduceNeg, reduceCtorEq, Int.reduceBEq, Int.reduceBNe, h1]
          · simp only [go_sem, Nat.reduceAdd, Nat.reduceSub, Nat.reduceMul, Nat.reduceEqDiff, Nat.reduceLT, Nat.reduceLeDiff, Nat.reduceBEq, Nat.reduceBNe, Int.reduceToNat, Int.reduceLE, Int.reduceLT, Int.reduceNe, Int.reduceNeg, reduceCtorEq, Int.reduceBEq, Int.reduceBNe]
            intro K3 j H3 ⟨hj, k1⟩ hK3 hE3
            rw [condK_bool]
            refine ⟨fun h => ?_, fun h => ?_⟩
            · have h2' : j < kk.zones.length := by simpa using h
              have hjj : (j : Int) < (kk.zones.length : Int) := by omega
              have w3 : IntKind.i64.wrap ((j : Int) + 1) = (j : Int) + 1 := wrap_id (by omega)
              have hja := all_take (fun n => btw n 1 1000) h2'
              have hd0 : kk.zones.getD j default = kk.zones.getD j 0 := rfl
              rw [hd0] at hja
              have hbt : btw (kk.zones.getD j 0) 1 1000 = (decide (1 ≤ kk.zones.getD j 0) && decide (kk.zones.getD j 0 ≤ 1000)) := rfl
              rw [hbt] at hja
              simp only [go_sem, Nat.reduceAdd, Nat.reduceSub, Nat.reduceMul, Nat.reduceEqDiff, Nat.reduceLT, Nat.reduceLeDiff, Nat.reduceBEq, Nat.reduceBNe, Int.reduceToNat, Int.reduceLE, Int.reduceLT, Int.reduceNe, Int.reduceNeg, reduceCtorEq, Int.reduceBEq, Int.reduceBNe, @callV_spec E6 60 sTween rfl, @callV_specT E6 60 sTween rfl, @stepV_spec E6 60 sTween rfl, @effV_spec E6 60 sTween rfl, sTween, callSpec, hjj, il_length, il_get]
              refine hK3 (j + 1) _ _ ?_ ⟨h2', k1⟩ (by omega)
              simp only [go_sem, Nat.reduceAdd, Nat.reduceSub, Nat.reduceMul, Nat.reduceEqDiff, Nat.reduceLT, Nat.reduceLeDiff, Nat.reduceBEq, Nat.reduceBNe, Int.reduceToNat, Int.reduceLE, Int.reduceLT, Int.reduceNe, Int.reduceNeg, reduceCtorEq, Int.reduceBEq, Int.reduceBNe, w3, Int.natCast_add, Int.natCast_one, hja, Bool.and_assoc]
            · have h2' : j = kk.zones.length := by have : ¬ ((j : Int) < (kk.zones.length : Int)) := by simpa using h
                                                   omega
              subst h2'
              refine hE3 _ _ _ (by simp) ?_
              simp only [go_sem, Nat.reduceAdd, Nat.reduceSub, Nat.reduceMul, Nat.reduceEqDiff, Nat.reduceLT, Nat.reduceLeDiff, Nat.reduceBEq, Nat.reduceBNe, Int.reduceToNat, Int.reduceLE, Int.reduceLT, Int.reduceNe, Int.reduceNeg, reduceCtorEq, Int.reduceBEq, Int.reduceBNe, List.take_length]
              refine hK2 (i + 1) _ _ ?_ ⟨h', k1⟩ (by omega)
              simp only [go_sem, Nat.reduceAdd, Nat.reduceSub, Nat.reduceMul, Nat.reduceEqDiff, Nat.reduceLT, Nat.reduceLeDiff, Nat.reduceBEq, Nat.reduceBNe, Int.reduceToNat, Int.reduceLE, Int.reduceLT, Int.reduceNe, Int.reduceNeg, reduceCtorEq, Int.reduceBEq, Int.reduceBNe, w2, Int.natCast_add, Int.natCast_one, hta, Bool.and_assoc]
        · have h' : i = ks.length := by have : ¬ ((i : Int) < (ks.length : Int)) := by simpa using h
                                        omega
          subst h'
          refine hE2 _ _ _ (by simp) ?_
          have h1' := h1
          simp only [encB] at h1'
          simp only [go_sem, Nat.reduceAdd, Nat.reduceSub, Nat.reduceMul, Nat.reduceEqDiff, Nat.reduceLT, Nat.reduceLeDiff, Nat.reduceBEq, Nat.reduceBNe, Int.reduceToNat, Int.reduceLE, Int.reduceLT, Int.reduceNe, Int.reduceNeg, reduceCtorEq, Int.reduceBEq, Int.reduceBNe, h1', List.take_length, il_length]
          generalize (b1 && ks.all kindOk) = b2
          refine ev_loopS [1, 117, 118] (fun x : Nat × Bool × Int => [(2, .int .i64 0), (3, .bool x.2.1), (10, .int .i64 x.2.2), (119, .int .i64 x.1)])
            (fun x H => x.1 ≤ st.length ∧ (x.2.1 = true → 0 ≤ x.2.2 ∧ x.2.2 ≤ 1000) ∧ (x.2.1 && stampsOk x.2.2 (st.drop x.1)) = (b2 && stampsOk 0 st)) (fun x => st.length - x.1) (0, b2, 0) ?_ ⟨Nat.zero_le _, fun _ => ⟨Int.le_refl 0, show (0 : Int) ≤ 1000 by omega⟩, by simp⟩ ?_
          · simp only [go_sem, Nat.reduceAdd, Nat.reduceSub, Nat.reduceMul, Nat.reduceEqDiff, Nat.reduceLT, Nat.reduceLeDiff, Nat.reduceBEq, Nat.reduceBNe, Int.reduceToNat, Int.reduceLE, Int.reduceLT, Int.reduceNe, Int.reduceNeg, reduceCtorEq, Int.reduceBEq, Int.reduceBNe]
          · simp only [go_sem, Nat.reduceAdd, Nat.reduceSub, Nat.reduceMul, Nat.reduceEqDiff, Nat.reduceLT, Nat.reduceLeDiff, Nat.reduceBEq, Nat.reduceBNe, Int.reduceToNat, Int.reduceLE, Int.reduceLT, Int.reduceNe, Int.reduceNeg, reduceCtorEq, Int.reduceBEq, Int.reduceBNe]
            intro K3 x H3 ⟨hj, k1, k2⟩ hK3 hE3
            obtain ⟨j, ok, last⟩ := x
            simp only at hj k1 k2
            dsimp only
            rw [condK_bool]
            refine ⟨fun h => ?_, fun h => ?_⟩
            · have h2' : j < st.length := by simpa using h
              have hjj : (j : Int) < (st.length : Int) := by omega
              have w3 : IntKind.i64.wrap ((j : Int) + 1) = (j : Int) + 1 := wrap_id (by omega)
              rw [stamps_drop h2'] at k2
              have hw : (ok && (decide (IntKind.i64.wrap (last + 1) ≤ st.getD j 0) && decide (st.getD j 0 ≤ 1000))) = (ok && btw (st.getD j 0) (last + 1) 1000) := by
                cases ok with
                | false => rfl
                | true => have := k1 rfl; rw [show IntKind.i64.wrap (last + 1) = last + 1 from wrap_id (by omega)]; rfl
              simp only [go_sem, Nat.reduceAdd, Nat.reduceSub, Nat.reduceMul, Nat.reduceEqDiff, Nat.reduceLT, Nat.reduceLeDiff, Nat.reduceBEq, Nat.reduceBNe, Int.reduceToNat, Int.reduceLE, Int.reduceLT, Int.reduceNe, Int.reduceNeg, reduceCtorEq, Int.reduceBEq, Int.reduceBNe, @callV_spec E6 60 sTween rfl, @callV_specT E6 60 sTween rfl, @stepV_spec E6 60 sTween rfl, @effV_spec E6 60 sTween rfl, sTween, callSpec, hjj, il_length, il_get]
              refine hK3 (j + 1, ok && btw (st.getD j 0) (last + 1) 1000, st.getD j 0) _ _ ?_ ⟨h2', fun q => ?_, by rw [← k2, Bool.and_assoc]⟩ (by simp only; omega)
              · simp only [go_sem, Nat.reduceAdd, Nat.reduceSub, Nat.reduceMul, Nat.reduceEqDiff, Nat.reduceLT, Nat.reduceLeDiff, Nat.reduceBEq, Nat.reduceBNe, Int.reduceToNat, Int.reduceLE, Int.reduceLT, Int.reduceNe, Int.reduceNeg, reduceCtorEq, Int.reduceBEq, Int.reduceBNe, w3, Int.natCast_add, Int.natCast_one, hw]
              · simp only [Bool.and_eq_true] at q
                obtain ⟨q1, q2⟩ := q
                have := k1 q1
                simp only [btw, Bool.and_eq_true, decide_eq_true_eq] at q2
                show 0 ≤ st.getD j 0 ∧ st.getD j 0 ≤ 1000
                omega
            · have h2' : j = st.length := by have : ¬ ((j : Int) < (st.length : Int)) := by simpa using h
                                             omega
              subst h2'
              rw [List.drop_length, stampsOk, Bool.and_true] at k2
              refine hE3 _ _ _ (by simp) ?_
              simp only [go_sem, Nat.reduceAdd, Nat.reduceSub, Nat.reduceMul, Nat.reduceEqDiff, Nat.reduceLT, Nat.reduceLeDiff, Nat.reduceBEq, Nat.reduceBNe, Int.reduceToNat, Int.reduceLE, Int.reduceLT, Int.reduceNe, Int.reduceNeg, reduceCtorEq, Int.reduceBEq, Int.reduceBNe, ← k2]
              cases ok <;> simp only [go_sem, Nat.reduceAdd, Nat.reduceSub, Nat.reduceMul, Nat.reduceEqDiff, Nat.reduceLT, Nat.reduceLeDiff, Nat.reduceBEq, Nat.reduceBNe, Int.reduceToNat, Int.reduceLE, Int.reduceLT, Int.reduceNe, Int.reduceNeg, reduceCtorEq, Int.reduceBEq, Int.reduceBNe]
structure Big4 (b : PBook) : Prop where
  p : big b.pieces.length
  k : big b.kinds.length
  z : ∀ k ∈ b.kinds, big k.zones.length
  s : big b.stamps.length
def s16 : Spec := spec1 (fun (b : PBook) => Big4 b) (fun b => .int .i64 (if bookOk b then 0 else 60))
theorem s16_ok : SpecOK Tryd.prog glB 16 s16 := spec1_ok E6_ok Tryd.func16 rfl (by kernel_rfl) fun b h => check_fn b h.p h.k h.z h.s
end Wb
/- The reference's Check. -/
namespace Wb
open Go Go.Proofs Enc Row
set_option linter.unusedSimpArgs false
set_option linter.unusedVariables false
set_option maxRecDepth 20000
set_option maxHeartbeats 4000000
theorem all_drop {α : Type} [Inhabited α] (p : α → Bool) {l : List α} {i : Nat} (h : i < l.length) : (l.drop i).all p = (p (l.getD i default) && (l.drop (i + 1)).all p) := by
  rw [List.drop_eq_getElem_cons h, List.all_cons]
  simp [h]
theorem all_drop0 (p : Int → Bool) {l : List Int} {i : Nat} (h : i < l.length) : (l.drop i).all p = (p (l.getD i 0) && (l.drop (i + 1)).all p) := all_drop p h
theorem refCheck_fn (b : PBook) (hp : big b.pieces.length) (hk : big b.kinds.length) (hz : ∀ k ∈ b.kinds, big k.zones.length) (hst : big b.stamps.length) : Fn E6 0 17 Tryd.f17 (Tryd.f17.body.getD .skip) [.agg (encB b)] (.int .i64 (if bookOk b then 0 else 60)) := by
  have hh : headOk b = (btw b.pieces.length 1 7 && btw b.kinds.length 1 4 && btw b.grams 1 5000 && btw b.free 0 10000 && btw b.unit 1 10000 && btw b.fee 0 1000 && btw b.stamps.length 1 5) := rfl
  rw [bookOk_eq]
  generalize headOk b = hd at *
  obtain ⟨ps, ks, gr, fr, un, fe, st⟩ := b
  simp only at hp hk hz hst hh
  unfold big at hp hk hst
  unfold btw at hh
  unfold Fn Tryd.f17
  simp only [go_sem, Nat.reduceAdd, Nat.reduceSub, Nat.reduceMul, Nat.reduceEqDiff, Nat.reduceLT, Nat.reduceLeDiff, Nat.reduceBEq, Nat.reduceBNe, Int.reduceToNat, Int.reduceLE, Int.reduceLT, Int.reduceNe, Int.reduceNeg, reduceCtorEq, Int.reduceBEq, Int.reduceBNe, @callV_spec E6 41 sTween rfl, @callV_specT E6 41 sTween rfl, @stepV_spec E6 41 sTween rfl, @effV_spec E6 41 sTween rfl, sTween, callSpec, encB, List.length_map, il_length, ← hh]
  refine ev_loopS [1] (fun x : Nat × Bool => [(2, .int .i64 0), (3, .bool x.2), (4, .int .i64 x.1)])
    (fun x H => x.1 ≤ ps.length ∧ (x.2 && (ps.drop x.1).all pieceOk) = (hd && ps.all pieceOk) ∧ H (([], 17000000) : Key) = some (.cells (encB ⟨ps, ks, gr, fr, un, fe, st⟩) 1 false)) (fun x => ps.length - x.1) (0, hd) ?_ ⟨Nat.zero_le _, by simp, ?_⟩ ?_
  · simp only [go_sem, Nat.reduceAdd, Nat.reduceSub, Nat.reduceMul, Nat.reduceEqDiff, Nat.reduceLT, Nat.reduceLeDiff, Nat.reduceBEq, Nat.reduceBNe, Int.reduceToNat, Int.reduceLE, Int.reduceLT, Int.reduceNe, Int.reduceNeg, reduceCtorEq, Int.reduceBEq, Int.reduceBNe]
  · simp only [go_sem, Nat.reduceAdd, Nat.reduceSub, Nat.reduceMul, Nat.reduceEqDiff, Nat.reduceLT, Nat.reduceLeDiff, Nat.reduceBEq, Nat.reduceBNe, Int.reduceToNat, Int.reduceLE, Int.reduceLT, Int.reduceNe, Int.reduceNeg, reduceCtorEq, Int.reduceBEq, Int.reduceBNe, encB]
  · simp only [go_sem, Nat.reduceAdd, Nat.reduceSub, Nat.reduceMul, Nat.reduceEqDiff, Nat.reduceLT, Nat.reduceLeDiff, Nat.reduceBEq, Nat.reduceBNe, Int.reduceToNat, Int.reduceLE, Int.reduceLT, Int.reduceNe, Int.reduceNeg, reduceCtorEq, Int.reduceBEq, Int.reduceBNe]
    intro K x H ⟨hi, hc, h1⟩ hK hE
    obtain ⟨i, ok⟩ := x
    simp only at hi hc
    dsimp only
    have h1' := h1
    simp only [encB] at h1'
    simp only [go_sem, Nat.reduceAdd, Nat.reduceSub, Nat.reduceMul, Nat.reduceEqDiff, Nat.reduceLT, Nat.reduceLeDiff, Nat.reduceBEq, Nat.reduceBNe, Int.reduceToNat, Int.reduceLE, Int.reduceLT, Int.reduceNe, Int.reduceNeg, reduceCtorEq, Int.reduceBEq, Int.reduceBNe, @callV_spec E6 41 sTween rfl, @callV_specT E6 41 sTween rfl, @stepV_spec E6 41 sTween rfl, @effV_spec E6 41 sTween rfl, sTween, h1', List.length_map]
    rw [condK_bool]
    refine ⟨fun h => ?_, fun h => ?_⟩
    · simp only [Bool.and_eq_true, decide_eq_true_eq] at h
      obtain ⟨hok, h⟩ := h
      subst hok
      have h' : i < ps.length := by omega
      have w2 : IntKind.i64.wrap ((i : Int) + 1) = (i : Int) + 1 := wrap_id (by omega)
      have hgp := getD_mapN encP ps i [PV.int IntKind.i64 0, PV.int IntKind.i64 0, PV.int IntKind.i64 0, PV.bool false] h'
      rw [all_drop pieceOk h', Bool.true_and] at hc
      simp only [go_sem, Nat.reduceAdd, Nat.reduceSub, Nat.reduceMul, Nat.reduceEqDiff, Nat.reduceLT, Nat.reduceLeDiff, Nat.reduceBEq, Nat.reduceBNe, Int.reduceToNat, Int.reduceLE, Int.reduceLT, Int.reduceNe, Int.reduceNeg, reduceCtorEq, Int.reduceBEq, Int.reduceBNe, @callV_spec E6 41 sTween rfl, @callV_specT E6 41 sTween rfl, @stepV_spec E6 41 sTween rfl, @effV_spec E6 41 sTween rfl, sTween, callSpec, h, h1', List.length_map, hgp, encP]
      refine hK (i + 1, pieceOk (ps.getD i default)) _ _ ?_ ⟨h', hc, ?_⟩ (by simp only; omega)
      · simp only [go_sem, Nat.reduceAdd, Nat.reduceSub, Nat.reduceMul, Nat.reduceEqDiff, Nat.reduceLT, Nat.reduceLeDiff, Nat.reduceBEq, Nat.reduceBNe, Int.reduceToNat, Int.reduceLE, Int.reduceLT, Int.reduceNe, Int.reduceNeg, reduceCtorEq, Int.reduceBEq, Int.reduceBNe, w2, Int.natCast_add, Int.natCast_one, pieceOk, btw]
      · simp only [go_sem, Nat.reduceAdd, Nat.reduceSub, Nat.reduceMul, Nat.reduceEqDiff, Nat.reduceLT, Nat.reduceLeDiff, Nat.reduceBEq, Nat.reduceBNe, Int.reduceToNat, Int.reduceLE, Int.reduceLT, Int.reduceNe, Int.reduceNeg, reduceCtorEq, Int.reduceBEq, Int.reduceBNe, h1]
    · have hc' : (hd && ps.all pieceOk) = ok := by
        cases ok with
        | false => rw [← hc]; rfl
        | true =>
          have : i = ps.length := by simp at h; omega
          rw [← hc, this, List.drop_length]; rfl
      refine hE _ _ _ (by simp) ?_
      simp only [go_sem, Nat.reduceAdd, Nat.reduceSub, Nat.reduceMul, Nat.reduceEqDiff, Nat.reduceLT, Nat.reduceLeDiff, Nat.reduceBEq, Nat.reduceBNe, Int.reduceToNat, Int.reduceLE, Int.reduceLT, Int.reduceNe, Int.reduceNeg, reduceCtorEq, Int.reduceBEq, Int.reduceBNe]
      rw [hc']
      refine ev_loopS [1] (fun x : Nat × Bool => [(2, .int .i64 0), (3, .bool x.2), (6, .int .i64 x.1)])
        (fun x H => x.1 ≤ ks.length ∧ (x.2 && (ks.drop x.1).all kindOk) = (ok && ks.all kindOk) ∧ H (([], 17000000) : Key) = some (.cells (encB ⟨ps, ks, gr, fr, un, fe, st⟩) 1 false)) (fun x => ks.length - x.1) (0, ok) ?_ ⟨Nat.zero_le _, by simp, h1⟩ ?_
      · simp only [go_sem, Nat.reduceAdd, Nat.reduceSub, Nat.reduceMul, Nat.reduceEqDiff, Nat.reduceLT, Nat.reduceLeDiff, Nat.reduceBEq, Nat.reduceBNe, Int.reduceToNat, Int.reduceLE, Int.reduceLT, Int.reduceNe, Int.reduceNeg, reduceCtorEq, Int.reduceBEq, Int.reduceBNe]
      · simp only [go_sem, Nat.reduceAdd, Nat.reduceSub, Nat.reduceMul, Nat.reduceEqDiff, Nat.reduceLT, Nat.reduceLeDiff, Nat.reduceBEq, Nat.reduceBNe, Int.reduceToNat, Int.reduceLE, Int.reduceLT, Int.reduceNe, Int.reduceNeg, reduceCtorEq, Int.reduceBEq, Int.reduceBNe]
        intro K2 x H2 ⟨hi2, hc2, h2⟩ hK2 hE2
        obtain ⟨j, ok2⟩ := x
        simp only at hi2 hc2
        dsimp only
        have h2' := h2
        simp only [encB] at h2'
        simp only [go_sem, Nat.reduceAdd, Nat.reduceSub, Nat.reduceMul, Nat.reduceEqDiff, Nat.reduceLT, Nat.reduceLeDiff, Nat.reduceBEq, Nat.reduceBNe, Int.reduceToNat, Int.reduceLE, Int.reduceLT, Int.reduceNe, Int.reduceNeg, reduceCtorEq, Int.reduceBEq, Int.reduceBNe, @callV_spec E6 41 sTween rfl, @callV_specT E6 41 sTween rfl, @stepV_spec E6 41 sTween rfl, @effV_spec E6 41 sTween rfl, sTween, h2', List.length_map]
        rw [condK_bool]
        refine ⟨fun h => ?_, fun h => ?_⟩
        · simp only [Bool.and_eq_true, decide_eq_true_eq] at h
          obtain ⟨hok, h⟩ := h
          subst hok
          have h' : j < ks.length := by omega
          have w2 : IntKind.i64.wrap ((j : Int) + 1) = (j : Int) + 1 := wrap_id (by omega)
          have hgk := getD_mapN encK ks j [PV.int IntKind.i64 0, PV.int IntKind.i64 0, PV.sl [] true, PV.int IntKind.i64 0] h'
          have hzk : big (ks.getD j default).zones.length := hz _ (by rw [List.getD_eq_getElem?_getD, List.getElem?_eq_getElem h']; exact List.getElem_mem _)
          unfold big at hzk
          have hkh : kindHead (ks.getD j default) = (btw (ks.getD j default).room 1 500 && btw (ks.getD j default).most 1 5000 && decide ((ks.getD j default).zones.length = 5) && btw (ks.getD j default).step 0 1000) := rfl
          rw [all_drop kindOk h', Bool.true_and, kindOk_eq] at hc2
          generalize ks.getD j default = kk at *
          have hz5 : (((kk.zones.length : Int)) == 5) = decide (kk.zones.length = 5) := by rw [Bool.eq_iff_iff]; simp; omega
          simp only [go_sem, Nat.reduceAdd, Nat.reduceSub, Nat.reduceMul, Nat.reduceEqDiff, Nat.reduceLT, Nat.reduceLeDiff, Nat.reduceBEq, Nat.reduceBNe, Int.reduceToNat, Int.reduceLE, Int.reduceLT, Int.reduceNe, Int.reduceNeg, reduceCtorEq, Int.reduceBEq, Int.reduceBNe, @callV_spec E6 41 sTween rfl, @callV_specT E6 41 sTween rfl, @stepV_spec E6 41 sTween rfl, @effV_spec E6 41 sTween rfl, sTween, callSpec, h, h2', List.length_map, hgk, encK, il_length, hz5]
          have hkh' : ((decide (1 ≤ kk.room) && decide (kk.room ≤ 500)) && (decide (1 ≤ kk.most) && decide (kk.most ≤ 5000)) && decide (kk.zones.length = 5) && (decide (0 ≤ kk.step) && decide (kk.step ≤ 1000))) = kindHead kk := by
            rw [hkh]; simp only [btw]
          rw [hkh']
          generalize hvk : verOf H2 ([], 17010005) + 1 = vk
          refine ev_loopS [1, 2, 6, 7] (fun x : Nat × Bool => [(3, .bool x.2), (8, .int .i64 x.1)])
            (fun x H => x.1 ≤ 5 ∧ (x.2 = true → kk.zones.length = 5) ∧ (x.2 && (kk.zones.drop x.1).all fun n => btw n 1 1000) = (kindHead kk && kk.zones.all fun n => btw n 1 1000) ∧ H (([], 17000000) : Key) = some (.cells (encB ⟨ps, ks, gr, fr, un, fe, st⟩) 1 false) ∧ H (([], 17010005) : Key) = some (.cells (encK kk) vk false)) (fun x => 5 - x.1) (0, kindHead kk) ?_ ⟨Nat.zero_le _, fun q => ?_, by simp, ?_, ?_⟩ ?_
          · simp only [go_sem, Nat.reduceAdd, Nat.reduceSub, Nat.reduceMul, Nat.reduceEqDiff, Nat.reduceLT, Nat.reduceLeDiff, Nat.reduceBEq, Nat.reduceBNe, Int.reduceToNat, Int.reduceLE, Int.reduceLT, Int.reduceNe, Int.reduceNeg, reduceCtorEq, Int.reduceBEq, Int.reduceBNe]
          · simp only at q
            rw [hkh] at q
            simp only [Bool.and_eq_true, decide_eq_true_eq] at q
            exact q.1.2
          · simp only [go_sem, Nat.reduceAdd, Nat.reduceSub, Nat.reduceMul, Nat.reduceEqDiff, Nat.reduceLT, Nat.reduceLeDiff, Nat.reduceBEq, Nat.reduceBNe, Int.reduceToNat, Int.reduceLE, Int.reduceLT, Int.reduceNe, Int.reduceNeg, reduceCtorEq, Int.reduceBEq, Int.reduceBNe, h2]
          · simp only [go_sem, Nat.reduceAdd, Nat.reduceSub, Nat.reduceMul, Nat.reduceEqDiff, Nat.reduceLT, Nat.reduceLeDiff, Nat.reduceBEq, Nat.reduceBNe, Int.reduceToNat, Int.reduceLE, Int.reduceLT, Int.reduceNe, Int.reduceNeg, reduceCtorEq, Int.reduceBEq, Int.reduceBNe, encK]
          · simp only [go_sem, Nat.reduceAdd, Nat.reduceSub, Nat.reduceMul, Nat.reduceEqDiff, Nat.reduceLT, Nat.reduceLeDiff, Nat.reduceBEq, Nat.reduceBNe, Int.reduceToNat, Int.reduceLE, Int.reduceLT, Int.reduceNe, Int.reduceNeg, reduceCtorEq, Int.reduceBEq, Int.reduceBNe]
            intro K3 x H3 ⟨hi3, hz3, hc3, k1, k2⟩ hK3 hE3
            obtain ⟨m, ok3⟩ := x
            simp only at hi3 hz3 hc3
            dsimp only
            have k2' := k2
            simp only [encK] at k2'
            rw [condK_bool]
            refine ⟨fun h => ?_, fun h => ?_⟩
            · simp only [Bool.and_eq_true, decide_eq_true_eq] at h
              obtain ⟨hok, h⟩ := h
              subst hok
              have h5 := hz3 rfl
              have hm : m < kk.zones.length := by omega
              have hmm : (m : Int) < (kk.zones.length : Int) := by omega
              have w3 : IntKind.i64.wrap ((m : Int) + 1) = (m : Int) + 1 := wrap_id (by omega)
              rw [all_drop0 (fun n => btw n 1 1000) hm, Bool.true_and] at hc3
              have hbt : btw (kk.zones.getD m 0) 1 1000 = (decide (1 ≤ kk.zones.getD m 0) && decide (kk.zones.getD m 0 ≤ 1000)) := rfl
              simp only [go_sem, Nat.reduceAdd, Nat.reduceSub, Nat.reduceMul, Nat.reduceEqDiff, Nat.reduceLT, Nat.reduceLeDiff, Nat.reduceBEq, Nat.reduceBNe, Int.reduceToNat, Int.reduceLE, Int.reduceLT, Int.reduceNe, Int.reduceNeg, reduceCtorEq, Int.reduceBEq, Int.reduceBNe, @callV_spec E6 41 sTween rfl, @callV_specT E6 41 sTween rfl, @stepV_spec E6 41 sTween rfl, @effV_spec E6 41 sTween rfl, sTween, callSpec, k2', hmm, il_length, il_get]
              refine hK3 (m + 1, btw (kk.zones.getD m 0) 1 1000) _ _ ?_ ⟨by omega, fun _ => h5, hc3, k1, k2⟩ (by simp only; omega)
              simp only [go_sem, Nat.reduceAdd, Nat.reduceSub, Nat.reduceMul, Nat.reduceEqDiff, Nat.reduceLT, Nat.reduceLeDiff, Nat.reduceBEq, Nat.reduceBNe, Int.reduceToNat, Int.reduceLE, Int.reduceLT, Int.reduceNe, Int.reduceNeg, reduceCtorEq, Int.reduceBEq, Int.reduceBNe, w3, Int.natCast_add, Int.natCast_one, hbt]
            · have hc3' : (kindHead kk && kk.zones.all fun n => btw n 1 1000) = ok3 := by
                cases ok3 with
                | false => rw [← hc3]; rfl
                | true =>
                  have h5 := hz3 rfl
                  have : m = kk.zones.length := by simp at h; omega
                  rw [← hc3, this, List.drop_length]; rfl
              refine hE3 _ _ _ (by simp) ?_
              simp only [go_sem, Nat.reduceAdd, Nat.reduceSub, Nat.reduceMul, Nat.reduceEqDiff, Nat.reduceLT, Nat.reduceLeDiff, Nat.reduceBEq, Nat.reduceBNe, Int.reduceToNat, Int.reduceLE, Int.reduceLT, Int.reduceNe, Int.reduceNeg, reduceCtorEq, Int.reduceBEq, Int.reduceBNe]
              refine hK2 (j + 1, ok3) _ _ ?_ ⟨h', by rw [← hc2, hc3'], k1⟩ (by simp only; omega)
              simp only [go_sem, Nat.reduceAdd, Nat.reduceSub, Nat.reduceMul, Nat.reduceEqDiff, Nat.reduceLT, Nat.reduceLeDiff, Nat.reduceBEq, Nat.reduceBNe, Int.reduceToNat, Int.reduceLE, Int.reduceLT, Int.reduceNe, Int.reduceNeg, reduceCtorEq, Int.reduceBEq, Int.reduceBNe, w2, Int.natCast_add, Int.natCast_one]
        · have hc2' : (ok && ks.all kindOk) = ok2 := by
            cases ok2 with
            | false => rw [← hc2]; rfl
            | true =>
              have : j = ks.length := by simp at h; omega
              rw [← hc2, this, List.drop_length]; rfl
          refine hE2 _ _ _ (by simp) ?_
          simp only [go_sem, Nat.reduceAdd, Nat.reduceSub, Nat.reduceMul, Nat.reduceEqDiff, Nat.reduceLT, Nat.reduceLeDiff, Nat.reduceBEq, Nat.reduceBNe, Int.reduceToNat, Int.reduceLE, Int.reduceLT, Int.reduceNe, Int.reduceNeg, reduceCtorEq, Int.reduceBEq, Int.reduceBNe]
          rw [hc2']
          refine ev_loopS [1] (fun x : Nat × Bool × Int => [(2, .int .i64 0), (3, .bool x.2.1), (9, .int .i64 x.2.2), (10, .int .i64 x.1)])
            (fun x H => x.1 ≤ st.length ∧ (x.2.1 && stampsOk (x.2.2 - 1) (st.drop x.1)) = (ok2 && stampsOk 0 st) ∧ (x.2.1 = true → 1 ≤ x.2.2) ∧ H (([], 17000000) : Key) = some (.cells (encB ⟨ps, ks, gr, fr, un, fe, st⟩) 1 false)) (fun x => st.length - x.1) (0, ok2, 1) ?_ ⟨Nat.zero_le _, by simp, fun _ => Int.le_refl 1, h2⟩ ?_
          · simp only [go_sem, Nat.reduceAdd, Nat.reduceSub, Nat.reduceMul, Nat.reduceEqDiff, Nat.reduceLT, Nat.reduceLeDiff, Nat.reduceBEq, Nat.reduceBNe, Int.reduceToNat, Int.reduceLE, Int.reduceLT, Int.reduceNe, Int.reduceNeg, reduceCtorEq, Int.reduceBEq, Int.reduceBNe]
          · simp only [go_sem, Nat.reduceAdd, Nat.reduceSub, Nat.reduceMul, Nat.reduceEqDiff, Nat.reduceLT, Nat.reduceLeDiff, Nat.reduceBEq, Nat.reduceBNe, Int.reduceToNat, Int.reduceLE, Int.reduceLT, Int.reduceNe, Int.reduceNeg, reduceCtorEq, Int.reduceBEq, Int.reduceBNe]
            intro K3 x H3 ⟨hj, k2, kl, k3⟩ hK3 hE3
            obtain ⟨m, ok3, le⟩ := x
            simp only at hj k2 kl
            dsimp only
            have k3' := k3
            simp only [encB] at k3'
            simp only [go_sem, Nat.reduceAdd, Nat.reduceSub, Nat.reduceMul, Nat.reduceEqDiff, Nat.reduceLT, Nat.reduceLeDiff, Nat.reduceBEq, Nat.reduceBNe, Int.reduceToNat, Int.reduceLE, Int.reduceLT, Int.reduceNe, Int.reduceNeg, reduceCtorEq, Int.reduceBEq, Int.reduceBNe, @callV_spec E6 41 sTween rfl, @callV_specT E6 41 sTween rfl, @stepV_spec E6 41 sTween rfl, @effV_spec E6 41 sTween rfl, sTween, k3', il_length]
            rw [condK_bool]
            refine ⟨fun h => ?_, fun h => ?_⟩
            · simp only [Bool.and_eq_true, decide_eq_true_eq] at h
              obtain ⟨hok, h⟩ := h
              subst hok
              have hm : m < st.length := by omega
              have w3 : IntKind.i64.wrap ((m : Int) + 1) = (m : Int) + 1 := wrap_id (by omega)
              rw [stamps_drop hm, Bool.true_and, Int.sub_add_cancel] at k2
              have hbt : btw (st.getD m 0) le 1000 = (decide (le ≤ st.getD m 0) && decide (st.getD m 0 ≤ 1000)) := rfl
              simp only [go_sem, Nat.reduceAdd, Nat.reduceSub, Nat.reduceMul, Nat.reduceEqDiff, Nat.reduceLT, Nat.reduceLeDiff, Nat.reduceBEq, Nat.reduceBNe, Int.reduceToNat, Int.reduceLE, Int.reduceLT, Int.reduceNe, Int.reduceNeg, reduceCtorEq, Int.reduceBEq, Int.reduceBNe, @callV_spec E6 41 sTween rfl, @callV_specT E6 41 sTween rfl, @stepV_spec E6 41 sTween rfl, @effV_spec E6 41 sTween rfl, sTween, callSpec, h, k3', il_length, il_get]
              refine hK3 (m + 1, btw (st.getD m 0) le 1000, IntKind.i64.wrap (st.getD m 0 + 1)) _ _ ?_ ⟨by omega, ?_, fun q => ?_, k3⟩ (by simp only; omega)
              · simp only [go_sem, Nat.reduceAdd, Nat.reduceSub, Nat.reduceMul, Nat.reduceEqDiff, Nat.reduceLT, Nat.reduceLeDiff, Nat.reduceBEq, Nat.reduceBNe, Int.reduceToNat, Int.reduceLE, Int.reduceLT, Int.reduceNe, Int.reduceNeg, reduceCtorEq, Int.reduceBEq, Int.reduceBNe, w3, Int.natCast_add, Int.natCast_one, hbt]
              · rw [← k2]
                cases hq : btw (st.getD m 0) le 1000 with
                | false => rfl
                | true =>
                  have := kl rfl
                  simp only [btw, Bool.and_eq_true, decide_eq_true_eq] at hq
                  simp only [show IntKind.i64.wrap (st.getD m 0 + 1) = st.getD m 0 + 1 from wrap_id (by omega), Int.add_sub_cancel]
              · have := kl rfl
                simp only [btw, Bool.and_eq_true, decide_eq_true_eq] at q
                simp only [show IntKind.i64.wrap (st.getD m 0 + 1) = st.getD m 0 + 1 from wrap_id (by omega)]
                omega
            · have k2' : (ok2 && stampsOk 0 st) = ok3 := by
                cases ok3 with
                | false => rw [← k2]; rfl
                | true =>
                  have : m = st.length := by simp at h; omega
                  rw [← k2, this, List.drop_length]; rfl
              refine hE3 _ _ _ (by simp) ?_
              simp only [go_sem, Nat.reduceAdd, Nat.reduceSub, Nat.reduceMul, Nat.reduceEqDiff, Nat.reduceLT, Nat.reduceLeDiff, Nat.reduceBEq, Nat.reduceBNe, Int.reduceToNat, Int.reduceLE, Int.reduceLT, Int.reduceNe, Int.reduceNeg, reduceCtorEq, Int.reduceBEq, Int.reduceBNe, k2']
              cases ok3 <;> simp only [go_sem, Nat.reduceAdd, Nat.reduceSub, Nat.reduceMul, Nat.reduceEqDiff, Nat.reduceLT, Nat.reduceLeDiff, Nat.reduceBEq, Nat.reduceBNe, Int.reduceToNat, Int.reduceLE, Int.reduceLT, Int.reduceNe, Int.reduceNeg, reduceCtorEq, Int.reduceBEq, Int.reduceBNe]
def s17 : Spec := spec1 (fun (b : PBook) => Big4 b) (fun b => .int .i64 (if bookOk b then 0 else 60))
theorem s17_ok : SpecOK Tryd.prog glB 17 s17 := spec1_ok E6_ok Tryd.func17 rfl (by kernel_rfl) fun b h => refCheck_fn b h.p h.k h.z h.s
end Wb
/- Fits, Postage. -/
namespace Wb
open Go Go.Proofs Enc Row
set_option linter.unusedSimpArgs false
set_option linter.unusedVariables false
set_option maxRecDepth 20000
set_option maxHeartbeats 4000000
def E8t : List (Nat × Spec) := [(16, s16), (17, s17)] ++ E7t
theorem E8t_ok : AllOK E8t := ⟨⟨s16_ok, Tryd.call16⟩, ⟨s17_ok, Tryd.call17⟩, E7t_ok⟩
noncomputable def E8 : Env := mkF E8t E7l [] [(54, e54), (64, e64), (62, e62)]
theorem E8_ok : EnvOK Tryd.prog E8 := envFOK E8t_ok E7l_ok trivial ⟨⟨e54_ok, Tryd.call54⟩, ⟨e64_ok, Tryd.call64⟩, ⟨e62_ok, Tryd.call62⟩, trivial⟩
theorem E8_ti {t : Nat} : E8.ti t = ti t := rfl
theorem E8_q0 : (E8).eqt 130 = true := rfl
theorem E8_q1 : (E8).keyt 3 = true := rfl
theorem E8_q2 : (E8).keyt 85 = true := rfl
attribute [go_sem] E8_ti E8_q0 E8_q1 E8_q2
theorem opened_inG {E : Env} (hti : ∀ t, E.ti t = ti t) (h54 : E.inl 54 = some Tryd.f54) (b : PBook) (z : Int) (n : Nat) (path : List Nat) (H : Heap) (Q : PV → Heap → Prop)
    (hQ : ∀ v H', H' (path, 54001002) = some (.map true 2 [] v false) → (∀ K : Key, ¬ path <:+ K.1 → H' K = H K) → Q (.agg (encB b ++ [.int .i64 z, .mref (path, 54001002) v])) H') :
    callN E (n + 1) path (.fn 54 [] []) [.agg (encB b), .int .i64 z] H Q := by
  rw [callN_in h54 (show Tryd.f54.body = some (Tryd.f54.body.getD .skip) from rfl)]
  simp only [Tryd.f54]
  simp only [go_sem, Nat.reduceAdd, Nat.reduceSub, Nat.reduceMul, Nat.reduceEqDiff, Nat.reduceLT, Nat.reduceLeDiff, Nat.reduceBEq, Nat.reduceBNe, Int.reduceToNat, Int.reduceLE, Int.reduceLT, Int.reduceNe, Int.reduceNeg, reduceCtorEq, Int.reduceBEq, Int.reduceBNe, hti, encB]
  refine hQ _ _ ?_ fun K hK => ?_
  · simp only [go_sem, Nat.reduceAdd, Nat.reduceSub, Nat.reduceMul, Nat.reduceEqDiff, Nat.reduceLT, Nat.reduceLeDiff, Nat.reduceBEq, Nat.reduceBNe, Int.reduceToNat, Int.reduceLE, Int.reduceLT, Int.reduceNe, Int.reduceNeg, reduceCtorEq, Int.reduceBEq, Int.reduceBNe, hti]
  · simp only [set_at, key_ns hK, if_false]
theorem putS_pow {l : List Int} {n : Nat} (h : ∀ k ∈ l, 0 ≤ k ∧ k < n) : putS l < 2 ^ n := Nat.lt_pow_two_of_testBit _ fun i hi => by
  rw [← Bool.not_eq_true]
  intro hb
  unfold putS at hb
  rw [putS_bit l 0 i fun k hk => (h k hk).1] at hb
  simp at hb
  have := (h _ hb).2; omega
theorem putS_pos {l : List Int} (h : ∀ k ∈ l, 0 ≤ k) (hne : l ≠ []) : 0 < putS l := by
  match l, hne with
  | a :: l', _ =>
    refine Nat.pos_of_ne_zero fun e => ?_
    have ha := h a (by simp)
    have : (putS (a :: l')).testBit a.toNat = true := by
      unfold putS
      rw [putS_bit (a :: l') 0 a.toNat h]
      exact .inr (by simp; omega)
    rw [e] at this; simp at this
/-- What a parcel is that is one of the book. -/
structure IsLoad (b : PBook) (q : Parc) (k s : Nat) : Prop where
  kd : q.kind = k
  hk : k < b.kinds.length
  set : putS q.pieces = s
  pos : 0 < s
  lt : s < 2 ^ b.pieces.length
  cl : climbsF b.pieces.length (-1) q.pieces = true
  ne : q.pieces ≠ []
theorem loadM_cases (b : PBook) (q : Parc) : ((loadM b.pieces.length b.kinds.length q).2 = false) ∨ ∃ k s : Nat, loadM b.pieces.length b.kinds.length q = (((k : Int), (s : Int)), true) ∧ IsLoad b q k s := by
  unfold loadM
  split
  · rename_i hc
    cases hb : ((decide (0 ≤ q.kind) && decide (q.kind ≤ (b.kinds.length : Int) - 1)) && decide (q.pieces ≠ [])) with
    | false => exact .inl rfl
    | true =>
      simp only [Bool.and_eq_true, decide_eq_true_eq] at hb
      obtain ⟨⟨h1, h2⟩, h3⟩ := hb
      have hm := climbs_mem _ _ hc
      obtain ⟨k, hk⟩ := Int.eq_ofNat_of_zero_le h1
      refine .inr ⟨k, putS q.pieces, by rw [hk], hk, by omega, rfl, putS_pos (fun k hk => by have := hm k hk; omega) h3, putS_pow fun k hk => by have := hm k hk; omega, hc, h3⟩
  · exact .inl rfl
def parcOk (b : PBook) (q : Parc) : Bool := (loadM b.pieces.length b.kinds.length q).2
def fitsM (b : PBook) (q : Parc) : Bool × Int := if bookOk b then (if parcOk b q then (fitsB b q.kind.toNat (putS q.pieces), 0) else (false, 61)) else (false, 60)
def postM (b : PBook) (q : Parc) (z : Int) : Int × Int :=
  if bookOk b then (if parcOk b q && (decide (0 ≤ z) && decide (z ≤ 4)) then (if postG b z q.kind.toNat (putS q.pieces) = 0 then (0, 4) else (postG b z q.kind.toNat (putS q.pieces), 0)) else (0, 61)) else (0, 60)
theorem Fits_fn (b : PBook) (h4 : Big4 b) (q : Parc) (hq : big q.pieces.length) : Fn E8 1 14 Tryd.f14 (Tryd.f14.body.getD .skip) [.agg (encB b), .agg (encQ q)] (.tup [.bool (fitsM b q).1, .int .i64 (fitsM b q).2]) := by
  unfold Fn Tryd.f14 fitsM
  have hdb : (dec (.agg (encB b)) : Option PBook) = some b := dec_book b
  cases hb : bookOk b with
  | false =>
    obtain ⟨ps, ks, gr, fr, un, fe, st⟩ := b
    simp only [encB] at hdb
    simp only [go_sem, Nat.reduceAdd, Nat.reduceSub, Nat.reduceMul, Nat.reduceEqDiff, Nat.reduceLT, Nat.reduceLeDiff, Nat.reduceBEq, Nat.reduceBNe, Int.reduceToNat, Int.reduceLE, Int.reduceLT, Int.reduceNe, Int.reduceNeg, reduceCtorEq, Int.reduceBEq, Int.reduceBNe, @callV_spec E8 16 s16 rfl, @callV_specT E8 16 s16 rfl, @stepV_spec E8 16 s16 rfl, @effV_spec E8 16 s16 rfl, s16, callSpec, encB, encQ, hdb, hb, h4]
  | true =>
    have hG := book_good hb
    obtain ⟨kd, l⟩ := q
    simp only at hq
    have hlc := loadM_cases b ⟨kd, l⟩
    have hp7 := hG.p7
    have hk4 := hG.k4
    have hpo : parcOk b ⟨kd, l⟩ = (loadM b.pieces.length b.kinds.length ⟨kd, l⟩).2 := rfl
    obtain ⟨ps, ks, gr, fr, un, fe, st⟩ := b
    simp only [encB] at hdb
    simp only at hp7 hk4 hlc hpo
    simp only [go_sem, Nat.reduceAdd, Nat.reduceSub, Nat.reduceMul, Nat.reduceEqDiff, Nat.reduceLT, Nat.reduceLeDiff, Nat.reduceBEq, Nat.reduceBNe, Int.reduceToNat, Int.reduceLE, Int.reduceLT, Int.reduceNe, Int.reduceNeg, reduceCtorEq, Int.reduceBEq, Int.reduceBNe, @callV_spec E8 16 s16 rfl, @callV_specT E8 16 s16 rfl, @stepV_spec E8 16 s16 rfl, @effV_spec E8 16 s16 rfl, s16, callSpec, encB, encQ, hdb, hb, h4, @callV_in E8 54 rfl, heavy_none]
    refine opened_inG (fun _ => E8_ti) rfl ⟨ps, ks, gr, fr, un, fe, st⟩ 0 0 [14004001] _ _ fun v H' e1 e2 => ?_
    have e3 := e2 ([], 14000000) (by simp)
    have e4 := e2 ([], 14000001) (by simp)
    simp only [go_sem, Nat.reduceAdd, Nat.reduceSub, Nat.reduceMul, Nat.reduceEqDiff, Nat.reduceLT, Nat.reduceLeDiff, Nat.reduceBEq, Nat.reduceBNe, Int.reduceToNat, Int.reduceLE, Int.reduceLT, Int.reduceNe, Int.reduceNeg, reduceCtorEq, Int.reduceBEq, Int.reduceBNe] at e3 e4
    rw [hpo]
    rcases hlc with hl | ⟨k, s, hl, hL⟩
    · simp only [go_sem, Nat.reduceAdd, Nat.reduceSub, Nat.reduceMul, Nat.reduceEqDiff, Nat.reduceLT, Nat.reduceLeDiff, Nat.reduceBEq, Nat.reduceBNe, Int.reduceToNat, Int.reduceLE, Int.reduceLT, Int.reduceNe, Int.reduceNeg, reduceCtorEq, Int.reduceBEq, Int.reduceBNe, @callV_spec E8 55 s55 rfl, @callV_specT E8 55 s55 rfl, @stepV_spec E8 55 s55 rfl, @effV_spec E8 55 s55 rfl, s55, @callV_spec E8 56 s56 rfl, @callV_specT E8 56 s56 rfl, @stepV_spec E8 56 s56 rfl, @effV_spec E8 56 s56 rfl, s56, callSpec, encB, e1, e3, e4, hp7, hk4, hq, hl]
    · obtain ⟨q1, q2, q3, q4, q5, q6, q7⟩ := hL
      simp only at q1 q2 q3 q5
      subst q1
      have hkk : (k : Int) < (ks.length : Int) := by omega
      simp only [go_sem, Nat.reduceAdd, Nat.reduceSub, Nat.reduceMul, Nat.reduceEqDiff, Nat.reduceLT, Nat.reduceLeDiff, Nat.reduceBEq, Nat.reduceBNe, Int.reduceToNat, Int.reduceLE, Int.reduceLT, Int.reduceNe, Int.reduceNeg, reduceCtorEq, Int.reduceBEq, Int.reduceBNe, @callV_spec E8 55 s55 rfl, @callV_specT E8 55 s55 rfl, @stepV_spec E8 55 s55 rfl, @effV_spec E8 55 s55 rfl, s55, @callV_spec E8 56 s56 rfl, @callV_specT E8 56 s56 rfl, @stepV_spec E8 56 s56 rfl, @effV_spec E8 56 s56 rfl, s56, callSpec, encB, e1, e3, e4, hp7, hk4, hq, hl, hG, hkk, q3, q5, Int.natCast_nonneg, Int.toNat_natCast]
def s14 : Spec := spec2 (fun (b : PBook) (q : Parc) => Big4 b ∧ big q.pieces.length) (fun b q => .tup [.bool (fitsM b q).1, .int .i64 (fitsM b q).2])
theorem s14_ok : SpecOK Tryd.prog glB 14 s14 := spec2_ok E8_ok Tryd.func14 rfl (by kernel_rfl) fun b q h => Fits_fn b h.1 q h.2
theorem Postage_fn (b : PBook) (h4 : Big4 b) (q : Parc) (hq : big q.pieces.length) (z : Int) : Fn E8 2 18 Tryd.f18 (Tryd.f18.body.getD .skip) [.agg (encB b), .agg (encQ q), .int .i64 z] (.tup [.int .i64 (postM b q z).1, .int .i64 (postM b q z).2]) := by
  unfold Fn Tryd.f18 postM
  have hdb : (dec (.agg (encB b)) : Option PBook) = some b := dec_book b
  cases hb : bookOk b with
  | false =>
    obtain ⟨ps, ks, gr, fr, un, fe, st⟩ := b
    simp only [encB] at hdb
    simp only [go_sem, Nat.reduceAdd, Nat.reduceSub, Nat.reduceMul, Nat.reduceEqDiff, Nat.reduceLT, Nat.reduceLeDiff, Nat.reduceBEq, Nat.reduceBNe, Int.reduceToNat, Int.reduceLE, Int.reduceLT, Int.reduceNe, Int.reduceNeg, reduceCtorEq, Int.reduceBEq, Int.reduceBNe, @callV_spec E8 16 s16 rfl, @callV_specT E8 16 s16 rfl, @stepV_spec E8 16 s16 rfl, @effV_spec E8 16 s16 rfl, s16, callSpec, encB, encQ, hdb, hb, h4]
  | true =>
    have hG := book_good hb
    have hGs := hG
    obtain ⟨kd, l⟩ := q
    simp only at hq
    have hlc := loadM_cases b ⟨kd, l⟩
    have hp7 := hG.p7
    have hk4 := hG.k4
    have hpo : parcOk b ⟨kd, l⟩ = (loadM b.pieces.length b.kinds.length ⟨kd, l⟩).2 := rfl
    obtain ⟨ps, ks, gr, fr, un, fe, st⟩ := b
    simp only [encB] at hdb
    simp only at hp7 hk4 hlc hpo
    simp only [go_sem, Nat.reduceAdd, Nat.reduceSub, Nat.reduceMul, Nat.reduceEqDiff, Nat.reduceLT, Nat.reduceLeDiff, Nat.reduceBEq, Nat.reduceBNe, Int.reduceToNat, Int.reduceLE, Int.reduceLT, Int.reduceNe, Int.reduceNeg, reduceCtorEq, Int.reduceBEq, Int.reduceBNe, @callV_spec E8 16 s16 rfl, @callV_specT E8 16 s16 rfl, @stepV_spec E8 16 s16 rfl, @effV_spec E8 16 s16 rfl, s16, callSpec, encB, encQ, hdb, hb, h4, @callV_in E8 54 rfl, heavy_none]
    refine opened_inG (fun _ => E8_ti) rfl ⟨ps, ks, gr, fr, un, fe, st⟩ z 1 [18004002] _ _ fun v H' e1 e2 => ?_
    have e3 := e2 ([], 18000000) (by simp)
    have e4 := e2 ([], 18000001) (by simp)
    simp only [go_sem, Nat.reduceAdd, Nat.reduceSub, Nat.reduceMul, Nat.reduceEqDiff, Nat.reduceLT, Nat.reduceLeDiff, Nat.reduceBEq, Nat.reduceBNe, Int.reduceToNat, Int.reduceLE, Int.reduceLT, Int.reduceNe, Int.reduceNeg, reduceCtorEq, Int.reduceBEq, Int.reduceBNe] at e3 e4
    rw [hpo]
    rcases hlc with hl | ⟨k, s, hl, hL⟩
    · simp only [go_sem, Nat.reduceAdd, Nat.reduceSub, Nat.reduceMul, Nat.reduceEqDiff, Nat.reduceLT, Nat.reduceLeDiff, Nat.reduceBEq, Nat.reduceBNe, Int.reduceToNat, Int.reduceLE, Int.reduceLT, Int.reduceNe, Int.reduceNeg, reduceCtorEq, Int.reduceBEq, Int.reduceBNe, @callV_spec E8 55 s55 rfl, @callV_specT E8 55 s55 rfl, @stepV_spec E8 55 s55 rfl, @effV_spec E8 55 s55 rfl, s55, @callV_spec E8 61 s61 rfl, @callV_specT E8 61 s61 rfl, @stepV_spec E8 61 s61 rfl, @effV_spec E8 61 s61 rfl, s61, callSpec, encB, e1, e3, e4, hp7, hk4, hq, hl]
    · obtain ⟨q1, q2, q3, q4, q5, q6, q7⟩ := hL
      simp only at q1 q2 q3 q5
      subst q1
      have hkk : (k : Int) < (ks.length : Int) := by omega
      cases hz : (decide (0 ≤ z) && decide (z ≤ 4)) with
      | false => simp only [go_sem, Nat.reduceAdd, Nat.reduceSub, Nat.reduceMul, Nat.reduceEqDiff, Nat.reduceLT, Nat.reduceLeDiff, Nat.reduceBEq, Nat.reduceBNe, Int.reduceToNat, Int.reduceLE, Int.reduceLT, Int.reduceNe, Int.reduceNeg, reduceCtorEq, Int.reduceBEq, Int.reduceBNe, @callV_spec E8 55 s55 rfl, @callV_specT E8 55 s55 rfl, @stepV_spec E8 55 s55 rfl, @effV_spec E8 55 s55 rfl, s55, @callV_spec E8 61 s61 rfl, @callV_specT E8 61 s61 rfl, @stepV_spec E8 61 s61 rfl, @effV_spec E8 61 s61 rfl, s61, callSpec, encB, e1, e3, e4, hp7, hk4, hq, hl, hz]
      | true =>
        have hz' : 0 ≤ z ∧ z ≤ 4 := by simpa using hz
        simp only [go_sem, Nat.reduceAdd, Nat.reduceSub, Nat.reduceMul, Nat.reduceEqDiff, Nat.reduceLT, Nat.reduceLeDiff, Nat.reduceBEq, Nat.reduceBNe, Int.reduceToNat, Int.reduceLE, Int.reduceLT, Int.reduceNe, Int.reduceNeg, reduceCtorEq, Int.reduceBEq, Int.reduceBNe, @callV_spec E8 55 s55 rfl, @callV_specT E8 55 s55 rfl, @stepV_spec E8 55 s55 rfl, @effV_spec E8 55 s55 rfl, s55, @callV_spec E8 61 s61 rfl, @callV_specT E8 61 s61 rfl, @stepV_spec E8 61 s61 rfl, @effV_spec E8 61 s61 rfl, s61, callSpec, encB, e1, e3, e4, hp7, hk4, hq, hl, hz, @callV_in E8 62 rfl, heavy_none]
        refine postage_in (fun _ => E8_ti) rfl rfl rfl rfl rfl rfl rfl (b := ⟨ps, ks, gr, fr, un, fe, st⟩) hGs hz' q2 q4 q5 1 [18008002] _ _ ([18004002], 54001002) v [] ?_ OkM.nil (suf_head (by decide)) fun H2 es2 r1 r2 r3 => ?_
        · simp only [go_sem, Nat.reduceAdd, Nat.reduceSub, Nat.reduceMul, Nat.reduceEqDiff, Nat.reduceLT, Nat.reduceLeDiff, Nat.reduceBEq, Nat.reduceBNe, Int.reduceToNat, Int.reduceLE, Int.reduceLT, Int.reduceNe, Int.reduceNeg, reduceCtorEq, Int.reduceBEq, Int.reduceBNe, e1]
        · rw [q3]
          simp only [go_sem, Nat.reduceAdd, Nat.reduceSub, Nat.reduceMul, Nat.reduceEqDiff, Nat.reduceLT, Nat.reduceLeDiff, Nat.reduceBEq, Nat.reduceBNe, Int.reduceToNat, Int.reduceLE, Int.reduceLT, Int.reduceNe, Int.reduceNeg, reduceCtorEq, Int.reduceBEq, Int.reduceBNe, Int.toNat_natCast]
          rw [condK_bool]
          refine ⟨fun hc => ?_, fun hc => ?_⟩
          · have hc : postG ⟨ps, ks, gr, fr, un, fe, st⟩ z k s = 0 := by simpa using hc
            simp only [go_sem, Nat.reduceAdd, Nat.reduceSub, Nat.reduceMul, Nat.reduceEqDiff, Nat.reduceLT, Nat.reduceLeDiff, Nat.reduceBEq, Nat.reduceBNe, Int.reduceToNat, Int.reduceLE, Int.reduceLT, Int.reduceNe, Int.reduceNeg, reduceCtorEq, Int.reduceBEq, Int.reduceBNe, hc]
          · have hc : ¬ postG ⟨ps, ks, gr, fr, un, fe, st⟩ z k s = 0 := by simpa using hc
            simp only [go_sem, Nat.reduceAdd, Nat.reduceSub, Nat.reduceMul, Nat.reduceEqDiff, Nat.reduceLT, Nat.reduceLeDiff, Nat.reduceBEq, Nat.reduceBNe, Int.reduceToNat, Int.reduceLE, Int.reduceLT, Int.reduceNe, Int.reduceNeg, reduceCtorEq, Int.reduceBEq, Int.reduceBNe, hc]
def s18 : Spec := spec3 (fun (b : PBook) (q : Parc) (_ : Int) => Big4 b ∧ big q.pieces.length) (fun b q z => .tup [.int .i64 (postM b q z).1, .int .i64 (postM b q z).2])
theorem s18_ok : SpecOK Tryd.prog glB 18 s18 := spec3_ok E8_ok Tryd.func18 rfl (by kernel_rfl) fun b q z h => Postage_fn b h.1 q h.2 z
end Wb
/- The best division of the whole order; Few, Cost, Cheapest. -/
namespace Wb
open Go Go.Proofs Enc Row
set_option linter.unusedSimpArgs false
set_option linter.unusedVariables false
set_option maxRecDepth 20000
set_option maxHeartbeats 4000000
/-- Which of two divisions is the better one. -/
structure By where
  c : Bool
def dBy : PV → Option By
  | .agg [.fn f [] []] => (dFn f).map By.mk
  | _ => none
instance : Enc By where
  enc x := .agg [.fn (fnum x.c) [] []]
  dec := dBy
  wk_dec p a h := by
    unfold dBy at h
    split at h
    · simp only [Option.map_eq_some_iff] at h
      obtain ⟨c, h1, rfl⟩ := h
      rw [dFn_some h1]; exact wk_refl _
    · cases h
  dec_enc x := by obtain ⟨c⟩ := x; cases c <;> rfl
theorem dec_by88 : (dec (.agg [.fn 88 [] []]) : Option By) = some ⟨false⟩ := rfl
theorem dec_by89 : (dec (.agg [.fn 89 [] []]) : Option By) = some ⟨true⟩ := rfl
attribute [go_sem] dec_by88 dec_by89
def wholeM (c : Bool) (b : PBook) (z : Int) : Dv × Int :=
  if bookOk b then (if decide (0 ≤ z) && decide (z ≤ 4) then (if (dvOf c b z (2 ^ b.pieces.length - 1)).2 < 0 then (([], 0), 4) else (dvOf c b z (2 ^ b.pieces.length - 1), 0)) else (([], 0), 61)) else (([], 0), 60)
theorem whole_fn (c : Bool) (b : PBook) (h4 : Big4 b) (z : Int) : Fn E8 0 67 Tryd.f67 (Tryd.f67.body.getD .skip) [.agg (encB b), .int .i64 z, .agg [.fn (fnum c) [] []]] (.tup [dvPV (wholeM c b z).1 false, .int .i64 (wholeM c b z).2]) := by
  unfold Fn Tryd.f67 wholeM
  have hdb : (dec (.agg (encB b)) : Option PBook) = some b := dec_book b
  cases hb : bookOk b with
  | false =>
    obtain ⟨ps, ks, gr, fr, un, fe, st⟩ := b
    simp only [encB] at hdb
    simp only [go_sem, Nat.reduceAdd, Nat.reduceSub, Nat.reduceMul, Nat.reduceEqDiff, Nat.reduceLT, Nat.reduceLeDiff, Nat.reduceBEq, Nat.reduceBNe, Int.reduceToNat, Int.reduceLE, Int.reduceLT, Int.reduceNe, Int.reduceNeg, reduceCtorEq, Int.reduceBEq, Int.reduceBNe, @callV_spec E8 16 s16 rfl, @callV_specT E8 16 s16 rfl, @stepV_spec E8 16 s16 rfl, @effV_spec E8 16 s16 rfl, s16, callSpec, encB, hdb, hb, h4, dvPV, castL]
  | true =>
    have hG := book_good hb
    have hp7 := hG.p7
    cases hz : (decide (0 ≤ z) && decide (z ≤ 4)) with
    | false =>
      obtain ⟨ps, ks, gr, fr, un, fe, st⟩ := b
      simp only [encB] at hdb
      simp only [go_sem, Nat.reduceAdd, Nat.reduceSub, Nat.reduceMul, Nat.reduceEqDiff, Nat.reduceLT, Nat.reduceLeDiff, Nat.reduceBEq, Nat.reduceBNe, Int.reduceToNat, Int.reduceLE, Int.reduceLT, Int.reduceNe, Int.reduceNeg, reduceCtorEq, Int.reduceBEq, Int.reduceBNe, @callV_spec E8 16 s16 rfl, @callV_specT E8 16 s16 rfl, @stepV_spec E8 16 s16 rfl, @effV_spec E8 16 s16 rfl, s16, @callV_spec E8 61 s61 rfl, @callV_specT E8 61 s61 rfl, @stepV_spec E8 61 s61 rfl, @effV_spec E8 61 s61 rfl, s61, callSpec, encB, hdb, hb, h4, hz, dvPV, castL]
    | true =>
      have hz' : 0 ≤ z ∧ z ≤ 4 := by simpa using hz
      have hd7 := dB7_enc b
      have hpow : 2 ^ b.pieces.length - 1 < 2 ^ b.pieces.length := by have := Nat.two_pow_pos b.pieces.length; omega
      have hp1 := Nat.two_pow_pos b.pieces.length
      have hple : 2 ^ b.pieces.length ≤ 2 ^ 7 := Nat.pow_le_pow_right (by decide) hp7
      have hsh := shl_one (k := b.pieces.length) (by omega)
      have w1 : IntKind.i64.wrap (((2 ^ b.pieces.length : Nat) : Int) - 1) = ((2 ^ b.pieces.length - 1 : Nat) : Int) := by
        rw [show ((2 ^ b.pieces.length - 1 : Nat) : Int) = ((2 ^ b.pieces.length : Nat) : Int) - 1 by omega]
        exact wrap_id (by omega)
      have hdf : dFn (fnum c) = some c := by cases c <;> rfl
      obtain ⟨ps, ks, gr, fr, un, fe, st⟩ := b
      simp only [encB] at hdb
      simp only at hp7 hpow hp1 hple hsh w1 hd7
      simp only [go_sem, Nat.reduceAdd, Nat.reduceSub, Nat.reduceMul, Nat.reduceEqDiff, Nat.reduceLT, Nat.reduceLeDiff, Nat.reduceBEq, Nat.reduceBNe, Int.reduceToNat, Int.reduceLE, Int.reduceLT, Int.reduceNe, Int.reduceNeg, reduceCtorEq, Int.reduceBEq, Int.reduceBNe, @callV_spec E8 16 s16 rfl, @callV_specT E8 16 s16 rfl, @stepV_spec E8 16 s16 rfl, @effV_spec E8 16 s16 rfl, s16, @callV_spec E8 61 s61 rfl, @callV_specT E8 61 s61 rfl, @stepV_spec E8 61 s61 rfl, @effV_spec E8 61 s61 rfl, s61, @effV_eff E8 54 e54 rfl rfl, e54, @effV_eff E8 64 e64 rfl rfl, e64, callSpec, encB, hdb, hb, h4, hz, hd7, binInt, hsh, w1, hdf, List.length_map]
      intro v H' hF ⟨vm, hv, hM⟩
      subst hv
      have f0 := hF ([], 67000000) (by simp)
      have f1 := hF ([], 67000001) (by simp)
      have f2 := hF ([], 67000002) (by simp)
      simp only [go_sem, Nat.reduceAdd, Nat.reduceSub, Nat.reduceMul, Nat.reduceEqDiff, Nat.reduceLT, Nat.reduceLeDiff, Nat.reduceBEq, Nat.reduceBNe, Int.reduceToNat, Int.reduceLE, Int.reduceLT, Int.reduceNe, Int.reduceNeg, reduceCtorEq, Int.reduceBEq, Int.reduceBNe] at f0 f1 f2
      have hsf : ([67006009] <:+ [67006002]) = False := eq_false (suf_head (by decide))
      have hnil : ∀ a : Nat, ([a] <:+ ([] : List Nat)) = False := fun a => eq_false (by simp)
      simp only [go_sem, Nat.reduceAdd, Nat.reduceSub, Nat.reduceMul, Nat.reduceEqDiff, Nat.reduceLT, Nat.reduceLeDiff, Nat.reduceBEq, Nat.reduceBNe, Int.reduceToNat, Int.reduceLE, Int.reduceLT, Int.reduceNe, Int.reduceNeg, reduceCtorEq, Int.reduceBEq, Int.reduceBNe, @effV_eff E8 64 e64 rfl rfl, e64, callSpec, f0, f1, f2, encB, List.length_map, binInt, hsh, w1, hd7, hdf, hsf, hnil, hG, hz', hpow, Int.natCast_nonneg, Int.toNat_natCast]
      refine ⟨⟨[], hM, OkM.nil⟩, fun v H2 hF2 ⟨⟨ex, hv⟩, _⟩ => ?_⟩
      have g2 := (hF2 ([], 67000002) (by simp)).trans f2
      obtain ⟨d, hd⟩ : ∃ d, dvOf c ⟨ps, ks, gr, fr, un, fe, st⟩ z (2 ^ ps.length - 1) = d := ⟨_, rfl⟩
      simp only [Int.toNat_natCast, hd] at hv
      simp only [hd]
      subst hv
      unfold dvPV
      simp only [go_sem, Nat.reduceAdd, Nat.reduceSub, Nat.reduceMul, Nat.reduceEqDiff, Nat.reduceLT, Nat.reduceLeDiff, Nat.reduceBEq, Nat.reduceBNe, Int.reduceToNat, Int.reduceLE, Int.reduceLT, Int.reduceNe, Int.reduceNeg, reduceCtorEq, Int.reduceBEq, Int.reduceBNe, hnil]
      rw [condK_bool]
      refine ⟨fun hc => ?_, fun hc => ?_⟩
      · have hc : d.2 < 0 := by simp at hc; omega
        simp only [go_sem, Nat.reduceAdd, Nat.reduceSub, Nat.reduceMul, Nat.reduceEqDiff, Nat.reduceLT, Nat.reduceLeDiff, Nat.reduceBEq, Nat.reduceBNe, Int.reduceToNat, Int.reduceLE, Int.reduceLT, Int.reduceNe, Int.reduceNeg, reduceCtorEq, Int.reduceBEq, Int.reduceBNe, g2, hc, castL, List.map_nil]
      · have hc : ¬ d.2 < 0 := by simp at hc; omega
        simp only [go_sem, Nat.reduceAdd, Nat.reduceSub, Nat.reduceMul, Nat.reduceEqDiff, Nat.reduceLT, Nat.reduceLeDiff, Nat.reduceBEq, Nat.reduceBNe, Int.reduceToNat, Int.reduceLE, Int.reduceLT, Int.reduceNe, Int.reduceNeg, reduceCtorEq, Int.reduceBEq, Int.reduceBNe, g2, hc]
def s67 : Spec := spec3 (fun (b : PBook) (_ : Int) (_ : By) => Big4 b) (fun b z y => .tup [dvPV (wholeM y.c b z).1 false, .int .i64 (wholeM y.c b z).2])
theorem s67_ok : SpecOK Tryd.prog glB 67 s67 := spec3_ok E8_ok Tryd.func67 rfl (by kernel_rfl) fun b z y h => whole_fn y.c b h z
end Wb
/- Few, Cost, Cheapest. -/
namespace Wb
open Go Go.Proofs Enc Row
set_option linter.unusedSimpArgs false
set_option linter.unusedVariables false
set_option maxRecDepth 20000
set_option maxHeartbeats 4000000
def E9t : List (Nat × Spec) := [(67, s67), (14, s14), (18, s18)] ++ E8t
theorem E9t_ok : AllOK E9t := ⟨⟨s67_ok, Tryd.call67⟩, ⟨s14_ok, Tryd.call14⟩, ⟨s18_ok, Tryd.call18⟩, E8t_ok⟩
noncomputable def E9 : Env := mkE E9t []
theorem E9_ok : EnvOK Tryd.prog E9 := envOK E9t_ok trivial
theorem E9_ti {t : Nat} : E9.ti t = ti t := rfl
theorem E9_q0 : (E9).eqt 130 = true := rfl
theorem E9_q1 : (E9).keyt 3 = true := rfl
theorem E9_q2 : (E9).keyt 85 = true := rfl
attribute [go_sem] E9_ti E9_q0 E9_q1 E9_q2
def fewM (b : PBook) : Int × Int := (((wholeM false b 0).1.1.length : Int), (wholeM false b 0).2)
def costM (b : PBook) (z : Int) : Int × Int := ((wholeM true b z).1.2, (wholeM true b z).2)
theorem Few_fn (b : PBook) (h4 : Big4 b) : Fn E9 0 26 Tryd.f26 (Tryd.f26.body.getD .skip) [.agg (encB b)] (.tup [.int .i64 (fewM b).1, .int .i64 (fewM b).2]) := by
  have hdb : (dec (.agg (encB b)) : Option PBook) = some b := dec_book b
  unfold Fn Tryd.f26 fewM
  obtain ⟨ps, ks, gr, fr, un, fe, st⟩ := b
  simp only [encB] at hdb
  simp only [go_sem, Nat.reduceAdd, Nat.reduceSub, Nat.reduceMul, Nat.reduceEqDiff, Nat.reduceLT, Nat.reduceLeDiff, Nat.reduceBEq, Nat.reduceBNe, Int.reduceToNat, Int.reduceLE, Int.reduceLT, Int.reduceNe, Int.reduceNeg, reduceCtorEq, Int.reduceBEq, Int.reduceBNe, @callV_spec E9 65 s65 rfl, @callV_specT E9 65 s65 rfl, @stepV_spec E9 65 s65 rfl, @effV_spec E9 65 s65 rfl, s65, @callV_spec E9 67 s67 rfl, @callV_specT E9 67 s67 rfl, @stepV_spec E9 67 s67 rfl, @effV_spec E9 67 s67 rfl, s67, callSpec, encB, hdb, h4, dvPV, List.length_map, castL_len]
theorem Cost_fn (b : PBook) (h4 : Big4 b) (z : Int) : Fn E9 0 28 Tryd.f28 (Tryd.f28.body.getD .skip) [.agg (encB b), .int .i64 z] (.tup [.int .i64 (costM b z).1, .int .i64 (costM b z).2]) := by
  have hdb : (dec (.agg (encB b)) : Option PBook) = some b := dec_book b
  unfold Fn Tryd.f28 costM
  obtain ⟨ps, ks, gr, fr, un, fe, st⟩ := b
  simp only [encB] at hdb
  simp only [go_sem, Nat.reduceAdd, Nat.reduceSub, Nat.reduceMul, Nat.reduceEqDiff, Nat.reduceLT, Nat.reduceLeDiff, Nat.reduceBEq, Nat.reduceBNe, Int.reduceToNat, Int.reduceLE, Int.reduceLT, Int.reduceNe, Int.reduceNeg, reduceCtorEq, Int.reduceBEq, Int.reduceBNe, @callV_spec E9 68 s68 rfl, @callV_specT E9 68 s68 rfl, @stepV_spec E9 68 s68 rfl, @effV_spec E9 68 s68 rfl, s68, @callV_spec E9 67 s67 rfl, @callV_specT E9 67 s67 rfl, @stepV_spec E9 67 s67 rfl, @effV_spec E9 67 s67 rfl, s67, callSpec, encB, hdb, h4, dvPV, List.length_map, castL_len]
def s26 : Spec := spec1 (fun (b : PBook) => Big4 b) (fun b => .tup [.int .i64 (fewM b).1, .int .i64 (fewM b).2])
theorem s26_ok : SpecOK Tryd.prog glB 26 s26 := spec1_ok E9_ok Tryd.func26 rfl (by kernel_rfl) fun b h => Few_fn b h
def s28 : Spec := spec2 (fun (b : PBook) (_ : Int) => Big4 b) (fun b z => .tup [.int .i64 (costM b z).1, .int .i64 (costM b z).2])
theorem s28_ok : SpecOK Tryd.prog glB 28 s28 := spec2_ok E9_ok Tryd.func28 rfl (by kernel_rfl) fun b z h => Cost_fn b h z
/-- What is told of a division. -/
def toldL (l : List (Nat × Nat)) : List Parc := l.map fun x => ⟨x.1, ofS x.2 7⟩
def encQt (x : Parc) : List PV := [.int .i64 x.kind, .sl (il x.pieces) true]
theorem wk_told : ∀ l : List Parc, wk.wkR (l.map encQt) (l.map encQ)
  | [] => trivial
  | q :: l => ⟨⟨rfl, ⟨wkR_refl _, fun h => by cases h⟩, trivial⟩, wk_told l⟩
def cheapestM (b : PBook) (z : Int) : List Parc × Int := if (wholeM true b z).2 ≠ 0 then ([], (wholeM true b z).2) else (toldL (wholeM true b z).1.1, 0)
theorem whole_small {c : Bool} {b : PBook} {z : Int} (h : (wholeM c b z).2 = 0) : bookOk b = true ∧ (0 ≤ z ∧ z ≤ 4) ∧ wholeM c b z = (dvOf c b z (2 ^ b.pieces.length - 1), 0) ∧ 0 ≤ (dvOf c b z (2 ^ b.pieces.length - 1)).2 := by
  unfold wholeM at *
  cases hb : bookOk b with
  | false => rw [hb] at h; exact absurd (show (60 : Int) = 0 from h) (by decide)
  | true =>
    rw [hb] at h
    simp only [if_true] at h ⊢
    cases hz : (decide (0 ≤ z) && decide (z ≤ 4)) with
    | false => rw [hz] at h; exact absurd (show (61 : Int) = 0 from h) (by decide)
    | true =>
      rw [hz] at h
      simp only [if_true] at h ⊢
      split at h
      · exact absurd h (by decide)
      · rename_i hn
        rw [if_neg hn]
        exact ⟨trivial, by simpa using hz, rfl, by omega⟩
theorem pow7 {b : PBook} (hG : GBook b) : 2 ^ b.pieces.length - 1 < 128 ∧ 2 ^ b.pieces.length - 1 < 2 ^ b.pieces.length := by
  have h1 : 2 ^ b.pieces.length ≤ 2 ^ 7 := Nat.pow_le_pow_right (by decide) hG.p7
  have h2 := Nat.two_pow_pos b.pieces.length
  omega
theorem Cheapest_fn (b : PBook) (h4 : Big4 b) (z : Int) : Fn E9 0 29 Tryd.f29 (Tryd.f29.body.getD .skip) [.agg (encB b), .int .i64 z] (.tup [.sl ((cheapestM b z).1.map encQ) true, .int .i64 (cheapestM b z).2]) := by
  have hdb : (dec (.agg (encB b)) : Option PBook) = some b := dec_book b
  unfold Fn Tryd.f29 cheapestM
  have hsm := whole_small (c := true) (b := b) (z := z)
  generalize hw : wholeM true b z = w at *
  obtain ⟨⟨L, c⟩, e⟩ := w
  obtain ⟨ps, ks, gr, fr, un, fe, st⟩ := b
  simp only [encB] at hdb
  simp only [go_sem, Nat.reduceAdd, Nat.reduceSub, Nat.reduceMul, Nat.reduceEqDiff, Nat.reduceLT, Nat.reduceLeDiff, Nat.reduceBEq, Nat.reduceBNe, Int.reduceToNat, Int.reduceLE, Int.reduceLT, Int.reduceNe, Int.reduceNeg, reduceCtorEq, Int.reduceBEq, Int.reduceBNe, @callV_spec E9 68 s68 rfl, @callV_specT E9 68 s68 rfl, @stepV_spec E9 68 s68 rfl, @effV_spec E9 68 s68 rfl, s68, @callV_spec E9 67 s67 rfl, @callV_specT E9 67 s67 rfl, @stepV_spec E9 67 s67 rfl, @effV_spec E9 67 s67 rfl, s67, callSpec, encB, hdb, h4, hw, dvPV, List.length_map, castL_len]
  rw [condK_bool]
  refine ⟨fun hc => ?_, fun hc => ?_⟩
  · have hc : ¬ e = 0 := by simpa using hc
    simp only [go_sem, Nat.reduceAdd, Nat.reduceSub, Nat.reduceMul, Nat.reduceEqDiff, Nat.reduceLT, Nat.reduceLeDiff, Nat.reduceBEq, Nat.reduceBNe, Int.reduceToNat, Int.reduceLE, Int.reduceLT, Int.reduceNe, Int.reduceNeg, reduceCtorEq, Int.reduceBEq, Int.reduceBNe, hc, List.map_nil]
  · have hc : e = 0 := by simpa using hc
    subst hc
    obtain ⟨hb, hz, h1, h2⟩ := hsm rfl
    have hG := book_good hb
    obtain ⟨p1, p2⟩ := pow7 hG
    have hok := divD_ok (c := true) (nk := ks.length) (post := postG ⟨ps, ks, gr, fr, un, fe, st⟩ z) (fun k p => (postG_nonneg hG hz k p).1) 128 _ p1 p1
    have hlen := hok.len p1
    have hdv : dvOf true ⟨ps, ks, gr, fr, un, fe, st⟩ z (2 ^ ps.length - 1) = (L, c) := by simp only [Prod.mk.injEq, and_true] at h1; exact h1.symm
    have hdv' : divD true ks.length (postG ⟨ps, ks, gr, fr, un, fe, st⟩ z) (2 ^ ps.length - 1) = (L, c) := hdv
    rw [hdv'] at hok hlen
    simp only at hlen
    have hmem : ∀ x ∈ L, x.2 < 128 := by
      rcases hok with ⟨q, _⟩ | ⟨_, q, _⟩
      · simp only [Prod.mk.injEq] at q; rw [q.1]; intro x hx; cases hx
      · exact fun x hx => (q.ok x hx).2.1
    simp only [go_sem, Nat.reduceAdd, Nat.reduceSub, Nat.reduceMul, Nat.reduceEqDiff, Nat.reduceLT, Nat.reduceLeDiff, Nat.reduceBEq, Nat.reduceBNe, Int.reduceToNat, Int.reduceLE, Int.reduceLT, Int.reduceNe, Int.reduceNeg, reduceCtorEq, Int.reduceBEq, Int.reduceBNe]
    refine ev_loopS [6, 22, 23] (fun x : Nat × PV => [(5, .int .i64 0), (8, x.2), (24, .int .i64 x.1)])
      (fun x H => x.1 ≤ L.length ∧ Own H (fun K => K = ([], 29008008)) x.2 2 ((toldL (L.take x.1)).map encQt)) (fun x => L.length - x.1) (0, .sl [] true) ?_ ⟨Nat.zero_le _, .nil⟩ ?_
    · simp only [go_sem, Nat.reduceAdd, Nat.reduceSub, Nat.reduceMul, Nat.reduceEqDiff, Nat.reduceLT, Nat.reduceLeDiff, Nat.reduceBEq, Nat.reduceBNe, Int.reduceToNat, Int.reduceLE, Int.reduceLT, Int.reduceNe, Int.reduceNeg, reduceCtorEq, Int.reduceBEq, Int.reduceBNe]
    · simp only [go_sem, Nat.reduceAdd, Nat.reduceSub, Nat.reduceMul, Nat.reduceEqDiff, Nat.reduceLT, Nat.reduceLeDiff, Nat.reduceBEq, Nat.reduceBNe, Int.reduceToNat, Int.reduceLE, Int.reduceLT, Int.reduceNe, Int.reduceNeg, reduceCtorEq, Int.reduceBEq, Int.reduceBNe]
      intro K x H ⟨hi, h3⟩ hK hE
      obtain ⟨i, p⟩ := x
      simp only at hi h3
      dsimp only
      obtain ⟨ex, qs, hz1, hz2, hks⟩ := h3.frz
      obtain ⟨hT, hC, hP, hV, hU⟩ := OwnTaint h3
      rw [condK_bool]
      refine ⟨fun h => ?_, fun h => ?_⟩
      · have h' : i < L.length := by simpa [castL_len] using h
        have hii : (i : Int) < (L.length : Int) := by omega
        have w2 : IntKind.i64.wrap ((i : Int) + 1) = (i : Int) + 1 := wrap_id (by omega)
        have hge : ((castL L).map encS).getD i [PV.int .i64 0, PV.int .i64 0] = [.int .i64 (L.getD i default).1, .int .i64 (L.getD i default).2] := by
          simp [castL, List.getD_eq_getElem?_getD, h', encS]
        have hx128 := hmem (L.getD i default) (by rw [List.getD_eq_getElem?_getD, List.getElem?_eq_getElem h']; exact List.getElem_mem _)
        have htk : toldL (L.take (i + 1)) = toldL (L.take i) ++ [⟨(L.getD i default).1, ofS (L.getD i default).2 7⟩] := by
          unfold toldL
          rw [List.take_succ_eq_append_getElem h', List.map_append]
          simp [h']
        have hlt : (toldL (L.take i)).length ≤ 127 := by unfold toldL; rw [List.length_map]; have := List.length_take_le' i L; omega
        generalize hxx : L.getD i default = x at *
        obtain ⟨k, s⟩ := x
        have hs62 : ((s : Int) < 2 ^ 62) = True := eq_true (by simp only at hx128; omega)
        simp only [go_sem, Nat.reduceAdd, Nat.reduceSub, Nat.reduceMul, Nat.reduceEqDiff, Nat.reduceLT, Nat.reduceLeDiff, Nat.reduceBEq, Nat.reduceBNe, Int.reduceToNat, Int.reduceLE, Int.reduceLT, Int.reduceNe, Int.reduceNeg, reduceCtorEq, Int.reduceBEq, Int.reduceBNe, @callV_spec E9 69 s69 rfl, @callV_specT E9 69 s69 rfl, @stepV_spec E9 69 s69 rfl, @effV_spec E9 69 s69 rfl, s69, callSpec, hii, hge, hT, hC, hP, hV, hU, hs62, List.length_map, castL_len, Int.natCast_nonneg, Int.toNat_natCast]
        refine app_oneF trivial rfl rfl (by decide) (by decide) (set_at_eq _ _ _) (h3.frame fun K hK => ?_) ?_ ?_ ?_ fun p' H' R' hR hO hF => ?_
        · subst hK; simp only [go_sem, Nat.reduceAdd, Nat.reduceSub, Nat.reduceMul, Nat.reduceEqDiff, Nat.reduceLT, Nat.reduceLeDiff, Nat.reduceBEq, Nat.reduceBNe, Int.reduceToNat, Int.reduceLE, Int.reduceLT, Int.reduceNe, Int.reduceNeg, reduceCtorEq, Int.reduceBEq, Int.reduceBNe]
        · rw [List.length_map]
          have : (E9.ti 28).bytes = 32 := rfl
          rw [this]; omega
        · intro row hrow
          obtain ⟨q, _, rfl⟩ := List.mem_map.1 hrow; rfl
        · exact ⟨rfl, rfl⟩
        · obtain ⟨hT', hC', hP', hV', hU'⟩ := OwnTaint hO
          rcases hR with rfl | rfl
          · simp only [go_sem, Nat.reduceAdd, Nat.reduceSub, Nat.reduceMul, Nat.reduceEqDiff, Nat.reduceLT, Nat.reduceLeDiff, Nat.reduceBEq, Nat.reduceBNe, Int.reduceToNat, Int.reduceLE, Int.reduceLT, Int.reduceNe, Int.reduceNeg, reduceCtorEq, Int.reduceBEq, Int.reduceBNe, hT', hC', hP', hV', hU']
            refine hK (i + 1, p') _ _ ?_ ⟨h', by rw [htk, List.map_append]; exact hO⟩ (by simp only; omega)
            simp only [go_sem, Nat.reduceAdd, Nat.reduceSub, Nat.reduceMul, Nat.reduceEqDiff, Nat.reduceLT, Nat.reduceLeDiff, Nat.reduceBEq, Nat.reduceBNe, Int.reduceToNat, Int.reduceLE, Int.reduceLT, Int.reduceNe, Int.reduceNeg, reduceCtorEq, Int.reduceBEq, Int.reduceBNe, w2, Int.natCast_add, Int.natCast_one, castL_len]
          · simp only [go_sem, Nat.reduceAdd, Nat.reduceSub, Nat.reduceMul, Nat.reduceEqDiff, Nat.reduceLT, Nat.reduceLeDiff, Nat.reduceBEq, Nat.reduceBNe, Int.reduceToNat, Int.reduceLE, Int.reduceLT, Int.reduceNe, Int.reduceNeg, reduceCtorEq, Int.reduceBEq, Int.reduceBNe, hT', hC', hP', hV', hU']
            refine hK (i + 1, p') _ _ ?_ ⟨h', by rw [htk, List.map_append]; exact hO⟩ (by simp only; omega)
            simp only [go_sem, Nat.reduceAdd, Nat.reduceSub, Nat.reduceMul, Nat.reduceEqDiff, Nat.reduceLT, Nat.reduceLeDiff, Nat.reduceBEq, Nat.reduceBNe, Int.reduceToNat, Int.reduceLE, Int.reduceLT, Int.reduceNe, Int.reduceNeg, reduceCtorEq, Int.reduceBEq, Int.reduceBNe, w2, Int.natCast_add, Int.natCast_one, castL_len]
      · have h' : i = L.length := by have : ¬ ((i : Int) < (L.length : Int)) := by simpa [castL_len] using h
                                     omega
        subst h'
        rw [List.take_length] at h3
        refine hE _ _ _ (by simp) ?_
        rcases h3 with ⟨e1, rfl⟩ | ⟨K', v', rfl, rfl, h5⟩
        · have hnil : toldL L = [] := by
            cases hL : toldL L with
            | nil => rfl
            | cons a l => rw [hL] at e1; cases e1
          simp only [go_sem, Nat.reduceAdd, Nat.reduceSub, Nat.reduceMul, Nat.reduceEqDiff, Nat.reduceLT, Nat.reduceLeDiff, Nat.reduceBEq, Nat.reduceBNe, Int.reduceToNat, Int.reduceLE, Int.reduceLT, Int.reduceNe, Int.reduceNeg, reduceCtorEq, Int.reduceBEq, Int.reduceBNe, hnil]
        · simp only [go_sem, Nat.reduceAdd, Nat.reduceSub, Nat.reduceMul, Nat.reduceEqDiff, Nat.reduceLT, Nat.reduceLeDiff, Nat.reduceBEq, Nat.reduceBNe, Int.reduceToNat, Int.reduceLE, Int.reduceLT, Int.reduceNe, Int.reduceNeg, reduceCtorEq, Int.reduceBEq, Int.reduceBNe, h5, List.length_map]
          exact wk_told _
def s29 : Spec := spec2 (fun (b : PBook) (_ : Int) => Big4 b) (fun b z => .tup [.sl ((cheapestM b z).1.map encQ) true, .int .i64 (cheapestM b z).2])
theorem s29_ok : SpecOK Tryd.prog glB 29 s29 := spec2_ok E9_ok Tryd.func29 rfl (by kernel_rfl) fun b z h => Cheapest_fn b h z
end Wb
