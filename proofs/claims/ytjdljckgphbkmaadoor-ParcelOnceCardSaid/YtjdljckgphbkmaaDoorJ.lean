import Derived.Test.YtjdljckgphbkmaaDoorI
set_option linter.unusedVariables false
set_option linter.unusedSimpArgs false
/- The laws' own helpers: sound. -/
namespace Wb
open Go Go.Proofs Enc Row
set_option linter.unusedSimpArgs false
set_option linter.unusedVariables false
set_option maxRecDepth 20000
set_option maxHeartbeats 4000000
noncomputable def E13t : List (Nat × Spec) := [(23, s23)] ++ E12t
theorem E13t_ok : AllOK E13t := ⟨⟨s23_ok, Tryd.call23⟩, E12t_ok⟩
noncomputable def E13 : Env := mkE E13t []
theorem E13_ok : EnvOK Tryd.prog E13 := envOK E13t_ok trivial
theorem E13_ti {t : Nat} : E13.ti t = ti t := rfl
theorem E13_q0 : (E13).eqt 130 = true := rfl
theorem E13_q1 : (E13).keyt 3 = true := rfl
theorem E13_q2 : (E13).keyt 85 = true := rfl
attribute [go_sem] E13_ti E13_q0 E13_q1 E13_q2
theorem stamp_min : ∀ (l : List Int) (a : Int) (i : Nat), stampsOk a l = true → i < l.length → (if i = 0 then a else l.getD (i - 1) 0) + 1 ≤ l.getD i 0 ∧ l.getD i 0 ≤ 1000
  | [], _, _, _, h => by simp at h
  | n :: l, a, 0, h, _ => by
    simp only [stampsOk, btw, Bool.and_eq_true, decide_eq_true_eq] at h
    simpa using h.1
  | n :: l, a, i + 1, h, hi => by
    simp only [stampsOk, btw, Bool.and_eq_true, decide_eq_true_eq] at h
    have := stamp_min l n i h.2 (by simpa using hi)
    simp only [Nat.add_sub_cancel, List.getD_cons_succ, Nat.add_one_ne_zero, if_false]
    cases i with
    | zero => simpa using this
    | succ i => simpa using this
-- f36 sound
theorem sound_fn (b : PBook) (h4 : Big4 b) : Fn E13 0 36 Tryd.f36 (Tryd.f36.body.getD .skip) [.agg (encB b)] (.bool (bookOk b)) := by
  have hdb : (dec (.agg (encB b)) : Option PBook) = some b := dec_book b
  unfold Fn Tryd.f36
  cases hk : bookOk b with
  | false =>
    obtain ⟨ps, ks, gr, fr, un, fe, st⟩ := b
    simp only [encB] at hdb
    simp only [go_sem, Nat.reduceAdd, Nat.reduceSub, Nat.reduceMul, Nat.reduceEqDiff, Nat.reduceLT, Nat.reduceLeDiff, Nat.reduceBEq, Nat.reduceBNe, Int.reduceToNat, Int.reduceLE, Int.reduceLT, Int.reduceNe, Int.reduceNeg, reduceCtorEq, Int.reduceBEq, Int.reduceBNe, @callV_spec E13 16 s16 rfl, @callV_specT E13 16 s16 rfl, @stepV_spec E13 16 s16 rfl, @effV_spec E13 16 s16 rfl, s16, @callV_spec E13 41 sTween rfl, @callV_specT E13 41 sTween rfl, @stepV_spec E13 41 sTween rfl, @effV_spec E13 41 sTween rfl, sTween, encB, callSpec, hdb, h4, hk]
    refine ev_loopS [1, 3] (fun i : Nat => [(4, .int .i64 i)]) (fun i H => i = 0 ∧ H (([], 36000000) : Key) = some (.cells (encB ⟨ps, ks, gr, fr, un, fe, st⟩) 1 false)) (fun i => 0) 0 ?_ ⟨rfl, ?_⟩ ?_
    · simp only [go_sem, Nat.reduceAdd, Nat.reduceSub, Nat.reduceMul, Nat.reduceEqDiff, Nat.reduceLT, Nat.reduceLeDiff, Nat.reduceBEq, Nat.reduceBNe, Int.reduceToNat, Int.reduceLE, Int.reduceLT, Int.reduceNe, Int.reduceNeg, reduceCtorEq, Int.reduceBEq, Int.reduceBNe]
    · simp only [go_sem, Nat.reduceAdd, Nat.reduceSub, Nat.reduceMul, Nat.reduceEqDiff, Nat.reduceLT, Nat.reduceLeDiff, Nat.reduceBEq, Nat.reduceBNe, Int.reduceToNat, Int.reduceLE, Int.reduceLT, Int.reduceNe, Int.reduceNeg, reduceCtorEq, Int.reduceBEq, Int.reduceBNe, encB]
    · simp only [go_sem, Nat.reduceAdd, Nat.reduceSub, Nat.reduceMul, Nat.reduceEqDiff, Nat.reduceLT, Nat.reduceLeDiff, Nat.reduceBEq, Nat.reduceBNe, Int.reduceToNat, Int.reduceLE, Int.reduceLT, Int.reduceNe, Int.reduceNeg, reduceCtorEq, Int.reduceBEq, Int.reduceBNe]
      intro K i H ⟨hi, h1⟩ hE
      have h1' := h1
      simp only [encB] at h1'
      simp only [go_sem, Nat.reduceAdd, Nat.reduceSub, Nat.reduceMul, Nat.reduceEqDiff, Nat.reduceLT, Nat.reduceLeDiff, Nat.reduceBEq, Nat.reduceBNe, Int.reduceToNat, Int.reduceLE, Int.reduceLT, Int.reduceNe, Int.reduceNeg, reduceCtorEq, Int.reduceBEq, Int.reduceBNe, h1']
      refine hE _ _ _ (by simp) ?_
      simp only [go_sem, Nat.reduceAdd, Nat.reduceSub, Nat.reduceMul, Nat.reduceEqDiff, Nat.reduceLT, Nat.reduceLeDiff, Nat.reduceBEq, Nat.reduceBNe, Int.reduceToNat, Int.reduceLE, Int.reduceLT, Int.reduceNe, Int.reduceNeg, reduceCtorEq, Int.reduceBEq, Int.reduceBNe]
      refine ev_loopS [1, 3] (fun i : Nat => [(6, .int .i64 i)]) (fun i H => i = 0 ∧ H (([], 36000000) : Key) = some (.cells (encB ⟨ps, ks, gr, fr, un, fe, st⟩) 1 false)) (fun i => 0) 0 ?_ ⟨rfl, ?_⟩ ?_
      · simp only [go_sem, Nat.reduceAdd, Nat.reduceSub, Nat.reduceMul, Nat.reduceEqDiff, Nat.reduceLT, Nat.reduceLeDiff, Nat.reduceBEq, Nat.reduceBNe, Int.reduceToNat, Int.reduceLE, Int.reduceLT, Int.reduceNe, Int.reduceNeg, reduceCtorEq, Int.reduceBEq, Int.reduceBNe]
      · simp only [go_sem, Nat.reduceAdd, Nat.reduceSub, Nat.reduceMul, Nat.reduceEqDiff, Nat.reduceLT, Nat.reduceLeDiff, Nat.reduceBEq, Nat.reduceBNe, Int.reduceToNat, Int.reduceLE, Int.reduceLT, Int.reduceNe, Int.reduceNeg, reduceCtorEq, Int.reduceBEq, Int.reduceBNe, h1]
      · simp only [go_sem, Nat.reduceAdd, Nat.reduceSub, Nat.reduceMul, Nat.reduceEqDiff, Nat.reduceLT, Nat.reduceLeDiff, Nat.reduceBEq, Nat.reduceBNe, Int.reduceToNat, Int.reduceLE, Int.reduceLT, Int.reduceNe, Int.reduceNeg, reduceCtorEq, Int.reduceBEq, Int.reduceBNe]
        intro K i H ⟨hi, h1⟩ hE
        have h1' := h1
        simp only [encB] at h1'
        simp only [go_sem, Nat.reduceAdd, Nat.reduceSub, Nat.reduceMul, Nat.reduceEqDiff, Nat.reduceLT, Nat.reduceLeDiff, Nat.reduceBEq, Nat.reduceBNe, Int.reduceToNat, Int.reduceLE, Int.reduceLT, Int.reduceNe, Int.reduceNeg, reduceCtorEq, Int.reduceBEq, Int.reduceBNe, h1']
        refine hE _ _ _ (by simp) ?_
        simp only [go_sem, Nat.reduceAdd, Nat.reduceSub, Nat.reduceMul, Nat.reduceEqDiff, Nat.reduceLT, Nat.reduceLeDiff, Nat.reduceBEq, Nat.reduceBNe, Int.reduceToNat, Int.reduceLE, Int.reduceLT, Int.reduceNe, Int.reduceNeg, reduceCtorEq, Int.reduceBEq, Int.reduceBNe]
        refine ev_loopS [1, 3, 9] (fun i : Nat => [(10, .int .i64 i)]) (fun i H => i = 0 ∧ H (([], 36000000) : Key) = some (.cells (encB ⟨ps, ks, gr, fr, un, fe, st⟩) 1 false)) (fun i => 0) 0 ?_ ⟨rfl, ?_⟩ ?_
        · simp only [go_sem, Nat.reduceAdd, Nat.reduceSub, Nat.reduceMul, Nat.reduceEqDiff, Nat.reduceLT, Nat.reduceLeDiff, Nat.reduceBEq, Nat.reduceBNe, Int.reduceToNat, Int.reduceLE, Int.reduceLT, Int.reduceNe, Int.reduceNeg, reduceCtorEq, Int.reduceBEq, Int.reduceBNe]
        · simp only [go_sem, Nat.reduceAdd, Nat.reduceSub, Nat.reduceMul, Nat.reduceEqDiff, Nat.reduceLT, Nat.reduceLeDiff, Nat.reduceBEq, Nat.reduceBNe, Int.reduceToNat, Int.reduceLE, Int.reduceLT, Int.reduceNe, Int.reduceNeg, reduceCtorEq, Int.reduceBEq, Int.reduceBNe, h1]
        · simp only [go_sem, Nat.reduceAdd, Nat.reduceSub, Nat.reduceMul, Nat.reduceEqDiff, Nat.reduceLT, Nat.reduceLeDiff, Nat.reduceBEq, Nat.reduceBNe, Int.reduceToNat, Int.reduceLE, Int.reduceLT, Int.reduceNe, Int.reduceNeg, reduceCtorEq, Int.reduceBEq, Int.reduceBNe]
          intro K i H ⟨hi, h1⟩ hE
          have h1' := h1
          simp only [encB] at h1'
          simp only [go_sem, Nat.reduceAdd, Nat.reduceSub, Nat.reduceMul, Nat.reduceEqDiff, Nat.reduceLT, Nat.reduceLeDiff, Nat.reduceBEq, Nat.reduceBNe, Int.reduceToNat, Int.reduceLE, Int.reduceLT, Int.reduceNe, Int.reduceNeg, reduceCtorEq, Int.reduceBEq, Int.reduceBNe, h1']
          refine hE _ _ _ (by simp) ?_
          simp only [go_sem, Nat.reduceAdd, Nat.reduceSub, Nat.reduceMul, Nat.reduceEqDiff, Nat.reduceLT, Nat.reduceLeDiff, Nat.reduceBEq, Nat.reduceBNe, Int.reduceToNat, Int.reduceLE, Int.reduceLT, Int.reduceNe, Int.reduceNeg, reduceCtorEq, Int.reduceBEq, Int.reduceBNe]
  | true =>
    have hG := book_good hk
    have p1 := hG.p1
    have p7 := hG.p7
    have k1 := hG.k1
    have k4 := hG.k4
    have s1 := hG.s1
    have s5 := hG.s5
    have hgr := hG.grams
    have hfr := hG.free
    have hun := hG.unit
    have hfe := hG.fee
    obtain ⟨ps, ks, gr, fr, un, fe, st⟩ := b
    simp only [encB] at hdb
    simp only at p1 p7 k1 k4 s1 s5 hgr hfr hun hfe
    have ip1 : (1 : Int) ≤ (ps.length : Int) := by omega
    have ip7 : (ps.length : Int) ≤ 7 := by omega
    have ik1 : (1 : Int) ≤ (ks.length : Int) := by omega
    have ik4 : (ks.length : Int) ≤ 4 := by omega
    have is1 : (1 : Int) ≤ (st.length : Int) := by omega
    have is5 : (st.length : Int) ≤ 5 := by omega
    simp only [go_sem, Nat.reduceAdd, Nat.reduceSub, Nat.reduceMul, Nat.reduceEqDiff, Nat.reduceLT, Nat.reduceLeDiff, Nat.reduceBEq, Nat.reduceBNe, Int.reduceToNat, Int.reduceLE, Int.reduceLT, Int.reduceNe, Int.reduceNeg, reduceCtorEq, Int.reduceBEq, Int.reduceBNe, @callV_spec E13 16 s16 rfl, @callV_specT E13 16 s16 rfl, @stepV_spec E13 16 s16 rfl, @effV_spec E13 16 s16 rfl, s16, @callV_spec E13 41 sTween rfl, @callV_specT E13 41 sTween rfl, @stepV_spec E13 41 sTween rfl, @effV_spec E13 41 sTween rfl, sTween, encB, callSpec, hdb, h4, hk, ip1, ip7, ik1, ik4, is1, is5, hgr.1, hgr.2, hfr.1, hfr.2, hun.1, hun.2, hfe.1, hfe.2, il_length, List.length_map]
    refine ev_loopS [1] (fun i : Nat => [(3, .bool true), (4, .int .i64 i)])
      (fun i H => i ≤ ps.length ∧ H (([], 36000000) : Key) = some (.cells (encB ⟨ps, ks, gr, fr, un, fe, st⟩) 1 false))
      (fun i => ps.length - i) 0 ?_ ⟨Nat.zero_le _, ?_⟩ ?_
    · simp only [go_sem, Nat.reduceAdd, Nat.reduceSub, Nat.reduceMul, Nat.reduceEqDiff, Nat.reduceLT, Nat.reduceLeDiff, Nat.reduceBEq, Nat.reduceBNe, Int.reduceToNat, Int.reduceLE, Int.reduceLT, Int.reduceNe, Int.reduceNeg, reduceCtorEq, Int.reduceBEq, Int.reduceBNe]
    · simp only [go_sem, Nat.reduceAdd, Nat.reduceSub, Nat.reduceMul, Nat.reduceEqDiff, Nat.reduceLT, Nat.reduceLeDiff, Nat.reduceBEq, Nat.reduceBNe, Int.reduceToNat, Int.reduceLE, Int.reduceLT, Int.reduceNe, Int.reduceNeg, reduceCtorEq, Int.reduceBEq, Int.reduceBNe, encB]
    · simp only [go_sem, Nat.reduceAdd, Nat.reduceSub, Nat.reduceMul, Nat.reduceEqDiff, Nat.reduceLT, Nat.reduceLeDiff, Nat.reduceBEq, Nat.reduceBNe, Int.reduceToNat, Int.reduceLE, Int.reduceLT, Int.reduceNe, Int.reduceNeg, reduceCtorEq, Int.reduceBEq, Int.reduceBNe]
      intro K i H ⟨hi, h1⟩ hK hE
      have h1' := h1
      simp only [encB] at h1'
      simp only [go_sem, Nat.reduceAdd, Nat.reduceSub, Nat.reduceMul, Nat.reduceEqDiff, Nat.reduceLT, Nat.reduceLeDiff, Nat.reduceBEq, Nat.reduceBNe, Int.reduceToNat, Int.reduceLE, Int.reduceLT, Int.reduceNe, Int.reduceNeg, reduceCtorEq, Int.reduceBEq, Int.reduceBNe, h1', List.length_map]
      rw [condK_bool]
      refine ⟨fun h => ?_, fun h => ?_⟩
      · have h' : i < ps.length := by simpa using h
        have hii : (i : Int) < (ps.length : Int) := by omega
        have w2 : IntKind.i64.wrap ((i : Int) + 1) = ((i + 1 : Nat) : Int) := by rw [Int.natCast_add, Int.natCast_one]; exact wrap_id (by omega)
        have hy : ps.getD i default ∈ ps := by simp [List.getD_eq_getElem?_getD, h']
        have gy := hG.ps _ hy
        generalize hyy : ps.getD i default = y at *
        simp only [go_sem, Nat.reduceAdd, Nat.reduceSub, Nat.reduceMul, Nat.reduceEqDiff, Nat.reduceLT, Nat.reduceLeDiff, Nat.reduceBEq, Nat.reduceBNe, Int.reduceToNat, Int.reduceLE, Int.reduceLT, Int.reduceNe, Int.reduceNeg, reduceCtorEq, Int.reduceBEq, Int.reduceBNe, @callV_spec E13 41 sTween rfl, @callV_specT E13 41 sTween rfl, @stepV_spec E13 41 sTween rfl, @effV_spec E13 41 sTween rfl, sTween, callSpec, h1', h', hii, getD_mapN encP ps i _ h', hyy, encP, gy.1.1, gy.1.2, gy.2.1.1, gy.2.1.2, gy.2.2.1, gy.2.2.2, List.length_map]
        refine hK (i + 1) _ _ ?_ ⟨h', ?_⟩ (by omega)
        · simp only [go_sem, Nat.reduceAdd, Nat.reduceSub, Nat.reduceMul, Nat.reduceEqDiff, Nat.reduceLT, Nat.reduceLeDiff, Nat.reduceBEq, Nat.reduceBNe, Int.reduceToNat, Int.reduceLE, Int.reduceLT, Int.reduceNe, Int.reduceNeg, reduceCtorEq, Int.reduceBEq, Int.reduceBNe, w2]
        · simp only [go_sem, Nat.reduceAdd, Nat.reduceSub, Nat.reduceMul, Nat.reduceEqDiff, Nat.reduceLT, Nat.reduceLeDiff, Nat.reduceBEq, Nat.reduceBNe, Int.reduceToNat, Int.reduceLE, Int.reduceLT, Int.reduceNe, Int.reduceNeg, reduceCtorEq, Int.reduceBEq, Int.reduceBNe, h1]
      · refine hE _ _ _ (by simp) ?_
        simp only [go_sem, Nat.reduceAdd, Nat.reduceSub, Nat.reduceMul, Nat.reduceEqDiff, Nat.reduceLT, Nat.reduceLeDiff, Nat.reduceBEq, Nat.reduceBNe, Int.reduceToNat, Int.reduceLE, Int.reduceLT, Int.reduceNe, Int.reduceNeg, reduceCtorEq, Int.reduceBEq, Int.reduceBNe]
        refine ev_loopS [1] (fun i : Nat => [(3, .bool true), (6, .int .i64 i)])
          (fun i H => i ≤ ks.length ∧ H (([], 36000000) : Key) = some (.cells (encB ⟨ps, ks, gr, fr, un, fe, st⟩) 1 false))
          (fun i => ks.length - i) 0 ?_ ⟨Nat.zero_le _, ?_⟩ ?_
        · simp only [go_sem, Nat.reduceAdd, Nat.reduceSub, Nat.reduceMul, Nat.reduceEqDiff, Nat.reduceLT, Nat.reduceLeDiff, Nat.reduceBEq, Nat.reduceBNe, Int.reduceToNat, Int.reduceLE, Int.reduceLT, Int.reduceNe, Int.reduceNeg, reduceCtorEq, Int.reduceBEq, Int.reduceBNe]
        · simp only [go_sem, Nat.reduceAdd, Nat.reduceSub, Nat.reduceMul, Nat.reduceEqDiff, Nat.reduceLT, Nat.reduceLeDiff, Nat.reduceBEq, Nat.reduceBNe, Int.reduceToNat, Int.reduceLE, Int.reduceLT, Int.reduceNe, Int.reduceNeg, reduceCtorEq, Int.reduceBEq, Int.reduceBNe, h1]
        · simp only [go_sem, Nat.reduceAdd, Nat.reduceSub, Nat.reduceMul, Nat.reduceEqDiff, Nat.reduceLT, Nat.reduceLeDiff, Nat.reduceBEq, Nat.reduceBNe, Int.reduceToNat, Int.reduceLE, Int.reduceLT, Int.reduceNe, Int.reduceNeg, reduceCtorEq, Int.reduceBEq, Int.reduceBNe]
          intro K i H ⟨hi, h1⟩ hK hE
          have h1' := h1
          simp only [encB] at h1'
          simp only [go_sem, Nat.reduceAdd, Nat.reduceSub, Nat.reduceMul, Nat.reduceEqDiff, Nat.reduceLT, Nat.reduceLeDiff, Nat.reduceBEq, Nat.reduceBNe, Int.reduceToNat, Int.reduceLE, Int.reduceLT, Int.reduceNe, Int.reduceNeg, reduceCtorEq, Int.reduceBEq, Int.reduceBNe, h1', List.length_map]
          rw [condK_bool]
          refine ⟨fun h => ?_, fun h => ?_⟩
          · have h' : i < ks.length := by simpa using h
            have hii : (i : Int) < (ks.length : Int) := by omega
            have w2 : IntKind.i64.wrap ((i : Int) + 1) = ((i + 1 : Nat) : Int) := by rw [Int.natCast_add, Int.natCast_one]; exact wrap_id (by omega)
            have hy : ks.getD i default ∈ ks := by simp [List.getD_eq_getElem?_getD, h']
            have gy := hG.ks _ hy
            generalize hyy : ks.getD i default = y at *
            obtain ⟨g1, g2, g3, g4, g5⟩ := gy
            have g3i : ((y.zones.length : Int) == 5) = true := by rw [g3]; rfl
            simp only [go_sem, Nat.reduceAdd, Nat.reduceSub, Nat.reduceMul, Nat.reduceEqDiff, Nat.reduceLT, Nat.reduceLeDiff, Nat.reduceBEq, Nat.reduceBNe, Int.reduceToNat, Int.reduceLE, Int.reduceLT, Int.reduceNe, Int.reduceNeg, reduceCtorEq, Int.reduceBEq, Int.reduceBNe, @callV_spec E13 41 sTween rfl, @callV_specT E13 41 sTween rfl, @stepV_spec E13 41 sTween rfl, @effV_spec E13 41 sTween rfl, sTween, callSpec, h1', h', hii, getD_mapN encK ks i _ h', hyy, encK, g1.1, g1.2, g2.1, g2.2, g3i, g4.1, g4.2, List.length_map, il_length]
            generalize hv : verOf H ([], 36010005) + 1 = v
            refine ev_loopS [1, 6, 7] (fun k : Nat => [(3, .bool true), (8, .int .i64 k)])
              (fun k H => k ≤ y.zones.length ∧ H (([], 36000000) : Key) = some (.cells (encB ⟨ps, ks, gr, fr, un, fe, st⟩) 1 false) ∧ H (([], 36010005) : Key) = some (.cells (encK y) v false))
              (fun k => y.zones.length - k) 0 ?_ ⟨Nat.zero_le _, ?_, ?_⟩ ?_
            · simp only [go_sem, Nat.reduceAdd, Nat.reduceSub, Nat.reduceMul, Nat.reduceEqDiff, Nat.reduceLT, Nat.reduceLeDiff, Nat.reduceBEq, Nat.reduceBNe, Int.reduceToNat, Int.reduceLE, Int.reduceLT, Int.reduceNe, Int.reduceNeg, reduceCtorEq, Int.reduceBEq, Int.reduceBNe]
            · simp only [go_sem, Nat.reduceAdd, Nat.reduceSub, Nat.reduceMul, Nat.reduceEqDiff, Nat.reduceLT, Nat.reduceLeDiff, Nat.reduceBEq, Nat.reduceBNe, Int.reduceToNat, Int.reduceLE, Int.reduceLT, Int.reduceNe, Int.reduceNeg, reduceCtorEq, Int.reduceBEq, Int.reduceBNe, h1]
            · simp only [go_sem, Nat.reduceAdd, Nat.reduceSub, Nat.reduceMul, Nat.reduceEqDiff, Nat.reduceLT, Nat.reduceLeDiff, Nat.reduceBEq, Nat.reduceBNe, Int.reduceToNat, Int.reduceLE, Int.reduceLT, Int.reduceNe, Int.reduceNeg, reduceCtorEq, Int.reduceBEq, Int.reduceBNe, encK]
            · simp only [go_sem, Nat.reduceAdd, Nat.reduceSub, Nat.reduceMul, Nat.reduceEqDiff, Nat.reduceLT, Nat.reduceLeDiff, Nat.reduceBEq, Nat.reduceBNe, Int.reduceToNat, Int.reduceLE, Int.reduceLT, Int.reduceNe, Int.reduceNeg, reduceCtorEq, Int.reduceBEq, Int.reduceBNe]
              intro K2 k H2 ⟨hk2, m1, m2⟩ hK2 hE2
              have m2' := m2
              simp only [encK] at m2'
              simp only [go_sem, Nat.reduceAdd, Nat.reduceSub, Nat.reduceMul, Nat.reduceEqDiff, Nat.reduceLT, Nat.reduceLeDiff, Nat.reduceBEq, Nat.reduceBNe, Int.reduceToNat, Int.reduceLE, Int.reduceLT, Int.reduceNe, Int.reduceNeg, reduceCtorEq, Int.reduceBEq, Int.reduceBNe, m2', il_length]
              rw [condK_bool]
              refine ⟨fun h => ?_, fun h => ?_⟩
              · have hk' : k < y.zones.length := by simpa using h
                have hkk : (k : Int) < (y.zones.length : Int) := by omega
                have w3 : IntKind.i64.wrap ((k : Int) + 1) = ((k + 1 : Nat) : Int) := by rw [Int.natCast_add, Int.natCast_one]; exact wrap_id (by omega)
                have hz : y.zones.getD k 0 ∈ y.zones := by simp [List.getD_eq_getElem?_getD, hk']
                have gz := g5 _ hz
                simp only [go_sem, Nat.reduceAdd, Nat.reduceSub, Nat.reduceMul, Nat.reduceEqDiff, Nat.reduceLT, Nat.reduceLeDiff, Nat.reduceBEq, Nat.reduceBNe, Int.reduceToNat, Int.reduceLE, Int.reduceLT, Int.reduceNe, Int.reduceNeg, reduceCtorEq, Int.reduceBEq, Int.reduceBNe, @callV_spec E13 41 sTween rfl, @callV_specT E13 41 sTween rfl, @stepV_spec E13 41 sTween rfl, @effV_spec E13 41 sTween rfl, sTween, callSpec, m2', hk', hkk, il_getD, il_length, gz.1, gz.2]
                refine hK2 (k + 1) _ _ ?_ ⟨hk', ?_, ?_⟩ (by omega)
                · simp only [go_sem, Nat.reduceAdd, Nat.reduceSub, Nat.reduceMul, Nat.reduceEqDiff, Nat.reduceLT, Nat.reduceLeDiff, Nat.reduceBEq, Nat.reduceBNe, Int.reduceToNat, Int.reduceLE, Int.reduceLT, Int.reduceNe, Int.reduceNeg, reduceCtorEq, Int.reduceBEq, Int.reduceBNe, w3]
                · simp only [go_sem, Nat.reduceAdd, Nat.reduceSub, Nat.reduceMul, Nat.reduceEqDiff, Nat.reduceLT, Nat.reduceLeDiff, Nat.reduceBEq, Nat.reduceBNe, Int.reduceToNat, Int.reduceLE, Int.reduceLT, Int.reduceNe, Int.reduceNeg, reduceCtorEq, Int.reduceBEq, Int.reduceBNe, m1]
                · simp only [go_sem, Nat.reduceAdd, Nat.reduceSub, Nat.reduceMul, Nat.reduceEqDiff, Nat.reduceLT, Nat.reduceLeDiff, Nat.reduceBEq, Nat.reduceBNe, Int.reduceToNat, Int.reduceLE, Int.reduceLT, Int.reduceNe, Int.reduceNeg, reduceCtorEq, Int.reduceBEq, Int.reduceBNe, m2]
              · refine hE2 _ _ _ (by simp) ?_
                simp only [go_sem, Nat.reduceAdd, Nat.reduceSub, Nat.reduceMul, Nat.reduceEqDiff, Nat.reduceLT, Nat.reduceLeDiff, Nat.reduceBEq, Nat.reduceBNe, Int.reduceToNat, Int.reduceLE, Int.reduceLT, Int.reduceNe, Int.reduceNeg, reduceCtorEq, Int.reduceBEq, Int.reduceBNe]
                refine hK (i + 1) _ _ ?_ ⟨h', ?_⟩ (by omega)
                · simp only [go_sem, Nat.reduceAdd, Nat.reduceSub, Nat.reduceMul, Nat.reduceEqDiff, Nat.reduceLT, Nat.reduceLeDiff, Nat.reduceBEq, Nat.reduceBNe, Int.reduceToNat, Int.reduceLE, Int.reduceLT, Int.reduceNe, Int.reduceNeg, reduceCtorEq, Int.reduceBEq, Int.reduceBNe, w2]
                · simp only [go_sem, Nat.reduceAdd, Nat.reduceSub, Nat.reduceMul, Nat.reduceEqDiff, Nat.reduceLT, Nat.reduceLeDiff, Nat.reduceBEq, Nat.reduceBNe, Int.reduceToNat, Int.reduceLE, Int.reduceLT, Int.reduceNe, Int.reduceNeg, reduceCtorEq, Int.reduceBEq, Int.reduceBNe, m1]
          · refine hE _ _ _ (by simp) ?_
            simp only [go_sem, Nat.reduceAdd, Nat.reduceSub, Nat.reduceMul, Nat.reduceEqDiff, Nat.reduceLT, Nat.reduceLeDiff, Nat.reduceBEq, Nat.reduceBNe, Int.reduceToNat, Int.reduceLE, Int.reduceLT, Int.reduceNe, Int.reduceNeg, reduceCtorEq, Int.reduceBEq, Int.reduceBNe]
            refine ev_loopS [1] (fun i : Nat => [(3, .bool true), (9, .int .i64 ((if i = 0 then 0 else st.getD (i - 1) 0) + 1)), (10, .int .i64 i)])
              (fun i H => i ≤ st.length ∧ H (([], 36000000) : Key) = some (.cells (encB ⟨ps, ks, gr, fr, un, fe, st⟩) 1 false))
              (fun i => st.length - i) 0 ?_ ⟨Nat.zero_le _, ?_⟩ ?_
            · simp only [go_sem, Nat.reduceAdd, Nat.reduceSub, Nat.reduceMul, Nat.reduceEqDiff, Nat.reduceLT, Nat.reduceLeDiff, Nat.reduceBEq, Nat.reduceBNe, Int.reduceToNat, Int.reduceLE, Int.reduceLT, Int.reduceNe, Int.reduceNeg, reduceCtorEq, Int.reduceBEq, Int.reduceBNe]
              rfl
            · simp only [go_sem, Nat.reduceAdd, Nat.reduceSub, Nat.reduceMul, Nat.reduceEqDiff, Nat.reduceLT, Nat.reduceLeDiff, Nat.reduceBEq, Nat.reduceBNe, Int.reduceToNat, Int.reduceLE, Int.reduceLT, Int.reduceNe, Int.reduceNeg, reduceCtorEq, Int.reduceBEq, Int.reduceBNe, h1]
            · simp only [go_sem, Nat.reduceAdd, Nat.reduceSub, Nat.reduceMul, Nat.reduceEqDiff, Nat.reduceLT, Nat.reduceLeDiff, Nat.reduceBEq, Nat.reduceBNe, Int.reduceToNat, Int.reduceLE, Int.reduceLT, Int.reduceNe, Int.reduceNeg, reduceCtorEq, Int.reduceBEq, Int.reduceBNe]
              intro K i H ⟨hi, h1⟩ hK hE
              have h1' := h1
              simp only [encB] at h1'
              simp only [go_sem, Nat.reduceAdd, Nat.reduceSub, Nat.reduceMul, Nat.reduceEqDiff, Nat.reduceLT, Nat.reduceLeDiff, Nat.reduceBEq, Nat.reduceBNe, Int.reduceToNat, Int.reduceLE, Int.reduceLT, Int.reduceNe, Int.reduceNeg, reduceCtorEq, Int.reduceBEq, Int.reduceBNe, h1', il_length]
              rw [condK_bool]
              refine ⟨fun h => ?_, fun h => ?_⟩
              · have h' : i < st.length := by simpa using h
                have hii : (i : Int) < (st.length : Int) := by omega
                have w2 : IntKind.i64.wrap ((i : Int) + 1) = ((i + 1 : Nat) : Int) := by rw [Int.natCast_add, Int.natCast_one]; exact wrap_id (by omega)
                obtain ⟨z1, z2⟩ := stamp_min st 0 i hG.st h'
                have hz0 := (stamps_in hG.st (st.getD i 0) (by simp [List.getD_eq_getElem?_getD, h'])).1
                have w3 : IntKind.i64.wrap (st.getD i 0 + 1) = st.getD i 0 + 1 := wrap_id (by omega)
                generalize hmn : (if i = 0 then 0 else st.getD (i - 1) 0) = mn at *
                simp only [go_sem, Nat.reduceAdd, Nat.reduceSub, Nat.reduceMul, Nat.reduceEqDiff, Nat.reduceLT, Nat.reduceLeDiff, Nat.reduceBEq, Nat.reduceBNe, Int.reduceToNat, Int.reduceLE, Int.reduceLT, Int.reduceNe, Int.reduceNeg, reduceCtorEq, Int.reduceBEq, Int.reduceBNe, @callV_spec E13 41 sTween rfl, @callV_specT E13 41 sTween rfl, @stepV_spec E13 41 sTween rfl, @effV_spec E13 41 sTween rfl, sTween, callSpec, h1', h', hii, il_getD, il_length, z1, z2, w3]
                refine hK (i + 1) _ _ ?_ ⟨h', ?_⟩ (by omega)
                · simp only [go_sem, Nat.reduceAdd, Nat.reduceSub, Nat.reduceMul, Nat.reduceEqDiff, Nat.reduceLT, Nat.reduceLeDiff, Nat.reduceBEq, Nat.reduceBNe, Int.reduceToNat, Int.reduceLE, Int.reduceLT, Int.reduceNe, Int.reduceNeg, reduceCtorEq, Int.reduceBEq, Int.reduceBNe, w2, Nat.add_one_ne_zero, if_false, Nat.add_sub_cancel]
                · simp only [go_sem, Nat.reduceAdd, Nat.reduceSub, Nat.reduceMul, Nat.reduceEqDiff, Nat.reduceLT, Nat.reduceLeDiff, Nat.reduceBEq, Nat.reduceBNe, Int.reduceToNat, Int.reduceLE, Int.reduceLT, Int.reduceNe, Int.reduceNeg, reduceCtorEq, Int.reduceBEq, Int.reduceBNe, h1]
              · refine hE _ _ _ (by simp) ?_
                simp only [go_sem, Nat.reduceAdd, Nat.reduceSub, Nat.reduceMul, Nat.reduceEqDiff, Nat.reduceLT, Nat.reduceLeDiff, Nat.reduceBEq, Nat.reduceBNe, Int.reduceToNat, Int.reduceLE, Int.reduceLT, Int.reduceNe, Int.reduceNeg, reduceCtorEq, Int.reduceBEq, Int.reduceBNe]
def s36 : Spec := spec1 (fun (b : PBook) => Big4 b) (fun b => .bool (bookOk b))
theorem s36_ok : SpecOK Tryd.prog glB 36 s36 := spec1_ok E13_ok Tryd.func36 rfl (by kernel_rfl) fun b h => sound_fn b h
end Wb
/- The laws' own helpers: takes. -/
namespace Wb
open Go Go.Proofs Enc Row
set_option linter.unusedSimpArgs false
set_option linter.unusedVariables false
set_option maxRecDepth 20000
set_option maxHeartbeats 4000000
def pieceAt (b : PBook) (k : Int) : Piece := b.pieces.getD k.toNat default
def sumP (b : PBook) (w : What) (l : List Int) : Int := l.foldl (fun n k => n + w.of (pieceAt b k)) 0
theorem sumP_allF (b : PBook) (w : What) (s : Nat) : sumP b w (ofS s 7) = allF b w s := by
  unfold sumP allF sumI piecesOf
  rw [List.map_map, List.foldl_map]; rfl
theorem sumP_take (b : PBook) (w : What) {l : List Int} {i : Nat} (h : i < l.length) : sumP b w (l.take (i + 1)) = sumP b w (l.take i) + w.of (pieceAt b (l.getD i 0)) := fold_take (fun n k => n + w.of (pieceAt b k)) 0 h
def inP (b : PBook) (l : List Int) : Prop := ∀ k ∈ l, 0 ≤ k ∧ k < b.pieces.length
theorem pieceAt_ok {b : PBook} (hG : GBook b) {k : Int} (hk : 0 ≤ k ∧ k < b.pieces.length) (w : What) : 0 ≤ w.of (pieceAt b k) ∧ w.of (pieceAt b k) ≤ 10000 := What.ok hG w k.toNat (by omega)
theorem sumP_le {b : PBook} (hG : GBook b) (w : What) {l : List Int} (hl : inP b l) : 0 ≤ sumP b w l ∧ sumP b w l ≤ 10000 * l.length := by
  have key : ∀ (l : List Int) (a : Int), inP b l → 0 ≤ a → 0 ≤ l.foldl (fun n k => n + w.of (pieceAt b k)) a ∧ l.foldl (fun n k => n + w.of (pieceAt b k)) a ≤ a + 10000 * l.length := by
    intro l
    induction l with
    | nil => intro a _ h; simp only [List.foldl_nil, List.length_nil]; omega
    | cons k l ih =>
      intro a hl h
      have h1 := pieceAt_ok hG (hl k (by simp)) w
      have h2 := ih (a + w.of (pieceAt b k)) (fun x hx => hl x (by simp [hx])) (by omega)
      rw [List.foldl_cons, List.length_cons]
      omega
  have := key l 0 hl (Int.le_refl _)
  unfold sumP; omega
theorem inP_take {b : PBook} {l : List Int} (h : inP b l) (n : Nat) : inP b (l.take n) := fun k hk => h k (List.mem_of_mem_take hk)
def lonely (b : PBook) (l : List Int) (k : Int) : Bool := (pieceAt b k).alone && decide ((l.length : Int) > 1)
def takesM (b : PBook) (k : Int) (l : List Int) : Bool := !l.any (lonely b l) && (decide (sumP b .size l ≤ (b.kinds.getD k.toNat default).room) && decide (sumP b .weight l ≤ (b.kinds.getD k.toNat default).most))
theorem any_take (p : Int → Bool) {l : List Int} {i : Nat} (h : i < l.length) : (l.take (i + 1)).any p = ((l.take i).any p || p (l.getD i 0)) := by
  rw [List.take_succ_eq_append_getElem h, List.any_append]
  simp [List.getD_eq_getElem?_getD, h]
-- f43 takes
theorem takes_fn (b : PBook) (hG : GBook b) (k : Int) (hk : 0 ≤ k ∧ k < b.kinds.length) (l : List Int) (hl : inP b l) (hn : l.length ≤ 1000) : Fn E13 0 43 Tryd.f43 (Tryd.f43.body.getD .skip) [.agg (encB b), .int .i64 k, .sl (il l) false] (.bool (takesM b k l)) := by
  obtain ⟨kn, hkn⟩ : ∃ kn : Nat, k = (kn : Int) := ⟨k.toNat, by omega⟩
  subst hkn
  have hk' : kn < b.kinds.length := by omega
  unfold Fn Tryd.f43
  generalize hr : takesM b kn l = r
  obtain ⟨ps, ks, gr, fr, un, fe, st⟩ := b
  simp only at hk'
  simp only [go_sem, Nat.reduceAdd, Nat.reduceSub, Nat.reduceMul, Nat.reduceEqDiff, Nat.reduceLT, Nat.reduceLeDiff, Nat.reduceBEq, Nat.reduceBNe, Int.reduceToNat, Int.reduceLE, Int.reduceLT, Int.reduceNe, Int.reduceNeg, reduceCtorEq, Int.reduceBEq, Int.reduceBNe, encB]
  refine ev_loopS [1, 2, 3] (fun j : Nat => [(7, .int .i64 (sumP ⟨ps, ks, gr, fr, un, fe, st⟩ .size (l.take j))), (8, .int .i64 (sumP ⟨ps, ks, gr, fr, un, fe, st⟩ .weight (l.take j))), (9, .int .i64 j)])
    (fun j H => j ≤ l.length ∧ (l.take j).any (lonely ⟨ps, ks, gr, fr, un, fe, st⟩ l) = false ∧ H (([], 43000000) : Key) = some (.cells (encB ⟨ps, ks, gr, fr, un, fe, st⟩) 1 false))
    (fun j => l.length - j) 0 ?_ ⟨Nat.zero_le _, rfl, ?_⟩ ?_
  · simp only [go_sem, Nat.reduceAdd, Nat.reduceSub, Nat.reduceMul, Nat.reduceEqDiff, Nat.reduceLT, Nat.reduceLeDiff, Nat.reduceBEq, Nat.reduceBNe, Int.reduceToNat, Int.reduceLE, Int.reduceLT, Int.reduceNe, Int.reduceNeg, reduceCtorEq, Int.reduceBEq, Int.reduceBNe]
    exact ⟨rfl, rfl⟩
  · simp only [go_sem, Nat.reduceAdd, Nat.reduceSub, Nat.reduceMul, Nat.reduceEqDiff, Nat.reduceLT, Nat.reduceLeDiff, Nat.reduceBEq, Nat.reduceBNe, Int.reduceToNat, Int.reduceLE, Int.reduceLT, Int.reduceNe, Int.reduceNeg, reduceCtorEq, Int.reduceBEq, Int.reduceBNe, encB]
  · simp only [go_sem, Nat.reduceAdd, Nat.reduceSub, Nat.reduceMul, Nat.reduceEqDiff, Nat.reduceLT, Nat.reduceLeDiff, Nat.reduceBEq, Nat.reduceBNe, Int.reduceToNat, Int.reduceLE, Int.reduceLT, Int.reduceNe, Int.reduceNeg, reduceCtorEq, Int.reduceBEq, Int.reduceBNe]
    intro K j H ⟨hj, ha, h1⟩ hK hE
    have h1' := h1
    simp only [encB] at h1'
    simp only [go_sem, Nat.reduceAdd, Nat.reduceSub, Nat.reduceMul, Nat.reduceEqDiff, Nat.reduceLT, Nat.reduceLeDiff, Nat.reduceBEq, Nat.reduceBNe, Int.reduceToNat, Int.reduceLE, Int.reduceLT, Int.reduceNe, Int.reduceNeg, reduceCtorEq, Int.reduceBEq, Int.reduceBNe, il_length]
    rw [condK_bool]
    refine ⟨fun h => ?_, fun h => ?_⟩
    · have h' : j < l.length := by simpa using h
      have hjj : (j : Int) < (l.length : Int) := by omega
      have w2 : IntKind.i64.wrap ((j : Int) + 1) = ((j + 1 : Nat) : Int) := by rw [Int.natCast_add, Int.natCast_one]; exact wrap_id (by omega)
      have hm : l.getD j 0 ∈ l := by simp [List.getD_eq_getElem?_getD, h']
      have hp := hl _ hm
      obtain ⟨q, hq⟩ : ∃ q : Nat, l.getD j 0 = (q : Int) := ⟨(l.getD j 0).toNat, by omega⟩
      simp only at hp
      have hqp : q < ps.length := by omega
      have hqi : (q : Int) < (ps.length : Int) := by omega
      have hy : ps.getD q default = pieceAt ⟨ps, ks, gr, fr, un, fe, st⟩ (q : Int) := rfl
      have t1 := sumP_take ⟨ps, ks, gr, fr, un, fe, st⟩ .size h'
      have t2 := sumP_take ⟨ps, ks, gr, fr, un, fe, st⟩ .weight h'
      have hany := any_take (lonely ⟨ps, ks, gr, fr, un, fe, st⟩ l) h'
      have b1 := sumP_le hG .size (inP_take hl (j + 1))
      have b2 := sumP_le hG .weight (inP_take hl (j + 1))
      have hlt := List.length_take_le (j + 1) l
      rw [hq] at t1 t2 hany
      have e1 : lonely ⟨ps, ks, gr, fr, un, fe, st⟩ l (q : Int) = ((pieceAt ⟨ps, ks, gr, fr, un, fe, st⟩ (q : Int)).alone && decide ((l.length : Int) > 1)) := rfl
      rw [e1, ha, Bool.false_or] at hany
      generalize hyy : pieceAt ⟨ps, ks, gr, fr, un, fe, st⟩ (q : Int) = y at *
      have w3 : IntKind.i64.wrap (sumP ⟨ps, ks, gr, fr, un, fe, st⟩ .size (l.take j) + y.size) = sumP ⟨ps, ks, gr, fr, un, fe, st⟩ .size (l.take (j + 1)) := by
        rw [t1]; exact wrap_id (show _ ∧ _ by simp only [What.of] at *; omega)
      have w4 : IntKind.i64.wrap (sumP ⟨ps, ks, gr, fr, un, fe, st⟩ .weight (l.take j) + y.weight) = sumP ⟨ps, ks, gr, fr, un, fe, st⟩ .weight (l.take (j + 1)) := by
        rw [t2]; exact wrap_id (show _ ∧ _ by simp only [What.of] at *; omega)
      simp only [go_sem, Nat.reduceAdd, Nat.reduceSub, Nat.reduceMul, Nat.reduceEqDiff, Nat.reduceLT, Nat.reduceLeDiff, Nat.reduceBEq, Nat.reduceBNe, Int.reduceToNat, Int.reduceLE, Int.reduceLT, Int.reduceNe, Int.reduceNeg, reduceCtorEq, Int.reduceBEq, Int.reduceBNe, h1', h', hjj, il_getD, il_length, hq, hqp, hqi, getD_mapN encP ps q _ hqp, hy, encP, List.length_map]
      rw [condK_bool]
      refine ⟨fun hc => ?_, fun hc => ?_⟩
      · have hr2 : r = false := by
          rw [← hr]; unfold takesM
          rw [show l.any (lonely ⟨ps, ks, gr, fr, un, fe, st⟩ l) = true by
            rw [← List.take_append_drop (j + 1) l, List.any_append]
            rw [List.take_append_drop, hany, hc]; rfl]
          rfl
        simp only [go_sem, Nat.reduceAdd, Nat.reduceSub, Nat.reduceMul, Nat.reduceEqDiff, Nat.reduceLT, Nat.reduceLeDiff, Nat.reduceBEq, Nat.reduceBNe, Int.reduceToNat, Int.reduceLE, Int.reduceLT, Int.reduceNe, Int.reduceNeg, reduceCtorEq, Int.reduceBEq, Int.reduceBNe]
        refine hE _ _ _ (by simp) ?_
        simp only [go_sem, Nat.reduceAdd, Nat.reduceSub, Nat.reduceMul, Nat.reduceEqDiff, Nat.reduceLT, Nat.reduceLeDiff, Nat.reduceBEq, Nat.reduceBNe, Int.reduceToNat, Int.reduceLE, Int.reduceLT, Int.reduceNe, Int.reduceNeg, reduceCtorEq, Int.reduceBEq, Int.reduceBNe, hr2]
      · simp only [go_sem, Nat.reduceAdd, Nat.reduceSub, Nat.reduceMul, Nat.reduceEqDiff, Nat.reduceLT, Nat.reduceLeDiff, Nat.reduceBEq, Nat.reduceBNe, Int.reduceToNat, Int.reduceLE, Int.reduceLT, Int.reduceNe, Int.reduceNeg, reduceCtorEq, Int.reduceBEq, Int.reduceBNe]
        refine hK (j + 1) _ _ ?_ ⟨h', ?_, ?_⟩ (by omega)
        · simp only [go_sem, Nat.reduceAdd, Nat.reduceSub, Nat.reduceMul, Nat.reduceEqDiff, Nat.reduceLT, Nat.reduceLeDiff, Nat.reduceBEq, Nat.reduceBNe, Int.reduceToNat, Int.reduceLE, Int.reduceLT, Int.reduceNe, Int.reduceNeg, reduceCtorEq, Int.reduceBEq, Int.reduceBNe, w2, w3, w4, il_length]
        · rw [hany]; exact hc
        · simp only [go_sem, Nat.reduceAdd, Nat.reduceSub, Nat.reduceMul, Nat.reduceEqDiff, Nat.reduceLT, Nat.reduceLeDiff, Nat.reduceBEq, Nat.reduceBNe, Int.reduceToNat, Int.reduceLE, Int.reduceLT, Int.reduceNe, Int.reduceNeg, reduceCtorEq, Int.reduceBEq, Int.reduceBNe, h1]
    · have hjl : j = l.length := by simp only [decide_eq_false_iff_not] at h; omega
      subst hjl
      rw [List.take_length] at ha
      have hki : (kn : Int) < (ks.length : Int) := by omega
      have hr2 : r = (decide (sumP ⟨ps, ks, gr, fr, un, fe, st⟩ .size l ≤ (ks.getD kn default).room) && decide (sumP ⟨ps, ks, gr, fr, un, fe, st⟩ .weight l ≤ (ks.getD kn default).most)) := by
        rw [← hr]; unfold takesM; rw [ha]; rfl
      generalize hyy : ks.getD kn default = y at *
      refine hE _ _ _ (by simp) ?_
      simp only [go_sem, Nat.reduceAdd, Nat.reduceSub, Nat.reduceMul, Nat.reduceEqDiff, Nat.reduceLT, Nat.reduceLeDiff, Nat.reduceBEq, Nat.reduceBNe, Int.reduceToNat, Int.reduceLE, Int.reduceLT, Int.reduceNe, Int.reduceNeg, reduceCtorEq, Int.reduceBEq, Int.reduceBNe, h1', hk', hki, getD_mapN encK ks kn _ hk', hyy, encK, List.take_length, List.length_map]
      exact hr2.symm
def okTake (b : PBook) (k : Int) (l : List Int) : Prop := GBook b ∧ (0 ≤ k ∧ k < b.kinds.length) ∧ inP b l ∧ l.length ≤ 1000
def s43 : Spec := spec3 (fun (b : PBook) (k : Int) (l : List Int) => okTake b k l) (fun b k l => .bool (takesM b k l))
theorem s43_ok : SpecOK Tryd.prog glB 43 s43 := spec3_ok E13_ok Tryd.func43 rfl (by kernel_rfl) fun b k l h => takes_fn b h.1 k h.2.1 l h.2.2.1 h.2.2.2
end Wb
/- The laws' own helpers: costs. -/
namespace Wb
open Go Go.Proofs Enc Row
set_option linter.unusedSimpArgs false
set_option linter.unusedVariables false
set_option maxRecDepth 20000
set_option maxHeartbeats 4000000
theorem ceil_eq {W g : Int} (hg : 1 ≤ g) (j : Nat) (h1 : W ≤ g * (j + 1)) (h2 : g * j < W) : (W + g - 1) / g = j + 1 := by
  rw [Int.mul_add, Int.mul_one] at h1
  refine Int.le_antisymm (Int.le_of_lt_add_one (Int.ediv_lt_of_lt_mul (by omega) ?_)) (Int.le_ediv_of_mul_le (by omega) ?_)
  · rw [Int.mul_comm, Int.mul_add, Int.mul_add, Int.mul_one]; omega
  · rw [Int.mul_comm, Int.mul_add, Int.mul_one]; omega
theorem mul_small {a : Int} {j m : Nat} (h0 : 0 ≤ a) (h1 : a ≤ 10000) (hj : j ≤ m) : 0 ≤ a * j ∧ a * j ≤ 10000 * m := by
  refine ⟨Int.mul_nonneg h0 (by omega), ?_⟩
  have := Int.mul_le_mul h1 (show (j : Int) ≤ m by omega) (by omega) (by omega)
  exact this
def insM (b : PBook) (v : Int) : Int := b.fee * (((if v - b.free > 0 then v - b.free else 0) + b.unit - 1) / b.unit)
def stepsM (b : PBook) (k : Nat) (w : Int) : Int := (b.kinds.getD k default).step * ((w + b.grams - 1) / b.grams - 1)
def costsM (b : PBook) (k : Int) (l : List Int) (z : Int) : Int := priceB b z k.toNat + stepsM b k.toNat (sumP b .weight l) + insM b (sumP b .worth l)
theorem costs_fn (b : PBook) (hG : GBook b) (k : Int) (hk : 0 ≤ k ∧ k < b.kinds.length) (l : List Int) (hl : inP b l) (hn : l.length ≤ 1000) (h0 : 1 ≤ sumP b .weight l) (z : Int) (hz : 0 ≤ z ∧ z ≤ 4) :
    Fn E13 0 45 Tryd.f45 (Tryd.f45.body.getD .skip) [.agg (encB b), .int .i64 k, .sl (il l) false, .int .i64 z] (.int .i64 (costsM b k l z)) := by
  obtain ⟨kn, hkn⟩ : ∃ kn : Nat, k = (kn : Int) := ⟨k.toNat, by omega⟩
  subst hkn
  obtain ⟨zn, hzn⟩ : ∃ zn : Nat, z = (zn : Int) := ⟨z.toNat, by omega⟩
  subst hzn
  have hk' : kn < b.kinds.length := by omega
  have hkm : b.kinds.getD kn default ∈ b.kinds := by simp [List.getD_eq_getElem?_getD, hk']
  obtain ⟨g1, g2, g3, g4, g5⟩ := hG.ks _ hkm
  have hgr := hG.grams
  have hfr := hG.free
  have hun := hG.unit
  have hfe := hG.fee
  have hpr := zone_le hG hk' hz
  have hW := sumP_le hG .weight hl
  have hV := sumP_le hG .worth hl
  unfold Fn Tryd.f45 costsM
  rw [Int.toNat_natCast]
  generalize hW' : sumP b .weight l = W at *
  generalize hV' : sumP b .worth l = V at *
  obtain ⟨ps, ks, gr, fr, un, fe, st⟩ := b
  simp only at hk' hgr hfr hun hfe g3
  have hki : (kn : Int) < (ks.length : Int) := by omega
  have hpz : (ks.getD kn default).zones.getD zn 0 = priceB ⟨ps, ks, gr, fr, un, fe, st⟩ zn kn := rfl
  generalize hyy : ks.getD kn default = y at *
  have hzl : zn < y.zones.length := by omega
  have hzi : (zn : Int) < (y.zones.length : Int) := by omega
  generalize hP : priceB ⟨ps, ks, gr, fr, un, fe, st⟩ zn kn = P at *
  have hst : stepsM ⟨ps, ks, gr, fr, un, fe, st⟩ kn W = y.step * ((W + gr - 1) / gr - 1) := by unfold stepsM; rw [← hyy]
  rw [hst]
  simp only [go_sem, Nat.reduceAdd, Nat.reduceSub, Nat.reduceMul, Nat.reduceEqDiff, Nat.reduceLT, Nat.reduceLeDiff, Nat.reduceBEq, Nat.reduceBNe, Int.reduceToNat, Int.reduceLE, Int.reduceLT, Int.reduceNe, Int.reduceNeg, reduceCtorEq, Int.reduceBEq, Int.reduceBNe, encB, hk', hki, getD_mapN encK ks kn _ hk', hyy, encK, hzl, hzi, il_getD, il_length, hpz, List.length_map]
  refine ev_loopS [1, 2, 3, 4, 9] (fun j : Nat => [(10, .int .i64 (sumP ⟨ps, ks, gr, fr, un, fe, st⟩ .weight (l.take j))), (11, .int .i64 (sumP ⟨ps, ks, gr, fr, un, fe, st⟩ .worth (l.take j))), (12, .int .i64 j)])
    (fun j H => j ≤ l.length ∧ H (([], 45000000) : Key) = some (.cells (encB ⟨ps, ks, gr, fr, un, fe, st⟩) 1 false))
    (fun j => l.length - j) 0 ?_ ⟨Nat.zero_le _, ?_⟩ ?_
  · simp only [go_sem, Nat.reduceAdd, Nat.reduceSub, Nat.reduceMul, Nat.reduceEqDiff, Nat.reduceLT, Nat.reduceLeDiff, Nat.reduceBEq, Nat.reduceBNe, Int.reduceToNat, Int.reduceLE, Int.reduceLT, Int.reduceNe, Int.reduceNeg, reduceCtorEq, Int.reduceBEq, Int.reduceBNe]
    exact ⟨rfl, rfl⟩
  · simp only [go_sem, Nat.reduceAdd, Nat.reduceSub, Nat.reduceMul, Nat.reduceEqDiff, Nat.reduceLT, Nat.reduceLeDiff, Nat.reduceBEq, Nat.reduceBNe, Int.reduceToNat, Int.reduceLE, Int.reduceLT, Int.reduceNe, Int.reduceNeg, reduceCtorEq, Int.reduceBEq, Int.reduceBNe, encB]
  · simp only [go_sem, Nat.reduceAdd, Nat.reduceSub, Nat.reduceMul, Nat.reduceEqDiff, Nat.reduceLT, Nat.reduceLeDiff, Nat.reduceBEq, Nat.reduceBNe, Int.reduceToNat, Int.reduceLE, Int.reduceLT, Int.reduceNe, Int.reduceNeg, reduceCtorEq, Int.reduceBEq, Int.reduceBNe]
    intro K j H ⟨hj, h1⟩ hK hE
    have h1' := h1
    simp only [encB] at h1'
    simp only [go_sem, Nat.reduceAdd, Nat.reduceSub, Nat.reduceMul, Nat.reduceEqDiff, Nat.reduceLT, Nat.reduceLeDiff, Nat.reduceBEq, Nat.reduceBNe, Int.reduceToNat, Int.reduceLE, Int.reduceLT, Int.reduceNe, Int.reduceNeg, reduceCtorEq, Int.reduceBEq, Int.reduceBNe, il_length]
    rw [condK_bool]
    refine ⟨fun h => ?_, fun h => ?_⟩
    · have h' : j < l.length := by simpa using h
      have hjj : (j : Int) < (l.length : Int) := by omega
      have w2 : IntKind.i64.wrap ((j : Int) + 1) = ((j + 1 : Nat) : Int) := by rw [Int.natCast_add, Int.natCast_one]; exact wrap_id (by omega)
      have hm : l.getD j 0 ∈ l := by simp [List.getD_eq_getElem?_getD, h']
      have hp := hl _ hm
      obtain ⟨q, hq⟩ : ∃ q : Nat, l.getD j 0 = (q : Int) := ⟨(l.getD j 0).toNat, by omega⟩
      simp only at hp
      have hqp : q < ps.length := by omega
      have hqi : (q : Int) < (ps.length : Int) := by omega
      have hy : ps.getD q default = pieceAt ⟨ps, ks, gr, fr, un, fe, st⟩ (q : Int) := rfl
      have t1 := sumP_take ⟨ps, ks, gr, fr, un, fe, st⟩ .worth h'
      have t2 := sumP_take ⟨ps, ks, gr, fr, un, fe, st⟩ .weight h'
      have b1 := sumP_le hG .worth (inP_take hl (j + 1))
      have b2 := sumP_le hG .weight (inP_take hl (j + 1))
      have hlt := List.length_take_le (j + 1) l
      rw [hq] at t1 t2
      generalize hxx : pieceAt ⟨ps, ks, gr, fr, un, fe, st⟩ (q : Int) = x at *
      have w3 : IntKind.i64.wrap (sumP ⟨ps, ks, gr, fr, un, fe, st⟩ .worth (l.take j) + x.worth) = sumP ⟨ps, ks, gr, fr, un, fe, st⟩ .worth (l.take (j + 1)) := by
        rw [t1]; exact wrap_id (show _ ∧ _ by simp only [What.of] at *; omega)
      have w4 : IntKind.i64.wrap (sumP ⟨ps, ks, gr, fr, un, fe, st⟩ .weight (l.take j) + x.weight) = sumP ⟨ps, ks, gr, fr, un, fe, st⟩ .weight (l.take (j + 1)) := by
        rw [t2]; exact wrap_id (show _ ∧ _ by simp only [What.of] at *; omega)
      simp only [go_sem, Nat.reduceAdd, Nat.reduceSub, Nat.reduceMul, Nat.reduceEqDiff, Nat.reduceLT, Nat.reduceLeDiff, Nat.reduceBEq, Nat.reduceBNe, Int.reduceToNat, Int.reduceLE, Int.reduceLT, Int.reduceNe, Int.reduceNeg, reduceCtorEq, Int.reduceBEq, Int.reduceBNe, h1', h', hjj, il_getD, il_length, hq, hqp, hqi, getD_mapN encP ps q _ hqp, hy, encP, List.length_map]
      refine hK (j + 1) _ _ ?_ ⟨h', ?_⟩ (by omega)
      · simp only [go_sem, Nat.reduceAdd, Nat.reduceSub, Nat.reduceMul, Nat.reduceEqDiff, Nat.reduceLT, Nat.reduceLeDiff, Nat.reduceBEq, Nat.reduceBNe, Int.reduceToNat, Int.reduceLE, Int.reduceLT, Int.reduceNe, Int.reduceNeg, reduceCtorEq, Int.reduceBEq, Int.reduceBNe, w2, w3, w4, il_length]
      · simp only [go_sem, Nat.reduceAdd, Nat.reduceSub, Nat.reduceMul, Nat.reduceEqDiff, Nat.reduceLT, Nat.reduceLeDiff, Nat.reduceBEq, Nat.reduceBNe, Int.reduceToNat, Int.reduceLE, Int.reduceLT, Int.reduceNe, Int.reduceNeg, reduceCtorEq, Int.reduceBEq, Int.reduceBNe, h1]
    · have hjl : j = l.length := by simp only [decide_eq_false_iff_not] at h; omega
      subst hjl
      refine hE _ _ _ (by simp) ?_
      simp only [go_sem, Nat.reduceAdd, Nat.reduceSub, Nat.reduceMul, Nat.reduceEqDiff, Nat.reduceLT, Nat.reduceLeDiff, Nat.reduceBEq, Nat.reduceBNe, Int.reduceToNat, Int.reduceLE, Int.reduceLT, Int.reduceNe, Int.reduceNeg, reduceCtorEq, Int.reduceBEq, Int.reduceBNe, h1', List.take_length, hW', hV']
      refine ev_loopS [1, 2, 3, 4, 10, 11] (fun j : Nat => [(9, .int .i64 (P + y.step * j)), (13, .int .i64 (gr * (j + 1)))])
        (fun j H => j ≤ W.toNat ∧ gr * j < W ∧ H (([], 45000000) : Key) = some (.cells (encB ⟨ps, ks, gr, fr, un, fe, st⟩) 1 false))
        (fun j => W.toNat + 1 - j) 0 ?_ ⟨Nat.zero_le _, ?_, ?_⟩ ?_
      · simp only [go_sem, Nat.reduceAdd, Nat.reduceSub, Nat.reduceMul, Nat.reduceEqDiff, Nat.reduceLT, Nat.reduceLeDiff, Nat.reduceBEq, Nat.reduceBNe, Int.reduceToNat, Int.reduceLE, Int.reduceLT, Int.reduceNe, Int.reduceNeg, reduceCtorEq, Int.reduceBEq, Int.reduceBNe, Int.natCast_zero, Int.mul_zero, Int.add_zero, Int.zero_add, Int.mul_one]
      · simp only [Int.natCast_zero, Int.mul_zero]; omega
      · simp only [go_sem, Nat.reduceAdd, Nat.reduceSub, Nat.reduceMul, Nat.reduceEqDiff, Nat.reduceLT, Nat.reduceLeDiff, Nat.reduceBEq, Nat.reduceBNe, Int.reduceToNat, Int.reduceLE, Int.reduceLT, Int.reduceNe, Int.reduceNeg, reduceCtorEq, Int.reduceBEq, Int.reduceBNe, h1]
      · simp only [go_sem, Nat.reduceAdd, Nat.reduceSub, Nat.reduceMul, Nat.reduceEqDiff, Nat.reduceLT, Nat.reduceLeDiff, Nat.reduceBEq, Nat.reduceBNe, Int.reduceToNat, Int.reduceLE, Int.reduceLT, Int.reduceNe, Int.reduceNeg, reduceCtorEq, Int.reduceBEq, Int.reduceBNe]
        intro K j H ⟨hj, hg, h1⟩ hK hE
        have h1' := h1
        simp only [encB] at h1'
        have hsj := mul_small (a := y.step) (j := j + 1) (m := 10000001) (by omega) (by omega) (by omega)
        rw [Int.natCast_add, Int.natCast_one] at hsj
        have hsj0 := mul_small (a := y.step) (j := j) (m := 10000001) (by omega) (by omega) (by omega)
        have em : y.step * ((j : Int) + 1) = y.step * j + y.step := by rw [Int.mul_add, Int.mul_one]
        have eg : gr * ((j : Int) + 1) = gr * j + gr := by rw [Int.mul_add, Int.mul_one]
        have eg2 : gr * ((j : Int) + 1 + 1) = gr * j + gr + gr := by rw [Int.mul_add, Int.mul_one, eg]
        have hlow : (j : Int) ≤ gr * j := by
          have := Int.mul_le_mul_of_nonneg_right (a := 1) (b := gr) (c := (j : Int)) (by omega) (by omega)
          omega
        rw [condK_bool]
        refine ⟨fun h => ?_, fun h => ?_⟩
        · have h' : gr * ((j : Int) + 1) < W := by simpa using h
          have hlow2 : (j : Int) + 1 ≤ gr * ((j : Int) + 1) := by
            have := Int.mul_le_mul_of_nonneg_right (a := 1) (b := gr) (c := (j : Int) + 1) (by omega) (by omega)
            omega
          have w3 : IntKind.i64.wrap (P + y.step * j + y.step) = P + y.step * ((j + 1 : Nat) : Int) := by
            rw [Int.natCast_add, Int.natCast_one, em, Int.add_assoc]; exact wrap_id (by omega)
          have w4 : IntKind.i64.wrap (gr * ((j : Int) + 1) + gr) = gr * (((j + 1 : Nat) : Int) + 1) := by
            rw [Int.natCast_add, Int.natCast_one, eg2, eg]; exact wrap_id (by omega)
          simp only [go_sem, Nat.reduceAdd, Nat.reduceSub, Nat.reduceMul, Nat.reduceEqDiff, Nat.reduceLT, Nat.reduceLeDiff, Nat.reduceBEq, Nat.reduceBNe, Int.reduceToNat, Int.reduceLE, Int.reduceLT, Int.reduceNe, Int.reduceNeg, reduceCtorEq, Int.reduceBEq, Int.reduceBNe, h1', hk', hki, getD_mapN encK ks kn _ hk', hyy, encK, List.length_map]
          refine hK (j + 1) _ _ ?_ ⟨by omega, ?_, ?_⟩ (by omega)
          · simp only [go_sem, Nat.reduceAdd, Nat.reduceSub, Nat.reduceMul, Nat.reduceEqDiff, Nat.reduceLT, Nat.reduceLeDiff, Nat.reduceBEq, Nat.reduceBNe, Int.reduceToNat, Int.reduceLE, Int.reduceLT, Int.reduceNe, Int.reduceNeg, reduceCtorEq, Int.reduceBEq, Int.reduceBNe, w3, w4]
          · rw [Int.natCast_add, Int.natCast_one]; exact h'
          · simp only [go_sem, Nat.reduceAdd, Nat.reduceSub, Nat.reduceMul, Nat.reduceEqDiff, Nat.reduceLT, Nat.reduceLeDiff, Nat.reduceBEq, Nat.reduceBNe, Int.reduceToNat, Int.reduceLE, Int.reduceLT, Int.reduceNe, Int.reduceNeg, reduceCtorEq, Int.reduceBEq, Int.reduceBNe, h1]
        · have h' : W ≤ gr * ((j : Int) + 1) := by simpa using h
          have hc := ceil_eq (W := W) (g := gr) (by omega) j h' hg
          have hc2 : y.step * ((W + gr - 1) / gr - 1) = y.step * j := by rw [hc, Int.add_sub_cancel]
          generalize hP2 : P + y.step * j = P2 at *
          have hP2b : 0 ≤ P2 ∧ P2 ≤ 100000020000 := by omega
          refine hE _ _ _ (by simp) ?_
          simp only [go_sem, Nat.reduceAdd, Nat.reduceSub, Nat.reduceMul, Nat.reduceEqDiff, Nat.reduceLT, Nat.reduceLeDiff, Nat.reduceBEq, Nat.reduceBNe, Int.reduceToNat, Int.reduceLE, Int.reduceLT, Int.reduceNe, Int.reduceNeg, reduceCtorEq, Int.reduceBEq, Int.reduceBNe, h1']
          refine ev_loopS [1, 2, 3, 4, 10, 11, 13] (fun j : Nat => [(9, .int .i64 (P2 + fe * j)), (14, .int .i64 (fr + un * j))])
            (fun j H => j ≤ V.toNat + 1 ∧ (j = 0 ∨ un * (j - 1 : Int) < V - fr) ∧ H (([], 45000000) : Key) = some (.cells (encB ⟨ps, ks, gr, fr, un, fe, st⟩) 1 false))
            (fun j => V.toNat + 2 - j) 0 ?_ ⟨Nat.zero_le _, .inl rfl, ?_⟩ ?_
          · simp only [go_sem, Nat.reduceAdd, Nat.reduceSub, Nat.reduceMul, Nat.reduceEqDiff, Nat.reduceLT, Nat.reduceLeDiff, Nat.reduceBEq, Nat.reduceBNe, Int.reduceToNat, Int.reduceLE, Int.reduceLT, Int.reduceNe, Int.reduceNeg, reduceCtorEq, Int.reduceBEq, Int.reduceBNe, Int.natCast_zero, Int.mul_zero, Int.add_zero]
          · simp only [go_sem, Nat.reduceAdd, Nat.reduceSub, Nat.reduceMul, Nat.reduceEqDiff, Nat.reduceLT, Nat.reduceLeDiff, Nat.reduceBEq, Nat.reduceBNe, Int.reduceToNat, Int.reduceLE, Int.reduceLT, Int.reduceNe, Int.reduceNeg, reduceCtorEq, Int.reduceBEq, Int.reduceBNe, h1]
          · simp only [go_sem, Nat.reduceAdd, Nat.reduceSub, Nat.reduceMul, Nat.reduceEqDiff, Nat.reduceLT, Nat.reduceLeDiff, Nat.reduceBEq, Nat.reduceBNe, Int.reduceToNat, Int.reduceLE, Int.reduceLT, Int.reduceNe, Int.reduceNeg, reduceCtorEq, Int.reduceBEq, Int.reduceBNe]
            intro K j H ⟨hj, hg, h1⟩ hK hE
            have h1' := h1
            simp only [encB] at h1'
            have hsj := mul_small (a := fe) (j := j + 1) (m := 10000002) (by omega) (by omega) (by omega)
            rw [Int.natCast_add, Int.natCast_one] at hsj
            have hsj0 := mul_small (a := fe) (j := j) (m := 10000002) (by omega) (by omega) (by omega)
            have em : fe * ((j : Int) + 1) = fe * j + fe := by rw [Int.mul_add, Int.mul_one]
            have eu : un * ((j : Int) + 1) = un * j + un := by rw [Int.mul_add, Int.mul_one]
            have eu1 : un * ((j : Int) - 1) = un * j - un := by rw [Int.mul_sub, Int.mul_one]
            have hlow : (j : Int) ≤ un * j := by
              have := Int.mul_le_mul_of_nonneg_right (a := 1) (b := un) (c := (j : Int)) (by omega) (by omega)
              omega
            rw [condK_bool]
            refine ⟨fun h => ?_, fun h => ?_⟩
            · have h' : fr + un * (j : Int) < V := by simpa using h
              have w3 : IntKind.i64.wrap (P2 + fe * j + fe) = P2 + fe * ((j + 1 : Nat) : Int) := by
                rw [Int.natCast_add, Int.natCast_one, em, Int.add_assoc]; exact wrap_id (by omega)
              have w4 : IntKind.i64.wrap (fr + un * (j : Int) + un) = fr + un * ((j + 1 : Nat) : Int) := by
                rw [Int.natCast_add, Int.natCast_one, eu, Int.add_assoc]; exact wrap_id (by omega)
              simp only [go_sem, Nat.reduceAdd, Nat.reduceSub, Nat.reduceMul, Nat.reduceEqDiff, Nat.reduceLT, Nat.reduceLeDiff, Nat.reduceBEq, Nat.reduceBNe, Int.reduceToNat, Int.reduceLE, Int.reduceLT, Int.reduceNe, Int.reduceNeg, reduceCtorEq, Int.reduceBEq, Int.reduceBNe, h1']
              refine hK (j + 1) _ _ ?_ ⟨by omega, .inr ?_, ?_⟩ (by omega)
              · simp only [go_sem, Nat.reduceAdd, Nat.reduceSub, Nat.reduceMul, Nat.reduceEqDiff, Nat.reduceLT, Nat.reduceLeDiff, Nat.reduceBEq, Nat.reduceBNe, Int.reduceToNat, Int.reduceLE, Int.reduceLT, Int.reduceNe, Int.reduceNeg, reduceCtorEq, Int.reduceBEq, Int.reduceBNe, w3, w4]
              · rw [Int.natCast_add, Int.natCast_one, Int.add_sub_cancel]; omega
              · simp only [go_sem, Nat.reduceAdd, Nat.reduceSub, Nat.reduceMul, Nat.reduceEqDiff, Nat.reduceLT, Nat.reduceLeDiff, Nat.reduceBEq, Nat.reduceBNe, Int.reduceToNat, Int.reduceLE, Int.reduceLT, Int.reduceNe, Int.reduceNeg, reduceCtorEq, Int.reduceBEq, Int.reduceBNe, h1]
            · have h' : V ≤ fr + un * (j : Int) := by simpa using h
              have hI : insM ⟨ps, ks, gr, fr, un, fe, st⟩ V = fe * j := by
                unfold insM
                simp only
                cases j with
                | zero =>
                  rw [if_neg (by simp only [Int.natCast_zero, Int.mul_zero] at h'; omega), Int.zero_add, Int.ediv_eq_zero_of_lt (by omega) (by omega)]; rfl
                | succ m =>
                  rw [Int.natCast_add, Int.natCast_one] at h' ⊢
                  rcases hg with hg | hg
                  · omega
                  · rw [Int.natCast_add, Int.natCast_one, Int.add_sub_cancel] at hg
                    have hum : 0 ≤ un * (m : Int) := Int.mul_nonneg (by omega) (by omega)
                    rw [if_pos (by omega), ceil_eq (W := V - fr) (g := un) (by omega) m (by omega) hg]
              refine hE _ _ _ (by simp) ?_
              simp only [go_sem, Nat.reduceAdd, Nat.reduceSub, Nat.reduceMul, Nat.reduceEqDiff, Nat.reduceLT, Nat.reduceLeDiff, Nat.reduceBEq, Nat.reduceBNe, Int.reduceToNat, Int.reduceLE, Int.reduceLT, Int.reduceNe, Int.reduceNeg, reduceCtorEq, Int.reduceBEq, Int.reduceBNe, hI, hc2, hP2]
def okCost (b : PBook) (k : Int) (l : List Int) (z : Int) : Prop := okTake b k l ∧ 1 ≤ sumP b .weight l ∧ 0 ≤ z ∧ z ≤ 4
def s45 : Spec := spec4 (fun (b : PBook) (k : Int) (l : List Int) (z : Int) => okCost b k l z) (fun b k l z => .int .i64 (costsM b k l z))
theorem s45_ok : SpecOK Tryd.prog glB 45 s45 := spec4_ok E13_ok Tryd.func45 rfl (by kernel_rfl) fun b k l z h => costs_fn b h.1.1 k h.1.2.1 l h.1.2.2.1 h.1.2.2.2 h.2.1 z h.2.2
end Wb
/- Sets of pieces: what fits, and what it costs (no program in sight). -/
namespace Wb
open Go Go.Proofs Enc Row
set_option linter.unusedSimpArgs false
set_option linter.unusedVariables false
set_option maxRecDepth 20000
set_option maxHeartbeats 4000000
theorem of_trunc_all : ∀ n, n < 8 → ∀ s, s < 128 → s < 2 ^ n → ofS s n = ofS s 7 := by decide +kernel
theorem climbs_all : ∀ n : Nat, n < 8 → ∀ s, s < 128 → s < 2 ^ n → climbsF n (-1) (ofS s 7) = true := by decide +kernel
theorem put_all : ∀ s, s < 128 → putS (ofS s 7) = s := by decide +kernel
theorem lonely_all : ∀ s, s < 128 → ∀ i, i < 7 → s.testBit i = true → decide (((ofS s 7).length : Int) > 1) = decide (s ≠ 2 ^ i) := by decide +kernel
theorem two7 {n : Nat} (h : n ≤ 7) : 2 ^ n ≤ 128 := Nat.pow_le_pow_right (by decide) h
theorem of_trunc {n s : Nat} (hn : n ≤ 7) (hs : s < 2 ^ n) : ofS s n = ofS s 7 := of_trunc_all n (by omega) s (Nat.lt_of_lt_of_le hs (two7 hn)) hs
theorem put_of {s : Nat} (hs : s < 128) : putS (ofS s 7) = s := put_all s hs
theorem parcOk_of {b : PBook} (hG : GBook b) {k s : Nat} (hk : k < b.kinds.length) (h0 : 0 < s) (hs : s < 2 ^ b.pieces.length) : parcOk b ⟨k, ofS s 7⟩ = true := by
  have hcl := climbs_all _ (by have := hG.p7; omega) s (Nat.lt_of_lt_of_le hs (two7 hG.p7)) hs
  have hne := ofS_ne h0 hs hG.p7
  unfold parcOk loadM
  rw [if_pos hcl]
  simp [hne]; omega
theorem fitsM_of {b : PBook} (hb : bookOk b = true) {k s : Nat} (hk : k < b.kinds.length) (h0 : 0 < s) (hs : s < 2 ^ b.pieces.length) : fitsM b ⟨k, ofS s 7⟩ = (fitsB b k s, 0) := by
  have hG := book_good hb
  unfold fitsM
  rw [if_pos hb, if_pos (parcOk_of hG hk h0 hs)]
  simp only [Int.toNat_natCast, put_of (Nat.lt_of_lt_of_le hs (two7 hG.p7))]
theorem postM_of {b : PBook} (hb : bookOk b = true) {k s : Nat} (hk : k < b.kinds.length) (h0 : 0 < s) (hs : s < 2 ^ b.pieces.length) {z : Int} (hz : 0 ≤ z ∧ z ≤ 4) :
    postM b ⟨k, ofS s 7⟩ z = if fitsB b k s = true then (postG b z k s, 0) else (0, 4) := by
  have hG := book_good hb
  have hpz := postG_zero hG hz hk h0 hs
  unfold postM
  rw [if_pos hb, if_pos (by rw [parcOk_of hG hk h0 hs]; simpa using hz)]
  simp only [Int.toNat_natCast, put_of (Nat.lt_of_lt_of_le hs (two7 hG.p7)), hpz]
  cases fitsB b k s <;> simp
theorem takes_fits {b : PBook} (hG : GBook b) {k s : Nat} (hs : s < 2 ^ b.pieces.length) : takesM b k (ofS s 7) = fitsB b k s := by
  have h7 := Nat.lt_of_lt_of_le hs (two7 hG.p7)
  unfold takesM fitsB
  rw [sumP_allF, sumP_allF, Int.toNat_natCast]
  congr 2
  have key : ∀ l : List Int, (∀ k ∈ l, k ∈ ofS s 7) → l.any (lonely b (ofS s 7)) = l.any (aloneB b s) := by
    intro l
    induction l with
    | nil => intro _; rfl
    | cons a l ih =>
      intro h
      rw [List.any_cons, List.any_cons, ih fun k hk => h k (by simp [hk])]
      congr 1
      obtain ⟨j, j1, j2, rfl⟩ := mem_ofS.1 (h a (by simp))
      unfold lonely aloneB pieceAt
      rw [lonely_all s h7 j j1 j2, Int.toNat_natCast]
  exact key _ fun k hk => hk
theorem inP_of {b : PBook} {s : Nat} (hs : s < 2 ^ b.pieces.length) : inP b (ofS s 7) := fun k hk => ofS_lt hs hk
theorem costs_of {b : PBook} {z : Int} {k s : Nat} : costsM b k (ofS s 7) z = priceB b z k + stepsB b k s + insB b s := by
  unfold costsM stepsM insM stepsB insB
  rw [sumP_allF, sumP_allF, Int.toNat_natCast]
theorem postG_fit {b : PBook} {z : Int} {k s : Nat} (hk : k < b.kinds.length) (h0 : 0 < s) (hs : s < 2 ^ b.pieces.length) (h : fitsB b k s = true) : postG b z k s = costsM b k (ofS s 7) z := by
  unfold postG
  rw [if_pos ⟨⟨hk, h0, hs⟩, h⟩, costs_of]
/-! More pieces -/
def bitsum (f : Nat → Int) (s : Nat) : Nat → Int
  | 0 => 0
  | n + 1 => bitsum f s n + if s.testBit n then f n else 0
theorem sumI_append (a b : List Int) : sumI (a ++ b) = sumI a + sumI b := by
  unfold sumI
  rw [List.foldl_append]
  have : ∀ (l : List Int) (x : Int), l.foldl (· + ·) x = x + l.foldl (· + ·) 0 := by
    intro l
    induction l with
    | nil => intro x; simp
    | cons a l ih => intro x; rw [List.foldl_cons, List.foldl_cons, ih, ih (0 + a)]; omega
  exact this _ _
theorem allF_bits (b : PBook) (w : What) (s : Nat) : allF b w s = bitsum (fun i => w.of (b.pieces.getD i default)) s 7 := by
  unfold allF
  generalize 7 = n
  induction n with
  | zero => rfl
  | succ n ih =>
    rw [ofS_succ, piecesOf, List.map_append, List.map_append, sumI_append]
    unfold piecesOf at ih
    rw [ih, bitsum]
    congr 1
    split
    · simp [sumI]
    · rfl
theorem bitsum_le {f : Nat → Int} {s t : Nat} : ∀ n, (∀ i, i < n → t.testBit i = true → 0 ≤ f i) → (∀ i, i < n → s.testBit i = true → t.testBit i = true) → bitsum f s n ≤ bitsum f t n
  | 0, _, _ => Int.le_refl _
  | n + 1, h, k => by
    have ih := bitsum_le n (fun i hi => h i (by omega)) (fun i hi => k i (by omega))
    unfold bitsum
    have h1 := h n (by omega)
    have h2 := k n (by omega)
    by_cases hs : s.testBit n = true
    · rw [if_pos hs, if_pos (h2 hs)]; omega
    · rw [if_neg hs]
      split
      · rename_i ht
        have := h1 ht; omega
      · omega
theorem bit_lt {n s i : Nat} (hs : s < 2 ^ n) (h : s.testBit i = true) : i < n := by
  have h3 : 2 ^ i ≤ s := Nat.ge_two_pow_of_testBit h
  exact (Nat.pow_lt_pow_iff_right (a := 2) (by decide)).1 (Nat.lt_of_le_of_lt h3 hs)
theorem allF_mono {b : PBook} (hG : GBook b) (w : What) {s t : Nat} (ht : t < 2 ^ b.pieces.length) (h : ∀ i, s.testBit i = true → t.testBit i = true) : allF b w s ≤ allF b w t := by
  rw [allF_bits, allF_bits]
  exact bitsum_le 7 (fun i _ hi => (What.ok hG w i (bit_lt ht hi)).1) fun i _ hi => h i hi
theorem pow_sub {s i : Nat} (h0 : 0 < s) (h : ∀ j, s.testBit j = true → (2 ^ i).testBit j = true) : s = 2 ^ i := by
  obtain ⟨j, hj⟩ := Nat.exists_testBit_of_ne_zero (Nat.pos_iff_ne_zero.1 h0)
  have hji := h j hj
  rw [Nat.testBit_two_pow] at hji
  have e : i = j := by simpa using hji
  subst e
  refine Nat.eq_of_testBit_eq fun k => ?_
  by_cases e : i = k
  · subst e; rw [hj]; simp
  · rw [Nat.testBit_two_pow_of_ne e, ← Bool.not_eq_true]
    intro hk
    have := h k hk
    rw [Nat.testBit_two_pow_of_ne e] at this; cases this
theorem fits_less {b : PBook} (hG : GBook b) {k s t : Nat} (h0 : 0 < s) (ht : t < 2 ^ b.pieces.length) (h : ∀ i, s.testBit i = true → t.testBit i = true) (hf : fitsB b k t = true) : fitsB b k s = true := by
  unfold fitsB at *
  simp only [Bool.and_eq_true, Bool.not_eq_true', decide_eq_true_eq] at *
  refine ⟨?_, Int.le_trans (allF_mono hG .size ht h) hf.2.1, Int.le_trans (allF_mono hG .weight ht h) hf.2.2⟩
  rw [← Bool.not_eq_true, List.any_eq_true]
  rintro ⟨a, ha, hb⟩
  obtain ⟨j, j1, j2, rfl⟩ := mem_ofS.1 ha
  have h1 := hf.1
  rw [← Bool.not_eq_true, List.any_eq_true] at h1
  refine h1 ⟨(j : Int), mem_ofS.2 ⟨j, j1, h j j2, rfl⟩, ?_⟩
  unfold aloneB at *
  simp only [Bool.and_eq_true, decide_eq_true_eq, Int.toNat_natCast] at *
  refine ⟨hb.1, fun e => hb.2 ?_⟩
  refine pow_sub h0 fun i hi => ?_
  rw [← e]; exact h i hi
theorem div_mono {a b c : Int} (hc : 1 ≤ c) (h : a ≤ b) : a / c ≤ b / c := Int.ediv_le_ediv (by omega) h
theorem post_mono {b : PBook} (hG : GBook b) {z : Int} {k s t : Nat} (hk : k < b.kinds.length) (h0 : 0 < s) (hs : s < 2 ^ b.pieces.length) (ht : t < 2 ^ b.pieces.length) (h : ∀ i, s.testBit i = true → t.testBit i = true) (hf : fitsB b k t = true) : postG b z k s ≤ postG b z k t := by
  have hfs := fits_less hG h0 ht h hf
  have ht0 : 0 < t := by
    obtain ⟨j, hj⟩ := Nat.exists_testBit_of_ne_zero (Nat.pos_iff_ne_zero.1 h0)
    have := h j hj
    exact Nat.pos_of_ne_zero fun e => by rw [e] at this; simp at this
  unfold postG
  rw [if_pos ⟨⟨hk, h0, hs⟩, hfs⟩, if_pos ⟨⟨hk, ht0, ht⟩, hf⟩]
  have hkm : b.kinds.getD k default ∈ b.kinds := by simp [List.getD_eq_getElem?_getD, hk]
  obtain ⟨_, _, _, g4, _⟩ := hG.ks _ hkm
  have hgr := hG.grams
  have hun := hG.unit
  have hfe := hG.fee
  have m1 := allF_mono hG .weight ht h
  have m2 := allF_mono hG .worth ht h
  have d1 := div_mono (c := b.grams) (by omega) (show allF b .weight s + b.grams - 1 ≤ allF b .weight t + b.grams - 1 by omega)
  have d2 : ((if allF b .worth s - b.free > 0 then allF b .worth s - b.free else 0) + b.unit - 1) / b.unit ≤ ((if allF b .worth t - b.free > 0 then allF b .worth t - b.free else 0) + b.unit - 1) / b.unit :=
    div_mono (by omega) (by (repeat' split) <;> omega)
  have p1 : stepsB b k s ≤ stepsB b k t := Int.mul_le_mul_of_nonneg_left (by omega) g4.1
  have p2 : insB b s ≤ insB b t := Int.mul_le_mul_of_nonneg_left d2 hfe.1
  omega
end Wb
/- ParcelMore. -/
namespace Wb
open Go Go.Proofs Enc Row
set_option linter.unusedSimpArgs false
set_option linter.unusedVariables false
set_option maxRecDepth 20000
set_option maxHeartbeats 4000000
noncomputable def E14t : List (Nat × Spec) := [(36, s36), (43, s43), (45, s45)] ++ E13t
theorem E14t_ok : AllOK E14t := ⟨⟨s36_ok, Tryd.call36⟩, ⟨s43_ok, Tryd.call43⟩, ⟨s45_ok, Tryd.call45⟩, E13t_ok⟩
noncomputable def E14 : Env := mkE E14t []
theorem E14_ok : EnvOK Tryd.prog E14 := envOK E14t_ok trivial
theorem E14_ti {t : Nat} : E14.ti t = ti t := rfl
theorem E14_q0 : (E14).eqt 130 = true := rfl
theorem E14_q1 : (E14).keyt 3 = true := rfl
theorem E14_q2 : (E14).keyt 85 = true := rfl
attribute [go_sem] E14_ti E14_q0 E14_q1 E14_q2
theorem spin_range {n m : Int} (h : 1 ≤ m) : 0 ≤ spinF n m ∧ spinF n m < m := by
  unfold spinF
  rw [if_neg (by omega)]
  exact ⟨Int.emod_nonneg _ (by omega), Int.emod_lt_of_pos _ (by omega)⟩
theorem spin_nat {n : Int} {m : Nat} (h : 0 < m) : ∃ k : Nat, spinF n m = (k : Int) ∧ k < m := by
  have := spin_range (n := n) (m := m) (by omega)
  exact ⟨(spinF n m).toNat, by omega, by omega⟩
theorem more_law (b : PBook) (h4 : Big4 b) (n0 n1 n2 n3 : Int) : Fn E14 0 9 Tryd.f9 (Tryd.f9.body.getD .skip) [.agg (encB b), .agg [.int .i64 n0, .int .i64 n1, .int .i64 n2, .int .i64 n3]] (.bool true) := by
  have hdb : (dec (.agg (encB b)) : Option PBook) = some b := dec_book b
  unfold Fn Tryd.f9
  cases hb : bookOk b with
  | false =>
    obtain ⟨ps, ks, gr, fr, un, fe, st⟩ := b
    simp only [encB] at hdb
    simp only [go_sem, Nat.reduceAdd, Nat.reduceSub, Nat.reduceMul, Nat.reduceEqDiff, Nat.reduceLT, Nat.reduceLeDiff, Nat.reduceBEq, Nat.reduceBNe, Int.reduceToNat, Int.reduceLE, Int.reduceLT, Int.reduceNe, Int.reduceNeg, reduceCtorEq, Int.reduceBEq, Int.reduceBNe, @callV_spec E14 36 s36 rfl, @callV_specT E14 36 s36 rfl, @stepV_spec E14 36 s36 rfl, @effV_spec E14 36 s36 rfl, s36, @callV_spec E14 23 s23 rfl, @callV_specT E14 23 s23 rfl, @stepV_spec E14 23 s23 rfl, @effV_spec E14 23 s23 rfl, s23, encB, callSpec, hdb, h4, hb]
  | true =>
    have hG := book_good hb
    have p1 := hG.p1
    have p7 := hG.p7
    have k1 := hG.k1
    have k4 := hG.k4
    obtain ⟨k, hk, hkl⟩ := spin_nat (n := n0) (m := b.kinds.length) (by omega)
    obtain ⟨z, hz, hzl⟩ := spin_nat (n := n1) (m := 5) (by omega)
    obtain ⟨s, hs, hsl⟩ := spin_nat (n := n2) (m := 2 ^ b.pieces.length) (Nat.two_pow_pos _)
    obtain ⟨t, ht, htl⟩ := spin_nat (n := n3) (m := 2 ^ b.pieces.length) (Nat.two_pow_pos _)
    have hple := two7 p7
    have hsh := shl_one (k := b.pieces.length) (by omega)
    have hzz : 0 ≤ (z : Int) ∧ (z : Int) ≤ 4 := by omega
    rw [show ((5 : Nat) : Int) = 5 from rfl] at hz
    have hor := bits_or (a := s) (b := t) (by omega) (by omega)
    have hul : s ||| t < 2 ^ b.pieces.length := Nat.or_lt_two_pow hsl htl
    have hSo := of_trunc p7 hsl
    have hUo := of_trunc p7 hul
    have hkb : ((b.kinds.length : Int) ≤ 9223372036854775807) = True := eq_true (by omega)
    have hpb : (((2 ^ b.pieces.length : Nat) : Int) ≤ 9223372036854775807) = True := eq_true (by omega)
    by_cases hs0 : s = 0
    · subst hs0
      obtain ⟨ps, ks, gr, fr, un, fe, st⟩ := b
      simp only [encB] at hdb
      simp only at hk hs ht hsh p7 k4 hkl hsl htl hple hkb hpb
      simp only [go_sem, Nat.reduceAdd, Nat.reduceSub, Nat.reduceMul, Nat.reduceEqDiff, Nat.reduceLT, Nat.reduceLeDiff, Nat.reduceBEq, Nat.reduceBNe, Int.reduceToNat, Int.reduceLE, Int.reduceLT, Int.reduceNe, Int.reduceNeg, reduceCtorEq, Int.reduceBEq, Int.reduceBNe, @callV_spec E14 36 s36 rfl, @callV_specT E14 36 s36 rfl, @stepV_spec E14 36 s36 rfl, @effV_spec E14 36 s36 rfl, s36, @callV_spec E14 23 s23 rfl, @callV_specT E14 23 s23 rfl, @stepV_spec E14 23 s23 rfl, @effV_spec E14 23 s23 rfl, s23, @callV_spec E14 35 sSpin rfl, @callV_specT E14 35 sSpin rfl, @stepV_spec E14 35 sSpin rfl, @effV_spec E14 35 sSpin rfl, sSpin, encB, callSpec, hdb, h4, hb, hk, hz, hs, ht, hsh, List.length_map, hkb, hpb, Int.natCast_zero]
    · by_cases ht0 : t = 0
      · subst ht0
        have hsi : ((s : Int) == 0) = false := by simp; omega
        obtain ⟨ps, ks, gr, fr, un, fe, st⟩ := b
        simp only [encB] at hdb
        simp only at hk hs ht hsh p7 k4 hkl hsl htl hple hkb hpb
        simp only [go_sem, Nat.reduceAdd, Nat.reduceSub, Nat.reduceMul, Nat.reduceEqDiff, Nat.reduceLT, Nat.reduceLeDiff, Nat.reduceBEq, Nat.reduceBNe, Int.reduceToNat, Int.reduceLE, Int.reduceLT, Int.reduceNe, Int.reduceNeg, reduceCtorEq, Int.reduceBEq, Int.reduceBNe, @callV_spec E14 36 s36 rfl, @callV_specT E14 36 s36 rfl, @stepV_spec E14 36 s36 rfl, @effV_spec E14 36 s36 rfl, s36, @callV_spec E14 23 s23 rfl, @callV_specT E14 23 s23 rfl, @stepV_spec E14 23 s23 rfl, @effV_spec E14 23 s23 rfl, s23, @callV_spec E14 35 sSpin rfl, @callV_specT E14 35 sSpin rfl, @stepV_spec E14 35 sSpin rfl, @effV_spec E14 35 sSpin rfl, sSpin, encB, callSpec, hdb, h4, hb, hk, hz, hs, ht, hsh, List.length_map, hkb, hpb, Int.natCast_zero, hsi]
      · have hsi : ((s : Int) == 0) = false := by simp; omega
        have hti : ((t : Int) == 0) = false := by simp; omega
        have hs1 : 0 < s := by omega
        have hu1 : 0 < s ||| t := Nat.pos_of_ne_zero fun e => hs0 (Nat.or_eq_zero_iff.1 e).1
        have hsub : ∀ i, s.testBit i = true → (s ||| t).testBit i = true := fun i hi => by rw [Nat.testBit_or, hi]; rfl
        have F1 := fitsM_of hb hkl hs1 hsl
        have F2 := fitsM_of hb hkl hu1 hul
        have P1 := postM_of hb hkl hs1 hsl hzz
        have P2 := postM_of hb hkl hu1 hul hzz
        have T2 := takes_fits hG (k := k) hul
        have hless := fits_less hG (k := k) hs1 hul hsub
        have hmono := post_mono hG (z := z) hkl hs1 hsl hul hsub
        have hcost := postG_fit (z := z) hkl hu1 hul
        have okT : okTake b k (ofS (s ||| t) 7) = True := eq_true ⟨hG, by omega, inP_of hul, by have := ofS_len (s ||| t) 7; omega⟩
        have okC : okCost b k (ofS (s ||| t) 7) z = True := eq_true ⟨of_eq_true okT, by rw [sumP_allF]; exact weight_pos hG hu1 hul, hzz⟩
        have bU : big (ofS (s ||| t) 7).length = True := eq_true (by have := ofS_len (s ||| t) 7; unfold big; omega)
        have bS : big (ofS s 7).length = True := eq_true (by have := ofS_len s 7; unfold big; omega)
        have r1 : ((0 : Int) ≤ ((s ||| t : Nat) : Int)) = True := eq_true (by omega)
        have r2 : (((s ||| t : Nat) : Int) < 2 ^ 62) = True := eq_true (by omega)
        have r3 : (((s : Nat) : Int) < 2 ^ 62) = True := eq_true (by omega)
        have r4 : ((b.pieces.length : Int) ≤ 62) = True := eq_true (by omega)
        generalize hU : s ||| t = u at *
        generalize fitsB b k u = f2 at *
        generalize fitsB b k s = f1 at *
        generalize postG b z k s = c1 at *
        generalize postG b z k u = c2 at *
        obtain ⟨ps, ks, gr, fr, un, fe, st⟩ := b
        simp only [encB] at hdb
        simp only at hk hs ht hsh p7 k4 hkl hsl htl hple hkb hpb hSo hUo r4
        have nff : (false != false) = false := rfl
        have ntt : (true != true) = false := rfl
        cases f2 with
        | false =>
          cases f1 with
          | false =>
            rw [if_neg (by simp)] at P1 P2
            simp only [go_sem, Nat.reduceAdd, Nat.reduceSub, Nat.reduceMul, Nat.reduceEqDiff, Nat.reduceLT, Nat.reduceLeDiff, Nat.reduceBEq, Nat.reduceBNe, Int.reduceToNat, Int.reduceLE, Int.reduceLT, Int.reduceNe, Int.reduceNeg, reduceCtorEq, Int.reduceBEq, Int.reduceBNe, @callV_spec E14 36 s36 rfl, @callV_specT E14 36 s36 rfl, @stepV_spec E14 36 s36 rfl, @effV_spec E14 36 s36 rfl, s36, @callV_spec E14 23 s23 rfl, @callV_specT E14 23 s23 rfl, @stepV_spec E14 23 s23 rfl, @effV_spec E14 23 s23 rfl, s23, @callV_spec E14 35 sSpin rfl, @callV_specT E14 35 sSpin rfl, @stepV_spec E14 35 sSpin rfl, @effV_spec E14 35 sSpin rfl, sSpin, @callV_spec E14 46 s46 rfl, @callV_specT E14 46 s46 rfl, @stepV_spec E14 46 s46 rfl, @effV_spec E14 46 s46 rfl, s46, @callV_spec E14 42 s42 rfl, @callV_specT E14 42 s42 rfl, @stepV_spec E14 42 s42 rfl, @effV_spec E14 42 s42 rfl, s42, @callV_spec E14 14 s14 rfl, @callV_specT E14 14 s14 rfl, @stepV_spec E14 14 s14 rfl, @effV_spec E14 14 s14 rfl, s14, @callV_spec E14 18 s18 rfl, @callV_specT E14 18 s18 rfl, @stepV_spec E14 18 s18 rfl, @effV_spec E14 18 s18 rfl, s18, @callV_spec E14 43 s43 rfl, @callV_specT E14 43 s43 rfl, @stepV_spec E14 43 s43 rfl, @effV_spec E14 43 s43 rfl, s43, @callV_spec E14 45 s45 rfl, @callV_specT E14 45 s45 rfl, @stepV_spec E14 45 s45 rfl, @effV_spec E14 45 s45 rfl, s45, encB, callSpec, hdb, h4, hb, hk, hz, hs, ht, hsh, List.length_map, hkb, hpb, hsi, hti, hor, r1, r2, r3, r4, Int.natCast_nonneg, Int.toNat_natCast, hSo, hUo, bU, bS, F1, F2, P1, P2, T2, okT, okC, nff, ntt]
          | true =>
            rw [if_pos rfl] at P1
            rw [if_neg (by simp)] at P2
            simp only [go_sem, Nat.reduceAdd, Nat.reduceSub, Nat.reduceMul, Nat.reduceEqDiff, Nat.reduceLT, Nat.reduceLeDiff, Nat.reduceBEq, Nat.reduceBNe, Int.reduceToNat, Int.reduceLE, Int.reduceLT, Int.reduceNe, Int.reduceNeg, reduceCtorEq, Int.reduceBEq, Int.reduceBNe, @callV_spec E14 36 s36 rfl, @callV_specT E14 36 s36 rfl, @stepV_spec E14 36 s36 rfl, @effV_spec E14 36 s36 rfl, s36, @callV_spec E14 23 s23 rfl, @callV_specT E14 23 s23 rfl, @stepV_spec E14 23 s23 rfl, @effV_spec E14 23 s23 rfl, s23, @callV_spec E14 35 sSpin rfl, @callV_specT E14 35 sSpin rfl, @stepV_spec E14 35 sSpin rfl, @effV_spec E14 35 sSpin rfl, sSpin, @callV_spec E14 46 s46 rfl, @callV_specT E14 46 s46 rfl, @stepV_spec E14 46 s46 rfl, @effV_spec E14 46 s46 rfl, s46, @callV_spec E14 42 s42 rfl, @callV_specT E14 42 s42 rfl, @stepV_spec E14 42 s42 rfl, @effV_spec E14 42 s42 rfl, s42, @callV_spec E14 14 s14 rfl, @callV_specT E14 14 s14 rfl, @stepV_spec E14 14 s14 rfl, @effV_spec E14 14 s14 rfl, s14, @callV_spec E14 18 s18 rfl, @callV_specT E14 18 s18 rfl, @stepV_spec E14 18 s18 rfl, @effV_spec E14 18 s18 rfl, s18, @callV_spec E14 43 s43 rfl, @callV_specT E14 43 s43 rfl, @stepV_spec E14 43 s43 rfl, @effV_spec E14 43 s43 rfl, s43, @callV_spec E14 45 s45 rfl, @callV_specT E14 45 s45 rfl, @stepV_spec E14 45 s45 rfl, @effV_spec E14 45 s45 rfl, s45, encB, callSpec, hdb, h4, hb, hk, hz, hs, ht, hsh, List.length_map, hkb, hpb, hsi, hti, hor, r1, r2, r3, r4, Int.natCast_nonneg, Int.toNat_natCast, hSo, hUo, bU, bS, F1, F2, P1, P2, T2, okT, okC, nff, ntt]
        | true =>
          have e1 := hless rfl
          subst e1
          have hm := hmono rfl
          have hc := hcost rfl
          have hcb : (c2 == costsM ⟨ps, ks, gr, fr, un, fe, st⟩ k (ofS u 7) z) = true := by rw [hc]; exact beq_self_eq_true _
          rw [if_pos rfl] at P1 P2
          simp only [go_sem, Nat.reduceAdd, Nat.reduceSub, Nat.reduceMul, Nat.reduceEqDiff, Nat.reduceLT, Nat.reduceLeDiff, Nat.reduceBEq, Nat.reduceBNe, Int.reduceToNat, Int.reduceLE, Int.reduceLT, Int.reduceNe, Int.reduceNeg, reduceCtorEq, Int.reduceBEq, Int.reduceBNe, @callV_spec E14 36 s36 rfl, @callV_specT E14 36 s36 rfl, @stepV_spec E14 36 s36 rfl, @effV_spec E14 36 s36 rfl, s36, @callV_spec E14 23 s23 rfl, @callV_specT E14 23 s23 rfl, @stepV_spec E14 23 s23 rfl, @effV_spec E14 23 s23 rfl, s23, @callV_spec E14 35 sSpin rfl, @callV_specT E14 35 sSpin rfl, @stepV_spec E14 35 sSpin rfl, @effV_spec E14 35 sSpin rfl, sSpin, @callV_spec E14 46 s46 rfl, @callV_specT E14 46 s46 rfl, @stepV_spec E14 46 s46 rfl, @effV_spec E14 46 s46 rfl, s46, @callV_spec E14 42 s42 rfl, @callV_specT E14 42 s42 rfl, @stepV_spec E14 42 s42 rfl, @effV_spec E14 42 s42 rfl, s42, @callV_spec E14 14 s14 rfl, @callV_specT E14 14 s14 rfl, @stepV_spec E14 14 s14 rfl, @effV_spec E14 14 s14 rfl, s14, @callV_spec E14 18 s18 rfl, @callV_specT E14 18 s18 rfl, @stepV_spec E14 18 s18 rfl, @effV_spec E14 18 s18 rfl, s18, @callV_spec E14 43 s43 rfl, @callV_specT E14 43 s43 rfl, @stepV_spec E14 43 s43 rfl, @effV_spec E14 43 s43 rfl, s43, @callV_spec E14 45 s45 rfl, @callV_specT E14 45 s45 rfl, @stepV_spec E14 45 s45 rfl, @effV_spec E14 45 s45 rfl, s45, encB, callSpec, hdb, h4, hb, hk, hz, hs, ht, hsh, List.length_map, hkb, hpb, hsi, hti, hor, r1, r2, r3, r4, Int.natCast_nonneg, Int.toNat_natCast, hSo, hUo, bU, bS, F1, F2, P1, P2, T2, okT, okC, nff, ntt, hm, hcb]
end Wb
