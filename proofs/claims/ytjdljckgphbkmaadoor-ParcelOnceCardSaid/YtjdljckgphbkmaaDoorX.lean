import Derived.Test.YtjdljckgphbkmaaDoorW
set_option linter.unusedVariables false
set_option linter.unusedSimpArgs false
/- The reference's IsDivision and Cheapest. -/
namespace Wb
open Go Go.Proofs Enc Row
set_option linter.unusedSimpArgs false
set_option linter.unusedVariables false
set_option maxRecDepth 20000
set_option maxHeartbeats 4000000
noncomputable def E21t : List (Nat × Spec) := [(70, s70)] ++ E20t
theorem E21t_ok : AllOK E21t := ⟨⟨s70_ok, Tryd.call70⟩, E20t_ok⟩
noncomputable def E21 : Env := mkE E21t []
theorem E21_ok : EnvOK Tryd.prog E21 := envOK E21t_ok trivial
theorem E21_ti {t : Nat} : E21.ti t = ti t := rfl
theorem E21_q0 : (E21).eqt 130 = true := rfl
theorem E21_q1 : (E21).keyt 3 = true := rfl
theorem E21_q2 : (E21).keyt 85 = true := rfl
attribute [go_sem] E21_ti E21_q0 E21_q1 E21_q2
theorem rIsDivision_fn (b : PBook) (h4 : Big4 b) (l : List Parc) (hl : big l.length) (hls : ∀ q ∈ l, big q.pieces.length) : Fn E21 0 25 Tryd.f25 (Tryd.f25.body.getD .skip) [.agg (encB b), .sl (l.map encQ) false] (.tup [.bool (isDivM b l).1, .int .i64 (isDivM b l).2]) := by
  unfold Fn Tryd.f25 isDivM
  have hdb : (dec (.agg (encB b)) : Option PBook) = some b := dec_book b
  cases hb : bookOk b with
  | false =>
    obtain ⟨ps, ks, gr, fr, un, fe, st⟩ := b
    simp only [encB] at hdb
    simp only [go_sem, Nat.reduceAdd, Nat.reduceSub, Nat.reduceMul, Nat.reduceEqDiff, Nat.reduceLT, Nat.reduceLeDiff, Nat.reduceBEq, Nat.reduceBNe, Int.reduceToNat, Int.reduceLE, Int.reduceLT, Int.reduceNe, Int.reduceNeg, reduceCtorEq, Int.reduceBEq, Int.reduceBNe, @callV_spec E21 17 s17 rfl, @callV_specT E21 17 s17 rfl, @stepV_spec E21 17 s17 rfl, @effV_spec E21 17 s17 rfl, s17, callSpec, encB, hdb, hb, h4]
  | true =>
    have hG := book_good hb
    have hp7 := hG.p7
    have hk4 := hG.k4
    have hp1 := Nat.two_pow_pos b.pieces.length
    have hple : 2 ^ b.pieces.length ≤ 2 ^ 7 := Nat.pow_le_pow_right (by decide) hp7
    have hsh := shl_one (k := b.pieces.length) (by omega)
    have w1 : IntKind.i64.wrap (((2 ^ b.pieces.length : Nat) : Int) - 1) = ((2 ^ b.pieces.length - 1 : Nat) : Int) := by
      rw [show ((2 ^ b.pieces.length - 1 : Nat) : Int) = ((2 ^ b.pieces.length : Nat) : Int) - 1 by omega]
      exact wrap_id (by omega)
    have hpi := @parc_is b hG
    have hok := @okRef_is b hG
    have htk := @takes_is b hG
    obtain ⟨ps, ks, gr, fr, un, fe, st⟩ := b
    simp only [encB] at hdb
    simp only at hp7 hk4 hpi hp1 hple hsh w1
    unfold big at hl
    simp only [go_sem, Nat.reduceAdd, Nat.reduceSub, Nat.reduceMul, Nat.reduceEqDiff, Nat.reduceLT, Nat.reduceLeDiff, Nat.reduceBEq, Nat.reduceBNe, Int.reduceToNat, Int.reduceLE, Int.reduceLT, Int.reduceNe, Int.reduceNeg, reduceCtorEq, Int.reduceBEq, Int.reduceBNe, @callV_spec E21 17 s17 rfl, @callV_specT E21 17 s17 rfl, @stepV_spec E21 17 s17 rfl, @effV_spec E21 17 s17 rfl, s17, callSpec, encB, hdb, hb, h4, List.length_map]
    refine ev_loopS [1, 2] (fun x : Nat × Nat => [(7, .int .i64 x.2), (8, .int .i64 x.1)])
      (fun x H => x.1 ≤ l.length ∧ x.2 < 2 ^ ps.length ∧ isDivF ⟨ps, ks, gr, fr, un, fe, st⟩ x.2 (l.drop x.1) = isDivF ⟨ps, ks, gr, fr, un, fe, st⟩ 0 l ∧ H (([], 25000000) : Key) = some (.cells (encB ⟨ps, ks, gr, fr, un, fe, st⟩) 1 false))
      (fun x => l.length - x.1) (0, 0) ?_ ⟨Nat.zero_le _, hp1, rfl, ?_⟩ ?_
    · simp only [go_sem, Nat.reduceAdd, Nat.reduceSub, Nat.reduceMul, Nat.reduceEqDiff, Nat.reduceLT, Nat.reduceLeDiff, Nat.reduceBEq, Nat.reduceBNe, Int.reduceToNat, Int.reduceLE, Int.reduceLT, Int.reduceNe, Int.reduceNeg, reduceCtorEq, Int.reduceBEq, Int.reduceBNe]
    · simp only [go_sem, Nat.reduceAdd, Nat.reduceSub, Nat.reduceMul, Nat.reduceEqDiff, Nat.reduceLT, Nat.reduceLeDiff, Nat.reduceBEq, Nat.reduceBNe, Int.reduceToNat, Int.reduceLE, Int.reduceLT, Int.reduceNe, Int.reduceNeg, reduceCtorEq, Int.reduceBEq, Int.reduceBNe, encB]
    · simp only [go_sem, Nat.reduceAdd, Nat.reduceSub, Nat.reduceMul, Nat.reduceEqDiff, Nat.reduceLT, Nat.reduceLeDiff, Nat.reduceBEq, Nat.reduceBNe, Int.reduceToNat, Int.reduceLE, Int.reduceLT, Int.reduceNe, Int.reduceNeg, reduceCtorEq, Int.reduceBEq, Int.reduceBNe]
      intro K x H ⟨hi, hm, hf, k1⟩ hK hE
      obtain ⟨i, met⟩ := x
      simp only at hi hm hf
      dsimp only
      have k1' := k1
      simp only [encB] at k1'
      rw [condK_bool]
      refine ⟨fun h => ?_, fun h => ?_⟩
      · have h' : i < l.length := by simpa using h
        have hii : (i : Int) < (l.length : Int) := by omega
        have w2 : IntKind.i64.wrap ((i : Int) + 1) = (i : Int) + 1 := wrap_id (by omega)
        have hgq := getD_mapN encQ l i [PV.int .i64 0, .sl [] true] h'
        have hqb := hls (l.getD i default) (by rw [List.getD_eq_getElem?_getD, List.getElem?_eq_getElem h']; exact List.getElem_mem _)
        rw [isDivF_drop _ h'] at hf
        generalize l.getD i default = q at *
        cases hpo : parcOk ⟨ps, ks, gr, fr, un, fe, st⟩ q with
        | false =>
          rw [hpo] at hf
          simp only [Bool.false_and, Bool.false_eq_true, if_false] at hf
          obtain ⟨kd, qs⟩ := q
          simp only at hqb
          simp only [go_sem, Nat.reduceAdd, Nat.reduceSub, Nat.reduceMul, Nat.reduceEqDiff, Nat.reduceLT, Nat.reduceLeDiff, Nat.reduceBEq, Nat.reduceBNe, Int.reduceToNat, Int.reduceLE, Int.reduceLT, Int.reduceNe, Int.reduceNeg, reduceCtorEq, Int.reduceBEq, Int.reduceBNe, @callV_spec E21 58 s58 rfl, @callV_specT E21 58 s58 rfl, @stepV_spec E21 58 s58 rfl, @effV_spec E21 58 s58 rfl, s58, @callV_spec E21 59 s59 rfl, @callV_specT E21 59 s59 rfl, @stepV_spec E21 59 s59 rfl, @effV_spec E21 59 s59 rfl, s59, @callV_spec E21 66 s66 rfl, @callV_specT E21 66 s66 rfl, @stepV_spec E21 66 s66 rfl, @effV_spec E21 66 s66 rfl, s66, callSpec, hii, h', hgq, encQ, k1', hdb, h4, hqb, hpo]
          refine hE _ _ _ (by simp) ?_
          simp only [go_sem, Nat.reduceAdd, Nat.reduceSub, Nat.reduceMul, Nat.reduceEqDiff, Nat.reduceLT, Nat.reduceLeDiff, Nat.reduceBEq, Nat.reduceBNe, Int.reduceToNat, Int.reduceLE, Int.reduceLT, Int.reduceNe, Int.reduceNeg, reduceCtorEq, Int.reduceBEq, Int.reduceBNe, ← hf]
        | true =>
          rw [hpo] at hf
          have hokq := eq_true (hok hpo)
          have htq := htk hpo
          obtain ⟨k, s, rfl, q1, q2, q3, q4⟩ := hpi hpo
          simp only at hqb hf htq q4
          rw [q4] at hf htq
          rw [← htq] at hf
          simp only [Bool.true_and] at hf
          have hand := bits_and (a := met) (b := s) (by omega) (by omega)
          have hor := bits_or (a := met) (b := s) (by omega) (by omega)
          have hall : (∀ k ∈ ofS s 7, 0 ≤ k ∧ k < 62) = True := eq_true fun k hk => by have := ofS_lt (m := 7) (by omega) hk; omega
          cases ht : takesM ⟨ps, ks, gr, fr, un, fe, st⟩ (k : Int) (ofS s 7) with
          | false =>
            rw [ht] at hf
            simp only [Bool.false_and, Bool.false_eq_true, if_false] at hf
            simp only [go_sem, Nat.reduceAdd, Nat.reduceSub, Nat.reduceMul, Nat.reduceEqDiff, Nat.reduceLT, Nat.reduceLeDiff, Nat.reduceBEq, Nat.reduceBNe, Int.reduceToNat, Int.reduceLE, Int.reduceLT, Int.reduceNe, Int.reduceNeg, reduceCtorEq, Int.reduceBEq, Int.reduceBNe, @callV_spec E21 58 s58 rfl, @callV_specT E21 58 s58 rfl, @stepV_spec E21 58 s58 rfl, @effV_spec E21 58 s58 rfl, s58, @callV_spec E21 59 s59 rfl, @callV_specT E21 59 s59 rfl, @stepV_spec E21 59 s59 rfl, @effV_spec E21 59 s59 rfl, s59, @callV_spec E21 66 s66 rfl, @callV_specT E21 66 s66 rfl, @stepV_spec E21 66 s66 rfl, @effV_spec E21 66 s66 rfl, s66, callSpec, hii, h', hgq, encQ, k1', hdb, h4, hqb, hpo, hokq, ht]
            refine hE _ _ _ (by simp) ?_
            simp only [go_sem, Nat.reduceAdd, Nat.reduceSub, Nat.reduceMul, Nat.reduceEqDiff, Nat.reduceLT, Nat.reduceLeDiff, Nat.reduceBEq, Nat.reduceBNe, Int.reduceToNat, Int.reduceLE, Int.reduceLT, Int.reduceNe, Int.reduceNeg, reduceCtorEq, Int.reduceBEq, Int.reduceBNe, ← hf]
          | true =>
            rw [ht] at hf
            simp only [Bool.true_and, decide_eq_true_eq] at hf
            simp only [go_sem, Nat.reduceAdd, Nat.reduceSub, Nat.reduceMul, Nat.reduceEqDiff, Nat.reduceLT, Nat.reduceLeDiff, Nat.reduceBEq, Nat.reduceBNe, Int.reduceToNat, Int.reduceLE, Int.reduceLT, Int.reduceNe, Int.reduceNeg, reduceCtorEq, Int.reduceBEq, Int.reduceBNe, @callV_spec E21 58 s58 rfl, @callV_specT E21 58 s58 rfl, @stepV_spec E21 58 s58 rfl, @effV_spec E21 58 s58 rfl, s58, @callV_spec E21 59 s59 rfl, @callV_specT E21 59 s59 rfl, @stepV_spec E21 59 s59 rfl, @effV_spec E21 59 s59 rfl, s59, @callV_spec E21 66 s66 rfl, @callV_specT E21 66 s66 rfl, @stepV_spec E21 66 s66 rfl, @effV_spec E21 66 s66 rfl, s66, callSpec, hii, h', hgq, encQ, k1', hdb, h4, hqb, hpo, hokq, ht, hall, q4, binInt, hand, hor]
            rw [condK_bool]
            refine ⟨fun hc => ?_, fun hc => ?_⟩
            · have hc : ¬ met &&& s = 0 := by simpa using hc
              rw [if_neg hc] at hf
              simp only [go_sem, Nat.reduceAdd, Nat.reduceSub, Nat.reduceMul, Nat.reduceEqDiff, Nat.reduceLT, Nat.reduceLeDiff, Nat.reduceBEq, Nat.reduceBNe, Int.reduceToNat, Int.reduceLE, Int.reduceLT, Int.reduceNe, Int.reduceNeg, reduceCtorEq, Int.reduceBEq, Int.reduceBNe]
              refine hE _ _ _ (by simp) ?_
              simp only [go_sem, Nat.reduceAdd, Nat.reduceSub, Nat.reduceMul, Nat.reduceEqDiff, Nat.reduceLT, Nat.reduceLeDiff, Nat.reduceBEq, Nat.reduceBNe, Int.reduceToNat, Int.reduceLE, Int.reduceLT, Int.reduceNe, Int.reduceNeg, reduceCtorEq, Int.reduceBEq, Int.reduceBNe, ← hf]
            · have hc : met &&& s = 0 := by simpa using hc
              rw [if_pos hc] at hf
              simp only [go_sem, Nat.reduceAdd, Nat.reduceSub, Nat.reduceMul, Nat.reduceEqDiff, Nat.reduceLT, Nat.reduceLeDiff, Nat.reduceBEq, Nat.reduceBNe, Int.reduceToNat, Int.reduceLE, Int.reduceLT, Int.reduceNe, Int.reduceNeg, reduceCtorEq, Int.reduceBEq, Int.reduceBNe, @callV_spec E21 66 s66 rfl, @callV_specT E21 66 s66 rfl, @stepV_spec E21 66 s66 rfl, @effV_spec E21 66 s66 rfl, s66, callSpec, hqb, hii, h', hgq, encQ, hall, q4, binInt, hor]
              refine hK (i + 1, met ||| s) _ _ ?_ ⟨h', ?_, hf, ?_⟩ (by simp only; omega)
              · simp only [go_sem, Nat.reduceAdd, Nat.reduceSub, Nat.reduceMul, Nat.reduceEqDiff, Nat.reduceLT, Nat.reduceLeDiff, Nat.reduceBEq, Nat.reduceBNe, Int.reduceToNat, Int.reduceLE, Int.reduceLT, Int.reduceNe, Int.reduceNeg, reduceCtorEq, Int.reduceBEq, Int.reduceBNe, w2, Int.natCast_add, Int.natCast_one]
              · exact Nat.or_lt_two_pow hm q3
              · simp only [go_sem, Nat.reduceAdd, Nat.reduceSub, Nat.reduceMul, Nat.reduceEqDiff, Nat.reduceLT, Nat.reduceLeDiff, Nat.reduceBEq, Nat.reduceBNe, Int.reduceToNat, Int.reduceLE, Int.reduceLT, Int.reduceNe, Int.reduceNeg, reduceCtorEq, Int.reduceBEq, Int.reduceBNe, k1]
      · have hil : i = l.length := by simp only [decide_eq_false_iff_not] at h; omega
        subst hil
        rw [List.drop_length, isDivF] at hf
        have hcd : ((((met : Nat) : Int) == ((2 ^ ps.length - 1 : Nat) : Int))) = decide (met = 2 ^ ps.length - 1) := by rw [Bool.eq_iff_iff]; simp; omega
        refine hE _ _ _ (by simp) ?_
        simp only [go_sem, Nat.reduceAdd, Nat.reduceSub, Nat.reduceMul, Nat.reduceEqDiff, Nat.reduceLT, Nat.reduceLeDiff, Nat.reduceBEq, Nat.reduceBNe, Int.reduceToNat, Int.reduceLE, Int.reduceLT, Int.reduceNe, Int.reduceNeg, reduceCtorEq, Int.reduceBEq, Int.reduceBNe, k1', binInt, List.length_map, hsh, w1, hcd, ← hf]
def s25 : Spec := spec2 (fun (b : PBook) (l : List Parc) => Big4 b ∧ big l.length ∧ ∀ q ∈ l, big q.pieces.length) (fun b l => .tup [.bool (isDivM b l).1, .int .i64 (isDivM b l).2])
theorem s25_ok : SpecOK Tryd.prog glB 25 s25 := spec2_ok E21_ok Tryd.func25 rfl (by kernel_rfl) fun b l h => rIsDivision_fn b h.1 l h.2.1 h.2.2
def rcheapM (b : PBook) (z : Int) : (Int × Int) × Int := (((wholeM true b z).1.2, ((wholeM true b z).1.1.length : Int)), (wholeM true b z).2)
theorem rCheapest_fn (b : PBook) (h4 : Big4 b) (z : Int) : Fn E21 0 30 Tryd.f30 (Tryd.f30.body.getD .skip) [.agg (encB b), .int .i64 z] (.tup [.int .i64 (rcheapM b z).1.1, .int .i64 (rcheapM b z).1.2, .int .i64 (rcheapM b z).2]) := by
  unfold Fn Tryd.f30 rcheapM wholeM
  have hdb : (dec (.agg (encB b)) : Option PBook) = some b := dec_book b
  cases hb : bookOk b with
  | false =>
    have ha : ∀ x, askedM b x = 60 := fun x => by unfold askedM; rw [hb]; rfl
    obtain ⟨ps, ks, gr, fr, un, fe, st⟩ := b
    simp only [encB] at hdb
    simp only [go_sem, Nat.reduceAdd, Nat.reduceSub, Nat.reduceMul, Nat.reduceEqDiff, Nat.reduceLT, Nat.reduceLeDiff, Nat.reduceBEq, Nat.reduceBNe, Int.reduceToNat, Int.reduceLE, Int.reduceLT, Int.reduceNe, Int.reduceNeg, reduceCtorEq, Int.reduceBEq, Int.reduceBNe, @callV_spec E21 57 s57 rfl, @callV_specT E21 57 s57 rfl, @stepV_spec E21 57 s57 rfl, @effV_spec E21 57 s57 rfl, s57, @callV_spec E21 41 sTween rfl, @callV_specT E21 41 sTween rfl, @stepV_spec E21 41 sTween rfl, @effV_spec E21 41 sTween rfl, sTween, callSpec, encB, hdb, hb, h4, ha, List.length_nil]
  | true =>
    have hG := book_good hb
    cases hz : (decide (0 ≤ z) && decide (z ≤ 4)) with
    | false =>
      have ha : askedM b false = 61 := by unfold askedM; rw [hb]; rfl
      obtain ⟨ps, ks, gr, fr, un, fe, st⟩ := b
      simp only [encB] at hdb
      simp only [go_sem, Nat.reduceAdd, Nat.reduceSub, Nat.reduceMul, Nat.reduceEqDiff, Nat.reduceLT, Nat.reduceLeDiff, Nat.reduceBEq, Nat.reduceBNe, Int.reduceToNat, Int.reduceLE, Int.reduceLT, Int.reduceNe, Int.reduceNeg, reduceCtorEq, Int.reduceBEq, Int.reduceBNe, @callV_spec E21 57 s57 rfl, @callV_specT E21 57 s57 rfl, @stepV_spec E21 57 s57 rfl, @effV_spec E21 57 s57 rfl, s57, @callV_spec E21 41 sTween rfl, @callV_specT E21 41 sTween rfl, @stepV_spec E21 41 sTween rfl, @effV_spec E21 41 sTween rfl, sTween, callSpec, encB, hdb, hb, h4, ha, hz, List.length_nil]
    | true =>
      have ha : askedM b true = 0 := by unfold askedM; rw [hb]; rfl
      have hz' : 0 ≤ z ∧ z ≤ 4 := by simpa using hz
      have hp1 := Nat.two_pow_pos b.pieces.length
      have hple := two7 hG.p7
      have hsh := shl_one (k := b.pieces.length) (by have := hG.p7; omega)
      have w1 : IntKind.i64.wrap (((2 ^ b.pieces.length : Nat) : Int) - 1) = ((2 ^ b.pieces.length - 1 : Nat) : Int) := by
        rw [show ((2 ^ b.pieces.length - 1 : Nat) : Int) = ((2 ^ b.pieces.length : Nat) : Int) - 1 by omega]
        exact wrap_id (by omega)
      have hlt : ((2 ^ b.pieces.length - 1 : Nat) : Int) < ((2 ^ b.pieces.length : Nat) : Int) := by omega
      have hlt2 : 2 ^ b.pieces.length - 1 < 2 ^ b.pieces.length := by omega
      have hget := fun d => tabT_get b z hlt2 d
      have hlen := tabT_len b z (2 ^ b.pieces.length)
      have hpr := priceT_dv hG hz' (s := 2 ^ b.pieces.length - 1) (by omega)
      generalize hd : dvOf true b z (2 ^ b.pieces.length - 1) = d at *
      obtain ⟨ps, ks, gr, fr, un, fe, st⟩ := b
      simp only [encB] at hdb
      simp only at hsh w1 hlt hlt2 hget hlen hpr
      by_cases hn : d.2 < 0
      · rw [if_pos hn] at hpr
        simp only [go_sem, Nat.reduceAdd, Nat.reduceSub, Nat.reduceMul, Nat.reduceEqDiff, Nat.reduceLT, Nat.reduceLeDiff, Nat.reduceBEq, Nat.reduceBNe, Int.reduceToNat, Int.reduceLE, Int.reduceLT, Int.reduceNe, Int.reduceNeg, reduceCtorEq, Int.reduceBEq, Int.reduceBNe, @callV_spec E21 57 s57 rfl, @callV_specT E21 57 s57 rfl, @stepV_spec E21 57 s57 rfl, @effV_spec E21 57 s57 rfl, s57, @callV_spec E21 41 sTween rfl, @callV_specT E21 41 sTween rfl, @stepV_spec E21 41 sTween rfl, @effV_spec E21 41 sTween rfl, sTween, @callV_spec E21 70 s70 rfl, @callV_specT E21 70 s70 rfl, @stepV_spec E21 70 s70 rfl, @effV_spec E21 70 s70 rfl, s70, callSpec, encB, hdb, hb, h4, ha, hz, hz', hG, List.length_map, binInt, hsh, w1, hlen, hlt, hlt2, hget, hpr, encS, hn, List.length_nil]
      · rw [if_neg hn] at hpr
        have hneg : ((d.1.length : Int) < 0) = False := eq_false (by omega)
        simp only [go_sem, Nat.reduceAdd, Nat.reduceSub, Nat.reduceMul, Nat.reduceEqDiff, Nat.reduceLT, Nat.reduceLeDiff, Nat.reduceBEq, Nat.reduceBNe, Int.reduceToNat, Int.reduceLE, Int.reduceLT, Int.reduceNe, Int.reduceNeg, reduceCtorEq, Int.reduceBEq, Int.reduceBNe, @callV_spec E21 57 s57 rfl, @callV_specT E21 57 s57 rfl, @stepV_spec E21 57 s57 rfl, @effV_spec E21 57 s57 rfl, s57, @callV_spec E21 41 sTween rfl, @callV_specT E21 41 sTween rfl, @stepV_spec E21 41 sTween rfl, @effV_spec E21 41 sTween rfl, sTween, @callV_spec E21 70 s70 rfl, @callV_specT E21 70 s70 rfl, @stepV_spec E21 70 s70 rfl, @effV_spec E21 70 s70 rfl, s70, callSpec, encB, hneg, hdb, hb, h4, ha, hz, hz', hG, List.length_map, binInt, hsh, w1, hlen, hlt, hlt2, hget, hpr, encS, hn]
def s30 : Spec := spec2 (fun (b : PBook) (_ : Int) => Big4 b) (fun b z => .tup [.int .i64 (rcheapM b z).1.1, .int .i64 (rcheapM b z).1.2, .int .i64 (rcheapM b z).2])
theorem s30_ok : SpecOK Tryd.prog glB 30 s30 := spec2_ok E21_ok Tryd.func30 rfl (by kernel_rfl) fun b z h => rCheapest_fn b h z
end Wb
/- The reference's Send. -/
namespace Wb
open Go Go.Proofs Enc Row
set_option linter.unusedSimpArgs false
set_option linter.unusedVariables false
set_option maxRecDepth 20000
set_option maxHeartbeats 4000000
noncomputable def E22t : List (Nat × Spec) := [(25, s25), (30, s30)] ++ E21t
theorem E22t_ok : AllOK E22t := ⟨⟨s25_ok, Tryd.call25⟩, ⟨s30_ok, Tryd.call30⟩, E21t_ok⟩
noncomputable def E22 : Env := mkE E22t []
theorem E22_ok : EnvOK Tryd.prog E22 := envOK E22t_ok trivial
theorem E22_ti {t : Nat} : E22.ti t = ti t := rfl
theorem E22_q0 : (E22).eqt 130 = true := rfl
theorem E22_q1 : (E22).keyt 3 = true := rfl
theorem E22_q2 : (E22).keyt 85 = true := rfl
attribute [go_sem] E22_ti E22_q0 E22_q1 E22_q2
def moreR (b : PBook) (s t : Nat) : Bool :=
  decide (sumP b .worth (ofS s 7) > sumP b .worth (ofS t 7)) || ((sumP b .worth (ofS s 7) == sumP b .worth (ofS t 7)) &&
    (decide (((ofS s 7).length : Int) > ((ofS t 7).length : Int)) || ((((ofS s 7).length : Int) == ((ofS t 7).length : Int)) && decide (cmpL (ofS s 7) (ofS t 7) < 0))))
theorem moreR_eq (b : PBook) (s t : Nat) : moreR b s t = moreB b s t := by
  unfold moreR moreB
  rw [sumP_allF, sumP_allF]
  generalize allF b .worth s = x
  generalize allF b .worth t = y
  generalize hn : ((ofS s 7).length : Int) = n
  generalize hm : ((ofS t 7).length : Int) = m
  have h3 := cmpL_three (ofS s 7) (ofS t 7)
  generalize cmpL (ofS s 7) (ofS t 7) = c at *
  unfold orF orF orF orF cmpI
  rw [Bool.eq_iff_iff]
  simp only [Bool.or_eq_true, Bool.and_eq_true, decide_eq_true_eq, beq_iff_eq]
  (repeat' split) <;> omega
theorem rSend_fn (b : PBook) (h4 : Big4 b) (z c : Int) : Fn E22 0 34 Tryd.f34 (Tryd.f34.body.getD .skip) [.agg (encB b), .int .i64 z, .int .i64 c] (.tup [.sl (il (sendX b z c).1) false, .int .i64 (sendX b z c).2]) := by
  rw [sendX_eq]
  unfold Fn Tryd.f34
  have hdb : (dec (.agg (encB b)) : Option PBook) = some b := dec_book b
  cases hb : bookOk b with
  | false =>
    have ha : ∀ x, askedM b x = 60 := fun x => by unfold askedM; rw [hb]; rfl
    have hs : sendM b z c = ([], 60) := by unfold sendM; rw [hb]; rfl
    obtain ⟨ps, ks, gr, fr, un, fe, st⟩ := b
    simp only [encB] at hdb
    simp only [go_sem, Nat.reduceAdd, Nat.reduceSub, Nat.reduceMul, Nat.reduceEqDiff, Nat.reduceLT, Nat.reduceLeDiff, Nat.reduceBEq, Nat.reduceBNe, Int.reduceToNat, Int.reduceLE, Int.reduceLT, Int.reduceNe, Int.reduceNeg, reduceCtorEq, Int.reduceBEq, Int.reduceBNe, @callV_spec E22 57 s57 rfl, @callV_specT E22 57 s57 rfl, @stepV_spec E22 57 s57 rfl, @effV_spec E22 57 s57 rfl, s57, @callV_spec E22 41 sTween rfl, @callV_specT E22 41 sTween rfl, @stepV_spec E22 41 sTween rfl, @effV_spec E22 41 sTween rfl, sTween, callSpec, encB, hdb, h4, ha, hs, il_nil0]
  | true =>
    have hG := book_good hb
    cases hzc : ((decide (0 ≤ z) && decide (z ≤ 4)) && (decide (0 ≤ c) && decide (c ≤ 20000))) with
    | false =>
      have ha : askedM b false = 61 := by unfold askedM; rw [hb]; rfl
      have hs : sendM b z c = ([], 61) := by unfold sendM; rw [hb, if_pos rfl, hzc]; rfl
      obtain ⟨ps, ks, gr, fr, un, fe, st⟩ := b
      simp only [encB] at hdb
      simp only [go_sem, Nat.reduceAdd, Nat.reduceSub, Nat.reduceMul, Nat.reduceEqDiff, Nat.reduceLT, Nat.reduceLeDiff, Nat.reduceBEq, Nat.reduceBNe, Int.reduceToNat, Int.reduceLE, Int.reduceLT, Int.reduceNe, Int.reduceNeg, reduceCtorEq, Int.reduceBEq, Int.reduceBNe, @callV_spec E22 57 s57 rfl, @callV_specT E22 57 s57 rfl, @stepV_spec E22 57 s57 rfl, @effV_spec E22 57 s57 rfl, s57, @callV_spec E22 41 sTween rfl, @callV_specT E22 41 sTween rfl, @stepV_spec E22 41 sTween rfl, @effV_spec E22 41 sTween rfl, sTween, callSpec, encB, hdb, h4, ha, hzc, hs, il_nil0]
    | true =>
      have ha : askedM b true = 0 := by unfold askedM; rw [hb]; rfl
      have hs : sendM b z c = (ofS (sendB b z c) 7, 0) := by unfold sendM; rw [hb, if_pos rfl, hzc]; rfl
      have hz : 0 ≤ z ∧ z ≤ 4 := by
        simp only [Bool.and_eq_true, decide_eq_true_eq] at hzc; exact hzc.1
      have hcb : (decide (0 ≤ c) && decide (c ≤ 20000)) = true := by rw [Bool.and_eq_true] at hzc; exact hzc.2
      have p7 := hG.p7
      have hn7 := two7 p7
      have hpn := Nat.two_pow_pos b.pieces.length
      have hlen := tabT_len b z (2 ^ b.pieces.length)
      have hget := fun (i : Nat) (h : i < 2 ^ b.pieces.length) d => tabT_get b z h d
      have hpr := fun (i : Nat) (h : i < 2 ^ b.pieces.length) => priceT_dv hG hz (s := i) (by omega)
      have hofs : ∀ s : Nat, s < 2 ^ b.pieces.length → ofS s b.pieces.length = ofS s 7 := fun s hs => of_trunc p7 hs
      have hin : ∀ s : Nat, s < 2 ^ b.pieces.length → inP b (ofS s 7) = True := fun s hs => eq_true (inP_of hs)
      have hl1 : ∀ s, ((ofS s 7).length ≤ 1000) = True := fun s => eq_true (Nat.le_trans (ofS_len s 7) (by decide))
      have hlb : ∀ s, (big (ofS s 7).length) = True := fun s => eq_true (by have := ofS_len s 7; unfold big; omega)
      have hsl := send_lt b z c
      have hsb : sendB b z c = (List.range (2 ^ b.pieces.length)).foldl (sendStep b z c) 0 := rfl
      have hmore := moreR_eq b
      obtain ⟨ps, ks, gr, fr, un, fe, st⟩ := b
      simp only [encB] at hdb
      simp only at p7 hn7 hpn hlen hget hpr hofs hsl hsb hin
      simp only [go_sem, Nat.reduceAdd, Nat.reduceSub, Nat.reduceMul, Nat.reduceEqDiff, Nat.reduceLT, Nat.reduceLeDiff, Nat.reduceBEq, Nat.reduceBNe, Int.reduceToNat, Int.reduceLE, Int.reduceLT, Int.reduceNe, Int.reduceNeg, reduceCtorEq, Int.reduceBEq, Int.reduceBNe, @callV_spec E22 57 s57 rfl, @callV_specT E22 57 s57 rfl, @stepV_spec E22 57 s57 rfl, @effV_spec E22 57 s57 rfl, s57, @callV_spec E22 41 sTween rfl, @callV_specT E22 41 sTween rfl, @stepV_spec E22 41 sTween rfl, @effV_spec E22 41 sTween rfl, sTween, @callV_spec E22 70 s70 rfl, @callV_specT E22 70 s70 rfl, @stepV_spec E22 70 s70 rfl, @effV_spec E22 70 s70 rfl, s70, callSpec, encB, hdb, h4, ha, hzc, hcb, hs, hz, hG]
      refine ev_loopS [2, 3, 9] (fun x : Nat × Bool => [(10, .sl (il (ofS ((List.range x.1).foldl (sendStep ⟨ps, ks, gr, fr, un, fe, st⟩ z c) 0) 7)) x.2), (11, .int .i64 x.1)])
        (fun x H => x.1 ≤ 2 ^ ps.length ∧ H (([], 34000000) : Key) = some (.cells (encB ⟨ps, ks, gr, fr, un, fe, st⟩) 1 false))
        (fun x => 2 ^ ps.length - x.1) (0, true) ?_ ⟨Nat.zero_le _, ?_⟩ ?_
      · simp only [go_sem, Nat.reduceAdd, Nat.reduceSub, Nat.reduceMul, Nat.reduceEqDiff, Nat.reduceLT, Nat.reduceLeDiff, Nat.reduceBEq, Nat.reduceBNe, Int.reduceToNat, Int.reduceLE, Int.reduceLT, Int.reduceNe, Int.reduceNeg, reduceCtorEq, Int.reduceBEq, Int.reduceBNe, List.range_zero, List.foldl_nil, show ofS 0 7 = [] from by decide, il_nil0]
        trace_state
      · simp only [go_sem, Nat.reduceAdd, Nat.reduceSub, Nat.reduceMul, Nat.reduceEqDiff, Nat.reduceLT, Nat.reduceLeDiff, Nat.reduceBEq, Nat.reduceBNe, Int.reduceToNat, Int.reduceLE, Int.reduceLT, Int.reduceNe, Int.reduceNeg, reduceCtorEq, Int.reduceBEq, Int.reduceBNe, encB]
      · simp only [go_sem, Nat.reduceAdd, Nat.reduceSub, Nat.reduceMul, Nat.reduceEqDiff, Nat.reduceLT, Nat.reduceLeDiff, Nat.reduceBEq, Nat.reduceBNe, Int.reduceToNat, Int.reduceLE, Int.reduceLT, Int.reduceNe, Int.reduceNeg, reduceCtorEq, Int.reduceBEq, Int.reduceBNe]
        intro K x H ⟨hi, g1⟩ hK hE
        obtain ⟨i, ex⟩ := x
        simp only at hi
        dsimp only
        have g1' := g1
        simp only [encB] at g1'
        simp only [go_sem, Nat.reduceAdd, Nat.reduceSub, Nat.reduceMul, Nat.reduceEqDiff, Nat.reduceLT, Nat.reduceLeDiff, Nat.reduceBEq, Nat.reduceBNe, Int.reduceToNat, Int.reduceLE, Int.reduceLT, Int.reduceNe, Int.reduceNeg, reduceCtorEq, Int.reduceBEq, Int.reduceBNe, List.length_map, hlen]
        rw [condK_bool]
        refine ⟨fun h => ?_, fun h => ?_⟩
        · have h' : i < 2 ^ ps.length := by simp only [decide_eq_true_eq] at h; omega
          have hii : (i : Int) < ((2 ^ ps.length : Nat) : Int) := by omega
          have w2 : IntKind.i64.wrap ((i : Int) + 1) = ((i + 1 : Nat) : Int) := by rw [Int.natCast_add, Int.natCast_one]; exact wrap_id (by omega)
          have hgi := hget i h'
          have hpi := hpr i h'
          have hst : (List.range (i + 1)).foldl (sendStep ⟨ps, ks, gr, fr, un, fe, st⟩ z c) 0 = if (dvOf true ⟨ps, ks, gr, fr, un, fe, st⟩ z i).2 < 0 ∨ (dvOf true ⟨ps, ks, gr, fr, un, fe, st⟩ z i).2 > c then ((List.range i).foldl (sendStep ⟨ps, ks, gr, fr, un, fe, st⟩ z c) 0) else if moreB ⟨ps, ks, gr, fr, un, fe, st⟩ i ((List.range i).foldl (sendStep ⟨ps, ks, gr, fr, un, fe, st⟩ z c) 0) then i else ((List.range i).foldl (sendStep ⟨ps, ks, gr, fr, un, fe, st⟩ z c) 0) := by
            rw [List.range_succ, List.foldl_append]; rfl
          have hst2 := hst
          rw [List.range_succ] at hst2
          have hb0 := hsl i hi
          generalize hm : (List.range i).foldl (sendStep ⟨ps, ks, gr, fr, un, fe, st⟩ z c) 0 = m at *
          have hinm := hin m hb0
          have hini := hin i h'
          have hofi := hofs i h'
          have hlm := hlb m
          have hli := hlb i
          have hl1m := hl1 m
          have hl1i := hl1 i
          have hmo := hmore i m
          have h62 : ((i : Int) < 2 ^ 62) = True := eq_true (by omega)
          have hp62 : ((ps.length : Int) ≤ 62) = True := eq_true (by omega)
          generalize hd : dvOf true ⟨ps, ks, gr, fr, un, fe, st⟩ z i = d at *
          unfold moreR at hmo
          by_cases hn : d.2 < 0
          · rw [if_pos hn] at hpi
            rw [if_pos (.inl hn)] at hst hst2
            simp only [go_sem, Nat.reduceAdd, Nat.reduceSub, Nat.reduceMul, Nat.reduceEqDiff, Nat.reduceLT, Nat.reduceLeDiff, Nat.reduceBEq, Nat.reduceBNe, Int.reduceToNat, Int.reduceLE, Int.reduceLT, Int.reduceNe, Int.reduceNeg, reduceCtorEq, Int.reduceBEq, Int.reduceBNe, hii, h', hgi, hpi, encS, List.length_map, hlen]
            refine hK (i + 1, ex) _ _ ?_ ⟨h', ?_⟩ (by simp only; omega)
            · simp only [go_sem, Nat.reduceAdd, Nat.reduceSub, Nat.reduceMul, Nat.reduceEqDiff, Nat.reduceLT, Nat.reduceLeDiff, Nat.reduceBEq, Nat.reduceBNe, Int.reduceToNat, Int.reduceLE, Int.reduceLT, Int.reduceNe, Int.reduceNeg, reduceCtorEq, Int.reduceBEq, Int.reduceBNe, w2, hst, hst2]
            · simp only [go_sem, Nat.reduceAdd, Nat.reduceSub, Nat.reduceMul, Nat.reduceEqDiff, Nat.reduceLT, Nat.reduceLeDiff, Nat.reduceBEq, Nat.reduceBNe, Int.reduceToNat, Int.reduceLE, Int.reduceLT, Int.reduceNe, Int.reduceNeg, reduceCtorEq, Int.reduceBEq, Int.reduceBNe, g1]
          · rw [if_neg hn] at hpi
            have hneg : ((d.1.length : Int) < 0) = False := eq_false (by omega)
            by_cases hc2 : d.2 > c
            · rw [if_pos (.inr hc2)] at hst hst2
              simp only [go_sem, Nat.reduceAdd, Nat.reduceSub, Nat.reduceMul, Nat.reduceEqDiff, Nat.reduceLT, Nat.reduceLeDiff, Nat.reduceBEq, Nat.reduceBNe, Int.reduceToNat, Int.reduceLE, Int.reduceLT, Int.reduceNe, Int.reduceNeg, reduceCtorEq, Int.reduceBEq, Int.reduceBNe, hii, h', hgi, hpi, encS, hneg, hc2, List.length_map, hlen]
              refine hK (i + 1, ex) _ _ ?_ ⟨h', ?_⟩ (by simp only; omega)
              · simp only [go_sem, Nat.reduceAdd, Nat.reduceSub, Nat.reduceMul, Nat.reduceEqDiff, Nat.reduceLT, Nat.reduceLeDiff, Nat.reduceBEq, Nat.reduceBNe, Int.reduceToNat, Int.reduceLE, Int.reduceLT, Int.reduceNe, Int.reduceNeg, reduceCtorEq, Int.reduceBEq, Int.reduceBNe, w2, hst, hst2]
              · simp only [go_sem, Nat.reduceAdd, Nat.reduceSub, Nat.reduceMul, Nat.reduceEqDiff, Nat.reduceLT, Nat.reduceLeDiff, Nat.reduceBEq, Nat.reduceBNe, Int.reduceToNat, Int.reduceLE, Int.reduceLT, Int.reduceNe, Int.reduceNeg, reduceCtorEq, Int.reduceBEq, Int.reduceBNe, g1]
            · rw [if_neg (by omega)] at hst hst2
              simp only [go_sem, Nat.reduceAdd, Nat.reduceSub, Nat.reduceMul, Nat.reduceEqDiff, Nat.reduceLT, Nat.reduceLeDiff, Nat.reduceBEq, Nat.reduceBNe, Int.reduceToNat, Int.reduceLE, Int.reduceLT, Int.reduceNe, Int.reduceNeg, reduceCtorEq, Int.reduceBEq, Int.reduceBNe, @callV_spec E22 46 s46 rfl, @callV_specT E22 46 s46 rfl, @stepV_spec E22 46 s46 rfl, @effV_spec E22 46 s46 rfl, s46, @callV_spec E22 78 s78 rfl, @callV_specT E22 78 s78 rfl, @stepV_spec E22 78 s78 rfl, @effV_spec E22 78 s78 rfl, s78, @callV_spec E22 50 s50 rfl, @callV_specT E22 50 s50 rfl, @stepV_spec E22 50 s50 rfl, @effV_spec E22 50 s50 rfl, s50, callSpec, hii, h', hgi, hpi, encS, hneg, hc2, List.length_map, hlen, g1', h62, hp62, hofi, hdb, hG, hinm, hini, hl1m, hl1i, hlm, hli, il_length]
              refine ⟨fun a b => ⟨a, b⟩, fun a b => ⟨a, b⟩, fun a b => ⟨a, b⟩, ?_⟩
              rw [hmo, condK_bool]
              refine ⟨fun hc3 => ?_, fun hc3 => ?_⟩
              · rw [hc3, if_pos rfl] at hst hst2
                simp only [go_sem, Nat.reduceAdd, Nat.reduceSub, Nat.reduceMul, Nat.reduceEqDiff, Nat.reduceLT, Nat.reduceLeDiff, Nat.reduceBEq, Nat.reduceBNe, Int.reduceToNat, Int.reduceLE, Int.reduceLT, Int.reduceNe, Int.reduceNeg, reduceCtorEq, Int.reduceBEq, Int.reduceBNe]
                refine hK (i + 1, false) _ _ ?_ ⟨h', ?_⟩ (by simp only; omega)
                · simp only [go_sem, Nat.reduceAdd, Nat.reduceSub, Nat.reduceMul, Nat.reduceEqDiff, Nat.reduceLT, Nat.reduceLeDiff, Nat.reduceBEq, Nat.reduceBNe, Int.reduceToNat, Int.reduceLE, Int.reduceLT, Int.reduceNe, Int.reduceNeg, reduceCtorEq, Int.reduceBEq, Int.reduceBNe, w2, hst, hst2]
                · simp only [go_sem, Nat.reduceAdd, Nat.reduceSub, Nat.reduceMul, Nat.reduceEqDiff, Nat.reduceLT, Nat.reduceLeDiff, Nat.reduceBEq, Nat.reduceBNe, Int.reduceToNat, Int.reduceLE, Int.reduceLT, Int.reduceNe, Int.reduceNeg, reduceCtorEq, Int.reduceBEq, Int.reduceBNe, g1]
              · rw [hc3, if_neg (by simp)] at hst hst2
                simp only [go_sem, Nat.reduceAdd, Nat.reduceSub, Nat.reduceMul, Nat.reduceEqDiff, Nat.reduceLT, Nat.reduceLeDiff, Nat.reduceBEq, Nat.reduceBNe, Int.reduceToNat, Int.reduceLE, Int.reduceLT, Int.reduceNe, Int.reduceNeg, reduceCtorEq, Int.reduceBEq, Int.reduceBNe]
                refine hK (i + 1, ex) _ _ ?_ ⟨h', ?_⟩ (by simp only; omega)
                · simp only [go_sem, Nat.reduceAdd, Nat.reduceSub, Nat.reduceMul, Nat.reduceEqDiff, Nat.reduceLT, Nat.reduceLeDiff, Nat.reduceBEq, Nat.reduceBNe, Int.reduceToNat, Int.reduceLE, Int.reduceLT, Int.reduceNe, Int.reduceNeg, reduceCtorEq, Int.reduceBEq, Int.reduceBNe, w2, hst, hst2]
                · simp only [go_sem, Nat.reduceAdd, Nat.reduceSub, Nat.reduceMul, Nat.reduceEqDiff, Nat.reduceLT, Nat.reduceLeDiff, Nat.reduceBEq, Nat.reduceBNe, Int.reduceToNat, Int.reduceLE, Int.reduceLT, Int.reduceNe, Int.reduceNeg, reduceCtorEq, Int.reduceBEq, Int.reduceBNe, g1]
        · have hil : i = 2 ^ ps.length := by simp only [decide_eq_false_iff_not] at h; omega
          subst hil
          refine hE _ _ _ (by simp) ?_
          simp only [go_sem, Nat.reduceAdd, Nat.reduceSub, Nat.reduceMul, Nat.reduceEqDiff, Nat.reduceLT, Nat.reduceLeDiff, Nat.reduceBEq, Nat.reduceBNe, Int.reduceToNat, Int.reduceLE, Int.reduceLT, Int.reduceNe, Int.reduceNeg, reduceCtorEq, Int.reduceBEq, Int.reduceBNe, ← hsb]
noncomputable def s34 : Spec := spec3 (fun (b : PBook) (_ _ : Int) => Big4 b) (fun b z c => .tup [.sl (il (sendX b z c).1) false, .int .i64 (sendX b z c).2])
theorem s34_ok : SpecOK Tryd.prog glB 34 s34 := spec3_ok E22_ok Tryd.func34 rfl (by kernel_rfl) fun b z c h => rSend_fn b h z c
end Wb
/- ParcelSends. -/
namespace Wb
open Go Go.Proofs Enc Row
set_option linter.unusedSimpArgs false
set_option linter.unusedVariables false
set_option maxRecDepth 20000
set_option maxHeartbeats 4000000
noncomputable def E24t : List (Nat × Spec) := [(34, s34)] ++ E22t
theorem E24t_ok : AllOK E24t := ⟨⟨s34_ok, Tryd.call34⟩, E22t_ok⟩
noncomputable def E24 : Env := mkE E24t []
theorem E24_ok : EnvOK Tryd.prog E24 := envOK E24t_ok trivial
theorem E24_ti {t : Nat} : E24.ti t = ti t := rfl
theorem E24_q0 : (E24).eqt 130 = true := rfl
theorem E24_q1 : (E24).keyt 3 = true := rfl
theorem E24_q2 : (E24).keyt 85 = true := rfl
attribute [go_sem] E24_ti E24_q0 E24_q1 E24_q2
theorem sendX_big (b : PBook) (z c : Int) : big (sendX b z c).1.length = True := eq_true (by
  rw [sendX_eq]
  unfold sendM
  split
  · split
    · have := ofS_len (sendB b z c) 7
      unfold big; simp only; omega
    · simp [big]
  · simp [big])
theorem sends_law (b : PBook) (h4 : Big4 b) (z c : Int) : Fn E24 0 6 Tryd.f6 (Tryd.f6.body.getD .skip) [.agg (encB b), .int .i64 z, .int .i64 c] (.bool true) := by
  have hdb : (dec (.agg (encB b)) : Option PBook) = some b := dec_book b
  have hbl := sendX_big b z c
  unfold Fn Tryd.f6
  generalize hl : sendX b z c = l at *
  obtain ⟨l1, l2⟩ := l
  obtain ⟨ps, ks, gr, fr, un, fe, st⟩ := b
  simp only [encB] at hdb
  simp only at hbl
  simp only [go_sem, Nat.reduceAdd, Nat.reduceSub, Nat.reduceMul, Nat.reduceEqDiff, Nat.reduceLT, Nat.reduceLeDiff, Nat.reduceBEq, Nat.reduceBNe, Int.reduceToNat, Int.reduceLE, Int.reduceLT, Int.reduceNe, Int.reduceNeg, reduceCtorEq, Int.reduceBEq, Int.reduceBNe, @callV_spec E24 33 s33x rfl, @callV_specT E24 33 s33x rfl, @stepV_spec E24 33 s33x rfl, @effV_spec E24 33 s33x rfl, s33x, @callV_spec E24 34 s34 rfl, @callV_specT E24 34 s34 rfl, @stepV_spec E24 34 s34 rfl, @effV_spec E24 34 s34 rfl, s34, @callV_spec E24 22 s22 rfl, @callV_specT E24 22 s22 rfl, @stepV_spec E24 22 s22 rfl, @effV_spec E24 22 s22 rfl, s22, @callV_spec E24 23 s23 rfl, @callV_specT E24 23 s23 rfl, @stepV_spec E24 23 s23 rfl, @effV_spec E24 23 s23 rfl, s23, encB, callSpec, hdb, h4, hl, hbl, beq_self_eq_true]
end Wb
