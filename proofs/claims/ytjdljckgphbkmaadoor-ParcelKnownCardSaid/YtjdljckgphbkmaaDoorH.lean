import Derived.Test.YtjdljckgphbkmaaDoorG
set_option linter.unusedVariables false
set_option linter.unusedSimpArgs false
/- Big. -/
namespace Wb
open Go Go.Proofs Enc Row
set_option linter.unusedSimpArgs false
set_option linter.unusedVariables false
set_option maxRecDepth 20000
set_option maxHeartbeats 4000000
def E10t : List (Nat × Spec) := [(26, s26), (28, s28), (29, s29)] ++ E9t
theorem E10t_ok : AllOK E10t := ⟨⟨s26_ok, Tryd.call26⟩, ⟨s28_ok, Tryd.call28⟩, ⟨s29_ok, Tryd.call29⟩, E9t_ok⟩
noncomputable def E10 : Env := mkF E10t E7l [] [(54, e54), (64, e64), (62, e62)]
theorem E10_ok : EnvOK Tryd.prog E10 := envFOK E10t_ok E7l_ok trivial ⟨⟨e54_ok, Tryd.call54⟩, ⟨e64_ok, Tryd.call64⟩, ⟨e62_ok, Tryd.call62⟩, trivial⟩
theorem E10_ti {t : Nat} : E10.ti t = ti t := rfl
theorem E10_q0 : (E10).eqt 130 = true := rfl
theorem E10_q1 : (E10).keyt 3 = true := rfl
theorem E10_q2 : (E10).keyt 85 = true := rfl
attribute [go_sem] E10_ti E10_q0 E10_q1 E10_q2
theorem il_nil0 : il [] = [] := rfl
def bigL (b : PBook) (n : Nat) : List Int := ((List.range n).filter fun i => decide ((dvOf false b 0 (2 ^ i)).2 < 0)).map fun (i : Nat) => (i : Int)
theorem bigL_succ (b : PBook) (n : Nat) : bigL b (n + 1) = bigL b n ++ if (dvOf false b 0 (2 ^ n)).2 < 0 then [(n : Int)] else [] := by
  unfold bigL
  rw [List.range_succ, List.filter_append, List.map_append, List.filter_cons]
  by_cases h : (dvOf false b 0 (2 ^ n)).2 < 0 <;> simp [h]
theorem bigL_len (b : PBook) (n : Nat) : (bigL b n).length ≤ n := by
  unfold bigL; rw [List.length_map]; exact Nat.le_trans (List.length_filter_le _ _) (by simp)
def bigM (b : PBook) : List Int × Int := if bookOk b then (bigL b b.pieces.length, 0) else ([], 60)
theorem Big_fn (b : PBook) (h4 : Big4 b) : Fn E10 1 20 Tryd.f20 (Tryd.f20.body.getD .skip) [.agg (encB b)] (.tup [.sl (il (bigM b).1) true, .int .i64 (bigM b).2]) := by
  unfold Fn Tryd.f20 bigM
  have hdb : (dec (.agg (encB b)) : Option PBook) = some b := dec_book b
  cases hb : bookOk b with
  | false =>
    obtain ⟨ps, ks, gr, fr, un, fe, st⟩ := b
    simp only [encB] at hdb
    simp only [go_sem, Nat.reduceAdd, Nat.reduceSub, Nat.reduceMul, Nat.reduceEqDiff, Nat.reduceLT, Nat.reduceLeDiff, Nat.reduceBEq, Nat.reduceBNe, Int.reduceToNat, Int.reduceLE, Int.reduceLT, Int.reduceNe, Int.reduceNeg, reduceCtorEq, Int.reduceBEq, Int.reduceBNe, @callV_spec E10 16 s16 rfl, @callV_specT E10 16 s16 rfl, @stepV_spec E10 16 s16 rfl, @effV_spec E10 16 s16 rfl, s16, callSpec, encB, hdb, hb, h4, il_nil0]
  | true =>
    have hG := book_good hb
    have hp7 := hG.p7
    have hd7 := dB7_enc b
    obtain ⟨ps, ks, gr, fr, un, fe, st⟩ := b
    simp only [encB] at hdb
    simp only at hp7 hd7
    simp only [go_sem, Nat.reduceAdd, Nat.reduceSub, Nat.reduceMul, Nat.reduceEqDiff, Nat.reduceLT, Nat.reduceLeDiff, Nat.reduceBEq, Nat.reduceBNe, Int.reduceToNat, Int.reduceLE, Int.reduceLT, Int.reduceNe, Int.reduceNeg, reduceCtorEq, Int.reduceBEq, Int.reduceBNe, @callV_spec E10 16 s16 rfl, @callV_specT E10 16 s16 rfl, @stepV_spec E10 16 s16 rfl, @effV_spec E10 16 s16 rfl, s16, callSpec, encB, hdb, hb, h4, @callV_in E10 54 rfl, heavy_none]
    refine opened_inG (fun _ => E10_ti) rfl ⟨ps, ks, gr, fr, un, fe, st⟩ 0 0 [20004001] _ _ fun v H' e1 e2 => ?_
    have e3 := e2 ([], 20000000) (by simp)
    simp only [go_sem, Nat.reduceAdd, Nat.reduceSub, Nat.reduceMul, Nat.reduceEqDiff, Nat.reduceLT, Nat.reduceLeDiff, Nat.reduceBEq, Nat.reduceBNe, Int.reduceToNat, Int.reduceLE, Int.reduceLT, Int.reduceNe, Int.reduceNeg, reduceCtorEq, Int.reduceBEq, Int.reduceBNe] at e3
    simp only [go_sem, Nat.reduceAdd, Nat.reduceSub, Nat.reduceMul, Nat.reduceEqDiff, Nat.reduceLT, Nat.reduceLeDiff, Nat.reduceBEq, Nat.reduceBNe, Int.reduceToNat, Int.reduceLE, Int.reduceLT, Int.reduceNe, Int.reduceNeg, reduceCtorEq, Int.reduceBEq, Int.reduceBNe, encB, e3, List.length_map]
    generalize hv5 : verOf H' ([], 20004002) + 1 = v5
    refine ev_loopS [1, 5, 19] (fun x : Nat × PV => [(2, .sl [] true), (3, .int .i64 0), (6, x.2), (20, .int .i64 x.1)])
      (fun x H => x.1 ≤ ps.length ∧ H (([], 20004002) : Key) = some (.cells (encB ⟨ps, ks, gr, fr, un, fe, st⟩ ++ [.int .i64 0, .mref ([20004001], 54001002) v]) v5 false) ∧ KnowsAt ⟨ps, ks, gr, fr, un, fe, st⟩ 0 ([20004001], 54001002) v H ∧
        Own H (fun K => K = ([], 20011003)) x.2 1 (il (bigL ⟨ps, ks, gr, fr, un, fe, st⟩ x.1))) (fun x => ps.length - x.1) (0, .sl [] true) ?_ ⟨Nat.zero_le _, ?_, ⟨[], ?_, OkM.nil⟩, .nil⟩ ?_
    · simp only [go_sem, Nat.reduceAdd, Nat.reduceSub, Nat.reduceMul, Nat.reduceEqDiff, Nat.reduceLT, Nat.reduceLeDiff, Nat.reduceBEq, Nat.reduceBNe, Int.reduceToNat, Int.reduceLE, Int.reduceLT, Int.reduceNe, Int.reduceNeg, reduceCtorEq, Int.reduceBEq, Int.reduceBNe]
    · simp only [go_sem, Nat.reduceAdd, Nat.reduceSub, Nat.reduceMul, Nat.reduceEqDiff, Nat.reduceLT, Nat.reduceLeDiff, Nat.reduceBEq, Nat.reduceBNe, Int.reduceToNat, Int.reduceLE, Int.reduceLT, Int.reduceNe, Int.reduceNeg, reduceCtorEq, Int.reduceBEq, Int.reduceBNe, encB]
    · simp only [go_sem, Nat.reduceAdd, Nat.reduceSub, Nat.reduceMul, Nat.reduceEqDiff, Nat.reduceLT, Nat.reduceLeDiff, Nat.reduceBEq, Nat.reduceBNe, Int.reduceToNat, Int.reduceLE, Int.reduceLT, Int.reduceNe, Int.reduceNeg, reduceCtorEq, Int.reduceBEq, Int.reduceBNe, e1]
    · simp only [go_sem, Nat.reduceAdd, Nat.reduceSub, Nat.reduceMul, Nat.reduceEqDiff, Nat.reduceLT, Nat.reduceLeDiff, Nat.reduceBEq, Nat.reduceBNe, Int.reduceToNat, Int.reduceLE, Int.reduceLT, Int.reduceNe, Int.reduceNeg, reduceCtorEq, Int.reduceBEq, Int.reduceBNe]
      intro K x H ⟨hi, k1, k2, h3⟩ hK hE
      obtain ⟨i, p⟩ := x
      simp only at hi h3
      dsimp only
      obtain ⟨ex, qs, hz1, hz2, hks⟩ := h3.frz
      obtain ⟨hT, hC, hP, hV, hU⟩ := OwnTaint h3
      have k1' := k1
      simp only [encB, List.cons_append, List.nil_append] at k1'
      rw [condK_bool]
      refine ⟨fun h => ?_, fun h => ?_⟩
      · have h' : i < ps.length := by simpa using h
        have w2 : IntKind.i64.wrap ((i : Int) + 1) = (i : Int) + 1 := wrap_id (by omega)
        have hsh := shl_one (k := i) (by omega)
        have hpow : 2 ^ i < 2 ^ ps.length := Nat.pow_lt_pow_right (by decide) h'
        have hsu := bigL_succ ⟨ps, ks, gr, fr, un, fe, st⟩ i
        have hln := bigL_len ⟨ps, ks, gr, fr, un, fe, st⟩ i
        have hsf : ([20009004] <:+ [20004001]) = False := eq_false (suf_head (by decide))
        have hnil : ∀ a : Nat, ([a] <:+ ([] : List Nat)) = False := fun a => eq_false (by simp)
        have hz0 : ((0 : Int) ≤ 0 ∧ (0 : Int) ≤ 4) = True := by simp
        have hdf : dFn 88 = some false := rfl
        simp only [go_sem, Nat.reduceAdd, Nat.reduceSub, Nat.reduceMul, Nat.reduceEqDiff, Nat.reduceLT, Nat.reduceLeDiff, Nat.reduceBEq, Nat.reduceBNe, Int.reduceToNat, Int.reduceLE, Int.reduceLT, Int.reduceNe, Int.reduceNeg, reduceCtorEq, Int.reduceBEq, Int.reduceBNe, @callV_spec E10 65 s65 rfl, @callV_specT E10 65 s65 rfl, @stepV_spec E10 65 s65 rfl, @effV_spec E10 65 s65 rfl, s65, @effV_eff E10 64 e64 rfl rfl, e64, callSpec, k1', binInt, hsh, hd7, hdf, hsf, hnil, hG, hz0, hpow, k2, Int.natCast_nonneg, Int.toNat_natCast]
        intro vv H2 hF ⟨⟨ex2, hv⟩, hk2⟩
        obtain ⟨d, hd⟩ : ∃ d, dvOf false ⟨ps, ks, gr, fr, un, fe, st⟩ 0 (2 ^ i) = d := ⟨_, rfl⟩
        simp only [Int.toNat_natCast, hd] at hv hsu
        subst hv
        have g1 := (hF ([], 20004002) (by simp)).trans k1
        have g3 : Own H2 (fun K => K = ([], 20011003)) p 1 (il (bigL ⟨ps, ks, gr, fr, un, fe, st⟩ i)) := h3.frame fun K hK => by subst hK; exact hF _ (by simp)
        unfold dvPV
        simp only [go_sem, Nat.reduceAdd, Nat.reduceSub, Nat.reduceMul, Nat.reduceEqDiff, Nat.reduceLT, Nat.reduceLeDiff, Nat.reduceBEq, Nat.reduceBNe, Int.reduceToNat, Int.reduceLE, Int.reduceLT, Int.reduceNe, Int.reduceNeg, reduceCtorEq, Int.reduceBEq, Int.reduceBNe, hnil]
        rw [condK_bool]
        refine ⟨fun hc => ?_, fun hc => ?_⟩
        · have hc : d.2 < 0 := by simp at hc; omega
          rw [if_pos hc] at hsu
          simp only [go_sem, Nat.reduceAdd, Nat.reduceSub, Nat.reduceMul, Nat.reduceEqDiff, Nat.reduceLT, Nat.reduceLeDiff, Nat.reduceBEq, Nat.reduceBNe, Int.reduceToNat, Int.reduceLE, Int.reduceLT, Int.reduceNe, Int.reduceNeg, reduceCtorEq, Int.reduceBEq, Int.reduceBNe, hT, hC, hP, hV, hU]
          refine app_one trivial rfl rfl (by decide) (by decide) (set_at_eq _ _ _) (g3.frame fun K hK => ?_) rfl (by rw [il_length]; show (_ + 1) * 8 ≤ _; omega) (il_row _) ⟨rfl, rfl⟩ fun p' H3 hO hF3 => ?_
          · subst hK; simp only [go_sem, Nat.reduceAdd, Nat.reduceSub, Nat.reduceMul, Nat.reduceEqDiff, Nat.reduceLT, Nat.reduceLeDiff, Nat.reduceBEq, Nat.reduceBNe, Int.reduceToNat, Int.reduceLE, Int.reduceLT, Int.reduceNe, Int.reduceNeg, reduceCtorEq, Int.reduceBEq, Int.reduceBNe]
          · obtain ⟨hT', hC', hP', hV', hU'⟩ := OwnTaint hO
            simp only [go_sem, Nat.reduceAdd, Nat.reduceSub, Nat.reduceMul, Nat.reduceEqDiff, Nat.reduceLT, Nat.reduceLeDiff, Nat.reduceBEq, Nat.reduceBNe, Int.reduceToNat, Int.reduceLE, Int.reduceLT, Int.reduceNe, Int.reduceNeg, reduceCtorEq, Int.reduceBEq, Int.reduceBNe, hT', hC', hP', hV', hU']
            refine hK (i + 1, p') _ _ ?_ ⟨h', ?_, ?_, by rw [hsu, il_append']; exact hO⟩ (by simp only; omega)
            · simp only [go_sem, Nat.reduceAdd, Nat.reduceSub, Nat.reduceMul, Nat.reduceEqDiff, Nat.reduceLT, Nat.reduceLeDiff, Nat.reduceBEq, Nat.reduceBNe, Int.reduceToNat, Int.reduceLE, Int.reduceLT, Int.reduceNe, Int.reduceNeg, reduceCtorEq, Int.reduceBEq, Int.reduceBNe, w2, Int.natCast_add, Int.natCast_one]
            · rw [hF3 _ (by simp)]; simp only [go_sem, Nat.reduceAdd, Nat.reduceSub, Nat.reduceMul, Nat.reduceEqDiff, Nat.reduceLT, Nat.reduceLeDiff, Nat.reduceBEq, Nat.reduceBNe, Int.reduceToNat, Int.reduceLE, Int.reduceLT, Int.reduceNe, Int.reduceNeg, reduceCtorEq, Int.reduceBEq, Int.reduceBNe, g1]
            · exact hk2.frame (by rw [hF3 _ (by simp)]; simp only [go_sem, Nat.reduceAdd, Nat.reduceSub, Nat.reduceMul, Nat.reduceEqDiff, Nat.reduceLT, Nat.reduceLeDiff, Nat.reduceBEq, Nat.reduceBNe, Int.reduceToNat, Int.reduceLE, Int.reduceLT, Int.reduceNe, Int.reduceNeg, reduceCtorEq, Int.reduceBEq, Int.reduceBNe])
        · have hc : ¬ d.2 < 0 := by simp at hc; omega
          rw [if_neg hc, List.append_nil] at hsu
          simp only [go_sem, Nat.reduceAdd, Nat.reduceSub, Nat.reduceMul, Nat.reduceEqDiff, Nat.reduceLT, Nat.reduceLeDiff, Nat.reduceBEq, Nat.reduceBNe, Int.reduceToNat, Int.reduceLE, Int.reduceLT, Int.reduceNe, Int.reduceNeg, reduceCtorEq, Int.reduceBEq, Int.reduceBNe]
          refine hK (i + 1, p) _ _ ?_ ⟨h', ?_, ?_, by rw [hsu]; exact g3.frame fun K hK => by subst hK; simp only [go_sem, Nat.reduceAdd, Nat.reduceSub, Nat.reduceMul, Nat.reduceEqDiff, Nat.reduceLT, Nat.reduceLeDiff, Nat.reduceBEq, Nat.reduceBNe, Int.reduceToNat, Int.reduceLE, Int.reduceLT, Int.reduceNe, Int.reduceNeg, reduceCtorEq, Int.reduceBEq, Int.reduceBNe]⟩ (by simp only; omega)
          · simp only [go_sem, Nat.reduceAdd, Nat.reduceSub, Nat.reduceMul, Nat.reduceEqDiff, Nat.reduceLT, Nat.reduceLeDiff, Nat.reduceBEq, Nat.reduceBNe, Int.reduceToNat, Int.reduceLE, Int.reduceLT, Int.reduceNe, Int.reduceNeg, reduceCtorEq, Int.reduceBEq, Int.reduceBNe, w2, Int.natCast_add, Int.natCast_one]
          · simp only [go_sem, Nat.reduceAdd, Nat.reduceSub, Nat.reduceMul, Nat.reduceEqDiff, Nat.reduceLT, Nat.reduceLeDiff, Nat.reduceBEq, Nat.reduceBNe, Int.reduceToNat, Int.reduceLE, Int.reduceLT, Int.reduceNe, Int.reduceNeg, reduceCtorEq, Int.reduceBEq, Int.reduceBNe, g1]
          · exact hk2.frame (by simp only [go_sem, Nat.reduceAdd, Nat.reduceSub, Nat.reduceMul, Nat.reduceEqDiff, Nat.reduceLT, Nat.reduceLeDiff, Nat.reduceBEq, Nat.reduceBNe, Int.reduceToNat, Int.reduceLE, Int.reduceLT, Int.reduceNe, Int.reduceNeg, reduceCtorEq, Int.reduceBEq, Int.reduceBNe])
      · have h' : i = ps.length := by have : ¬ ((i : Int) < (ps.length : Int)) := by simpa using h
                                      omega
        subst h'
        refine hE _ _ _ (by simp) ?_
        rcases h3 with ⟨e1, rfl⟩ | ⟨K', v', rfl, rfl, h5⟩
        · simp only [go_sem, Nat.reduceAdd, Nat.reduceSub, Nat.reduceMul, Nat.reduceEqDiff, Nat.reduceLT, Nat.reduceLeDiff, Nat.reduceBEq, Nat.reduceBNe, Int.reduceToNat, Int.reduceLE, Int.reduceLT, Int.reduceNe, Int.reduceNeg, reduceCtorEq, Int.reduceBEq, Int.reduceBNe, e1]
        · simp only [go_sem, Nat.reduceAdd, Nat.reduceSub, Nat.reduceMul, Nat.reduceEqDiff, Nat.reduceLT, Nat.reduceLeDiff, Nat.reduceBEq, Nat.reduceBNe, Int.reduceToNat, Int.reduceLE, Int.reduceLT, Int.reduceNe, Int.reduceNeg, reduceCtorEq, Int.reduceBEq, Int.reduceBNe, h5, il_length]
def s20 : Spec := spec1 (fun (b : PBook) => Big4 b) (fun b => .tup [.sl (il (bigM b).1) true, .int .i64 (bigM b).2])
theorem s20_ok : SpecOK Tryd.prog glB 20 s20 := spec1_ok E10_ok Tryd.func20 rfl (by kernel_rfl) fun b h => Big_fn b h
end Wb
/- IsDivision. -/
namespace Wb
open Go Go.Proofs Enc Row
set_option linter.unusedSimpArgs false
set_option linter.unusedVariables false
set_option maxRecDepth 20000
set_option maxHeartbeats 4000000
def isDivF (b : PBook) : Nat → List Parc → Bool
  | met, [] => decide (met = 2 ^ b.pieces.length - 1)
  | met, q :: l => if parcOk b q && fitsB b q.kind.toNat (putS q.pieces) && decide (met &&& putS q.pieces = 0) then isDivF b (met ||| putS q.pieces) l else false
theorem isDivF_drop (b : PBook) {l : List Parc} {i : Nat} (h : i < l.length) (met : Nat) : isDivF b met (l.drop i) =
    if parcOk b (l.getD i default) && fitsB b (l.getD i default).kind.toNat (putS (l.getD i default).pieces) && decide (met &&& putS (l.getD i default).pieces = 0) then isDivF b (met ||| putS (l.getD i default).pieces) (l.drop (i + 1)) else false := by
  rw [List.drop_eq_getElem_cons h]
  simp [isDivF, h]
def isDivM (b : PBook) (l : List Parc) : Bool × Int := if bookOk b then (isDivF b 0 l, 0) else (false, 60)
theorem IsDivision_fn (b : PBook) (h4 : Big4 b) (l : List Parc) (hl : big l.length) (hls : ∀ q ∈ l, big q.pieces.length) : Fn E10 1 24 Tryd.f24 (Tryd.f24.body.getD .skip) [.agg (encB b), .sl (l.map encQ) false] (.tup [.bool (isDivM b l).1, .int .i64 (isDivM b l).2]) := by
  unfold Fn Tryd.f24 isDivM
  have hdb : (dec (.agg (encB b)) : Option PBook) = some b := dec_book b
  cases hb : bookOk b with
  | false =>
    obtain ⟨ps, ks, gr, fr, un, fe, st⟩ := b
    simp only [encB] at hdb
    simp only [go_sem, Nat.reduceAdd, Nat.reduceSub, Nat.reduceMul, Nat.reduceEqDiff, Nat.reduceLT, Nat.reduceLeDiff, Nat.reduceBEq, Nat.reduceBNe, Int.reduceToNat, Int.reduceLE, Int.reduceLT, Int.reduceNe, Int.reduceNeg, reduceCtorEq, Int.reduceBEq, Int.reduceBNe, @callV_spec E10 16 s16 rfl, @callV_specT E10 16 s16 rfl, @stepV_spec E10 16 s16 rfl, @effV_spec E10 16 s16 rfl, s16, callSpec, encB, hdb, hb, h4]
  | true =>
    have hG := book_good hb
    have hp7 := hG.p7
    have hk4 := hG.k4
    have hlc := loadM_cases b
    have hpo : ∀ q, parcOk b q = (loadM b.pieces.length b.kinds.length q).2 := fun _ => rfl
    have hp1 := Nat.two_pow_pos b.pieces.length
    have hple : 2 ^ b.pieces.length ≤ 2 ^ 7 := Nat.pow_le_pow_right (by decide) hp7
    have hsh := shl_one (k := b.pieces.length) (by omega)
    have w1 : IntKind.i64.wrap (((2 ^ b.pieces.length : Nat) : Int) - 1) = ((2 ^ b.pieces.length - 1 : Nat) : Int) := by
      rw [show ((2 ^ b.pieces.length - 1 : Nat) : Int) = ((2 ^ b.pieces.length : Nat) : Int) - 1 by omega]
      exact wrap_id (by omega)
    obtain ⟨ps, ks, gr, fr, un, fe, st⟩ := b
    simp only [encB] at hdb
    simp only at hp7 hk4 hlc hpo hp1 hple hsh w1
    unfold big at hl
    simp only [go_sem, Nat.reduceAdd, Nat.reduceSub, Nat.reduceMul, Nat.reduceEqDiff, Nat.reduceLT, Nat.reduceLeDiff, Nat.reduceBEq, Nat.reduceBNe, Int.reduceToNat, Int.reduceLE, Int.reduceLT, Int.reduceNe, Int.reduceNeg, reduceCtorEq, Int.reduceBEq, Int.reduceBNe, @callV_spec E10 16 s16 rfl, @callV_specT E10 16 s16 rfl, @stepV_spec E10 16 s16 rfl, @effV_spec E10 16 s16 rfl, s16, callSpec, encB, hdb, hb, h4, @callV_in E10 54 rfl, heavy_none]
    refine opened_inG (fun _ => E10_ti) rfl ⟨ps, ks, gr, fr, un, fe, st⟩ 0 0 [24004001] _ _ fun v H' e1 e2 => ?_
    simp only [go_sem, Nat.reduceAdd, Nat.reduceSub, Nat.reduceMul, Nat.reduceEqDiff, Nat.reduceLT, Nat.reduceLeDiff, Nat.reduceBEq, Nat.reduceBNe, Int.reduceToNat, Int.reduceLE, Int.reduceLT, Int.reduceNe, Int.reduceNeg, reduceCtorEq, Int.reduceBEq, Int.reduceBNe, encB, List.length_map]
    generalize hv5 : verOf H' ([], 24004002) + 1 = v5
    refine ev_loopS [7, 9, 23, 24] (fun x : Nat × Nat => [(4, .bool false), (5, .int .i64 0), (8, .int .i64 x.2), (25, .int .i64 x.1)])
      (fun x H => x.1 ≤ l.length ∧ x.2 < 2 ^ ps.length ∧ isDivF ⟨ps, ks, gr, fr, un, fe, st⟩ x.2 (l.drop x.1) = isDivF ⟨ps, ks, gr, fr, un, fe, st⟩ 0 l ∧ H (([], 24004002) : Key) = some (.cells (encB ⟨ps, ks, gr, fr, un, fe, st⟩ ++ [.int .i64 0, .mref ([24004001], 54001002) v]) v5 false) ∧ H (([24004001], 54001002) : Key) = some (.map true 2 [] v false))
      (fun x => l.length - x.1) (0, 0) ?_ ⟨Nat.zero_le _, hp1, rfl, ?_, ?_⟩ ?_
    · simp only [go_sem, Nat.reduceAdd, Nat.reduceSub, Nat.reduceMul, Nat.reduceEqDiff, Nat.reduceLT, Nat.reduceLeDiff, Nat.reduceBEq, Nat.reduceBNe, Int.reduceToNat, Int.reduceLE, Int.reduceLT, Int.reduceNe, Int.reduceNeg, reduceCtorEq, Int.reduceBEq, Int.reduceBNe]
    · simp only [go_sem, Nat.reduceAdd, Nat.reduceSub, Nat.reduceMul, Nat.reduceEqDiff, Nat.reduceLT, Nat.reduceLeDiff, Nat.reduceBEq, Nat.reduceBNe, Int.reduceToNat, Int.reduceLE, Int.reduceLT, Int.reduceNe, Int.reduceNeg, reduceCtorEq, Int.reduceBEq, Int.reduceBNe, encB]
    · simp only [go_sem, Nat.reduceAdd, Nat.reduceSub, Nat.reduceMul, Nat.reduceEqDiff, Nat.reduceLT, Nat.reduceLeDiff, Nat.reduceBEq, Nat.reduceBNe, Int.reduceToNat, Int.reduceLE, Int.reduceLT, Int.reduceNe, Int.reduceNeg, reduceCtorEq, Int.reduceBEq, Int.reduceBNe, e1]
    · simp only [go_sem, Nat.reduceAdd, Nat.reduceSub, Nat.reduceMul, Nat.reduceEqDiff, Nat.reduceLT, Nat.reduceLeDiff, Nat.reduceBEq, Nat.reduceBNe, Int.reduceToNat, Int.reduceLE, Int.reduceLT, Int.reduceNe, Int.reduceNeg, reduceCtorEq, Int.reduceBEq, Int.reduceBNe]
      intro K x H ⟨hi, hm, hf, k1, k2⟩ hK hE
      obtain ⟨i, met⟩ := x
      simp only at hi hm hf
      dsimp only
      have k1' := k1
      simp only [encB, List.cons_append, List.nil_append] at k1'
      rw [condK_bool]
      refine ⟨fun h => ?_, fun h => ?_⟩
      · have h' : i < l.length := by simpa using h
        have hii : (i : Int) < (l.length : Int) := by omega
        have w2 : IntKind.i64.wrap ((i : Int) + 1) = (i : Int) + 1 := wrap_id (by omega)
        have hgq := getD_mapN encQ l i [PV.int .i64 0, .sl [] true] h'
        have hqb := hls (l.getD i default) (by rw [List.getD_eq_getElem?_getD, List.getElem?_eq_getElem h']; exact List.getElem_mem _)
        rw [isDivF_drop _ h', hpo] at hf
        generalize l.getD i default = q at *
        obtain ⟨kd, qs⟩ := q
        simp only at hqb hf
        have hlc := hlc ⟨kd, qs⟩
        rcases hlc with hl0 | ⟨k, s, hl0, hL⟩
        · rw [hl0] at hf
          simp only [Bool.false_and, Bool.false_eq_true, if_false] at hf
          simp only [go_sem, Nat.reduceAdd, Nat.reduceSub, Nat.reduceMul, Nat.reduceEqDiff, Nat.reduceLT, Nat.reduceLeDiff, Nat.reduceBEq, Nat.reduceBNe, Int.reduceToNat, Int.reduceLE, Int.reduceLT, Int.reduceNe, Int.reduceNeg, reduceCtorEq, Int.reduceBEq, Int.reduceBNe, @callV_spec E10 55 s55 rfl, @callV_specT E10 55 s55 rfl, @stepV_spec E10 55 s55 rfl, @effV_spec E10 55 s55 rfl, s55, @callV_spec E10 56 s56 rfl, @callV_specT E10 56 s56 rfl, @stepV_spec E10 56 s56 rfl, @effV_spec E10 56 s56 rfl, s56, callSpec, hii, hgq, encQ, k1', k2, hp7, hk4, hqb, hl0]
          refine hE _ _ _ (by simp) ?_
          simp only [go_sem, Nat.reduceAdd, Nat.reduceSub, Nat.reduceMul, Nat.reduceEqDiff, Nat.reduceLT, Nat.reduceLeDiff, Nat.reduceBEq, Nat.reduceBNe, Int.reduceToNat, Int.reduceLE, Int.reduceLT, Int.reduceNe, Int.reduceNeg, reduceCtorEq, Int.reduceBEq, Int.reduceBNe, ← hf]
        · obtain ⟨q1, q2, q3, q4, q5, q6, q7⟩ := hL
          simp only at q1 q2 q3 q5
          subst q1
          rw [hl0, q3] at hf
          simp only [Bool.true_and, Int.toNat_natCast] at hf
          have hkk : (k : Int) < (ks.length : Int) := by omega
          have hand := bits_and (a := met) (b := s) (by omega) (by omega)
          have hor := bits_or (a := met) (b := s) (by omega) (by omega)
          have hcd : ((fitsB ⟨ps, ks, gr, fr, un, fe, st⟩ k s && decide (met &&& s = 0))) = !(!fitsB ⟨ps, ks, gr, fr, un, fe, st⟩ k s || (((met &&& s : Nat) : Int) != 0)) := by
            rw [Bool.not_or, Bool.not_not]; congr 1
            rw [Bool.eq_iff_iff]; simp <;> omega
          simp only [go_sem, Nat.reduceAdd, Nat.reduceSub, Nat.reduceMul, Nat.reduceEqDiff, Nat.reduceLT, Nat.reduceLeDiff, Nat.reduceBEq, Nat.reduceBNe, Int.reduceToNat, Int.reduceLE, Int.reduceLT, Int.reduceNe, Int.reduceNeg, reduceCtorEq, Int.reduceBEq, Int.reduceBNe, @callV_spec E10 55 s55 rfl, @callV_specT E10 55 s55 rfl, @stepV_spec E10 55 s55 rfl, @effV_spec E10 55 s55 rfl, s55, @callV_spec E10 56 s56 rfl, @callV_specT E10 56 s56 rfl, @stepV_spec E10 56 s56 rfl, @effV_spec E10 56 s56 rfl, s56, callSpec, hii, hgq, encQ, k1', k2, hp7, hk4, hqb, hl0, hG, hkk, q5, binInt, hand, hor, Int.natCast_nonneg, Int.toNat_natCast]
          rw [condK_bool]
          refine ⟨fun hc => ?_, fun hc => ?_⟩
          · rw [hcd, hc] at hf
            simp only [Bool.not_true, Bool.false_eq_true, if_false] at hf
            simp only [go_sem, Nat.reduceAdd, Nat.reduceSub, Nat.reduceMul, Nat.reduceEqDiff, Nat.reduceLT, Nat.reduceLeDiff, Nat.reduceBEq, Nat.reduceBNe, Int.reduceToNat, Int.reduceLE, Int.reduceLT, Int.reduceNe, Int.reduceNeg, reduceCtorEq, Int.reduceBEq, Int.reduceBNe]
            refine hE _ _ _ (by simp) ?_
            simp only [go_sem, Nat.reduceAdd, Nat.reduceSub, Nat.reduceMul, Nat.reduceEqDiff, Nat.reduceLT, Nat.reduceLeDiff, Nat.reduceBEq, Nat.reduceBNe, Int.reduceToNat, Int.reduceLE, Int.reduceLT, Int.reduceNe, Int.reduceNeg, reduceCtorEq, Int.reduceBEq, Int.reduceBNe, ← hf]
          · rw [hcd, hc] at hf
            simp only [Bool.not_false, if_true] at hf
            simp only [go_sem, Nat.reduceAdd, Nat.reduceSub, Nat.reduceMul, Nat.reduceEqDiff, Nat.reduceLT, Nat.reduceLeDiff, Nat.reduceBEq, Nat.reduceBNe, Int.reduceToNat, Int.reduceLE, Int.reduceLT, Int.reduceNe, Int.reduceNeg, reduceCtorEq, Int.reduceBEq, Int.reduceBNe, binInt, hor]
            refine hK (i + 1, met ||| s) _ _ ?_ ⟨h', Nat.or_lt_two_pow hm q5, hf, ?_, ?_⟩ (by simp only; omega)
            · simp only [go_sem, Nat.reduceAdd, Nat.reduceSub, Nat.reduceMul, Nat.reduceEqDiff, Nat.reduceLT, Nat.reduceLeDiff, Nat.reduceBEq, Nat.reduceBNe, Int.reduceToNat, Int.reduceLE, Int.reduceLT, Int.reduceNe, Int.reduceNeg, reduceCtorEq, Int.reduceBEq, Int.reduceBNe, w2, Int.natCast_add, Int.natCast_one]
            · simp only [go_sem, Nat.reduceAdd, Nat.reduceSub, Nat.reduceMul, Nat.reduceEqDiff, Nat.reduceLT, Nat.reduceLeDiff, Nat.reduceBEq, Nat.reduceBNe, Int.reduceToNat, Int.reduceLE, Int.reduceLT, Int.reduceNe, Int.reduceNeg, reduceCtorEq, Int.reduceBEq, Int.reduceBNe, k1]
            · simp only [go_sem, Nat.reduceAdd, Nat.reduceSub, Nat.reduceMul, Nat.reduceEqDiff, Nat.reduceLT, Nat.reduceLeDiff, Nat.reduceBEq, Nat.reduceBNe, Int.reduceToNat, Int.reduceLE, Int.reduceLT, Int.reduceNe, Int.reduceNeg, reduceCtorEq, Int.reduceBEq, Int.reduceBNe, k2]
      · have h' : i = l.length := by have : ¬ ((i : Int) < (l.length : Int)) := by simpa using h
                                     omega
        subst h'
        rw [List.drop_length, isDivF] at hf
        have hcd : ((((met : Nat) : Int) == ((2 ^ ps.length - 1 : Nat) : Int))) = decide (met = 2 ^ ps.length - 1) := by rw [Bool.eq_iff_iff]; simp; omega
        refine hE _ _ _ (by simp) ?_
        simp only [go_sem, Nat.reduceAdd, Nat.reduceSub, Nat.reduceMul, Nat.reduceEqDiff, Nat.reduceLT, Nat.reduceLeDiff, Nat.reduceBEq, Nat.reduceBNe, Int.reduceToNat, Int.reduceLE, Int.reduceLT, Int.reduceNe, Int.reduceNeg, reduceCtorEq, Int.reduceBEq, Int.reduceBNe, k1', binInt, List.length_map, hsh, w1, hcd, ← hf]
def s24 : Spec := spec2 (fun (b : PBook) (l : List Parc) => Big4 b ∧ big l.length ∧ ∀ q ∈ l, big q.pieces.length) (fun b l => .tup [.bool (isDivM b l).1, .int .i64 (isDivM b l).2])
theorem s24_ok : SpecOK Tryd.prog glB 24 s24 := spec2_ok E10_ok Tryd.func24 rfl (by kernel_rfl) fun b l h => IsDivision_fn b h.1 l h.2.1 h.2.2
end Wb
/- Send. -/
namespace Wb
open Go Go.Proofs Enc Row
set_option linter.unusedSimpArgs false
set_option linter.unusedVariables false
set_option maxRecDepth 20000
set_option maxHeartbeats 4000000
/-- Is a set better to send than another one? -/
def moreB (b : PBook) (s t : Nat) : Bool := decide (orF [cmpI (allF b .worth s) (allF b .worth t), cmpI (ofS s 7).length (ofS t 7).length, -(cmpL (ofS s 7) (ofS t 7))] > 0)
def sendStep (b : PBook) (z cents : Int) (best s : Nat) : Nat :=
  if (dvOf true b z s).2 < 0 ∨ (dvOf true b z s).2 > cents then best else if moreB b s best then s else best
def sendB (b : PBook) (z cents : Int) : Nat := (List.range (2 ^ b.pieces.length)).foldl (sendStep b z cents) 0
def sendM (b : PBook) (z cents : Int) : List Int × Int :=
  if bookOk b then (if (decide (0 ≤ z) && decide (z ≤ 4)) && (decide (0 ≤ cents) && decide (cents ≤ 20000)) then (ofS (sendB b z cents) 7, 0) else ([], 61)) else ([], 60)
theorem cmpI_three (a b : Int) : cmpI a b = -1 ∨ cmpI a b = 0 ∨ cmpI a b = 1 := by unfold cmpI; (repeat' split) <;> omega
theorem cmpL_three : ∀ a b : List Int, cmpL a b = -1 ∨ cmpL a b = 0 ∨ cmpL a b = 1
  | [], [] => .inr (.inl rfl)
  | [], _ :: _ => .inl rfl
  | _ :: _, [] => .inr (.inr rfl)
  | a :: l, b :: m => by
    unfold cmpL
    split
    · exact cmpL_three l m
    · exact cmpI_three a b
theorem dec_three (a b c : Int) (ex : Bool) : (dec (.sl [[.int .i64 a], [.int .i64 b], [.int .i64 c]] ex) : Option (List Int)) = some [a, b, c] := rfl
theorem big_three : big 3 = True := eq_true (by unfold big; decide)
attribute [go_sem] dec_three big_three
theorem send_lt (b : PBook) (z cents : Int) : ∀ n, n ≤ 2 ^ b.pieces.length → (List.range n).foldl (sendStep b z cents) 0 < 2 ^ b.pieces.length
  | 0, _ => Nat.two_pow_pos _
  | n + 1, h => by
    rw [List.range_succ, List.foldl_append, List.foldl_cons, List.foldl_nil]
    have := send_lt b z cents n (by omega)
    generalize (List.range n).foldl (sendStep b z cents) 0 = m at *
    unfold sendStep
    split
    · exact this
    · split
      · omega
      · exact this
theorem Send_fn (b : PBook) (h4 : Big4 b) (z cents : Int) : Fn E10 1 33 Tryd.f33 (Tryd.f33.body.getD .skip) [.agg (encB b), .int .i64 z, .int .i64 cents] (.tup [.sl (il (sendM b z cents).1) true, .int .i64 (sendM b z cents).2]) := by
  unfold Fn Tryd.f33 sendM
  have hdb : (dec (.agg (encB b)) : Option PBook) = some b := dec_book b
  cases hb : bookOk b with
  | false =>
    obtain ⟨ps, ks, gr, fr, un, fe, st⟩ := b
    simp only [encB] at hdb
    simp only [go_sem, Nat.reduceAdd, Nat.reduceSub, Nat.reduceMul, Nat.reduceEqDiff, Nat.reduceLT, Nat.reduceLeDiff, Nat.reduceBEq, Nat.reduceBNe, Int.reduceToNat, Int.reduceLE, Int.reduceLT, Int.reduceNe, Int.reduceNeg, reduceCtorEq, Int.reduceBEq, Int.reduceBNe, @callV_spec E10 16 s16 rfl, @callV_specT E10 16 s16 rfl, @stepV_spec E10 16 s16 rfl, @effV_spec E10 16 s16 rfl, s16, @callV_spec E10 60 sTween rfl, @callV_specT E10 60 sTween rfl, @stepV_spec E10 60 sTween rfl, @effV_spec E10 60 sTween rfl, sTween, @callV_spec E10 61 s61 rfl, @callV_specT E10 61 s61 rfl, @stepV_spec E10 61 s61 rfl, @effV_spec E10 61 s61 rfl, s61, callSpec, encB, hdb, hb, h4, il_nil0]
  | true =>
    cases hz : ((decide (0 ≤ z) && decide (z ≤ 4)) && (decide (0 ≤ cents) && decide (cents ≤ 20000))) with
    | false =>
      have hzz : (!(decide (0 ≤ z) && decide (z ≤ 4)) || !(decide (0 ≤ cents) && decide (cents ≤ 20000))) = true := by rw [← Bool.not_and, hz]; rfl
      obtain ⟨ps, ks, gr, fr, un, fe, st⟩ := b
      simp only [encB] at hdb
      simp only [go_sem, Nat.reduceAdd, Nat.reduceSub, Nat.reduceMul, Nat.reduceEqDiff, Nat.reduceLT, Nat.reduceLeDiff, Nat.reduceBEq, Nat.reduceBNe, Int.reduceToNat, Int.reduceLE, Int.reduceLT, Int.reduceNe, Int.reduceNeg, reduceCtorEq, Int.reduceBEq, Int.reduceBNe, @callV_spec E10 16 s16 rfl, @callV_specT E10 16 s16 rfl, @stepV_spec E10 16 s16 rfl, @effV_spec E10 16 s16 rfl, s16, @callV_spec E10 60 sTween rfl, @callV_specT E10 60 sTween rfl, @stepV_spec E10 60 sTween rfl, @effV_spec E10 60 sTween rfl, sTween, @callV_spec E10 61 s61 rfl, @callV_specT E10 61 s61 rfl, @stepV_spec E10 61 s61 rfl, @effV_spec E10 61 s61 rfl, s61, callSpec, encB, hdb, hb, h4, il_nil0, hzz]
    | true =>
      have hzz : (!(decide (0 ≤ z) && decide (z ≤ 4)) || !(decide (0 ≤ cents) && decide (cents ≤ 20000))) = false := by rw [← Bool.not_and, hz]; rfl
      have hz' : 0 ≤ z ∧ z ≤ 4 := by simp at hz; omega
      have hG := book_good hb
      have hp7 := hG.p7
      have hd7 := dB7_enc b
      have hp1 := Nat.two_pow_pos b.pieces.length
      have hple : 2 ^ b.pieces.length ≤ 2 ^ 7 := Nat.pow_le_pow_right (by decide) hp7
      have hsh := shl_one (k := b.pieces.length) (by omega)
      have hsl := send_lt b z cents
      have hse : sendB b z cents = (List.range (2 ^ b.pieces.length)).foldl (sendStep b z cents) 0 := rfl
      obtain ⟨ps, ks, gr, fr, un, fe, st⟩ := b
      simp only [encB] at hdb
      simp only at hp7 hd7 hp1 hple hsh hsl hse
      simp only [go_sem, Nat.reduceAdd, Nat.reduceSub, Nat.reduceMul, Nat.reduceEqDiff, Nat.reduceLT, Nat.reduceLeDiff, Nat.reduceBEq, Nat.reduceBNe, Int.reduceToNat, Int.reduceLE, Int.reduceLT, Int.reduceNe, Int.reduceNeg, reduceCtorEq, Int.reduceBEq, Int.reduceBNe, @callV_spec E10 16 s16 rfl, @callV_specT E10 16 s16 rfl, @stepV_spec E10 16 s16 rfl, @effV_spec E10 16 s16 rfl, s16, @callV_spec E10 60 sTween rfl, @callV_specT E10 60 sTween rfl, @stepV_spec E10 60 sTween rfl, @effV_spec E10 60 sTween rfl, sTween, @callV_spec E10 61 s61 rfl, @callV_specT E10 61 s61 rfl, @stepV_spec E10 61 s61 rfl, @effV_spec E10 61 s61 rfl, s61, callSpec, encB, hdb, hb, h4, hzz, @callV_in E10 54 rfl, heavy_none]
      refine opened_inG (fun _ => E10_ti) rfl ⟨ps, ks, gr, fr, un, fe, st⟩ z 0 [33006002] _ _ fun v H' e1 e2 => ?_
      have e3 := e2 ([], 33000000) (by simp)
      simp only [go_sem, Nat.reduceAdd, Nat.reduceSub, Nat.reduceMul, Nat.reduceEqDiff, Nat.reduceLT, Nat.reduceLeDiff, Nat.reduceBEq, Nat.reduceBNe, Int.reduceToNat, Int.reduceLE, Int.reduceLT, Int.reduceNe, Int.reduceNeg, reduceCtorEq, Int.reduceBEq, Int.reduceBNe] at e3
      simp only [go_sem, Nat.reduceAdd, Nat.reduceSub, Nat.reduceMul, Nat.reduceEqDiff, Nat.reduceLT, Nat.reduceLeDiff, Nat.reduceBEq, Nat.reduceBNe, Int.reduceToNat, Int.reduceLE, Int.reduceLT, Int.reduceNe, Int.reduceNeg, reduceCtorEq, Int.reduceBEq, Int.reduceBNe, encB, e3, List.length_map, hsh]
      generalize hv5 : verOf H' ([], 33006003) + 1 = v5
      refine ev_loopS [2, 3, 9, 34] (fun i : Nat => [(6, .sl [] true), (7, .int .i64 0), (10, .int .i64 ((List.range i).foldl (sendStep ⟨ps, ks, gr, fr, un, fe, st⟩ z cents) 0 : Nat)), (35, .int .i64 i)])
        (fun i H => i ≤ 2 ^ ps.length ∧ H (([], 33006003) : Key) = some (.cells (encB ⟨ps, ks, gr, fr, un, fe, st⟩ ++ [.int .i64 z, .mref ([33006002], 54001002) v]) v5 false) ∧ KnowsAt ⟨ps, ks, gr, fr, un, fe, st⟩ z ([33006002], 54001002) v H)
        (fun i => 2 ^ ps.length - i) 0 ?_ ⟨Nat.zero_le _, ?_, [], ?_, OkM.nil⟩ ?_
      · simp only [go_sem, Nat.reduceAdd, Nat.reduceSub, Nat.reduceMul, Nat.reduceEqDiff, Nat.reduceLT, Nat.reduceLeDiff, Nat.reduceBEq, Nat.reduceBNe, Int.reduceToNat, Int.reduceLE, Int.reduceLT, Int.reduceNe, Int.reduceNeg, reduceCtorEq, Int.reduceBEq, Int.reduceBNe, List.range_zero, List.foldl_nil, Int.natCast_zero]
      · simp only [go_sem, Nat.reduceAdd, Nat.reduceSub, Nat.reduceMul, Nat.reduceEqDiff, Nat.reduceLT, Nat.reduceLeDiff, Nat.reduceBEq, Nat.reduceBNe, Int.reduceToNat, Int.reduceLE, Int.reduceLT, Int.reduceNe, Int.reduceNeg, reduceCtorEq, Int.reduceBEq, Int.reduceBNe, encB]
      · simp only [go_sem, Nat.reduceAdd, Nat.reduceSub, Nat.reduceMul, Nat.reduceEqDiff, Nat.reduceLT, Nat.reduceLeDiff, Nat.reduceBEq, Nat.reduceBNe, Int.reduceToNat, Int.reduceLE, Int.reduceLT, Int.reduceNe, Int.reduceNeg, reduceCtorEq, Int.reduceBEq, Int.reduceBNe, e1]
      · simp only [go_sem, Nat.reduceAdd, Nat.reduceSub, Nat.reduceMul, Nat.reduceEqDiff, Nat.reduceLT, Nat.reduceLeDiff, Nat.reduceBEq, Nat.reduceBNe, Int.reduceToNat, Int.reduceLE, Int.reduceLT, Int.reduceNe, Int.reduceNeg, reduceCtorEq, Int.reduceBEq, Int.reduceBNe]
        intro K i H ⟨hi, k1, k2⟩ hK hE
        have k1' := k1
        simp only [encB, List.cons_append, List.nil_append] at k1'
        have hbt := hsl i hi
        have hfs : (List.range (i + 1)).foldl (sendStep ⟨ps, ks, gr, fr, un, fe, st⟩ z cents) 0 = sendStep ⟨ps, ks, gr, fr, un, fe, st⟩ z cents ((List.range i).foldl (sendStep ⟨ps, ks, gr, fr, un, fe, st⟩ z cents) 0) i := by
          rw [List.range_succ, List.foldl_append]; rfl
        rw [condK_bool]
        refine ⟨fun h => ?_, fun h => ?_⟩
        · have h' : i < 2 ^ ps.length := by simp only [decide_eq_true_eq] at h; omega
          have w2 : IntKind.i64.wrap ((i : Int) + 1) = (i : Int) + 1 := wrap_id (by omega)
          have hsf : ([33011003] <:+ [33006002]) = False := eq_false (suf_head (by decide))
          have hnil : ∀ a : Nat, ([a] <:+ ([] : List Nat)) = False := fun a => eq_false (by simp)
          have hdf : dFn 89 = some true := rfl
          generalize hm : (List.range i).foldl (sendStep ⟨ps, ks, gr, fr, un, fe, st⟩ z cents) 0 = best at *
          simp only [go_sem, Nat.reduceAdd, Nat.reduceSub, Nat.reduceMul, Nat.reduceEqDiff, Nat.reduceLT, Nat.reduceLeDiff, Nat.reduceBEq, Nat.reduceBNe, Int.reduceToNat, Int.reduceLE, Int.reduceLT, Int.reduceNe, Int.reduceNeg, reduceCtorEq, Int.reduceBEq, Int.reduceBNe, @callV_spec E10 68 s68 rfl, @callV_specT E10 68 s68 rfl, @stepV_spec E10 68 s68 rfl, @effV_spec E10 68 s68 rfl, s68, @effV_eff E10 64 e64 rfl rfl, e64, callSpec, k1', hd7, hdf, hsf, hnil, hG, hz', h', k2, Int.natCast_nonneg, Int.toNat_natCast]
          intro vv H2 hF ⟨⟨ex2, hv⟩, es2, hk2, hko2⟩
          obtain ⟨d, hd⟩ : ∃ d, dvOf true ⟨ps, ks, gr, fr, un, fe, st⟩ z i = d := ⟨_, rfl⟩
          simp only [Int.toNat_natCast, hd] at hv
          have hstp : sendStep ⟨ps, ks, gr, fr, un, fe, st⟩ z cents best i = if d.2 < 0 ∨ d.2 > cents then best else if moreB ⟨ps, ks, gr, fr, un, fe, st⟩ i best then i else best := by
            unfold sendStep; rw [hd]
          rw [hstp] at hfs
          subst hv
          have g1 := (hF ([], 33006003) (by simp)).trans k1
          have g1' := g1
          simp only [encB, List.cons_append, List.nil_append] at g1'
          unfold dvPV
          simp only [go_sem, Nat.reduceAdd, Nat.reduceSub, Nat.reduceMul, Nat.reduceEqDiff, Nat.reduceLT, Nat.reduceLeDiff, Nat.reduceBEq, Nat.reduceBNe, Int.reduceToNat, Int.reduceLE, Int.reduceLT, Int.reduceNe, Int.reduceNeg, reduceCtorEq, Int.reduceBEq, Int.reduceBNe, hnil]
          rw [condK_bool]
          refine ⟨fun hc => ?_, fun hc => ?_⟩
          · have hc : d.2 < 0 ∨ d.2 > cents := by simp at hc; omega
            rw [if_pos hc] at hfs
            have hfs2 := hfs
            rw [List.range_succ] at hfs2
            simp only [go_sem, Nat.reduceAdd, Nat.reduceSub, Nat.reduceMul, Nat.reduceEqDiff, Nat.reduceLT, Nat.reduceLeDiff, Nat.reduceBEq, Nat.reduceBNe, Int.reduceToNat, Int.reduceLE, Int.reduceLT, Int.reduceNe, Int.reduceNeg, reduceCtorEq, Int.reduceBEq, Int.reduceBNe]
            refine hK (i + 1) _ _ ?_ ⟨h', ?_, es2, ?_, hko2⟩ (by omega)
            · simp only [go_sem, Nat.reduceAdd, Nat.reduceSub, Nat.reduceMul, Nat.reduceEqDiff, Nat.reduceLT, Nat.reduceLeDiff, Nat.reduceBEq, Nat.reduceBNe, Int.reduceToNat, Int.reduceLE, Int.reduceLT, Int.reduceNe, Int.reduceNeg, reduceCtorEq, Int.reduceBEq, Int.reduceBNe, w2, Int.natCast_add, Int.natCast_one, hfs, hfs2]
            · simp only [go_sem, Nat.reduceAdd, Nat.reduceSub, Nat.reduceMul, Nat.reduceEqDiff, Nat.reduceLT, Nat.reduceLeDiff, Nat.reduceBEq, Nat.reduceBNe, Int.reduceToNat, Int.reduceLE, Int.reduceLT, Int.reduceNe, Int.reduceNeg, reduceCtorEq, Int.reduceBEq, Int.reduceBNe, g1]
            · simp only [go_sem, Nat.reduceAdd, Nat.reduceSub, Nat.reduceMul, Nat.reduceEqDiff, Nat.reduceLT, Nat.reduceLeDiff, Nat.reduceBEq, Nat.reduceBNe, Int.reduceToNat, Int.reduceLE, Int.reduceLT, Int.reduceNe, Int.reduceNeg, reduceCtorEq, Int.reduceBEq, Int.reduceBNe, hk2]
          · have hc : ¬ (d.2 < 0 ∨ d.2 > cents) := by simp at hc; omega
            rw [if_neg hc] at hfs
            have hi62 : ((i : Int) < 2 ^ 62) = True := eq_true (by omega)
            have hb62 : ((best : Int) < 2 ^ 62) = True := eq_true (by omega)
            have hmb : moreB ⟨ps, ks, gr, fr, un, fe, st⟩ i best = decide (orF [cmpI (allF ⟨ps, ks, gr, fr, un, fe, st⟩ .worth i) (allF ⟨ps, ks, gr, fr, un, fe, st⟩ .worth best), cmpI (ofS i 7).length (ofS best 7).length, -(cmpL (ofS i 7) (ofS best 7))] > 0) := rfl
            have wn : IntKind.i64.wrap (0 - cmpL (ofS i 7) (ofS best 7)) = -(cmpL (ofS i 7) (ofS best 7)) := by
              rw [Int.zero_sub]
              rcases cmpL_three (ofS i 7) (ofS best 7) with q | q | q <;> rw [q] <;> rfl
            have hli := ofS_len i 7
            have hlb := ofS_len best 7
            have bi : big (ofS i 7).length = True := eq_true (by unfold big; omega)
            have bb : big (ofS best 7).length = True := eq_true (by unfold big; omega)
            simp only [go_sem, Nat.reduceAdd, Nat.reduceSub, Nat.reduceMul, Nat.reduceEqDiff, Nat.reduceLT, Nat.reduceLeDiff, Nat.reduceBEq, Nat.reduceBNe, Int.reduceToNat, Int.reduceLE, Int.reduceLT, Int.reduceNe, Int.reduceNeg, reduceCtorEq, Int.reduceBEq, Int.reduceBNe, @callV_spec E10 77 s77 rfl, @callV_specT E10 77 s77 rfl, @stepV_spec E10 77 s77 rfl, @effV_spec E10 77 s77 rfl, s77, @callV_spec E10 76 s76 rfl, @callV_specT E10 76 s76 rfl, @stepV_spec E10 76 s76 rfl, @effV_spec E10 76 s76 rfl, s76, @callV_spec E10 75 s75 rfl, @callV_specT E10 75 s75 rfl, @stepV_spec E10 75 s75 rfl, @effV_spec E10 75 s75 rfl, s75, @callV_spec E10 69 s69 rfl, @callV_specT E10 69 s69 rfl, @stepV_spec E10 69 s69 rfl, @effV_spec E10 69 s69 rfl, s69, @callV_spec E10 71 s71 rfl, @callV_specT E10 71 s71 rfl, @stepV_spec E10 71 s71 rfl, @effV_spec E10 71 s71 rfl, s71, @callV_spec E10 74 s74 rfl, @callV_specT E10 74 s74 rfl, @stepV_spec E10 74 s74 rfl, @effV_spec E10 74 s74 rfl, s74, callSpec, g1', hk2, hG, h', hbt, hi62, hb62, bi, bb, wn, il_length, Int.natCast_nonneg, Int.toNat_natCast]
            rw [← hmb, condK_bool]
            refine ⟨fun hc2 => ?_, fun hc2 => ?_⟩
            · rw [if_pos hc2] at hfs
              have hfs2 := hfs
              rw [List.range_succ] at hfs2
              simp only [go_sem, Nat.reduceAdd, Nat.reduceSub, Nat.reduceMul, Nat.reduceEqDiff, Nat.reduceLT, Nat.reduceLeDiff, Nat.reduceBEq, Nat.reduceBNe, Int.reduceToNat, Int.reduceLE, Int.reduceLT, Int.reduceNe, Int.reduceNeg, reduceCtorEq, Int.reduceBEq, Int.reduceBNe]
              refine hK (i + 1) _ _ ?_ ⟨h', ?_, es2, ?_, hko2⟩ (by omega)
              · simp only [go_sem, Nat.reduceAdd, Nat.reduceSub, Nat.reduceMul, Nat.reduceEqDiff, Nat.reduceLT, Nat.reduceLeDiff, Nat.reduceBEq, Nat.reduceBNe, Int.reduceToNat, Int.reduceLE, Int.reduceLT, Int.reduceNe, Int.reduceNeg, reduceCtorEq, Int.reduceBEq, Int.reduceBNe, w2, Int.natCast_add, Int.natCast_one, hfs, hfs2]
              · simp only [go_sem, Nat.reduceAdd, Nat.reduceSub, Nat.reduceMul, Nat.reduceEqDiff, Nat.reduceLT, Nat.reduceLeDiff, Nat.reduceBEq, Nat.reduceBNe, Int.reduceToNat, Int.reduceLE, Int.reduceLT, Int.reduceNe, Int.reduceNeg, reduceCtorEq, Int.reduceBEq, Int.reduceBNe, g1]
              · simp only [go_sem, Nat.reduceAdd, Nat.reduceSub, Nat.reduceMul, Nat.reduceEqDiff, Nat.reduceLT, Nat.reduceLeDiff, Nat.reduceBEq, Nat.reduceBNe, Int.reduceToNat, Int.reduceLE, Int.reduceLT, Int.reduceNe, Int.reduceNeg, reduceCtorEq, Int.reduceBEq, Int.reduceBNe, hk2]
            · rw [if_neg (by rw [hc2]; simp)] at hfs
              have hfs2 := hfs
              rw [List.range_succ] at hfs2
              simp only [go_sem, Nat.reduceAdd, Nat.reduceSub, Nat.reduceMul, Nat.reduceEqDiff, Nat.reduceLT, Nat.reduceLeDiff, Nat.reduceBEq, Nat.reduceBNe, Int.reduceToNat, Int.reduceLE, Int.reduceLT, Int.reduceNe, Int.reduceNeg, reduceCtorEq, Int.reduceBEq, Int.reduceBNe]
              refine hK (i + 1) _ _ ?_ ⟨h', ?_, es2, ?_, hko2⟩ (by omega)
              · simp only [go_sem, Nat.reduceAdd, Nat.reduceSub, Nat.reduceMul, Nat.reduceEqDiff, Nat.reduceLT, Nat.reduceLeDiff, Nat.reduceBEq, Nat.reduceBNe, Int.reduceToNat, Int.reduceLE, Int.reduceLT, Int.reduceNe, Int.reduceNeg, reduceCtorEq, Int.reduceBEq, Int.reduceBNe, w2, Int.natCast_add, Int.natCast_one, hfs, hfs2]
              · simp only [go_sem, Nat.reduceAdd, Nat.reduceSub, Nat.reduceMul, Nat.reduceEqDiff, Nat.reduceLT, Nat.reduceLeDiff, Nat.reduceBEq, Nat.reduceBNe, Int.reduceToNat, Int.reduceLE, Int.reduceLT, Int.reduceNe, Int.reduceNeg, reduceCtorEq, Int.reduceBEq, Int.reduceBNe, g1]
              · simp only [go_sem, Nat.reduceAdd, Nat.reduceSub, Nat.reduceMul, Nat.reduceEqDiff, Nat.reduceLT, Nat.reduceLeDiff, Nat.reduceBEq, Nat.reduceBNe, Int.reduceToNat, Int.reduceLE, Int.reduceLT, Int.reduceNe, Int.reduceNeg, reduceCtorEq, Int.reduceBEq, Int.reduceBNe, hk2]
        · have h' : i = 2 ^ ps.length := by simp only [decide_eq_false_iff_not] at h; omega
          subst h'
          rw [← hse] at hbt ⊢
          have hb62 : ((sendB ⟨ps, ks, gr, fr, un, fe, st⟩ z cents : Int) < 2 ^ 62) = True := eq_true (by omega)
          refine hE _ _ _ (by simp) ?_
          simp only [go_sem, Nat.reduceAdd, Nat.reduceSub, Nat.reduceMul, Nat.reduceEqDiff, Nat.reduceLT, Nat.reduceLeDiff, Nat.reduceBEq, Nat.reduceBNe, Int.reduceToNat, Int.reduceLE, Int.reduceLT, Int.reduceNe, Int.reduceNeg, reduceCtorEq, Int.reduceBEq, Int.reduceBNe, @callV_spec E10 69 s69 rfl, @callV_specT E10 69 s69 rfl, @stepV_spec E10 69 s69 rfl, @effV_spec E10 69 s69 rfl, s69, callSpec, hb62, Int.natCast_nonneg, Int.toNat_natCast]
def s33 : Spec := spec3 (fun (b : PBook) (_ _ : Int) => Big4 b) (fun b z c => .tup [.sl (il (sendM b z c).1) true, .int .i64 (sendM b z c).2])
theorem s33_ok : SpecOK Tryd.prog glB 33 s33 := spec3_ok E10_ok Tryd.func33 rfl (by kernel_rfl) fun b z c h => Send_fn b h z c
end Wb
