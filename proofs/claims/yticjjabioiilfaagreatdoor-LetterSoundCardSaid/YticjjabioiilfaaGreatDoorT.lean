import Derived.Test.YticjjabioiilfaaGreatDoorY
set_option linter.unusedVariables false
set_option linter.unusedSimpArgs false
/- LetterSound. -/
namespace Wb
open Go Go.Proofs Enc Row
set_option linter.unusedSimpArgs false
set_option linter.unusedVariables false
set_option maxRecDepth 20000
set_option maxHeartbeats 16000000
noncomputable def E59t : List (Nat × Spec) := [(48, t48)] ++ E58t
theorem E59t_ok : AllOK E59t := ⟨⟨t48_ok, Tryz.call48⟩, E58t_ok⟩
noncomputable def E59 : Env := mkE E59t []
theorem E59_ok : EnvOK Tryz.prog E59 := envOK E59t_ok trivial
theorem E59_ti {t : Nat} : E59.ti t = ti t := rfl
theorem E59_q0 : (E59).eqt 26 = true := rfl
theorem E59_q1 : (E59).eqt 65 = true := rfl
theorem E59_q2 : (E59).eqt 77 = true := rfl
theorem E59_q3 : (E59).eqt 79 = true := rfl
theorem E59_q4 : (E59).eqt 182 = true := rfl
theorem E59_q5 : (E59).eqt 243 = true := rfl
theorem E59_q6 : (E59).keyt 3 = true := rfl
theorem E59_q7 : (E59).keyt 114 = true := rfl
theorem E59_q8 : (E59).keyt 169 = true := rfl
theorem E59_q9 : (E59).keyt 180 = true := rfl
theorem E59_q10 : (E59).keyt 193 = true := rfl
theorem E59_q11 : (E59).glob 0 = some [.fn 219 [] [], .fn 220 [] [], .fn 216 [] [], .fn 221 [] []] := rfl
theorem E59_q12 : (E59).glob 1 = some [.fn 222 [] [], .fn 223 [] []] := rfl
attribute [go_sem] E59_ti E59_q0 E59_q1 E59_q2 E59_q3 E59_q4 E59_q5 E59_q6 E59_q7 E59_q8 E59_q9 E59_q10 E59_q11 E59_q12
/-- A line of an order can be meant by a book. -/
def lnB (x : Lett) (o : Ord2) (j m : Nat) : Bool := hasB (x.lines.getD m default) (x.rack.issues.getD j default) ((linesO x o).getD m default)
def inU (x : Lett) (d : Int) (j : Nat) : Bool := decide ((x.rack.issues.getD j default).lo ≤ d) && decide (d ≤ (x.rack.issues.getD j default).hi)
def bkB (x : Lett) (d : Int) (o : Ord2) (j : Nat) : Bool := inU x d j && (List.range x.lines.length).all (lnB x o j)
theorem rng_all {p : Nat → Bool} (n : Nat) : (List.range n ++ [n]).all p = ((List.range n).all p && p n) := by
  rw [List.all_append]; simp
theorem rng_any {p : Nat → Bool} (n : Nat) : (List.range n ++ [n]).any p = ((List.range n).any p || p n) := by
  rw [List.any_append]; simp
theorem Mn.some {x : Lett} (hx : GL x) {d : Int} {o : Ord2} (h : Mn x d o) : (List.range x.rack.issues.length).any (bkB x d o) = true := by
  obtain ⟨i, h1, h2, h3⟩ := h.has hx
  refine List.any_eq_true.2 ⟨i, List.mem_range.2 h1, ?_⟩
  unfold bkB
  rw [show inU x d i = true from h2, Bool.true_and, List.all_eq_true]
  exact fun m hm => h3 m (List.mem_range.1 hm)
theorem soundW_fn (x : Lett) (hx : LOk x) : Fn E59 0 9 Tryz.f9 (Tryz.f9.body.getD .skip) [.agg (encLt x)] (.bool true) := by
  unfold Fn Tryz.f9
  have hxl := eq_true hx
  have hx0 := encLt_lit x
  cases hk : lettOk x with
  | false =>
    have h1 : ordersPV x = .tup [.sl [] true, .int .i64 20] := by unfold ordersPV; rw [hk]; rfl
    simp only [go_sem, @ct E59 13 t13 rfl, t13, @ct E59 14 t14 rfl, t14, @ct E59 15 t15 rfl, t15, hx0, lett_eta, callSpec, hxl, hk, h1]
  | true =>
    have hG := lett_good hk
    have hmany : manyPV x = .tup [.int .i64 (sortedM x).length, .int .i64 0] := by unfold manyPV; rw [if_pos hk, sorted_len]
    by_cases h0 : sortedM x = []
    · have h1 : ordersPV x = .tup [.sl [] true, .int .i64 4] := by unfold ordersPV; rw [if_pos hk, if_pos h0]
      rw [h0] at hmany
      simp only [List.length_nil, Int.natCast_zero] at hmany
      simp only [go_sem, @ct E59 13 t13 rfl, t13, @ct E59 14 t14 rfl, t14, @ct E59 15 t15 rfl, t15, @ct E59 21 t21 rfl, t21, hx0, lett_eta, callSpec, hxl, hk, h1, hmany]
    · by_cases h64 : 64 < (sortedM x).length
      · have h1 : ordersPV x = .tup [.sl [] true, .int .i64 6] := by unfold ordersPV; rw [if_pos hk, if_neg h0, if_pos h64]
        have g1 : (((sortedM x).length : Int) > 64) = True := eq_true (by omega)
        have g2 : (64 < ((sortedM x).length : Int)) = True := eq_true (by omega)
        have g3 : (((sortedM x).length : Int) == 0) = false := by simpa using (by omega : ¬ ((sortedM x).length : Int) = 0)
        simp only [go_sem, @ct E59 13 t13 rfl, t13, @ct E59 14 t14 rfl, t14, @ct E59 15 t15 rfl, t15, @ct E59 21 t21 rfl, t21, hx0, lett_eta, callSpec, hxl, hk, h1, hmany, g1, g2, g3]
      · have h1 := ordersPV_ok hk h0 h64
        have hpos : 0 < (sortedM x).length := List.length_pos_iff.2 h0
        have g1 : ((1 : Int) ≤ ((sortedM x).length : Int)) = True := eq_true (by omega)
        have g2 : (((sortedM x).length : Int) ≤ 64) = True := eq_true (by omega)
        have g3 : (((sortedM x).length : Int) != ((sortedM x).length : Int)) = false := by simp
        have b5 : ((x.lines.length : Int) != (x.lines.length : Int)) = false := by simp
        have hlen : ((sortedM x).map (rowO x)).length = (sortedM x).length := List.length_map ..
        simp only [go_sem, @ct E59 13 t13 rfl, t13, @ct E59 14 t14 rfl, t14, @ct E59 15 t15 rfl, t15, @ct E59 21 t21 rfl, t21, @ct E59 45 sTween rfl, sTween, hx0, lett_eta, callSpec, hxl, hk, h1, hmany, hlen, g1, g2, g3]
        have hrise := sorted_rise x
        have hmem := @mem_sorted x
        generalize hS : sortedM x = S at *
        have hN := hG.n
        refine ev_loopS [1, 3] (fun i : Nat => [(7, .int .i64 i)]) (fun i H => i ≤ S.length ∧ H ([], 9000000) = some (.cells (encLt x) 1 false)) (fun i => S.length - i) 0 ?_ ⟨Nat.zero_le _, ?_⟩ ?_
        · simp only [go_sem, Int.natCast_zero]
        · simp only [go_sem, hx0]
        · simp only [go_sem, hlen]
          intro K i H ⟨hi, w0⟩ hK hE
          rw [condK_bool]
          refine ⟨fun h => ?_, fun h => ?_⟩
          · have hi' : i < S.length := by have := of_decide_eq_true h; omega
            have hii : ((i : Int) < (S.length : Int)) = True := eq_true (by omega)
            have hi0 : (0 ≤ (i : Int)) = True := eq_true (by omega)
            have w2 : IntKind.i64.wrap ((i : Int) + 1) = (i : Int) + 1 := wrap_id (by omega)
            have hm1 := getD_mem (default : Ord2) hi'
            have hm0 := getD_mem (default : Ord2) (by omega : i - 1 < S.length)
            have hris : 0 < i → cmpO (S.getD (i - 1) default) (S.getD i default) < 0 := fun hp => by
              have := List.pairwise_iff_getElem.1 hrise (i - 1) i (by omega) hi' (by omega)
              simpa [hi', show i - 1 < S.length by omega] using this
            generalize hO : S.getD i default = o at hm1 hris
            generalize hP : S.getD (i - 1) default = p at hm0 hris
            have hko := hmem.1 hm1
            have hkp := hmem.1 hm0
            have hrow : rowO x o = [.sl ((linesO x o).map encL) true] := rfl
            have hrowp : rowO x p = [.sl ((linesO x p).map encL) true] := rfl
            have hll := linesO_len hN o
            have hbg : big (linesO x o).length = True := eq_true (by rw [hll]; unfold big; omega)
            have hbg' : big x.lines.length = True := eq_true (by unfold big; omega)
            have hbp : big (linesO x p).length = True := eq_true (by rw [linesO_len hN p]; unfold big; omega)
            obtain ⟨g, hg, hT⟩ : ∃ g, getA (allM x) o = some g ∧ Told x o g := by
              rcases allM_told hG.days o with ⟨h1, _⟩ | h1
              · exact absurd (mem_keysM.1 hko) (by rw [h1]; simp)
              · exact h1
            have hw := when_of hG.days hG.n rfl hko
            have vI : isOrdM x (linesO x o) = .tup [.bool true, .int .i64 0] := by unfold isOrdM; rw [if_pos hk, hw, hg]; rfl
            have vW : whenPV x (linesO x o) = .tup [.agg [.int .i64 g.lo, .int .i64 g.hi], .int .i64 0] := by unfold whenPV; rw [if_pos hk, hw, hg]
            have hw1 : IntKind.i64.wrap ((i : Int) - 1) = (i : Int) - 1 := wrap_id (by omega)
            have hn1 : ((i : Int) - 1).toNat = i - 1 := by omega
            have hlt1 : ((i : Int) - 1 < (S.length : Int)) = True := eq_true (by omega)
            have hfin : (decide ((i : Int) > 0) && !soonB (linesO x p) (linesO x o)) = false := by
              by_cases hp : 0 < i
              · rw [soon_rise hG.days hkp hko (hris hp)]; simp
              · have : decide ((i : Int) > 0) = false := decide_eq_false (by omega)
                rw [this]; rfl
            have T1 := eq_true hT.lo.1.1
            have T2 := eq_true hT.hi.1.2
            have T3 : (g.lo > g.hi) = False := eq_false (by have := (hT.all g.lo hT.lo.1.1 hT.lo.1.2 hT.lo.2).1.2; omega)
            simp only [go_sem, @ct E59 46 t46 rfl, t46, callSpec, w0, hx0, hii, hi0, Int.toNat_natCast, hlen, getD_mapN (rowO x) S i _ hi', hO, hrow, List.length_map, hll, b5, hw1, hn1, hlt1, getD_mapN (rowO x) S (i - 1) _ (by omega : i - 1 < S.length), hP, hrowp, dec_lines, hbg, hbg', hbp]
            refine ⟨fun q => by have := of_decide_eq_true q; omega, ?_⟩
            rw [hfin]
            simp only [go_sem, @ct E59 18 t18 rfl, t18, @ct E59 19 t19 rfl, t19, @ct E59 47 sInner rfl, sInner, callSpec, w0, hx0, lett_eta, hxl, hii, hi0, Int.toNat_natCast, hlen, getD_mapN (rowO x) S i _ hi', hO, hrow, List.length_map, hll, dec_lines, hbg, hbg', vI, vW, T1, T2, T3]
            generalize hv : verOf H ([], 9018004) + 1 = v
            have hD : ∀ k, k < 2 → Mn x ([g.lo, g.hi].getD k 0) o := fun k hk2 => by
              obtain rfl | rfl : k = 0 ∨ k = 1 := by omega
              · exact hT.lo.2
              · exact hT.hi.2
            refine ev_loopS [1, 3, 7, 12] (fun k : Nat => [(13, .int .i64 k)]) (fun k H => k ≤ 2 ∧ H ([], 9000000) = some (.cells (encLt x) 1 false) ∧ H ([], 9018004) = some (.rows 1 (il [g.lo, g.hi]) v false)) (fun k => 2 - k) 0 ?_ ⟨Nat.zero_le _, ?_, ?_⟩ ?_
            · simp only [go_sem, Int.natCast_zero]
            · simp only [go_sem, w0]
            · simp only [go_sem, il, List.map_cons, List.map_nil]
            · simp only [go_sem]
              intro K2 k H2 ⟨hk2, k0, k1⟩ hK2 hE2
              rw [condK_bool]
              refine ⟨fun h => ?_, fun h => ?_⟩
              · have hk3 : k < 2 := by have := of_decide_eq_true h; omega
                have hkk : ((k : Int) < 2) = True := eq_true (by omega)
                have hk0 : (0 ≤ (k : Int)) = True := eq_true (by omega)
                have hkn : (k < 2) = True := eq_true hk3
                have w3 : IntKind.i64.wrap ((k : Int) + 1) = (k : Int) + 1 := wrap_id (by omega)
                have hM := hD k hk3
                generalize hd : [g.lo, g.hi].getD k 0 = d at hM
                have hsum := hM.sum hN
                have hcost := hM.cost
                have hxr := eq_true hx.1
                have eR : (⟨x.rack.goods, x.rack.issues⟩ : Rack) = x.rack := rfl
                have hl2 : (il [g.lo, g.hi]).length = 2 := rfl
                have hd' : (il [g.lo, g.hi]).getD k [PV.int .i64 0] = [PV.int .i64 d] := by rw [il_getD, hd]
                simp only [go_sem, @ct E59 42 s34 rfl, s34, callSpec, k0, k1, hx0, hkk, hk0, hkn, hl2, hd', hii, hi0, Int.toNat_natCast, hlen, getD_mapN (rowO x) S i _ hi', hO, hrow, List.length_map, dec_lines, hbg, eR, hxr, hsum]
                have hsome := hM.some hG
                have hR4 := hG.rack.len
                refine ev_loopS [1, 3, 7, 12, 13, 14, 15] (fun j : Nat => [(16, .bool ((List.range j).any (bkB x d o))), (17, .int .i64 j)]) (fun j H => j ≤ x.rack.issues.length ∧ H ([], 9000000) = some (.cells (encLt x) 1 false) ∧ H ([], 9018004) = some (.rows 1 (il [g.lo, g.hi]) v false)) (fun j => x.rack.issues.length - j) 0 ?_ ⟨Nat.zero_le _, ?_, ?_⟩ ?_
                · simp only [go_sem, Int.natCast_zero, List.range_zero, List.any_nil]
                · simp only [go_sem, k0, hx0]
                · simp only [go_sem, k1]
                · simp only [go_sem]
                  intro K3 j H3 ⟨hj, j0, j1⟩ hK3 hE3
                  simp only [go_sem, j0, hx0, List.length_map]
                  rw [condK_bool]
                  refine ⟨fun h => ?_, fun h => ?_⟩
                  · have hj' : j < x.rack.issues.length := by have := of_decide_eq_true h; omega
                    have hjj : ((j : Int) < (x.rack.issues.length : Int)) = True := eq_true (by omega)
                    have hj0 : (0 ≤ (j : Int)) = True := eq_true (by omega)
                    have w4 : IntKind.i64.wrap ((j : Int) + 1) = (j : Int) + 1 := wrap_id (by omega)
                    have hstep := rng_any (p := bkB x d o) j
                    obtain ⟨yi, hyi⟩ : ∃ yi, x.rack.issues.getD j default = yi := ⟨_, rfl⟩
                    have hu : inU x d j = (decide (yi.lo ≤ d) && decide (d ≤ yi.hi)) := by unfold inU; rw [hyi]
                    cases hin : inU x d j with
                    | false =>
                      rw [hin] at hu
                      have hb0 : bkB x d o j = false := by unfold bkB; rw [hin]; rfl
                      rw [hb0, Bool.or_false] at hstep
                      simp only [go_sem, @ct E59 43 sHas rfl, sHas, callSpec, j0, j1, hx0, hjj, hj0, hkk, hk0, hkn, hl2, hd', Int.toNat_natCast, List.length_map, getD_mapN encI x.rack.issues j _ hj', hyi, encI, ← hu]
                      refine hK3 (j + 1) _ _ ?_ ⟨by omega, ?_, ?_⟩ (by omega)
                      · simp only [go_sem, w4, Int.natCast_add, Int.natCast_one, hstep]
                      · simp only [go_sem, j0, hx0]
                      · simp only [go_sem, j1]
                    | true =>
                      rw [hin] at hu
                      have hb1 : bkB x d o j = (List.range x.lines.length).all (lnB x o j) := by unfold bkB; rw [hin]; rfl
                      rw [hb1] at hstep
                      simp only [go_sem, @ct E59 43 sHas rfl, sHas, callSpec, j0, j1, hx0, hjj, hj0, hkk, hk0, hkn, hl2, hd', Int.toNat_natCast, List.length_map, getD_mapN encI x.rack.issues j _ hj', hyi, encI, ← hu]
                      refine ev_loopS [1, 3, 7, 12, 13, 14, 15, 16, 17] (fun m : Nat => [(18, .bool ((List.range m).all (lnB x o j))), (19, .int .i64 m)]) (fun m H => m ≤ x.lines.length ∧ H ([], 9000000) = some (.cells (encLt x) 1 false) ∧ H ([], 9018004) = some (.rows 1 (il [g.lo, g.hi]) v false)) (fun m => x.lines.length - m) 0 ?_ ⟨Nat.zero_le _, ?_, ?_⟩ ?_
                      · simp only [go_sem, Int.natCast_zero, List.range_zero, List.all_nil]
                      · simp only [go_sem, j0, hx0]
                      · simp only [go_sem, j1]
                      · simp only [go_sem]
                        intro K4 m H4 ⟨hm, m0, m1⟩ hK4 hE4
                        simp only [go_sem, hii, hi0, Int.toNat_natCast, hlen, getD_mapN (rowO x) S i _ hi', hO, hrow, List.length_map, hll]
                        rw [condK_bool]
                        refine ⟨fun h => ?_, fun h => ?_⟩
                        · have hm' : m < x.lines.length := by have := of_decide_eq_true h; omega
                          have hmm : ((m : Int) < (x.lines.length : Int)) = True := eq_true (by omega)
                          have hm0 : (0 ≤ (m : Int)) = True := eq_true (by omega)
                          have w5 : IntKind.i64.wrap ((m : Int) + 1) = (m : Int) + 1 := wrap_id (by omega)
                          have hst2 := rng_all (p := lnB x o j) m
                          have hmo : m < (linesO x o).length := by rw [hll]; exact hm'
                          have gl := hG.line _ (getD_mem default hm')
                          have hln : hasB (x.lines.getD m default) (x.rack.issues.getD j default) ((linesO x o).getD m default) = lnB x o j m := rfl
                          generalize hyl : x.lines.getD m default = yl at gl hln
                          generalize hyo : (linesO x o).getD m default = yo at hln
                          have hdl : (dec (.agg (encLL yl)) : Option LLine) = some yl := Enc.dec_enc _
                          have hdo := dec_line1 yo
                          obtain ⟨ds, ss, q1, q2, q3, q4, q5⟩ := yl
                          obtain ⟨⟨l0, l1, l2⟩, l3⟩ := yo
                          simp only [encLL] at hdl
                          simp only [encL] at hdo
                          have hgx := eq_true hG
                          have hgl := eq_true gl
                          cases hcan : (List.range m).all (lnB x o j) with
                          | false =>
                            rw [hcan, Bool.false_and] at hst2
                            simp only [go_sem, @ct E59 48 t48 rfl, t48, callSpec, m0, hx0, lett_eta, hjj, hj0, hmm, hm0, hii, hi0, Int.toNat_natCast, hlen, List.length_map, getD_mapN encLL x.lines m _ hm', hyl, encLL, getD_mapN (rowO x) S i _ hi', hO, hrow, hll, getD_mapN encL (linesO x o) m _ hmo, hyo, encL, hdl, hdo, hgx, hgl, hln]
                            refine hK4 (m + 1) _ _ ?_ ⟨by omega, ?_, ?_⟩ (by omega)
                            · simp only [go_sem, w5, Int.natCast_add, Int.natCast_one, hst2]
                            · simp only [go_sem, m0, hx0]
                            · simp only [go_sem, m1]
                          | true =>
                            rw [hcan, Bool.true_and] at hst2
                            simp only [go_sem, @ct E59 48 t48 rfl, t48, callSpec, m0, hx0, lett_eta, hjj, hj0, hmm, hm0, hii, hi0, Int.toNat_natCast, hlen, List.length_map, getD_mapN encLL x.lines m _ hm', hyl, encLL, getD_mapN (rowO x) S i _ hi', hO, hrow, hll, getD_mapN encL (linesO x o) m _ hmo, hyo, encL, hdl, hdo, hgx, hgl, hln]
                            refine hK4 (m + 1) _ _ ?_ ⟨by omega, ?_, ?_⟩ (by omega)
                            · simp only [go_sem, w5, Int.natCast_add, Int.natCast_one, hst2]
                            · simp only [go_sem, m0, hx0]
                            · simp only [go_sem, m1]
                        · have hm' : m = x.lines.length := by have : ¬ ((m : Int) < (x.lines.length : Int)) := by simpa using h
                                                              omega
                          subst hm'
                          refine hE4 _ _ _ (by simp) ?_
                          simp only [go_sem]
                          cases hso : (List.range j).any (bkB x d o) with
                          | false =>
                            rw [hso, Bool.false_or] at hstep
                            simp only [go_sem]
                            refine hK3 (j + 1) _ _ ?_ ⟨by omega, m0, m1⟩ (by omega)
                            simp only [go_sem, w4, Int.natCast_add, Int.natCast_one, hstep]
                          | true =>
                            rw [hso, Bool.true_or] at hstep
                            simp only [go_sem]
                            refine hK3 (j + 1) _ _ ?_ ⟨by omega, m0, m1⟩ (by omega)
                            simp only [go_sem, w4, Int.natCast_add, Int.natCast_one, hstep]
                  · have hj' : j = x.rack.issues.length := by have : ¬ ((j : Int) < (x.rack.issues.length : Int)) := by simpa using h
                                                              omega
                    subst hj'
                    have c1 := eq_true hcost.1
                    have c2 := eq_true hcost.2
                    refine hE3 _ _ _ (by simp) ?_
                    simp only [go_sem, @ct E59 43 sHas rfl, sHas, callSpec, j0, hx0, hsome, c1, c2]
                    refine hK2 (k + 1) _ _ ?_ ⟨by omega, ?_, ?_⟩ (by omega)
                    · simp only [go_sem, w3, Int.natCast_add, Int.natCast_one]
                    · simp only [go_sem, j0, hx0]
                    · simp only [go_sem, j1]
              · refine hE2 _ _ _ (by simp) ?_
                simp only [go_sem]
                refine hK (i + 1) _ _ ?_ ⟨by omega, k0⟩ (by omega)
                simp only [go_sem, w2, Int.natCast_add, Int.natCast_one]
          · refine hE _ _ _ (by simp) ?_
            simp only [go_sem, @ct E59 14 t14 rfl, t14]
end Wb
