import Derived.Test.YticjjabioiilfaaGreatDoorM
set_option linter.unusedVariables false
set_option linter.unusedSimpArgs false
/- LetterParted. -/
namespace Wb
open Go Go.Proofs Enc Row
set_option linter.unusedSimpArgs false
set_option linter.unusedVariables false
set_option maxRecDepth 20000
set_option maxHeartbeats 8000000
def lotI (lo hi n : Int) : Int := if hi ≤ lo then lo else lo + spinF n (hi - lo + 1)
theorem spin_range {n m : Int} (h : 1 ≤ m) : 0 ≤ spinF n m ∧ spinF n m < m := by
  unfold spinF
  rw [if_neg (by omega)]
  exact ⟨Int.emod_nonneg _ (by omega), Int.emod_lt_of_pos _ (by omega)⟩
theorem lotI_in {lo hi n : Int} (h : lo ≤ hi) : lo ≤ lotI lo hi n ∧ lotI lo hi n ≤ hi := by
  unfold lotI
  by_cases h1 : hi ≤ lo
  · rw [if_pos h1]; omega
  · rw [if_neg h1]
    have := spin_range (n := n) (by omega : 1 ≤ hi - lo + 1)
    omega
def t16 : Spec := spec2 (fun (a : Int × Int) (n : Int) => (0 ≤ a.1 ∧ a.1 ≤ 1000000000) ∧ (0 ≤ a.2 ∧ a.2 ≤ 1000000000)) (fun a n => .int .i64 (lotI a.1 a.2 n))
theorem t16_ok : SpecOK Tryz.prog glB 16 t16 := s45_ok
noncomputable def E52t : List (Nat × Spec) := [(13, t13), (16, t16)] ++ E51t
theorem E52t_ok : AllOK E52t := ⟨⟨t13_ok, Tryz.call13⟩, ⟨t16_ok, Tryz.call16⟩, E51t_ok⟩
noncomputable def E52 : Env := mkE E52t []
theorem E52_ok : EnvOK Tryz.prog E52 := envOK E52t_ok trivial
theorem E52_ti {t : Nat} : E52.ti t = ti t := rfl
theorem E52_q0 : (E52).eqt 26 = true := rfl
theorem E52_q1 : (E52).eqt 65 = true := rfl
theorem E52_q2 : (E52).eqt 77 = true := rfl
theorem E52_q3 : (E52).eqt 79 = true := rfl
theorem E52_q4 : (E52).eqt 182 = true := rfl
theorem E52_q5 : (E52).eqt 243 = true := rfl
theorem E52_q6 : (E52).keyt 3 = true := rfl
theorem E52_q7 : (E52).keyt 114 = true := rfl
theorem E52_q8 : (E52).keyt 169 = true := rfl
theorem E52_q9 : (E52).keyt 180 = true := rfl
theorem E52_q10 : (E52).keyt 193 = true := rfl
theorem E52_q11 : (E52).glob 0 = some [.fn 219 [] [], .fn 220 [] [], .fn 216 [] [], .fn 221 [] []] := rfl
theorem E52_q12 : (E52).glob 1 = some [.fn 222 [] [], .fn 223 [] []] := rfl
attribute [go_sem] E52_ti E52_q0 E52_q1 E52_q2 E52_q3 E52_q4 E52_q5 E52_q6 E52_q7 E52_q8 E52_q9 E52_q10 E52_q11 E52_q12
theorem encSetC (x : Lett) (a b : Int) : encLt (setC x a b) = [.int .i64 x.rack.goods, .sl (x.rack.issues.map encI) false, .int .i64 x.dlo, .int .i64 x.dhi, .sl (x.lines.map encLL) false, .int .i64 a, .int .i64 b] := rfl
theorem encSetD (x : Lett) (a b : Int) : encLt (setD x a b) = [.int .i64 x.rack.goods, .sl (x.rack.issues.map encI) false, .int .i64 a, .int .i64 b, .sl (x.lines.map encLL) false, .int .i64 x.clo, .int .i64 x.chi] := rfl
def rowO (x : Lett) (o : Ord2) : List PV := lsRow (linesO x o)
theorem ordersPV_ok {x : Lett} (hk : lettOk x = true) (h0 : sortedM x ≠ []) (h64 : ¬ 64 < (sortedM x).length) : ordersPV x = .tup [.sl ((sortedM x).map (rowO x)) true, .int .i64 0] := by
  unfold ordersPV; rw [if_pos hk, if_neg h0, if_neg h64]; rfl
theorem parted_walk (x : Lett) (hx : LOk x) (n0 n1 : Int) : Fn E52 0 3 Tryz.f3 (Tryz.f3.body.getD .skip) [.agg (encLt x), .agg [.int .i64 n0, .int .i64 n1]] (.bool true) := by
  unfold Fn Tryz.f3
  have hxl := eq_true hx
  cases hk : lettOk x with
  | false =>
    simp only [go_sem, @ct E52 13 t13 rfl, t13, @ct E52 14 t14 rfl, t14, encLt, lett_eta, callSpec, hxl, hk]
  | true =>
    have hG := lett_good hk
    obtain ⟨c1, c2, c3⟩ := hG.money
    obtain ⟨d1, d2, d3⟩ := hG.days
    have C : ((0 ≤ x.clo ∧ x.clo ≤ 1000000000) ∧ 0 ≤ x.chi ∧ x.chi ≤ 1000000000) = True := eq_true (by omega)
    have D : ((0 ≤ x.dlo ∧ x.dlo ≤ 1000000000) ∧ 0 ≤ x.dhi ∧ x.dhi ≤ 1000000000) = True := eq_true (by omega)
    have hc : x.clo ≤ lotI x.clo x.chi n0 ∧ lotI x.clo x.chi n0 ≤ x.chi := lotI_in c2
    have hd : x.dlo ≤ lotI x.dlo x.dhi n1 ∧ lotI x.dlo x.dhi n1 ≤ x.dhi := lotI_in d2
    generalize ec : lotI x.clo x.chi n0 = c at hc
    generalize ed : lotI x.dlo x.dhi n1 = d at hd
    have wc : IntKind.i64.wrap (c + 1) = c + 1 := wrap_id (by omega)
    have wd : IntKind.i64.wrap (d + 1) = d + 1 := wrap_id (by omega)
    by_cases h0 : sortedM x = []
    · have ho : ordersPV x = .tup [.sl [] true, .int .i64 4] := by unfold ordersPV; rw [if_pos hk, if_pos h0]
      simp only [go_sem, @ct E52 13 t13 rfl, t13, @ct E52 14 t14 rfl, t14, @ct E52 15 t15 rfl, t15, @ct E52 16 t16 rfl, t16, @ct E52 17 sTo rfl, sTo, encLt, lett_eta, callSpec, hxl, hk, ho, C, D, ec, ed, wc, wd]
    · by_cases h64 : 64 < (sortedM x).length
      · have ho : ordersPV x = .tup [.sl [] true, .int .i64 6] := by unfold ordersPV; rw [if_pos hk, if_neg h0, if_pos h64]
        simp only [go_sem, @ct E52 13 t13 rfl, t13, @ct E52 14 t14 rfl, t14, @ct E52 15 t15 rfl, t15, @ct E52 16 t16 rfl, t16, @ct E52 17 sTo rfl, sTo, encLt, lett_eta, callSpec, hxl, hk, ho, C, D, ec, ed, wc, wd]
      · have ho := ordersPV_ok hk h0 h64
        obtain ⟨M, hM⟩ : ∃ M, M = min (c + 1) 10000000 := ⟨_, rfl⟩
        obtain ⟨M', hM'⟩ : ∃ M', M' = max x.chi M := ⟨_, rfl⟩
        obtain ⟨N, hN⟩ : ∃ N, N = min (d + 1) 20000 := ⟨_, rfl⟩
        obtain ⟨N', hN'⟩ : ∃ N', N' = max x.dhi N := ⟨_, rfl⟩
        have m1 : (if (10000000 : Int) < c + 1 then (10000000 : Int) else c + 1) = M := by rw [hM]; split <;> omega
        have m2 : (if M > x.chi then M else x.chi) = M' := by rw [hM']; split <;> omega
        have n1 : (if (20000 : Int) < d + 1 then (20000 : Int) else d + 1) = N := by rw [hN]; split <;> omega
        have n2 : (if N > x.dhi then N else x.dhi) = N' := by rw [hN']; split <;> omega
        have eA : (⟨⟨x.rack.goods, x.rack.issues⟩, x.dlo, x.dhi, x.lines, x.clo, c⟩ : Lett) = setC x x.clo c := rfl
        have eB : (⟨⟨x.rack.goods, x.rack.issues⟩, x.dlo, x.dhi, x.lines, M, M'⟩ : Lett) = setC x M M' := rfl
        have eP : (⟨⟨x.rack.goods, x.rack.issues⟩, x.dlo, d, x.lines, x.clo, x.chi⟩ : Lett) = setD x x.dlo d := rfl
        have eQ : (⟨⟨x.rack.goods, x.rack.issues⟩, N, N', x.lines, x.clo, x.chi⟩ : Lett) = setD x N N' := rfl
        have lA : LOk (setC x x.clo c) = True := hxl
        have lB : LOk (setC x M M') = True := hxl
        have lP : LOk (setD x x.dlo d) = True := hxl
        have lQ : LOk (setD x N N') = True := hxl
        simp only [go_sem, @ct E52 13 t13 rfl, t13, @ct E52 14 t14 rfl, t14, @ct E52 15 t15 rfl, t15, @ct E52 16 t16 rfl, t16, @ct E52 17 sTo rfl, sTo, encLt, lett_eta, callSpec, hxl, hk, ho, C, D, ec, ed, wc, wd, m1, m2, n1, n2]
        generalize hS : sortedM x = S at *
        have hlen : (S.map (rowO x)).length = S.length := List.length_map ..
        refine ev_loopS [2, 5, 7, 8, 9, 10, 12] (fun i : Nat => [(13, .int .i64 i)]) (fun i H => i ≤ S.length ∧ H ([], 3000000) = some (.cells (encLt x) 1 false) ∧ H ([], 3004004) = some (.cells (encLt (setC x x.clo c)) 1 false)
          ∧ H ([], 3004005) = some (.cells (encLt (setC x M M')) 1 false) ∧ H ([], 3004006) = some (.cells (encLt (setD x x.dlo d)) 1 false) ∧ H ([], 3004007) = some (.cells (encLt (setD x N N')) 1 false)) (fun i => S.length - i) 0 ?_ ⟨Nat.zero_le _, ?_, ?_, ?_, ?_, ?_⟩ ?_
        · simp only [go_sem, Int.natCast_zero]
        · simp only [go_sem, encLt]
        · simp only [go_sem, encLt, setC]
        · simp only [go_sem, encLt, setC]
        · simp only [go_sem, encLt, setD]
        · simp only [go_sem, encLt, setD]
        · simp only [go_sem]
          intro K i H ⟨hi, k0, k1, k2, k3, k4⟩ hK hE
          rw [condK_bool]
          refine ⟨fun h => ?_, fun h => ?_⟩
          · have h' : i < S.length := by have := of_decide_eq_true h; omega
            have hii : ((i : Int) < (S.length : Int)) = True := eq_true (by omega)
            have hi0 : (0 ≤ (i : Int)) = True := eq_true (by omega)
            have w2 : IntKind.i64.wrap ((i : Int) + 1) = (i : Int) + 1 := wrap_id (by omega)
            have hmem := getD_mem default h'
            generalize hO : S.getD i default = o at hmem
            have ho1 : o ∈ keysM x := by rw [← hS] at hmem; exact (sortB_perm _ _).mem_iff.1 hmem
            have hb : big (linesO x o).length = True := eq_true (by rw [linesO_len hG.n]; have := hG.n; unfold big; omega)
            obtain ⟨g, hg, hT⟩ : ∃ g, getA (allM x) o = some g ∧ Told x o g := by
              rcases allM_told hG.days o with ⟨h1, _⟩ | h1
              · exact absurd (mem_keysM.1 ho1) (by rw [h1]; simp)
              · exact h1
            have hrow : rowO x o = [.sl ((linesO x o).map encL) true] := rfl
            have hAB := parted_money hk ho1 hc.1 hc.2
            obtain ⟨hP, hPQ, hQ⟩ := parted_days hk hT hd.1 hd.2
            rw [← hM, ← hM'] at hAB
            rw [← hN, ← hN'] at hPQ hQ
            have oA := lettOk_setC hk (lo := x.clo) (hi := c) c1 hc.1 (by omega)
            have oB := lettOk_setC hk (lo := M) (hi := M') (by omega) (by omega) (by omega)
            have oP := lettOk_setD hk (lo := x.dlo) (hi := d) d1 hd.1 (by omega)
            have oQ := lettOk_setD hk (lo := N) (hi := N') (by omega) (by omega) (by omega)
            have vA : isOrdM (setC x x.clo c) (linesO x o) = .tup [.bool (getA (allM (setC x x.clo c)) o).isSome, .int .i64 0] := by unfold isOrdM; rw [if_pos oA, when_of hG.days hG.n (by rfl) ho1]
            have vB : isOrdM (setC x M M') (linesO x o) = .tup [.bool (getA (allM (setC x M M')) o).isSome, .int .i64 0] := by unfold isOrdM; rw [if_pos oB, when_of hG.days hG.n (by rfl) ho1]
            have vP : isOrdM (setD x x.dlo d) (linesO x o) = .tup [.bool (getA (allM (setD x x.dlo d)) o).isSome, .int .i64 0] := by unfold isOrdM; rw [if_pos oP, when_of hG.days hG.n (by rfl) ho1]
            have vQ : isOrdM (setD x N N') (linesO x o) = .tup [.bool (getA (allM (setD x N N')) o).isSome, .int .i64 0] := by unfold isOrdM; rw [if_pos oQ, when_of hG.days hG.n (by rfl) ho1]
            have vW : whenPV x (linesO x o) = .tup [.agg [.int .i64 g.lo, .int .i64 g.hi], .int .i64 0] := by unfold whenPV; rw [if_pos hk, when_of hG.days hG.n (by rfl) ho1, hg]
            generalize (getA (allM (setC x x.clo c)) o).isSome = A at *
            generalize (getA (allM (setC x M M')) o).isSome = B at *
            generalize (getA (allM (setD x x.dlo d)) o).isSome = P at *
            generalize (getA (allM (setD x N N')) o).isSome = Q at *
            simp only [go_sem, @ct E52 18 t18 rfl, t18, callSpec, k1, k2, hii, hi0, Int.toNat_natCast, hlen, getD_mapN (rowO x) S i _ h', hO, hrow, dec_lines, encSetC, eA, eB, lA, lB, hb, vA, vB]
            have hAB' : (A = true ∧ B = false) ∨ (A = false ∧ B = true) ∨ (A = true ∧ B = true) := by cases A <;> cases B <;> simp at hAB ⊢
            have hN1 := encLt_lit x
            have fin : (P = true ∧ (g.lo ≤ d) = True ∧ (d < x.dhi) = True ∧ Q = decide (g.hi > d)) ∨ (P = true ∧ (g.lo ≤ d) = True ∧ (d < x.dhi) = False) ∨ (P = false ∧ (g.lo ≤ d) = False ∧ (d < x.dhi) = True ∧ Q = true ∧ (g.hi > d) = True) := by
              by_cases hp : g.lo ≤ d
              · rw [decide_eq_true hp] at hP
                by_cases hq : d < x.dhi
                · exact .inl ⟨hP, eq_true hp, eq_true hq, hQ hq⟩
                · exact .inr (.inl ⟨hP, eq_true hp, eq_false hq⟩)
              · rw [decide_eq_false hp] at hP
                have h1 := hT.lo.1
                have h2 := (hT.all g.lo h1.1 h1.2 hT.lo.2).1.2
                have h3 := hT.hi.1
                have hq : d < x.dhi := by omega
                have hr : g.hi > d := by omega
                exact .inr (.inr ⟨hP, eq_false hp, eq_true hq, by rw [hQ hq]; exact decide_eq_true hr, eq_true hr⟩)
            have hfin : (!P && !Q || P != decide (g.lo ≤ d) || decide (d < x.dhi) && Q != decide (g.hi > d)) = false := by
              rcases fin with ⟨rfl, f1, f2, rfl⟩ | ⟨rfl, f1, f2⟩ | ⟨rfl, f1, f2, rfl, f3⟩ <;> simp [f1, f2]
              simpa using f3
            rcases hAB' with ⟨rfl, rfl⟩ | ⟨rfl, rfl⟩ | ⟨rfl, rfl⟩
            all_goals
              simp only [go_sem, @ct E52 18 t18 rfl, t18, @ct E52 19 t19 rfl, t19, callSpec, k0, k1, k2, k3, k4, hii, hi0, Int.toNat_natCast, hlen, getD_mapN (rowO x) S i _ h', hO, hrow, dec_lines, encSetD, hN1, lett_eta, hxl, eP, eQ, lP, lQ, hb, vP, vQ, vW]
              refine ⟨fun h1 h2 => ⟨h1, h2⟩, ?_⟩
              rw [hfin]
              simp only [go_sem]
              refine hK (i + 1) _ _ ?_ ⟨by omega, ?_⟩ (by omega)
              · simp only [go_sem, w2, Int.natCast_add, Int.natCast_one]
              · simp only [go_sem, k0, k1, k2, k3, k4]
          · refine hE _ _ _ (by simp) ?_
            simp only [go_sem, @ct E52 14 t14 rfl, t14]
end Wb
