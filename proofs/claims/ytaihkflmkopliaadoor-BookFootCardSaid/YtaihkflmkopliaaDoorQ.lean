import Derived.Test.YtaihkflmkopliaaDoorN
set_option linter.unusedVariables false
set_option linter.unusedSimpArgs false
/- BookMore: a book more. -/
namespace Wb
open Go Go.Proofs Enc Row
set_option linter.unusedSimpArgs false
set_option linter.unusedVariables false
set_option maxRecDepth 20000
set_option maxHeartbeats 4000000
theorem getD_app {l : List Issue} {y : Issue} {i : Nat} (h : i < l.length) : (l ++ [y]).getD i default = l.getD i default := by
  simp [List.getD_eq_getElem?_getD, List.getElem?_append_left h]
theorem meansL_app (g : Int) (l : List Issue) (y : Issue) (d : Int × Int) (n : Int) : ∀ k, k ≤ l.length → meansL ⟨g, l ++ [y]⟩ d n k = meansL ⟨g, l⟩ d n k
  | 0, _ => rfl
  | k + 1, h => by
    rw [meansL_succ, meansL_succ, meansL_app g l y d n k (by omega)]
    have h1 : k < l.length := by omega
    rw [meanOf_lt (r := ⟨g, l⟩) h1, meanOf_lt (r := ⟨g, l ++ [y]⟩) (by simp; omega)]
    simp only [getD_app h1]
theorem offers_app (on : Int) (t : Item) (l : List Issue) (y : Issue) : offers on t (l ++ [y]) = offers on t l ++ (if ovl 1 on on y then (inP t y.entries).toList else []) := by
  unfold offers
  rw [List.filter_append, List.filterMap_append]
  congr 1
  rw [List.filter_cons]
  split
  · simp only [List.filter_nil, List.filterMap_cons, List.filterMap_nil]
    cases inP t y.entries <;> rfl
  · rfl
theorem price_app {g : Int} {l : List Issue} (y : Issue) {on a : Int} {t : Item} (h : priceP ⟨g, l⟩ on t = some a) : ∃ b, priceP ⟨g, l ++ [y]⟩ on t = some b ∧ b ≤ a := by
  obtain ⟨h1, _⟩ := price_some h
  have hm : a ∈ offers on t (l ++ [y]) := by rw [offers_app]; exact List.mem_append_left _ h1
  cases hp : priceP ⟨g, l ++ [y]⟩ on t with
  | none =>
    have := price_none hp
    rw [show offers on t (l ++ [y]) = [] from this] at hm
    cases hm
  | some b => exact ⟨b, rfl, (price_some hp).2 a hm⟩
theorem encI_rows (l : List Issue) : ∀ row ∈ l.map encI, row.length = 4 ∧ cells1 row = true := fun row h => by
  obtain ⟨y, _, rfl⟩ := List.mem_map.1 h
  exact ⟨rfl, rfl⟩
theorem ml_take (l : List (Int × Int)) (k : Nat) : (ml l).take k = ml (l.take k) := by simp [ml, List.map_take]
theorem more_law (r : Rack) (hr : okRack r) (y : Issue) (hy : okIssue y) (a b c d n : Int) : Fn E38 0 11 Tryd.f11 (Tryd.f11.body.getD .skip) [.agg (encR r), .agg (encI y), .agg [.int .i64 a, .int .i64 b, .int .i64 c, .int .i64 d], .int .i64 n] (.bool true) := by
  obtain ⟨g, l⟩ := r
  cases hk : rackOk ⟨g, l⟩ with
  | false => unfold Fn Tryd.f11; simp only [go_sem, Nat.reduceAdd, Nat.reduceSub, Nat.reduceMul, Nat.reduceEqDiff, Nat.reduceLT, Nat.reduceLeDiff, Nat.reduceBEq, Nat.reduceBNe, Int.reduceToNat, Int.reduceLE, Int.reduceLT, Int.reduceNe, Int.reduceNeg, reduceCtorEq, Int.reduceBEq, Int.reduceBNe, @callV_spec E38 42 s42 rfl, @callV_specT E38 42 s42 rfl, @stepV_spec E38 42 s42 rfl, @effV_spec E38 42 s42 rfl, s42, @callV_spec E38 27 s27 rfl, @callV_specT E38 27 s27 rfl, @stepV_spec E38 27 s27 rfl, @effV_spec E38 27 s27 rfl, s27, encR, encI, callSpec, hr, hk]
  | true =>
    have hG := rack_good hk
    have hl := hG.len
    simp only at hl
    by_cases h4 : l.length = 4
    · have h4' : (l.length : Int) = 4 := by omega
      unfold Fn Tryd.f11; simp only [go_sem, Nat.reduceAdd, Nat.reduceSub, Nat.reduceMul, Nat.reduceEqDiff, Nat.reduceLT, Nat.reduceLeDiff, Nat.reduceBEq, Nat.reduceBNe, Int.reduceToNat, Int.reduceLE, Int.reduceLT, Int.reduceNe, Int.reduceNeg, reduceCtorEq, Int.reduceBEq, Int.reduceBNe, @callV_spec E38 42 s42 rfl, @callV_specT E38 42 s42 rfl, @stepV_spec E38 42 s42 rfl, @effV_spec E38 42 s42 rfl, s42, @callV_spec E38 27 s27 rfl, @callV_specT E38 27 s27 rfl, @stepV_spec E38 27 s27 rfl, @effV_spec E38 27 s27 rfl, s27, encR, encI, callSpec, hr, hk, h4']
    · have h4' : ((l.length : Int) == 4) = false := by simp; omega
      obtain ⟨tok, hi'⟩ := someT_ok hG a b c d
      simp only at hi' tok
      have hcol : 0 ≤ (someT ⟨g, l⟩ a b c d).colour := by
        unfold itemOk at tok
        simp only [Bool.and_eq_true, decide_eq_true_eq] at tok; omega
      have hx : l.getD (someI ⟨g, l⟩ a) default ∈ l := by simp [List.getD_eq_getElem?_getD, hi']
      have xh := (hG.issues _ hx).held
      have xd := (hG.issues _ hx).days
      have hr2 : okRack ⟨g, l ++ [y]⟩ := by
        obtain ⟨r1, r2, r3⟩ := hr
        refine ⟨r1, by simp at r2 ⊢; omega, fun f hf => ?_⟩
        rcases List.mem_append.1 hf with hf | hf
        · exact r3 f hf
        · rw [List.mem_singleton.1 hf]; exact hy
      generalize hT : someT ⟨g, l⟩ a b c d = T at *
      generalize hI : someI ⟨g, l⟩ a = i at *
      have hii : (i : Int) < (l.length : Int) := by omega
      have hη : (⟨T.good, T.size, T.colour⟩ : Item) = T := rfl
      obtain ⟨f1, f2⟩ := lot_range (a := (l.getD i default).lo) (b := (l.getD i default).held) n xh.1
      generalize hon : lotF (l.getD i default).lo (l.getD i default).held n = on at *
      generalize hxx : l.getD i default = x at *
      have c1 : 0 ≤ x.lo := xd.1
      have c2 : x.lo ≤ 1000000000 := by omega
      have c3 : 0 ≤ x.held := by omega
      have c4 : x.held ≤ 1000000000 := by omega
      obtain ⟨u1, u2⟩ := spin_range (n := n) (m := 30) (by omega)
      have w1 : IntKind.i64.wrap (1 + spinF n 30) = 1 + spinF n 30 := wrap_id (by omega)
      have hrows := encI_rows l
      have hmap : List.map encI l ++ [[.int .i64 y.lo, .int .i64 y.hi, .int .i64 y.held, .sl (y.entries.map encE) false]] = (l ++ [y]).map encI := by simp [encI]
      have hla : (l ++ [y]).length = l.length + 1 := by simp
      have hpm := priceM_of hk (on := on) (by omega) tok
      have q0 : qMeans (on, on) (1 + spinF n 30) ⟨g, l⟩ = true := by simp only [qMeans, isDaysB, isNumB, Bool.and_eq_true, decide_eq_true_eq]; omega
      have hm : meansM ⟨g, l⟩ (on, on) (1 + spinF n 30) = (meansL ⟨g, l⟩ (on, on) (1 + spinF n 30) l.length, 0) := by
        unfold meansM; rw [if_pos hk, if_pos q0]
      generalize hnum : 1 + spinF n 30 = num at *
      have fin : ∀ (p e p' e' : Int) (L M : List (Int × Int)) (h' : Int), priceM ⟨g, l⟩ on T = (p, e) → priceM ⟨g, l ++ [y]⟩ on T = (p', e') → meansM ⟨g, l⟩ (on, on) num = (L, 0) → meansM ⟨g, l ++ [y]⟩ (on, on) num = (M, h') →
          M.length ≤ 4 → L.length ≤ 4 → (e' = 10 → p' = 0 ∧ h' = 10 ∧ M = []) → (e' ≠ 10 → L.length ≤ M.length ∧ h' = 0 ∧ M.take L.length = L ∧ (e ≠ 0 ∨ e' = 0 ∧ p' ≤ p)) →
          Fn E38 0 11 Tryd.f11 (Tryd.f11.body.getD .skip) [.agg (encR ⟨g, l⟩), .agg (encI y), .agg [.int .i64 a, .int .i64 b, .int .i64 c, .int .i64 d], .int .i64 n] (.bool true) := by
        intro p e p' e' L M h' z1 z2 z3 z4 z5 z6 z7 z8
        have y1 : (0 : Int) ≤ (L.length : Int) := by omega
        have y3 : L.length < 4611686018427387904 := by omega
        have y4 : M.length < 4611686018427387904 := by omega
        have hrow1 : ∀ row, row = [PV.int .i64 y.lo, .int .i64 y.hi, .int .i64 y.held, .sl (y.entries.map encE) false] → row.length = 4 ∧ cells1 row = true := fun row h => by rw [h]; exact ⟨rfl, rfl⟩
        unfold Fn Tryd.f11
        simp only [go_sem, Nat.reduceAdd, Nat.reduceSub, Nat.reduceMul, Nat.reduceEqDiff, Nat.reduceLT, Nat.reduceLeDiff, Nat.reduceBEq, Nat.reduceBNe, Int.reduceToNat, Int.reduceLE, Int.reduceLT, Int.reduceNe, Int.reduceNeg, reduceCtorEq, Int.reduceBEq, Int.reduceBNe, @callV_spec E38 42 s42 rfl, @callV_specT E38 42 s42 rfl, @stepV_spec E38 42 s42 rfl, @effV_spec E38 42 s42 rfl, s42, @callV_spec E38 48 s48 rfl, @callV_specT E38 48 s48 rfl, @stepV_spec E38 48 s48 rfl, @effV_spec E38 48 s48 rfl, s48, @callV_spec E38 43 sSpin rfl, @callV_specT E38 43 sSpin rfl, @stepV_spec E38 43 sSpin rfl, @effV_spec E38 43 sSpin rfl, sSpin, @callV_spec E38 44 sTo rfl, @callV_specT E38 44 sTo rfl, @stepV_spec E38 44 sTo rfl, @effV_spec E38 44 sTo rfl, sTo, @callV_spec E38 45 s45 rfl, @callV_specT E38 45 s45 rfl, @stepV_spec E38 45 s45 rfl, @effV_spec E38 45 s45 rfl, s45, @callV_spec E38 28 s28 rfl, @callV_specT E38 28 s28 rfl, @stepV_spec E38 28 s28 rfl, @effV_spec E38 28 s28 rfl, s28, @callV_spec E38 17 s17 rfl, @callV_specT E38 17 s17 rfl, @stepV_spec E38 17 s17 rfl, @effV_spec E38 17 s17 rfl, s17, encR, encI, encT, callSpec, hr, hr2, hk, hG, h4', hT, hI, app, rowsOf, hii, getD_mapN encI l i _ hi', hxx, c1, c2, c3, c4, lot_eq, hon, hη, w1, hmap, hla, hnum, z1, z2, z3, z4]
        refine ⟨hrows, by omega, hrow1, by omega, ?_⟩
        rw [condK_bool]
        refine ⟨fun hc => ?_, fun hc => ?_⟩
        · have e1 : e' = 10 := by simpa using hc
          obtain ⟨r1, r2, r3⟩ := z7 e1
          subst e1; subst r1; subst r2; subst r3
          simp only [go_sem, Nat.reduceAdd, Nat.reduceSub, Nat.reduceMul, Nat.reduceEqDiff, Nat.reduceLT, Nat.reduceLeDiff, Nat.reduceBEq, Nat.reduceBNe, Int.reduceToNat, Int.reduceLE, Int.reduceLT, Int.reduceNe, Int.reduceNeg, reduceCtorEq, Int.reduceBEq, Int.reduceBNe, @callV_spec E38 27 s27 rfl, @callV_specT E38 27 s27 rfl, @stepV_spec E38 27 s27 rfl, @effV_spec E38 27 s27 rfl, s27, ml_nil]
        · have e1 : e' ≠ 10 := by simpa using hc
          obtain ⟨r0, r1, r2, r3⟩ := z8 e1
          subst r1
          have y2 : (L.length : Int) ≤ (M.length : Int) := by omega
          have y5 : ((M.length : Int) ≥ (L.length : Int)) = True := eq_true y2
          by_cases he : e = 0
          · obtain ⟨s1, s2⟩ := r3.resolve_left (fun q => q he)
            subst he; subst s1
            simp only [go_sem, Nat.reduceAdd, Nat.reduceSub, Nat.reduceMul, Nat.reduceEqDiff, Nat.reduceLT, Nat.reduceLeDiff, Nat.reduceBEq, Nat.reduceBNe, Int.reduceToNat, Int.reduceLE, Int.reduceLT, Int.reduceNe, Int.reduceNeg, reduceCtorEq, Int.reduceBEq, Int.reduceBNe, @callV_spec E38 19 s19 rfl, @callV_specT E38 19 s19 rfl, @stepV_spec E38 19 s19 rfl, @effV_spec E38 19 s19 rfl, s19, @callV_spec E38 27 s27 rfl, @callV_specT E38 27 s27 rfl, @stepV_spec E38 27 s27 rfl, @effV_spec E38 27 s27 rfl, s27, callSpec, ml_length, ml_take, dec_ml, r2, y1, y2, y3, y4, y5, big, s2]
          · have he' : (e != 0) = true := by simpa using he
            simp only [go_sem, Nat.reduceAdd, Nat.reduceSub, Nat.reduceMul, Nat.reduceEqDiff, Nat.reduceLT, Nat.reduceLeDiff, Nat.reduceBEq, Nat.reduceBNe, Int.reduceToNat, Int.reduceLE, Int.reduceLT, Int.reduceNe, Int.reduceNeg, reduceCtorEq, Int.reduceBEq, Int.reduceBNe, @callV_spec E38 19 s19 rfl, @callV_specT E38 19 s19 rfl, @stepV_spec E38 19 s19 rfl, @effV_spec E38 19 s19 rfl, s19, @callV_spec E38 27 s27 rfl, @callV_specT E38 27 s27 rfl, @stepV_spec E38 27 s27 rfl, @effV_spec E38 27 s27 rfl, s27, callSpec, ml_length, ml_take, dec_ml, r2, y1, y2, y3, y4, y5, big, he']
      have hL4 := meansL_len ⟨g, l⟩ (on, on) num l.length
      cases hk2 : rackOk ⟨g, l ++ [y]⟩ with
      | false =>
        have z2 : priceM ⟨g, l ++ [y]⟩ on T = (0, 10) := by unfold priceM asked3; rw [hk2]; rfl
        have z4 : meansM ⟨g, l ++ [y]⟩ (on, on) num = ([], 10) := by unfold meansM; rw [hk2]; rfl
        obtain ⟨p, e, hp⟩ : ∃ p e, priceM ⟨g, l⟩ on T = (p, e) := ⟨_, _, rfl⟩
        exact fin p e 0 10 _ [] 10 hp z2 hm z4 (by simp) (by omega) (fun _ => ⟨rfl, rfl, rfl⟩) (fun q => absurd rfl q)
      | true =>
        have hpm2 := priceM_of hk2 (on := on) (by omega) tok
        have q2 : qMeans (on, on) num ⟨g, l ++ [y]⟩ = true := q0
        have z4 : meansM ⟨g, l ++ [y]⟩ (on, on) num = (meansL ⟨g, l ++ [y]⟩ (on, on) num (l.length + 1), 0) := by
          unfold meansM; rw [if_pos hk2, if_pos q2]; simp only [List.length_append, List.length_cons, List.length_nil, Nat.zero_add]
        have hM4 := meansL_len ⟨g, l ++ [y]⟩ (on, on) num (l.length + 1)
        have hpre := meansL_succ ⟨g, l ++ [y]⟩ (on, on) num l.length
        rw [meansL_app g l y (on, on) num l.length (Nat.le_refl _)] at hpre
        rw [hpre] at z4 hM4
        generalize (meanOf ⟨g, l ++ [y]⟩ (on, on) num l.length).toList = tl at *
        generalize meansL ⟨g, l⟩ (on, on) num l.length = L at *
        have ht : (L ++ tl).take L.length = L := by simp
        have hln : L.length ≤ (L ++ tl).length := by simp
        cases hp : priceP ⟨g, l⟩ on T with
        | none =>
          rw [hp] at hpm
          obtain ⟨p', e', hp', hne⟩ : ∃ p' e', priceM ⟨g, l ++ [y]⟩ on T = (p', e') ∧ e' ≠ 10 := by
            rw [hpm2]; cases priceP ⟨g, l ++ [y]⟩ on T <;> exact ⟨_, _, rfl, by decide⟩
          exact fin 0 4 p' e' L _ 0 hpm hp' hm z4 (by omega) (by omega) (fun q => absurd q hne) (fun _ => ⟨hln, rfl, ht, .inl (by decide)⟩)
        | some a =>
          rw [hp] at hpm
          obtain ⟨b', hb, hle⟩ := price_app y hp
          rw [hb] at hpm2
          exact fin a 0 b' 0 L _ 0 hpm hpm2 hm z4 (by omega) (by omega) (fun q => absurd q (by decide)) (fun _ => ⟨hln, rfl, ht, .inr ⟨rfl, hle⟩⟩)
end Wb
