import Derived.Test.YtaihkflmkopliaaDoorS
set_option linter.unusedVariables false
set_option linter.unusedSimpArgs false
/- Lines that numbers choose. -/
namespace Wb
open Go Go.Proofs Enc Row
set_option linter.unusedSimpArgs false
set_option linter.unusedVariables false
set_option maxRecDepth 20000
set_option maxHeartbeats 4000000
theorem app_oneF {E : Env} {K K2 : Key} {t e sz v2 : Nat} {p : PV} {rs : List (List PV)} {row : List PV} {ex ro : Bool} {q : Prop} {Q : PV → Heap → List Key → List Key → Prop} {H : Heap} (hq : q) (hk : (E.ti t).kind = .slice e) (hsz : (E.ti e).size = sz) (h0 : 0 < sz) (hb0 : 0 < (E.ti e).bytes)
    (hx : H K2 = some (.rows sz [row] v2 ro)) (hO : Own H (fun K' => K' = K) p sz rs) (hb : (rs.length + 1) * (E.ti e).bytes ≤ 35184372088832) (hrs : ∀ row ∈ rs, row.length = sz) (hrow : row.length = sz ∧ cells1 row = true)
    (hQ : ∀ p' H' R', (R' = [K2] ∨ R' = [K, K2]) → Own H' (fun K' => K' = K) p' sz (rs ++ [row]) → (∀ K', K' ≠ K → H' K' = H K') → Q p' H' R' [K]) : (app E K t p (.sref K2 v2 sz 1 ex)).wpF q Q H [] [] := by
  subst hsz
  unfold app
  rw [hk]
  refine ⟨fun _ => h0, ?_⟩
  simp only [rowsOf, frz, Prg.wpF, hx]
  refine ⟨fun _ => by simp, fun _ => fun r hr => by rw [List.mem_singleton.1 hr]; exact hrow, ?_⟩
  rcases hO with ⟨rfl, rfl⟩ | ⟨K', v, rfl, rfl, h2⟩
  · refine ⟨fun _ => ⟨rfl, .inl (List.cons_ne_nil _ _), fun row h => (by cases h), h0, hb0, hb⟩, fun v => rfl, ?_⟩
    refine hQ _ _ _ (.inl rfl) (.inr ⟨K, verOf H K + 1, rfl, by simp, by simp [Heap.set]⟩) fun K' hK' => set_at_ne _ _ hK'
  · simp only [Prg.wpF, h2]
    refine ⟨fun _ => ⟨trivial, trivial, trivial, trivial, h0, hb0, hb⟩, fun _ => trivial, hq, ?_⟩
    exact hQ _ _ _ (.inr rfl) (.inr ⟨K', v + 1, rfl, by simp, by simp [Heap.set]⟩) fun K2 hK2 => set_at_ne _ _ hK2
theorem own_lenN {H : Heap} {S : Key → Prop} {p : PV} {sz : Nat} {rs : List (List PV)} (h : Own H S p sz rs) (E : Env) (t : Nat) : len E t p = lenK (E.ti t).kind rs.length := by
  rcases h with ⟨rfl, rfl⟩ | ⟨K, v, _, rfl, _⟩
  · rw [len_sl]
  · rw [len_sref]
def lineAt (r : Rack) (bits : List Int) (m : Nat) : Line :=
  ⟨someT r (bits.getD (5 * m) 0) (bits.getD (5 * m + 1) 0) (bits.getD (5 * m + 2) 0) (bits.getD (5 * m + 3) 0), 1 + spinF (bits.getD (5 * m + 4) 0) 40⟩
def linesN (bits : List Int) : Nat := min 20 (bits.length / 5)
def linesL (r : Rack) (bits : List Int) (m : Nat) : List Line := (List.range m).map (lineAt r bits)
theorem linesL_succ (r : Rack) (bits : List Int) (m : Nat) : linesL r bits (m + 1) = linesL r bits m ++ [lineAt r bits m] := by unfold linesL; rw [List.range_succ, List.map_append]; rfl
theorem linesL_len (r : Rack) (bits : List Int) (m : Nat) : (linesL r bits m).length = m := by unfold linesL; simp
def linesM (r : Rack) (bits : List Int) : List Line := linesL r bits (linesN bits)
theorem lines_fn (r : Rack) (hG : GRack r) (bits : List Int) (hbl : big bits.length) : Fn E38 0 51 Tryd.f51 (Tryd.f51.body.getD .skip) [.agg (encR r), .sl (il bits) false] (.sl ((linesM r bits).map encL) false) := by
  have hlm : linesM r bits = linesL r bits (linesN bits) := rfl
  have hlen := linesL_len r bits
  have hsu := linesL_succ r bits
  have hat : ∀ m, lineAt r bits m = ⟨someT r (bits.getD (5 * m) 0) (bits.getD (5 * m + 1) 0) (bits.getD (5 * m + 2) 0) (bits.getD (5 * m + 3) 0), 1 + spinF (bits.getD (5 * m + 4) 0) 40⟩ := fun _ => rfl
  have hnn : linesN bits = min 20 (bits.length / 5) := rfl
  generalize linesN bits = N at *
  obtain ⟨g, l⟩ := r
  unfold big at hbl
  unfold Fn Tryd.f51
  simp only [go_sem, Nat.reduceAdd, Nat.reduceSub, Nat.reduceMul, Nat.reduceEqDiff, Nat.reduceLT, Nat.reduceLeDiff, Nat.reduceBEq, Nat.reduceBNe, Int.reduceToNat, Int.reduceLE, Int.reduceLT, Int.reduceNe, Int.reduceNeg, reduceCtorEq, Int.reduceBEq, Int.reduceBNe, encR]
  refine ev_loopS [1, 2] (fun x : Nat × PV => [(5, x.2), (6, .int .i64 ((5 * x.1 : Nat) : Int))])
    (fun x H => x.1 ≤ N ∧ H (([], 51000000) : Key) = some (.cells (encR ⟨g, l⟩) 1 false) ∧ Own H (fun K => K = ([], 51006011)) x.2 4 ((linesL ⟨g, l⟩ bits x.1).map encL))
    (fun x => N - x.1) (0, .sl [] true) ?_ ⟨Nat.zero_le _, ?_, .nil⟩ ?_
  · simp only [go_sem, Nat.reduceAdd, Nat.reduceSub, Nat.reduceMul, Nat.reduceEqDiff, Nat.reduceLT, Nat.reduceLeDiff, Nat.reduceBEq, Nat.reduceBNe, Int.reduceToNat, Int.reduceLE, Int.reduceLT, Int.reduceNe, Int.reduceNeg, reduceCtorEq, Int.reduceBEq, Int.reduceBNe, Nat.mul_zero, Int.natCast_zero]
  · simp only [go_sem, Nat.reduceAdd, Nat.reduceSub, Nat.reduceMul, Nat.reduceEqDiff, Nat.reduceLT, Nat.reduceLeDiff, Nat.reduceBEq, Nat.reduceBNe, Int.reduceToNat, Int.reduceLE, Int.reduceLT, Int.reduceNe, Int.reduceNeg, reduceCtorEq, Int.reduceBEq, Int.reduceBNe, encR]
  · simp only [go_sem, Nat.reduceAdd, Nat.reduceSub, Nat.reduceMul, Nat.reduceEqDiff, Nat.reduceLT, Nat.reduceLeDiff, Nat.reduceBEq, Nat.reduceBNe, Int.reduceToNat, Int.reduceLE, Int.reduceLT, Int.reduceNe, Int.reduceNeg, reduceCtorEq, Int.reduceBEq, Int.reduceBNe]
    intro K x H ⟨hi, h1, h3⟩ hK hE
    obtain ⟨m, p⟩ := x
    simp only at hi h3
    dsimp only
    obtain ⟨ex, qs, hz1, hz2, hks⟩ := h3.frz
    obtain ⟨hT, hC, hP, hV, hU⟩ := OwnTaint h3
    have h1' := h1
    simp only [encR] at h1'
    have wm : IntKind.i64.wrap (((5 * m : Nat) : Int) + 4) = ((5 * m + 4 : Nat) : Int) := by
      rw [show ((5 * m + 4 : Nat) : Int) = ((5 * m : Nat) : Int) + 4 by omega]; exact wrap_id (by omega)
    have hol := own_lenN h3
    have hlm2 := hlen m
    have hmi : ((linesL ⟨g, l⟩ bits m).map encL).length = m := by rw [List.length_map, hlm2]
    rw [hmi] at hol
    simp only [go_sem, Nat.reduceAdd, Nat.reduceSub, Nat.reduceMul, Nat.reduceEqDiff, Nat.reduceLT, Nat.reduceLeDiff, Nat.reduceBEq, Nat.reduceBNe, Int.reduceToNat, Int.reduceLE, Int.reduceLT, Int.reduceNe, Int.reduceNeg, reduceCtorEq, Int.reduceBEq, Int.reduceBNe, wm, il_length, hT, hC, hP, hV, hU, hol]
    rw [condK_bool]
    refine ⟨fun h => ?_, fun h => ?_⟩
    · simp only [Bool.and_eq_true, decide_eq_true_eq] at h
      have h' : m < N := by rw [Nat.min_def] at hnn; split at hnn <;> omega
      have w0 : IntKind.i64.wrap (((5 * m : Nat) : Int) + 1) = ((5 * m + 1 : Nat) : Int) := by rw [show ((5 * m + 1 : Nat) : Int) = ((5 * m : Nat) : Int) + 1 by omega]; exact wrap_id (by omega)
      have w1 : IntKind.i64.wrap (((5 * m : Nat) : Int) + 2) = ((5 * m + 2 : Nat) : Int) := by rw [show ((5 * m + 2 : Nat) : Int) = ((5 * m : Nat) : Int) + 2 by omega]; exact wrap_id (by omega)
      have w2 : IntKind.i64.wrap (((5 * m : Nat) : Int) + 3) = ((5 * m + 3 : Nat) : Int) := by rw [show ((5 * m + 3 : Nat) : Int) = ((5 * m : Nat) : Int) + 3 by omega]; exact wrap_id (by omega)
      have w5 : IntKind.i64.wrap (((5 * m : Nat) : Int) + 5) = ((5 * (m + 1) : Nat) : Int) := by rw [show ((5 * (m + 1) : Nat) : Int) = ((5 * m : Nat) : Int) + 5 by omega]; exact wrap_id (by omega)
      have b0 : 5 * m < bits.length := by omega
      have b1 : 5 * m + 1 < bits.length := by omega
      have b2 : 5 * m + 2 < bits.length := by omega
      have b3 : 5 * m + 3 < bits.length := by omega
      have b4 : 5 * m + 4 < bits.length := by omega
      have i0 : ((5 * m : Nat) : Int) < (bits.length : Int) := by omega
      have i1 : ((5 * m + 1 : Nat) : Int) < (bits.length : Int) := by omega
      have i2 : ((5 * m + 2 : Nat) : Int) < (bits.length : Int) := by omega
      have i3 : ((5 * m + 3 : Nat) : Int) < (bits.length : Int) := by omega
      have i4 : ((5 * m + 4 : Nat) : Int) < (bits.length : Int) := by omega
      obtain ⟨s1, s2⟩ := spin_range (n := bits.getD (5 * m + 4) 0) (m := 40) (by omega)
      have w6 : IntKind.i64.wrap (1 + spinF (bits.getD (5 * m + 4) 0) 40) = 1 + spinF (bits.getD (5 * m + 4) 0) 40 := wrap_id (by omega)
      have hsm := hsu m
      rw [hat m] at hsm
      have hη : ∀ T : Item, (⟨T.good, T.size, T.colour⟩ : Item) = T := fun _ => rfl
      generalize hTT : someT ⟨g, l⟩ (bits.getD (5 * m) 0) (bits.getD (5 * m + 1) 0) (bits.getD (5 * m + 2) 0) (bits.getD (5 * m + 3) 0) = T at *
      generalize hmm : 1 + spinF (bits.getD (5 * m + 4) 0) 40 = mm at *
      simp only [go_sem, Nat.reduceAdd, Nat.reduceSub, Nat.reduceMul, Nat.reduceEqDiff, Nat.reduceLT, Nat.reduceLeDiff, Nat.reduceBEq, Nat.reduceBNe, Int.reduceToNat, Int.reduceLE, Int.reduceLT, Int.reduceNe, Int.reduceNeg, reduceCtorEq, Int.reduceBEq, Int.reduceBNe, @callV_spec E38 48 s48 rfl, @callV_specT E38 48 s48 rfl, @stepV_spec E38 48 s48 rfl, @effV_spec E38 48 s48 rfl, s48, @callV_spec E38 43 sSpin rfl, @callV_specT E38 43 sSpin rfl, @stepV_spec E38 43 sSpin rfl, @effV_spec E38 43 sSpin rfl, sSpin, callSpec, h1', wm, w0, w1, w2, b0, b1, b2, b3, b4, i0, i1, i2, i3, i4, il_get, il_length, hG, hTT, encT, w6, hmm, hT, hC, hP, hV, hU]
      refine app_oneF trivial rfl rfl (by decide) (by decide) (set_at_eq _ _ _) (h3.frame fun K hK => ?_) ?_ ?_ ⟨rfl, rfl⟩ fun p' H' R' hR hO hF => ?_
      · subst hK; simp only [go_sem, Nat.reduceAdd, Nat.reduceSub, Nat.reduceMul, Nat.reduceEqDiff, Nat.reduceLT, Nat.reduceLeDiff, Nat.reduceBEq, Nat.reduceBNe, Int.reduceToNat, Int.reduceLE, Int.reduceLT, Int.reduceNe, Int.reduceNeg, reduceCtorEq, Int.reduceBEq, Int.reduceBNe]
      · rw [hmi]
        have : (E38.ti 85).bytes = 32 := rfl
        rw [this]; omega
      · intro row hrow
        obtain ⟨q, _, rfl⟩ := List.mem_map.1 hrow; rfl
      · have hO' : Own H' (fun K => K = ([], 51006011)) p' 4 ((linesL ⟨g, l⟩ bits (m + 1)).map encL) := by
          rw [hsm, List.map_append]; exact hO
        obtain ⟨hT', hC', hP', hV', hU'⟩ := OwnTaint hO
        rcases hR with rfl | rfl
        · simp only [go_sem, Nat.reduceAdd, Nat.reduceSub, Nat.reduceMul, Nat.reduceEqDiff, Nat.reduceLT, Nat.reduceLeDiff, Nat.reduceBEq, Nat.reduceBNe, Int.reduceToNat, Int.reduceLE, Int.reduceLT, Int.reduceNe, Int.reduceNeg, reduceCtorEq, Int.reduceBEq, Int.reduceBNe, hT', hC', hP', hV', hU']
          refine hK (m + 1, p') _ _ ?_ ⟨h', ?_, hO'⟩ (by simp only; omega)
          · simp only [go_sem, Nat.reduceAdd, Nat.reduceSub, Nat.reduceMul, Nat.reduceEqDiff, Nat.reduceLT, Nat.reduceLeDiff, Nat.reduceBEq, Nat.reduceBNe, Int.reduceToNat, Int.reduceLE, Int.reduceLT, Int.reduceNe, Int.reduceNeg, reduceCtorEq, Int.reduceBEq, Int.reduceBNe, w5]
          · rw [hF _ (by simp)]; simp only [go_sem, Nat.reduceAdd, Nat.reduceSub, Nat.reduceMul, Nat.reduceEqDiff, Nat.reduceLT, Nat.reduceLeDiff, Nat.reduceBEq, Nat.reduceBNe, Int.reduceToNat, Int.reduceLE, Int.reduceLT, Int.reduceNe, Int.reduceNeg, reduceCtorEq, Int.reduceBEq, Int.reduceBNe, h1]
        · simp only [go_sem, Nat.reduceAdd, Nat.reduceSub, Nat.reduceMul, Nat.reduceEqDiff, Nat.reduceLT, Nat.reduceLeDiff, Nat.reduceBEq, Nat.reduceBNe, Int.reduceToNat, Int.reduceLE, Int.reduceLT, Int.reduceNe, Int.reduceNeg, reduceCtorEq, Int.reduceBEq, Int.reduceBNe, hT', hC', hP', hV', hU']
          refine hK (m + 1, p') _ _ ?_ ⟨h', ?_, hO'⟩ (by simp only; omega)
          · simp only [go_sem, Nat.reduceAdd, Nat.reduceSub, Nat.reduceMul, Nat.reduceEqDiff, Nat.reduceLT, Nat.reduceLeDiff, Nat.reduceBEq, Nat.reduceBNe, Int.reduceToNat, Int.reduceLE, Int.reduceLT, Int.reduceNe, Int.reduceNeg, reduceCtorEq, Int.reduceBEq, Int.reduceBNe, w5]
          · rw [hF _ (by simp)]; simp only [go_sem, Nat.reduceAdd, Nat.reduceSub, Nat.reduceMul, Nat.reduceEqDiff, Nat.reduceLT, Nat.reduceLeDiff, Nat.reduceBEq, Nat.reduceBNe, Int.reduceToNat, Int.reduceLE, Int.reduceLT, Int.reduceNe, Int.reduceNeg, reduceCtorEq, Int.reduceBEq, Int.reduceBNe, h1]
    · have hmN : m = N := by
        simp only [Bool.and_eq_false_iff, decide_eq_false_iff_not] at h
        rw [Nat.min_def] at hnn; split at hnn <;> omega
      subst hmN
      refine hE _ _ _ (by simp) ?_
      rcases h3 with ⟨e1, rfl⟩ | ⟨K', v', rfl, rfl, h5⟩
      · simp only [go_sem, Nat.reduceAdd, Nat.reduceSub, Nat.reduceMul, Nat.reduceEqDiff, Nat.reduceLT, Nat.reduceLeDiff, Nat.reduceBEq, Nat.reduceBNe, Int.reduceToNat, Int.reduceLE, Int.reduceLT, Int.reduceNe, Int.reduceNeg, reduceCtorEq, Int.reduceBEq, Int.reduceBNe, hlm, e1]
      · simp only [go_sem, Nat.reduceAdd, Nat.reduceSub, Nat.reduceMul, Nat.reduceEqDiff, Nat.reduceLT, Nat.reduceLeDiff, Nat.reduceBEq, Nat.reduceBNe, Int.reduceToNat, Int.reduceLE, Int.reduceLT, Int.reduceNe, Int.reduceNeg, reduceCtorEq, Int.reduceBEq, Int.reduceBNe, hlm, h5, List.length_map]
def s51L : Spec := spec2 (fun (r : Rack) (bits : List Int) => GRack r ∧ big bits.length) (fun r bits => .sl ((linesM r bits).map encL) false)
theorem s51L_ok : SpecOK Tryd.prog glB 51 s51L := spec2_ok E38_ok Tryd.func51 rfl (by kernel_rfl) fun r bits h => lines_fn r h.1 bits h.2
def E41t : List (Nat × Spec) := [(51, s51L)] ++ E38t
theorem E41t_ok : AllOK E41t := ⟨⟨s51L_ok, Tryd.call51⟩, E38t_ok⟩
noncomputable def E41 : Env := mkE E41t []
theorem E41_ok : EnvOK Tryd.prog E41 := envOK E41t_ok trivial
theorem E41_ti {t : Nat} : E41.ti t = ti t := rfl
theorem E41_q0 : (E41).eqt 152 = true := rfl
theorem E41_q1 : (E41).eqt 69 = true := rfl
theorem E41_q2 : (E41).keyt 3 = true := rfl
theorem E41_q3 : (E41).keyt 108 = true := rfl
attribute [go_sem] E41_ti E41_q0 E41_q1 E41_q2 E41_q3
end Wb
/- BookAdded. -/
namespace Wb
open Go Go.Proofs Enc Row
set_option linter.unusedSimpArgs false
set_option linter.unusedVariables false
set_option maxRecDepth 20000
set_option maxHeartbeats 4000000
def oneV (r : Rack) (on : Int) (x : Line) : Int := match priceP r on x.item with
  | some p => p * (x.many - x.many / 12)
  | none => 0
def okV (r : Rack) (on : Int) (x : Line) : Bool := (priceP r on x.item).isSome
def sumV (r : Rack) (on : Int) (l : List Line) : Int := l.foldl (fun a x => a + oneV r on x) 0
theorem sumV_from (r : Rack) (on : Int) : ∀ (l : List Line) (a : Int), l.foldl (fun a x => a + oneV r on x) a = a + sumV r on l
  | [], a => by simp [sumV]
  | x :: l, a => by
    unfold sumV
    rw [List.foldl_cons, List.foldl_cons, sumV_from r on l, sumV_from r on l (0 + _)]; omega
theorem sumF_eq (r : Rack) (on : Int) : ∀ (l : List Line) (a : Int), sumF r on a l = if l.all (okV r on) then some (a + sumV r on l) else none
  | [], a => by simp [sumF, sumV]
  | x :: l, a => by
    have hc : sumV r on (x :: l) = oneV r on x + sumV r on l := by
      show List.foldl _ _ _ = _
      rw [List.foldl_cons, sumV_from]; omega
    have e1 : okV r on x = (priceP r on x.item).isSome := rfl
    have e2 : oneV r on x = match priceP r on x.item with
      | some p => p * (x.many - x.many / 12)
      | none => 0 := rfl
    rw [sumF, List.all_cons, hc, e1, e2]
    cases priceP r on x.item with
    | none => simp
    | some p =>
      simp only [Option.isSome_some, Bool.true_and]
      rw [sumF_eq r on l]
      by_cases h : l.all (okV r on) = true
      · rw [if_pos h, if_pos h]; congr 1; omega
      · rw [if_neg h, if_neg h]
theorem sumM_of {r : Rack} (hk : rackOk r = true) {on : Int} (ho : 0 ≤ on ∧ on ≤ 20000) {l : List Line} (hl : areLinesB r.goods l = true) : sumM r on l = if l.all (okV r on) then (sumV r on l, 0) else (0, 4) := by
  unfold sumM asked3
  rw [if_pos hk, if_pos (by unfold qSum isDayB; rw [hl]; simp; omega), sumF_eq]
  by_cases h : l.all (okV r on) = true
  · rw [if_pos h, if_pos h]; simp
  · rw [if_neg h, if_neg h]
theorem sumV_take {r : Rack} {on : Int} {l : List Line} {i : Nat} (h : i < l.length) : sumV r on (l.take (i + 1)) = sumV r on (l.take i) + oneV r on (l.getD i default) := by
  unfold sumV
  rw [List.take_succ_eq_append_getElem h, List.foldl_append]
  simp [h]
theorem allV_take {r : Rack} {on : Int} {l : List Line} {i : Nat} (h : i < l.length) : (l.take (i + 1)).all (okV r on) = ((l.take i).all (okV r on) && okV r on (l.getD i default)) := by
  rw [List.take_succ_eq_append_getElem h, List.all_append]
  simp [h]
theorem oneV_bound {r : Rack} (hG : GRack r) {on : Int} {x : Line} (hx : 1 ≤ x.many ∧ x.many ≤ 1000) : 0 ≤ oneV r on x ∧ oneV r on x ≤ 100000000 := by
  unfold oneV
  cases h : priceP r on x.item with
  | none => simp
  | some p =>
    have := price_pos hG h
    have h1 : 0 ≤ x.many - x.many / 12 := by omega
    have h2 : x.many - x.many / 12 ≤ 1000 := by omega
    have h3 := Int.mul_nonneg (a := p) (b := x.many - x.many / 12) (by omega) h1
    have h4 := Int.mul_le_mul (show p ≤ 100000 by omega) h2 h1 (by omega)
    simp only; omega
theorem sumV_bound {r : Rack} (hG : GRack r) {on : Int} : ∀ l : List Line, (∀ x ∈ l, 1 ≤ x.many ∧ x.many ≤ 1000) → 0 ≤ sumV r on l ∧ sumV r on l ≤ 100000000 * l.length
  | [], _ => by simp [sumV]
  | x :: l, h => by
    have hc : sumV r on (x :: l) = oneV r on x + sumV r on l := by
      show List.foldl _ _ _ = _
      rw [List.foldl_cons, sumV_from]; omega
    have h1 := oneV_bound hG (on := on) (h x (by simp))
    have h2 := sumV_bound hG (on := on) l fun y hy => h y (by simp [hy])
    rw [hc, List.length_cons, Int.natCast_add, Int.mul_add]; omega
theorem linesM_ok {r : Rack} (hG : GRack r) (bits : List Int) : (linesM r bits).length ≤ 20 ∧ ∀ x ∈ linesM r bits, itemOk r.goods x.item.good x.item.size x.item.colour = true ∧ 1 ≤ x.many ∧ x.many ≤ 40 := by
  unfold linesM
  refine ⟨by rw [linesL_len]; unfold linesN; exact Nat.min_le_left _ _, fun x hx => ?_⟩
  unfold linesL at hx
  obtain ⟨m, _, rfl⟩ := List.mem_map.1 hx
  unfold lineAt
  obtain ⟨s1, s2⟩ := spin_range (n := bits.getD (5 * m + 4) 0) (m := 40) (by omega)
  exact ⟨(someT_ok hG _ _ _ _).1, by simp only; omega, by simp only; omega⟩
theorem areLines_of {g : Int} {l : List Line} (h1 : l.length ≤ 20) (h2 : ∀ x ∈ l, itemOk g x.item.good x.item.size x.item.colour = true ∧ 1 ≤ x.many ∧ x.many ≤ 1000) : areLinesB g l = true := by
  unfold areLinesB
  rw [Bool.and_eq_true, List.all_eq_true]
  refine ⟨by simp; omega, fun x hx => ?_⟩
  obtain ⟨h3, h4, h5⟩ := h2 x hx
  unfold lineOk
  rw [h3]; simp; omega
/-- A piece more. -/
theorem dozen_more (p m : Int) (h : 1 ≤ m) : if (m + 1) % 12 = 0 then p * ((m + 1) - (m + 1) / 12) = p * (m - m / 12) else p * ((m + 1) - (m + 1) / 12) = p * (m - m / 12) + p := by
  split
  · congr 1; omega
  · rw [show (m + 1) - (m + 1) / 12 = (m - m / 12) + 1 by omega, Int.mul_add, Int.mul_one]
end Wb
/- BookAdded: the walk. -/
namespace Wb
open Go Go.Proofs Enc Row
set_option linter.unusedSimpArgs false
set_option linter.unusedVariables false
set_option maxRecDepth 20000
set_option maxHeartbeats 4000000
theorem sumM_one {r : Rack} (hk : rackOk r = true) {on : Int} (ho : 0 ≤ on ∧ on ≤ 20000) {t : Item} {m : Int} (ht : itemOk r.goods t.good t.size t.colour = true) (hm : 1 ≤ m ∧ m ≤ 1000) :
    sumM r on [⟨t, m⟩] = match priceP r on t with | some p => (p * (m - m / 12), 0) | none => (0, 4) := by
  rw [sumM_of hk ho (areLines_of (by simp) fun x hx => by rw [List.mem_singleton.1 hx]; exact ⟨ht, hm⟩)]
  unfold sumV okV oneV
  simp only [List.all_cons, List.all_nil, Bool.and_true, List.foldl_cons, List.foldl_nil]
  cases priceP r on t <;> simp
theorem dec_line1 (a b c d : Int) (ex : Bool) : (dec (.sl [[.int .i64 a, .int .i64 b, .int .i64 c, .int .i64 d]] ex) : Option (List Line)) = some [⟨⟨a, b, c⟩, d⟩] := rfl
theorem big_line1 (x : Line) : big [x].length = True := eq_true (by unfold big; simp)
theorem slice_one {α : Type} (l : List α) {i : Nat} (h : i < l.length) (d : α) : (l.take (i + 1)).drop i = [l.getD i d] := by
  rw [List.drop_take, show i + 1 - i = 1 by omega, List.drop_eq_getElem_cons h, List.take_succ_cons, List.take_zero, List.getD_eq_getElem?_getD, List.getElem?_eq_getElem h]
  rfl
theorem added_law (r : Rack) (hr : okRack r) (bits : List Int) (hbl : big bits.length) (on : Int) : Fn E41 0 13 Tryd.f13 (Tryd.f13.body.getD .skip) [.agg (encR r), .sl (il bits) false, .int .i64 on] (.bool true) := by
  obtain ⟨g, l⟩ := r
  cases hk : rackOk ⟨g, l⟩ with
  | false => unfold Fn Tryd.f13; simp only [go_sem, Nat.reduceAdd, Nat.reduceSub, Nat.reduceMul, Nat.reduceEqDiff, Nat.reduceLT, Nat.reduceLeDiff, Nat.reduceBEq, Nat.reduceBNe, Int.reduceToNat, Int.reduceLE, Int.reduceLT, Int.reduceNe, Int.reduceNeg, reduceCtorEq, Int.reduceBEq, Int.reduceBNe, @callV_spec E41 42 s42 rfl, @callV_specT E41 42 s42 rfl, @stepV_spec E41 42 s42 rfl, @effV_spec E41 42 s42 rfl, s42, @callV_spec E41 27 s27 rfl, @callV_specT E41 27 s27 rfl, @stepV_spec E41 27 s27 rfl, @effV_spec E41 27 s27 rfl, s27, encR, callSpec, hr, hk]
  | true =>
    have hG := rack_good hk
    obtain ⟨p1, p2⟩ := spin_range (n := on) (m := 800) (by omega)
    generalize hD : spinF on 800 = D at *
    obtain ⟨l1, l2⟩ := linesM_ok hG bits
    generalize hL : linesM ⟨g, l⟩ bits = L at *
    have hsum := sumM_of hk (on := D) (by omega) (areLines_of l1 fun x hx => ⟨(l2 x hx).1, by have := (l2 x hx).2; omega⟩)
    have hLb : big L.length = True := eq_true (by unfold big; omega)
    have hdl : (dec (.sl (L.map encL) false) : Option (List Line)) = some L := drows_rows L
    have hpm := fun (t : Item) h => priceM_of hk (on := D) (by omega) (t := t) h
    have hone := fun (t : Item) (m : Int) h1 h2 => sumM_one hk (on := D) (by omega) (t := t) (m := m) h1 h2
    have hbd := fun (m : List Line) h => sumV_bound hG (on := D) m h
    have hmb : ∀ i, ∀ x ∈ L.take i, 1 ≤ x.many ∧ x.many ≤ 1000 := fun i x hx => by have := (l2 x (List.mem_of_mem_take hx)).2; omega
    unfold Fn Tryd.f13
    obtain ⟨A, e, hAe, hc⟩ : ∃ A e, sumM ⟨g, l⟩ D L = (A, e) ∧ ((e = 0 ∧ A = sumV ⟨g, l⟩ D L ∧ L.all (okV ⟨g, l⟩ D) = true) ∨ (e = 4 ∧ A = 0 ∧ L.all (okV ⟨g, l⟩ D) = false)) := by
      cases ha : L.all (okV ⟨g, l⟩ D) with
      | true => exact ⟨_, _, by rw [hsum, if_pos ha], .inl ⟨rfl, rfl, rfl⟩⟩
      | false => exact ⟨_, _, by rw [hsum, if_neg (by rw [ha]; simp)], .inr ⟨rfl, rfl, rfl⟩⟩
    simp only [go_sem, Nat.reduceAdd, Nat.reduceSub, Nat.reduceMul, Nat.reduceEqDiff, Nat.reduceLT, Nat.reduceLeDiff, Nat.reduceBEq, Nat.reduceBNe, Int.reduceToNat, Int.reduceLE, Int.reduceLT, Int.reduceNe, Int.reduceNeg, reduceCtorEq, Int.reduceBEq, Int.reduceBNe, @callV_spec E41 42 s42 rfl, @callV_specT E41 42 s42 rfl, @stepV_spec E41 42 s42 rfl, @effV_spec E41 42 s42 rfl, s42, @callV_spec E41 51 s51L rfl, @callV_specT E41 51 s51L rfl, @stepV_spec E41 51 s51L rfl, @effV_spec E41 51 s51L rfl, s51L, @callV_spec E41 43 sSpin rfl, @callV_specT E41 43 sSpin rfl, @stepV_spec E41 43 sSpin rfl, @effV_spec E41 43 sSpin rfl, sSpin, @callV_spec E41 34 s34 rfl, @callV_specT E41 34 s34 rfl, @stepV_spec E41 34 s34 rfl, @effV_spec E41 34 s34 rfl, s34, encR, callSpec, hr, hk, hG, hbl, hD, hL, hLb, hdl, dec_lines, hAe]
    refine ev_loopS [3, 7, 8, 9, 10] (fun i : Nat => [(11, .int .i64 (sumV ⟨g, l⟩ D (L.take i))), (12, .bool ((L.take i).all (okV ⟨g, l⟩ D))), (13, .int .i64 i)])
      (fun i H => i ≤ L.length ∧ H (([], 13000000) : Key) = some (.cells (encR ⟨g, l⟩) 1 false))
      (fun i => L.length - i) 0 ?_ ⟨Nat.zero_le _, ?_⟩ ?_
    · simp only [go_sem, Nat.reduceAdd, Nat.reduceSub, Nat.reduceMul, Nat.reduceEqDiff, Nat.reduceLT, Nat.reduceLeDiff, Nat.reduceBEq, Nat.reduceBNe, Int.reduceToNat, Int.reduceLE, Int.reduceLT, Int.reduceNe, Int.reduceNeg, reduceCtorEq, Int.reduceBEq, Int.reduceBNe, List.take_zero, sumV, List.foldl_nil, List.all_nil, Int.natCast_zero]
    · simp only [go_sem, Nat.reduceAdd, Nat.reduceSub, Nat.reduceMul, Nat.reduceEqDiff, Nat.reduceLT, Nat.reduceLeDiff, Nat.reduceBEq, Nat.reduceBNe, Int.reduceToNat, Int.reduceLE, Int.reduceLT, Int.reduceNe, Int.reduceNeg, reduceCtorEq, Int.reduceBEq, Int.reduceBNe, encR]
    · simp only [go_sem, Nat.reduceAdd, Nat.reduceSub, Nat.reduceMul, Nat.reduceEqDiff, Nat.reduceLT, Nat.reduceLeDiff, Nat.reduceBEq, Nat.reduceBNe, Int.reduceToNat, Int.reduceLE, Int.reduceLT, Int.reduceNe, Int.reduceNeg, reduceCtorEq, Int.reduceBEq, Int.reduceBNe]
      intro K i H ⟨hi, h1⟩ hK hE
      have h1' := h1
      simp only [encR] at h1'
      rw [condK_bool]
      refine ⟨fun h => ?_, fun h => ?_⟩
      · have h' : i < L.length := by simpa using h
        have hii : (i : Int) < (L.length : Int) := by omega
        have hij : (i : Int) ≤ (i : Int) + 1 := by omega
        have hi1 : (i : Int) + 1 ≤ (L.length : Int) := by omega
        have w2 : IntKind.i64.wrap ((i : Int) + 1) = ((i + 1 : Nat) : Int) := by rw [Int.natCast_add, Int.natCast_one]; exact wrap_id (by omega)
        have hxm : L.getD i default ∈ L := by simp [List.getD_eq_getElem?_getD, h']
        have hsv := sumV_take (r := ⟨g, l⟩) (on := D) h'
        have hav := allV_take (r := ⟨g, l⟩) (on := D) h'
        have hb1 := hbd (L.take (i + 1)) (hmb _)
        have hlt := List.length_take_le (i + 1) L
        obtain ⟨x1, x2, x3⟩ := l2 _ hxm
        have hrow := getD_mapN encL L i [PV.int .i64 0, .int .i64 0, .int .i64 0, .int .i64 0] h'
        have hsl := slice_one (L.map encL) (i := i) (by rw [List.length_map]; exact h') [PV.int .i64 0, .int .i64 0, .int .i64 0, .int .i64 0]
        rw [hrow] at hsl
        generalize hx : L.getD i default = x at *
        obtain ⟨⟨ta, tb, tc⟩, m⟩ := x
        simp only at x1 x2 x3
        have hpx := hpm ⟨ta, tb, tc⟩ x1
        have ho := hone ⟨ta, tb, tc⟩ m x1 ⟨x2, by omega⟩
        have hm := hone ⟨ta, tb, tc⟩ (m + 1) x1 ⟨by omega, by omega⟩
        have hdm := fun p => dozen_more p m x2
        have wm : IntKind.i64.wrap (m + 1) = m + 1 := wrap_id (by omega)
        unfold oneV at hsv
        have hav : (L.take (i + 1)).all (okV ⟨g, l⟩ D) = ((L.take i).all (okV ⟨g, l⟩ D) && (priceP ⟨g, l⟩ D ⟨ta, tb, tc⟩).isSome) := hav
        simp only at hsv
        simp only [encL] at hrow hsl
        have hrows : ∀ row ∈ L.map encL, row.length = 4 := fun row hrow => by
          obtain ⟨q, _, rfl⟩ := List.mem_map.1 hrow; rfl
        have ht : m.tdiv 12 = m / 12 := Int.tdiv_eq_ediv_of_nonneg (by omega)
        have htm : (m + 1).tmod 12 = (m + 1) % 12 := Int.tmod_eq_emod_of_nonneg (by omega)
        have wd : IntKind.i64.wrap (m / 12) = m / 12 := wrap_id (by omega)
        have ws : IntKind.i64.wrap (m - m / 12) = m - m / 12 := wrap_id (by omega)
        have h12 : ((12 : Int) = 0) = False := by decide
        have w00 : IntKind.i64.wrap 0 = 0 := rfl
        have hb1' : big 1 = True := eq_true (by unfold big; decide)
        cases hp : priceP ⟨g, l⟩ D ⟨ta, tb, tc⟩ with
        | none =>
          rw [hp] at hpx ho hm hsv hav
          simp only [Option.isSome_none, Bool.and_false] at hpx ho hm hsv hav
          simp only [go_sem, Nat.reduceAdd, Nat.reduceSub, Nat.reduceMul, Nat.reduceEqDiff, Nat.reduceLT, Nat.reduceLeDiff, Nat.reduceBEq, Nat.reduceBNe, Int.reduceToNat, Int.reduceLE, Int.reduceLT, Int.reduceNe, Int.reduceNeg, reduceCtorEq, Int.reduceBEq, Int.reduceBNe, @callV_spec E41 34 s34 rfl, @callV_specT E41 34 s34 rfl, @stepV_spec E41 34 s34 rfl, @effV_spec E41 34 s34 rfl, s34, @callV_spec E41 28 s28 rfl, @callV_specT E41 28 s28 rfl, @stepV_spec E41 28 s28 rfl, @effV_spec E41 28 s28 rfl, s28, callSpec, h1', hr, hii, h', hij, hi1, w2, wm, hrow, hsl, dec_line1, big_line1, hpx, ho, hm, ht, wd, ws, h12, hb1', Int.zero_mul, w00, bne_self_eq_false, List.length_map]
          refine ⟨⟨by omega, by omega, hrows⟩, ?_⟩
          simp only [go_sem, Nat.reduceAdd, Nat.reduceSub, Nat.reduceMul, Nat.reduceEqDiff, Nat.reduceLT, Nat.reduceLeDiff, Nat.reduceBEq, Nat.reduceBNe, Int.reduceToNat, Int.reduceLE, Int.reduceLT, Int.reduceNe, Int.reduceNeg, reduceCtorEq, Int.reduceBEq, Int.reduceBNe, @callV_spec E41 34 s34 rfl, @callV_specT E41 34 s34 rfl, @stepV_spec E41 34 s34 rfl, @effV_spec E41 34 s34 rfl, s34, @callV_spec E41 28 s28 rfl, @callV_specT E41 28 s28 rfl, @stepV_spec E41 28 s28 rfl, @effV_spec E41 28 s28 rfl, s28, callSpec, h1', hr, hii, h', hij, hi1, w2, wm, hrow, hsl, dec_line1, big_line1, hpx, ho, hm, ht, htm, wd, ws, h12, hb1', Int.zero_mul, w00, bne_self_eq_false, List.length_map]
          have wS : IntKind.i64.wrap (sumV ⟨g, l⟩ D (L.take i)) = sumV ⟨g, l⟩ D (L.take i) := by
            rw [hsv] at hb1; exact wrap_id (by omega)
          refine hK (i + 1) _ _ ?_ ⟨h', ?_⟩ (by omega)
          · simp only [go_sem, Nat.reduceAdd, Nat.reduceSub, Nat.reduceMul, Nat.reduceEqDiff, Nat.reduceLT, Nat.reduceLeDiff, Nat.reduceBEq, Nat.reduceBNe, Int.reduceToNat, Int.reduceLE, Int.reduceLT, Int.reduceNe, Int.reduceNeg, reduceCtorEq, Int.reduceBEq, Int.reduceBNe, w2, hsv, hav, wS, Int.add_zero, Bool.and_false, Bool.and_true]
          · simp only [go_sem, Nat.reduceAdd, Nat.reduceSub, Nat.reduceMul, Nat.reduceEqDiff, Nat.reduceLT, Nat.reduceLeDiff, Nat.reduceBEq, Nat.reduceBNe, Int.reduceToNat, Int.reduceLE, Int.reduceLT, Int.reduceNe, Int.reduceNeg, reduceCtorEq, Int.reduceBEq, Int.reduceBNe, h1]
        | some p =>
          rw [hp] at hpx ho hm hsv hav
          simp only [Option.isSome_some, Bool.and_true] at hpx ho hm hsv hav
          have hpb := price_pos hG hp
          have hb2 := oneV_bound hG (on := D) (x := ⟨⟨ta, tb, tc⟩, m⟩) ⟨x2, by simp only; omega⟩
          unfold oneV at hb2
          rw [hp] at hb2
          simp only at hb2
          have wp : IntKind.i64.wrap (p * (m - m / 12)) = p * (m - m / 12) := wrap_id (by omega)
          have hdm := hdm p
          have wpp : IntKind.i64.wrap (p * (m - m / 12) + p) = p * (m - m / 12) + p := wrap_id (by omega)
          simp only [go_sem, Nat.reduceAdd, Nat.reduceSub, Nat.reduceMul, Nat.reduceEqDiff, Nat.reduceLT, Nat.reduceLeDiff, Nat.reduceBEq, Nat.reduceBNe, Int.reduceToNat, Int.reduceLE, Int.reduceLT, Int.reduceNe, Int.reduceNeg, reduceCtorEq, Int.reduceBEq, Int.reduceBNe, @callV_spec E41 34 s34 rfl, @callV_specT E41 34 s34 rfl, @stepV_spec E41 34 s34 rfl, @effV_spec E41 34 s34 rfl, s34, @callV_spec E41 28 s28 rfl, @callV_specT E41 28 s28 rfl, @stepV_spec E41 28 s28 rfl, @effV_spec E41 28 s28 rfl, s28, callSpec, h1', hr, hii, h', hij, hi1, w2, wm, hrow, hsl, dec_line1, big_line1, hpx, ho, hm, ht, wd, ws, wp, h12, hb1', bne_self_eq_false, List.length_map]
          refine ⟨⟨by omega, by omega, hrows⟩, ?_⟩
          simp only [go_sem, Nat.reduceAdd, Nat.reduceSub, Nat.reduceMul, Nat.reduceEqDiff, Nat.reduceLT, Nat.reduceLeDiff, Nat.reduceBEq, Nat.reduceBNe, Int.reduceToNat, Int.reduceLE, Int.reduceLT, Int.reduceNe, Int.reduceNeg, reduceCtorEq, Int.reduceBEq, Int.reduceBNe, @callV_spec E41 34 s34 rfl, @callV_specT E41 34 s34 rfl, @stepV_spec E41 34 s34 rfl, @effV_spec E41 34 s34 rfl, s34, @callV_spec E41 28 s28 rfl, @callV_specT E41 28 s28 rfl, @stepV_spec E41 28 s28 rfl, @effV_spec E41 28 s28 rfl, s28, callSpec, h1', hr, hii, h', hij, hi1, w2, wm, hrow, hsl, dec_line1, big_line1, hpx, ho, hm, ht, htm, wd, ws, wp, wpp, h12, hb1', bne_self_eq_false, List.length_map]
          refine ⟨fun a b => ⟨a, b⟩, ?_⟩
          have hexp : (((m + 1) % 12 == 0 && p * (m + 1 - (m + 1) / 12) != p * (m - m / 12)) || (!(m + 1) % 12 == 0 && p * (m + 1 - (m + 1) / 12) != p * (m - m / 12) + p)) = false := by
            by_cases hfr : (m + 1) % 12 = 0
            · rw [if_pos hfr] at hdm
              simp [hfr, hdm]
            · rw [if_neg hfr] at hdm
              simp [hfr, hdm]
          rw [hexp]
          simp only [go_sem, Nat.reduceAdd, Nat.reduceSub, Nat.reduceMul, Nat.reduceEqDiff, Nat.reduceLT, Nat.reduceLeDiff, Nat.reduceBEq, Nat.reduceBNe, Int.reduceToNat, Int.reduceLE, Int.reduceLT, Int.reduceNe, Int.reduceNeg, reduceCtorEq, Int.reduceBEq, Int.reduceBNe]
          have wS : IntKind.i64.wrap (sumV ⟨g, l⟩ D (L.take i) + p * (m - m / 12)) = sumV ⟨g, l⟩ D (L.take i) + p * (m - m / 12) := by
            rw [hsv] at hb1; exact wrap_id (by omega)
          refine hK (i + 1) _ _ ?_ ⟨h', ?_⟩ (by omega)
          · simp only [go_sem, Nat.reduceAdd, Nat.reduceSub, Nat.reduceMul, Nat.reduceEqDiff, Nat.reduceLT, Nat.reduceLeDiff, Nat.reduceBEq, Nat.reduceBNe, Int.reduceToNat, Int.reduceLE, Int.reduceLT, Int.reduceNe, Int.reduceNeg, reduceCtorEq, Int.reduceBEq, Int.reduceBNe, w2, hsv, hav, wS, Int.add_zero, Bool.and_false, Bool.and_true]
          · simp only [go_sem, Nat.reduceAdd, Nat.reduceSub, Nat.reduceMul, Nat.reduceEqDiff, Nat.reduceLT, Nat.reduceLeDiff, Nat.reduceBEq, Nat.reduceBNe, Int.reduceToNat, Int.reduceLE, Int.reduceLT, Int.reduceNe, Int.reduceNeg, reduceCtorEq, Int.reduceBEq, Int.reduceBNe, h1]
      · have hil : i = L.length := by simp only [decide_eq_false_iff_not] at h; omega
        subst hil
        refine hE _ _ _ (by simp) ?_
        rw [List.take_length]
        rcases hc with ⟨rfl, rfl, ha⟩ | ⟨rfl, rfl, ha⟩
        · simp only [go_sem, Nat.reduceAdd, Nat.reduceSub, Nat.reduceMul, Nat.reduceEqDiff, Nat.reduceLT, Nat.reduceLeDiff, Nat.reduceBEq, Nat.reduceBNe, Int.reduceToNat, Int.reduceLE, Int.reduceLT, Int.reduceNe, Int.reduceNeg, reduceCtorEq, Int.reduceBEq, Int.reduceBNe, @callV_spec E41 27 s27 rfl, @callV_specT E41 27 s27 rfl, @stepV_spec E41 27 s27 rfl, @effV_spec E41 27 s27 rfl, s27, callSpec, ha, beq_self_eq_true]
        · simp only [go_sem, Nat.reduceAdd, Nat.reduceSub, Nat.reduceMul, Nat.reduceEqDiff, Nat.reduceLT, Nat.reduceLeDiff, Nat.reduceBEq, Nat.reduceBNe, Int.reduceToNat, Int.reduceLE, Int.reduceLT, Int.reduceNe, Int.reduceNeg, reduceCtorEq, Int.reduceBEq, Int.reduceBNe, @callV_spec E41 27 s27 rfl, @callV_specT E41 27 s27 rfl, @stepV_spec E41 27 s27 rfl, @effV_spec E41 27 s27 rfl, s27, callSpec, ha]
end Wb
