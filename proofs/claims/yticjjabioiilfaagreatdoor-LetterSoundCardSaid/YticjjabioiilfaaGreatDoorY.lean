import Derived.Test.YticjjabioiilfaaGreatDoorZ
set_option linter.unusedVariables false
set_option linter.unusedSimpArgs false
/- A line of a letter that can mean a line of an order. -/
namespace Wb
open Go Go.Proofs Enc Row
set_option linter.unusedSimpArgs false
set_option linter.unusedVariables false
set_option maxRecDepth 20000
set_option maxHeartbeats 8000000
theorem any_drop {α : Type} [Inhabited α] (p : α → Bool) {l : List α} {i : Nat} (h : i < l.length) : (l.drop i).any p = (p (l.getD i default) || (l.drop (i + 1)).any p) := by
  have e1 : l.getD i default = l[i] := by simp [h]
  rw [List.drop_eq_getElem_cons h, e1]; rfl
theorem any_at {α : Type} [Inhabited α] (p : α → Bool) {l : List α} {i : Nat} (h : i < l.length) (hp : p (l.getD i default) = true) : l.any p = true :=
  List.any_eq_true.2 ⟨_, getD_mem default h, hp⟩
/-- An entry can be meant, but for its size. -/
def entB (x : LLine) (l : Line) (e : Entry) : Bool := decide (e.good = l.item.good) && (allB x.digits (digN e.number.toNat) && ((decide (0 ≤ l.item.colour) && decide (l.item.colour ≤ 3)) && (inF e.colours l.item.colour && inF x.colours l.item.colour)))
def fitB1 (x : LLine) (l : Line) (f : Fit) : Bool := decide (f.size = l.item.size) && sizeB x f
def entC (x : LLine) (l : Line) (e : Entry) : Bool := entB x l e && e.sizes.any (fitB1 x l)
def hasB (x : LLine) (is : Issue) (l : Line) : Bool := is.entries.any (entC x l) && (decide (x.mlo ≤ l.many) && decide (l.many ≤ x.mhi))
set_option maxHeartbeats 16000000 in
theorem hasLine_fn (X : Lett) (hX : GL X) (j : Nat) (hj : j < X.rack.issues.length) (x : LLine) (hx : GLine x) (l : Line) : Fn E58 0 48 Tryz.f48 (Tryz.f48.body.getD .skip) [.agg (encLt X), .int .i64 j, .agg (encLL x), .agg (encL l)] (.bool (hasB x (X.rack.issues.getD j default) l)) := by
  unfold Fn Tryz.f48
  have hR := hX.rack
  have gy := hR.issues _ (getD_mem default hj)
  generalize hyy : X.rack.issues.getD j default = y at gy ⊢
  have hjj : ((j : Int) < (X.rack.issues.length : Int)) = True := eq_true (by omega)
  have hj0 : (0 ≤ (j : Int)) = True := eq_true (by omega)
  have hlen := hx.len
  have hx0 := encLt_lit X
  obtain ⟨ds, ss, q1, q2, q3, q4, q5⟩ := x
  obtain ⟨⟨l0, l1, l2⟩, l3⟩ := l
  have hdx : (dec (.agg (encLL (⟨ds, ss, q1, q2, q3, q4, q5⟩ : LLine))) : Option LLine) = some ⟨ds, ss, q1, q2, q3, q4, q5⟩ := Enc.dec_enc _
  simp only [encLL] at hdx
  simp only [go_sem, hx0, encLL, encL]
  refine ev_loopS [1, 4, 6, 7] (fun i : Nat => [(9, .int .i64 i)]) (fun i H => i ≤ y.entries.length ∧ H ([], 48000000) = some (.cells (encLt X) 1 false) ∧ H ([], 48000001) = some (.cells (encLL ⟨ds, ss, q1, q2, q3, q4, q5⟩) 1 false) ∧ H ([], 48000002) = some (.cells (encL ⟨⟨l0, l1, l2⟩, l3⟩) 1 false)
      ∧ (y.entries.drop i).any (entC ⟨ds, ss, q1, q2, q3, q4, q5⟩ ⟨⟨l0, l1, l2⟩, l3⟩) = y.entries.any (entC ⟨ds, ss, q1, q2, q3, q4, q5⟩ ⟨⟨l0, l1, l2⟩, l3⟩)) (fun i => y.entries.length - i) 0 ?_ ⟨Nat.zero_le _, ?_, ?_, ?_, rfl⟩ ?_
  · simp only [go_sem, Int.natCast_zero]
  · simp only [go_sem, hx0]
  · simp only [go_sem, encLL]
  · simp only [go_sem, encL]
  · simp only [go_sem]
    intro K i H ⟨hi, h1, h2, h3, hany⟩ hK hE
    simp only [go_sem, h1, hx0, hjj, hj0, Int.toNat_natCast, List.length_map, getD_mapN encI X.rack.issues j _ hj, hyy, encI]
    rw [condK_bool]
    refine ⟨fun h => ?_, fun h => ?_⟩
    · have hi' : i < y.entries.length := by have := of_decide_eq_true h; omega
      have hii : ((i : Int) < (y.entries.length : Int)) = True := eq_true (by omega)
      have hi0 : (0 ≤ (i : Int)) = True := eq_true (by omega)
      have h24 := gy.len
      have w2 : IntKind.i64.wrap ((i : Int) + 1) = (i : Int) + 1 := wrap_id (by omega)
      have ge := gy.entries _ (getD_mem default hi')
      have hstep := any_drop (entC ⟨ds, ss, q1, q2, q3, q4, q5⟩ ⟨⟨l0, l1, l2⟩, l3⟩) hi'
      have hat := any_at (entC ⟨ds, ss, q1, q2, q3, q4, q5⟩ ⟨⟨l0, l1, l2⟩, l3⟩) hi'
      generalize hee : y.entries.getD i default = e at ge hstep hat
      have hpre : (ds.length ≤ 4 ∧ 0 ≤ e.number ∧ e.number < 10000) = True := eq_true ⟨hlen.2, by have := ge.number; omega, by have := ge.number; omega⟩
      obtain ⟨e0, e1, e2, e3⟩ := e
      simp only at hpre ge
      simp only [entC, entB] at hstep hat
      have hnext : (allB ds (digN e0.toNat) && ((decide (0 ≤ l2) && decide (l2 ≤ 3)) && (inF e2 l2 && inF q3 l2))) = false ∨ e1 ≠ l0 → (y.entries.drop (i + 1)).any (entC ⟨ds, ss, q1, q2, q3, q4, q5⟩ ⟨⟨l0, l1, l2⟩, l3⟩) = y.entries.any (entC ⟨ds, ss, q1, q2, q3, q4, q5⟩ ⟨⟨l0, l1, l2⟩, l3⟩) := fun h => by
        rw [← hany, hstep]
        rcases h with h | h
        · rw [h, Bool.and_false, Bool.false_and, Bool.false_or]
        · rw [decide_eq_false h, Bool.false_and, Bool.false_and, Bool.false_or]
      by_cases c1 : e1 = l0
      · have b1 : (e1 != l0) = false := by simp [c1]
        cases c2 : allB ds (digN e0.toNat) with
        | false =>
          rw [c2, Bool.false_and] at hnext
          simp only [go_sem, @ct E58 95 t95 rfl, t95, @ct E58 45 sTween rfl, sTween, @ct E58 87 sIn rfl, sIn, callSpec, h1, h2, h3, hx0, encLL, encL, hjj, hj0, hii, hi0, Int.toNat_natCast, List.length_map, getD_mapN encI X.rack.issues j _ hj, hyy, encI, getD_mapN encE y.entries i _ hi', hee, encE, b1, hdx, hpre, c2]
          refine hK (i + 1) _ _ ?_ ⟨hi', ?_, ?_, ?_, hnext (.inl rfl)⟩ (by omega)
          · simp only [go_sem, w2, Int.natCast_add, Int.natCast_one]
          · simp only [go_sem, h1, hx0]
          · simp only [go_sem, h2, encLL]
          · simp only [go_sem, h3, encL]
        | true =>
          rw [c2, Bool.true_and] at hnext
          cases c3 : (decide (0 ≤ l2) && decide (l2 ≤ 3)) with
          | false =>
            rw [c3, Bool.false_and] at hnext
            simp only [go_sem, @ct E58 95 t95 rfl, t95, @ct E58 45 sTween rfl, sTween, @ct E58 87 sIn rfl, sIn, callSpec, h1, h2, h3, hx0, encLL, encL, hjj, hj0, hii, hi0, Int.toNat_natCast, List.length_map, getD_mapN encI X.rack.issues j _ hj, hyy, encI, getD_mapN encE y.entries i _ hi', hee, encE, b1, hdx, hpre, c2, c3]
            refine hK (i + 1) _ _ ?_ ⟨hi', ?_, ?_, ?_, hnext (.inl rfl)⟩ (by omega)
            · simp only [go_sem, w2, Int.natCast_add, Int.natCast_one]
            · simp only [go_sem, h1, hx0]
            · simp only [go_sem, h2, encLL]
            · simp only [go_sem, h3, encL]
          | true =>
            rw [c3, Bool.true_and] at hnext
            have c30 : (0 ≤ l2) = True := eq_true (by simp only [Bool.and_eq_true, decide_eq_true_eq] at c3; exact c3.1)
            have c33 : (l2 ≤ 3) = True := eq_true (by simp only [Bool.and_eq_true, decide_eq_true_eq] at c3; exact c3.2)
            cases c4 : inF e2 l2 with
            | false =>
              rw [c4, Bool.false_and] at hnext
              simp only [go_sem, @ct E58 95 t95 rfl, t95, @ct E58 45 sTween rfl, sTween, @ct E58 87 sIn rfl, sIn, callSpec, h1, h2, h3, hx0, encLL, encL, hjj, hj0, hii, hi0, Int.toNat_natCast, List.length_map, getD_mapN encI X.rack.issues j _ hj, hyy, encI, getD_mapN encE y.entries i _ hi', hee, encE, b1, hdx, hpre, c2, c30, c33, c4]
              refine hK (i + 1) _ _ ?_ ⟨hi', ?_, ?_, ?_, hnext (.inl rfl)⟩ (by omega)
              · simp only [go_sem, w2, Int.natCast_add, Int.natCast_one]
              · simp only [go_sem, h1, hx0]
              · simp only [go_sem, h2, encLL]
              · simp only [go_sem, h3, encL]
            | true =>
              rw [c4, Bool.true_and] at hnext
              cases c5 : inF q3 l2 with
              | false =>
                rw [c5] at hnext
                simp only [go_sem, @ct E58 95 t95 rfl, t95, @ct E58 45 sTween rfl, sTween, @ct E58 87 sIn rfl, sIn, callSpec, h1, h2, h3, hx0, encLL, encL, hjj, hj0, hii, hi0, Int.toNat_natCast, List.length_map, getD_mapN encI X.rack.issues j _ hj, hyy, encI, getD_mapN encE y.entries i _ hi', hee, encE, b1, hdx, hpre, c2, c30, c33, c4, c5]
                refine hK (i + 1) _ _ ?_ ⟨hi', ?_, ?_, ?_, hnext (.inl rfl)⟩ (by omega)
                · simp only [go_sem, w2, Int.natCast_add, Int.natCast_one]
                · simp only [go_sem, h1, hx0]
                · simp only [go_sem, h2, encLL]
                · simp only [go_sem, h3, encL]
              | true =>
                simp only [decide_eq_true c1, c2, c3, c4, c5, Bool.true_and, Bool.and_true] at hstep hat
                simp only [go_sem, @ct E58 95 t95 rfl, t95, @ct E58 45 sTween rfl, sTween, @ct E58 87 sIn rfl, sIn, callSpec, h1, h2, h3, hx0, encLL, encL, hjj, hj0, hii, hi0, Int.toNat_natCast, List.length_map, getD_mapN encI X.rack.issues j _ hj, hyy, encI, getD_mapN encE y.entries i _ hi', hee, encE, b1, hdx, hpre, c2, c30, c33, c4, c5]
                generalize hv : verOf H ([], 48004010) + 1 = v
                have h8 := ge.sizes.2
                simp only at h8
                refine ev_loopS [1, 4, 6, 7, 9, 10] (fun k : Nat => [(11, .int .i64 k)]) (fun k H => k ≤ e3.length ∧ H ([], 48000000) = some (.cells (encLt X) 1 false) ∧ H ([], 48000001) = some (.cells (encLL ⟨ds, ss, q1, q2, q3, q4, q5⟩) 1 false) ∧ H ([], 48000002) = some (.cells (encL ⟨⟨l0, l1, l2⟩, l3⟩) 1 false) ∧ H ([], 48004010) = some (.cells (encE ⟨e0, e1, e2, e3⟩) v false)
                    ∧ (e3.drop k).any (fitB1 ⟨ds, ss, q1, q2, q3, q4, q5⟩ ⟨⟨l0, l1, l2⟩, l3⟩) = e3.any (fitB1 ⟨ds, ss, q1, q2, q3, q4, q5⟩ ⟨⟨l0, l1, l2⟩, l3⟩)) (fun k => e3.length - k) 0 ?_ ⟨Nat.zero_le _, ?_, ?_, ?_, ?_, rfl⟩ ?_
                · simp only [go_sem, Int.natCast_zero]
                · simp only [go_sem, h1, hx0]
                · simp only [go_sem, h2, encLL]
                · simp only [go_sem, h3, encL]
                · simp only [go_sem, encE]
                · simp only [go_sem]
                  intro K2 k H2 ⟨hk, k1, k2, k3, k4, hany2⟩ hK2 hE2
                  simp only [go_sem, k4, encE, List.length_map]
                  rw [condK_bool]
                  refine ⟨fun h => ?_, fun h => ?_⟩
                  · have hk' : k < e3.length := by have := of_decide_eq_true h; omega
                    have hkk : ((k : Int) < (e3.length : Int)) = True := eq_true (by omega)
                    have hk0 : (0 ≤ (k : Int)) = True := eq_true (by omega)
                    have w3 : IntKind.i64.wrap ((k : Int) + 1) = (k : Int) + 1 := wrap_id (by omega)
                    have hstep2 := any_drop (fitB1 ⟨ds, ss, q1, q2, q3, q4, q5⟩ ⟨⟨l0, l1, l2⟩, l3⟩) hk'
                    have hat2 := any_at (fitB1 ⟨ds, ss, q1, q2, q3, q4, q5⟩ ⟨⟨l0, l1, l2⟩, l3⟩) hk'
                    generalize hff : e3.getD k default = f at hstep2 hat2
                    obtain ⟨f0, f1, f2, f3⟩ := f
                    simp only [fitB1, sizeB] at hstep2 hat2
                    have hcomm : (ss.any fun a => f0 == a) = ss.any fun a => a == f0 := by
                      congr 1; funext a
                      by_cases h : f0 = a
                      · subst h; rfl
                      · rw [beq_eq_false_iff_ne.2 h, beq_eq_false_iff_ne.2 fun e => h e.symm]
                    have hss : (ss.length < 4611686018427387904) = True := eq_true (by have := hx.sizes; simp only at this; omega)
                    have hfin : fitB1 ⟨ds, ss, q1, q2, q3, q4, q5⟩ ⟨⟨l0, l1, l2⟩, l3⟩ ⟨f0, f1, f2, f3⟩ = true → hasB ⟨ds, ss, q1, q2, q3, q4, q5⟩ y ⟨⟨l0, l1, l2⟩, l3⟩ = (decide (q4 ≤ l3) && decide (l3 ≤ q5)) := fun hq => by
                      have h5 : y.entries.any (entC ⟨ds, ss, q1, q2, q3, q4, q5⟩ ⟨⟨l0, l1, l2⟩, l3⟩) = true := hat (hat2 hq)
                      unfold hasB
                      rw [h5, Bool.true_and]
                    have hnext2 : fitB1 ⟨ds, ss, q1, q2, q3, q4, q5⟩ ⟨⟨l0, l1, l2⟩, l3⟩ ⟨f0, f1, f2, f3⟩ = false → (e3.drop (k + 1)).any (fitB1 ⟨ds, ss, q1, q2, q3, q4, q5⟩ ⟨⟨l0, l1, l2⟩, l3⟩) = e3.any (fitB1 ⟨ds, ss, q1, q2, q3, q4, q5⟩ ⟨⟨l0, l1, l2⟩, l3⟩) := fun hq => by
                      have hq' := hq
                      simp only [fitB1, sizeB] at hq'
                      rw [← hany2, hstep2, hq', Bool.false_or]
                    by_cases c6 : f0 = l1
                    · have b6 : (f0 != l1) = false := by simp [c6]
                      have hdc : decide (f0 = l1) = true := decide_eq_true c6
                      by_cases s0 : 0 < (ss.length : Int)
                      · have s1 : (0 < (ss.length : Int)) = True := eq_true s0
                        have s2 : ((ss.length : Int) > 0) = True := eq_true s0
                        have s3 : ((ss.length : Int) == 0) = false := by simpa using (by omega : ¬ (ss.length : Int) = 0)
                        cases c7 : ss.any (fun a => a == f0) with
                        | true =>
                          have hb : fitB1 ⟨ds, ss, q1, q2, q3, q4, q5⟩ ⟨⟨l0, l1, l2⟩, l3⟩ ⟨f0, f1, f2, f3⟩ = true := by simp only [fitB1, sizeB, hdc, s1, if_true, hcomm, c7, Bool.true_and]
                          simp only [go_sem, @ct E58 43 sHas rfl, sHas, @ct E58 96 sPlace rfl, sPlace, callSpec, k2, k3, k4, encLL, encL, encE, encF, hkk, hk0, Int.toNat_natCast, List.length_map, il_length, dZ_il, getD_mapN encF e3 k _ hk', hff, b6, s1, s2, s3, hss, findI_nonneg, c7]
                          refine hE2 _ _ _ (by simp) ?_
                          simp only [go_sem]
                          refine hE _ _ _ (by simp) ?_
                          simp only [go_sem, hfin hb]
                        | false =>
                          have hb : fitB1 ⟨ds, ss, q1, q2, q3, q4, q5⟩ ⟨⟨l0, l1, l2⟩, l3⟩ ⟨f0, f1, f2, f3⟩ = false := by simp only [fitB1, sizeB, hdc, s1, if_true, hcomm, c7, Bool.true_and]
                          simp only [go_sem, @ct E58 43 sHas rfl, sHas, @ct E58 96 sPlace rfl, sPlace, callSpec, k2, k3, k4, encLL, encL, encE, encF, hkk, hk0, Int.toNat_natCast, List.length_map, il_length, dZ_il, getD_mapN encF e3 k _ hk', hff, b6, s1, s2, s3, hss, findI_nonneg, c7]
                          refine hK2 (k + 1) _ _ ?_ ⟨hk', ?_, ?_, ?_, ?_, hnext2 hb⟩ (by omega)
                          · simp only [go_sem, w3, Int.natCast_add, Int.natCast_one]
                          · simp only [go_sem, k1, hx0]
                          · simp only [go_sem, k2, encLL]
                          · simp only [go_sem, k3, encL]
                          · simp only [go_sem, k4, encE]
                      · have s1 : (0 < (ss.length : Int)) = False := eq_false s0
                        have s2 : ((ss.length : Int) > 0) = False := eq_false s0
                        have s3 : ((ss.length : Int) == 0) = true := by simpa using (by omega : (ss.length : Int) = 0)
                        cases c7 : (decide (f1 ≤ q2) && decide (q1 ≤ f2)) with
                        | true =>
                          have c71 : (f1 ≤ q2) = True := eq_true (by simp only [Bool.and_eq_true, decide_eq_true_eq] at c7; exact c7.1)
                          have c72 : (q1 ≤ f2) = True := eq_true (by simp only [Bool.and_eq_true, decide_eq_true_eq] at c7; exact c7.2)
                          have hb : fitB1 ⟨ds, ss, q1, q2, q3, q4, q5⟩ ⟨⟨l0, l1, l2⟩, l3⟩ ⟨f0, f1, f2, f3⟩ = true := by simp only [fitB1, sizeB, hdc, s1, if_false, c7, Bool.true_and]
                          simp only [go_sem, @ct E58 43 sHas rfl, sHas, @ct E58 96 sPlace rfl, sPlace, callSpec, k2, k3, k4, encLL, encL, encE, encF, hkk, hk0, Int.toNat_natCast, List.length_map, il_length, dZ_il, getD_mapN encF e3 k _ hk', hff, b6, s1, s2, s3, hss, findI_nonneg, c71, c72]
                          refine hE2 _ _ _ (by simp) ?_
                          simp only [go_sem]
                          refine hE _ _ _ (by simp) ?_
                          simp only [go_sem, hfin hb]
                        | false =>
                          have hb : fitB1 ⟨ds, ss, q1, q2, q3, q4, q5⟩ ⟨⟨l0, l1, l2⟩, l3⟩ ⟨f0, f1, f2, f3⟩ = false := by simp only [fitB1, sizeB, hdc, s1, if_false, c7, Bool.true_and]
                          by_cases c71 : f1 ≤ q2
                          · have c72 : (q1 ≤ f2) = False := eq_false (by rw [decide_eq_true c71, Bool.true_and] at c7; exact of_decide_eq_false c7)
                            have c71' := eq_true c71
                            simp only [go_sem, @ct E58 43 sHas rfl, sHas, @ct E58 96 sPlace rfl, sPlace, callSpec, k2, k3, k4, encLL, encL, encE, encF, hkk, hk0, Int.toNat_natCast, List.length_map, il_length, dZ_il, getD_mapN encF e3 k _ hk', hff, b6, s1, s2, s3, hss, findI_nonneg, c71', c72]
                            refine hK2 (k + 1) _ _ ?_ ⟨hk', ?_, ?_, ?_, ?_, hnext2 hb⟩ (by omega)
                            · simp only [go_sem, w3, Int.natCast_add, Int.natCast_one]
                            · simp only [go_sem, k1, hx0]
                            · simp only [go_sem, k2, encLL]
                            · simp only [go_sem, k3, encL]
                            · simp only [go_sem, k4, encE]
                          · have c71' := eq_false c71
                            simp only [go_sem, @ct E58 43 sHas rfl, sHas, @ct E58 96 sPlace rfl, sPlace, callSpec, k2, k3, k4, encLL, encL, encE, encF, hkk, hk0, Int.toNat_natCast, List.length_map, il_length, dZ_il, getD_mapN encF e3 k _ hk', hff, b6, s1, s2, s3, hss, findI_nonneg, c71']
                            refine hK2 (k + 1) _ _ ?_ ⟨hk', ?_, ?_, ?_, ?_, hnext2 hb⟩ (by omega)
                            · simp only [go_sem, w3, Int.natCast_add, Int.natCast_one]
                            · simp only [go_sem, k1, hx0]
                            · simp only [go_sem, k2, encLL]
                            · simp only [go_sem, k3, encL]
                            · simp only [go_sem, k4, encE]
                    · have b6 : (f0 != l1) = true := by simp [c6]
                      have hb : fitB1 ⟨ds, ss, q1, q2, q3, q4, q5⟩ ⟨⟨l0, l1, l2⟩, l3⟩ ⟨f0, f1, f2, f3⟩ = false := by simp only [fitB1, decide_eq_false c6, Bool.false_and]
                      simp only [go_sem, @ct E58 43 sHas rfl, sHas, @ct E58 96 sPlace rfl, sPlace, callSpec, k2, k3, k4, encLL, encL, encE, encF, hkk, hk0, Int.toNat_natCast, List.length_map, getD_mapN encF e3 k _ hk', hff, b6]
                      refine hK2 (k + 1) _ _ ?_ ⟨hk', ?_, ?_, ?_, ?_, hnext2 hb⟩ (by omega)
                      · simp only [go_sem, w3, Int.natCast_add, Int.natCast_one]
                      · simp only [go_sem, k1, hx0]
                      · simp only [go_sem, k2, encLL]
                      · simp only [go_sem, k3, encL]
                      · simp only [go_sem, k4, encE]
                  · have hk' : k = e3.length := by have : ¬ ((k : Int) < (e3.length : Int)) := by simpa using h
                                                   omega
                    subst hk'
                    rw [List.drop_length] at hany2
                    have hno : e3.any (fitB1 ⟨ds, ss, q1, q2, q3, q4, q5⟩ ⟨⟨l0, l1, l2⟩, l3⟩) = false := hany2.symm
                    refine hE2 _ _ _ (by simp) ?_
                    simp only [go_sem]
                    refine hK (i + 1) _ _ ?_ ⟨hi', ?_, ?_, ?_, ?_⟩ (by omega)
                    · simp only [go_sem, w2, Int.natCast_add, Int.natCast_one]
                    · simp only [go_sem, k1, hx0]
                    · simp only [go_sem, k2, encLL]
                    · simp only [go_sem, k3, encL]
                    · rw [← hany, hstep, hno, Bool.false_or]
      · have b1 : (e1 != l0) = true := by simp [c1]
        simp only [go_sem, @ct E58 95 t95 rfl, t95, @ct E58 45 sTween rfl, sTween, @ct E58 87 sIn rfl, sIn, callSpec, h1, h2, h3, hx0, encLL, encL, hjj, hj0, hii, hi0, Int.toNat_natCast, List.length_map, getD_mapN encI X.rack.issues j _ hj, hyy, encI, getD_mapN encE y.entries i _ hi', hee, encE, b1, hdx, hpre]
        refine hK (i + 1) _ _ ?_ ⟨hi', ?_, ?_, ?_, hnext (.inr c1)⟩ (by omega)
        · simp only [go_sem, w2, Int.natCast_add, Int.natCast_one]
        · simp only [go_sem, h1, hx0]
        · simp only [go_sem, h2, encLL]
        · simp only [go_sem, h3, encL]
    · have hi' : i = y.entries.length := by have : ¬ ((i : Int) < (y.entries.length : Int)) := by simpa using h
                                            omega
      subst hi'
      rw [List.drop_length] at hany
      have hno : hasB ⟨ds, ss, q1, q2, q3, q4, q5⟩ y ⟨⟨l0, l1, l2⟩, l3⟩ = false := by unfold hasB; rw [← hany]; rfl
      refine hE _ _ _ (by simp) ?_
      simp only [go_sem, hno]
def t48 : Spec := spec4 (fun (X : Lett) (j : Int) (x : LLine) (_ : Line) => GL X ∧ (0 ≤ j ∧ j < X.rack.issues.length) ∧ GLine x) fun X j x l => .bool (hasB x (X.rack.issues.getD j.toNat default) l)
theorem t48_ok : SpecOK Tryz.prog glB 48 t48 := spec4_ok E58_ok Tryz.func48 rfl (by kernel_rfl) fun X j x l h => by
  obtain ⟨m, rfl⟩ := Int.eq_ofNat_of_zero_le h.2.1.1
  exact hasLine_fn X h.1 m (by have := h.2.1.2; omega) x h.2.2 l
end Wb
/- What is told can be read, comes in its order, and has its price: plain. -/
namespace Wb
open Go Go.Proofs Enc Row
set_option linter.unusedSimpArgs false
set_option linter.unusedVariables false
set_option maxRecDepth 20000
set_option maxHeartbeats 8000000
theorem Means.has {x : LLine} (hx : GLine x) {g : Int} {is : Issue} (hi : GIssue g is) {l : Line} (h : Means x is l) : hasB x is l = true := by
  obtain ⟨y, hy, hr, f, hf, hs, ⟨c, hc4, hc1, hc2, hl⟩, hm1, hm2⟩ := h
  have hne : x.digits ≠ [] := fun e => by have := hx.len.1; rw [e] at this; simp at this
  obtain ⟨N, hN, hall⟩ := readsP_first hne hr
  have h2 : entC x l y = true := by
    unfold entC entB
    rw [hl, hN, Int.toNat_natCast, hall, hc2, hc1]
    have h3 : y.sizes.any (fitB1 x l) = true := List.any_eq_true.2 ⟨f, hf, by unfold fitB1; rw [hl, hs]; simp⟩
    rw [h3]
    have h4 : decide (0 ≤ (c : Int)) = true := decide_eq_true (by omega)
    have h5 : decide ((c : Int) ≤ 3) = true := decide_eq_true (by omega)
    simp [h4, h5]
  have h6 : is.entries.any (entC x l) = true := List.any_eq_true.2 ⟨y, hy, h2⟩
  unfold hasB
  rw [h6, decide_eq_true hm1, decide_eq_true hm2]; rfl
theorem cmpK_append : ∀ {k1 k2 l m : List Int}, k1.length = k2.length → cmpK (k1 ++ l) (k2 ++ m) = if cmpK k1 k2 = 0 then cmpK l m else cmpK k1 k2
  | [], [], l, m, _ => by simp [cmpK]
  | [], _ :: _, _, _, h => by simp at h
  | _ :: _, [], _, _, h => by simp at h
  | a :: k1, b :: k2, l, m, h => by
    rw [List.cons_append, List.cons_append, cmpK_cons, cmpK_cons, cmpK_append (by simpa using h)]
    by_cases e : cmpI a b = 0
    · rw [if_pos e, if_pos e]
    · rw [if_neg e, if_neg e, if_neg e]
theorem keyL_inj {a b : Line} (h : keyL a = keyL b) : a = b := by
  obtain ⟨⟨a0, a1, a2⟩, a3⟩ := a
  obtain ⟨⟨b0, b1, b2⟩, b3⟩ := b
  simp only [keyL, List.cons.injEq, and_true] at h
  obtain ⟨rfl, rfl, rfl, rfl⟩ := h
  rfl
theorem soon_rise {x : Lett} (hd : Days x) {a b : Ord2} (ha : a ∈ keysM x) (hb : b ∈ keysM x) (h : cmpO a b < 0) : soonB (linesO x a) (linesO x b) = true := by
  have e : cmpO a b = cmpK (keyL a.a ++ keyL a.b) (keyL b.a ++ keyL b.b) := rfl
  rw [e, cmpK_append (k1 := keyL a.a) (k2 := keyL b.a) (l := keyL a.b) (m := keyL b.b) rfl] at h
  have hneg : ∀ {u v : Line}, cmpK (keyL u) (keyL v) < 0 → ¬ u = v ∧ aheadB (keyL u) (keyL v) = true := fun {u v} hu => ⟨fun e => by rw [e, cmpK_self] at hu; omega, (ahead_cmp (l := keyL u) (m := keyL v) rfl).2 hu⟩
  by_cases h0 : cmpK (keyL a.a) (keyL b.a) = 0
  · rw [if_pos h0] at h
    have e1 : a.a = b.a := keyL_inj (cmpK_zero rfl h0)
    unfold linesO
    by_cases hn : x.lines.length = 1
    · rw [key_b hd ha (by omega), key_b hd hb (by omega), cmpK_self] at h
      omega
    · rw [if_neg hn, if_neg hn]
      obtain ⟨h1, h2⟩ := hneg h
      unfold soonB
      rw [if_pos e1]
      unfold soonB
      rw [if_neg h1, h2]
  · rw [if_neg h0] at h
    obtain ⟨h1, h2⟩ := hneg h
    unfold linesO
    by_cases hn : x.lines.length = 1
    · rw [if_pos hn, if_pos hn]
      unfold soonB
      rw [if_neg h1, h2]
    · rw [if_neg hn, if_neg hn]
      unfold soonB
      rw [if_neg h1, h2]
theorem cost_some {r : Rack} {d : Int} {l : Line} (h : 0 ≤ costM r d l) : rackOk r = true ∧ isDayB d = true ∧ lineOk r.goods l = true ∧ ∃ n, priceP r d l.item = some n ∧ costM r d l = n * (l.many - l.many / 12) ∧ (0 ≤ n * (l.many - l.many / 12) ∧ n * (l.many - l.many / 12) ≤ 100000000) := by
  unfold costM at h ⊢
  unfold sumM asked3 at h ⊢
  by_cases h1 : rackOk r = true
  · rw [if_pos h1] at h ⊢
    by_cases h2 : qSum d [l] r = true
    · rw [if_pos h2] at h ⊢
      have h3 := h2
      unfold qSum areLinesB at h3
      simp only [List.length_singleton, List.all_cons, List.all_nil, Bool.and_true, Bool.and_eq_true] at h3
      refine ⟨h1, h3.1, h3.2.2, ?_⟩
      cases hp : priceP r d l.item with
      | none => simp [sumF, hp] at h
      | some n =>
        have hn := (rack_good h1).cents d l.item n hp
        have hl := (lines_ok (g := r.goods) (ls := [l]) (by unfold qSum at h2; simp only [Bool.and_eq_true] at h2; exact h2.2)).2 l (by simp)
        have hm1 : n * (l.many - l.many / 12) ≤ 100000 * 1000 := Int.mul_le_mul hn.2 (by omega) (by omega) (by omega)
        have hm0 : 0 ≤ n * (l.many - l.many / 12) := Int.mul_nonneg (by omega) (by omega)
        exact ⟨n, rfl, by simp [sumF, hp], hm0, by omega⟩
    · rw [if_neg h2] at h; simp at h
  · rw [if_neg h1] at h; simp at h
theorem sum_one {r : Rack} {d : Int} {l : Line} (h : 0 ≤ costM r d l) : sumM r d [l] = (costM r d l, 0) := by
  have h2 : (sumM r d [l]).2 = 0 := Classical.byContradiction fun q => by unfold costM at h; rw [if_neg q] at h; omega
  have h3 : costM r d l = (sumM r d [l]).1 := by unfold costM; rw [if_pos h2]
  rw [h3, ← h2]
theorem sum_two {r : Rack} {d : Int} {a b : Line} (ha : 0 ≤ costM r d a) (hb : 0 ≤ costM r d b) : sumM r d [a, b] = (costM r d a + costM r d b, 0) := by
  obtain ⟨h1, h2, h3, n, h4, h5, h6⟩ := cost_some ha
  obtain ⟨_, _, h3', n', h4', h5', h6'⟩ := cost_some hb
  unfold sumM asked3
  have hq : qSum d [a, b] r = true := by
    unfold qSum areLinesB
    rw [h2]
    simp [h3, h3']
  rw [if_pos h1, if_pos hq]
  simp [sumF, h4, h4', h5, h5']
/-- What an order costs. -/
theorem Mn.sum {x : Lett} (hn : 1 ≤ x.lines.length ∧ x.lines.length ≤ 2) {d : Int} {o : Ord2} (h : Mn x d o) : sumM x.rack d (linesO x o) = (co x d o, 0) := by
  obtain ⟨i, h1, h2, h3, h4, h5, h6, h7⟩ := h
  have ha := cost_some h5
  obtain ⟨_, _, _, n, _, e1, b1⟩ := ha
  unfold linesO
  by_cases h : x.lines.length = 1
  · rw [if_pos h, sum_one h5]
    unfold co cB
    rw [if_neg (by omega), Int.add_zero, wrap_id (by omega)]
  · rw [if_neg h]
    unfold cB at h6
    rw [if_pos (by omega)] at h6
    obtain ⟨_, _, _, m, _, e2, b2⟩ := cost_some h6
    rw [sum_two h5 h6]
    unfold co cB
    rw [if_pos (by omega), wrap_id (by omega)]
/-- An order can be read by one book in use. -/
theorem Mn.has {x : Lett} (hx : GL x) {d : Int} {o : Ord2} (h : Mn x d o) : ∃ i, i < x.rack.issues.length ∧ inSpan (x.rack.issues.getD i default).lo (x.rack.issues.getD i default).hi d = true ∧
    ∀ k, k < x.lines.length → hasB (x.lines.getD k default) (x.rack.issues.getD i default) ((linesO x o).getD k default) = true := by
  obtain ⟨i, h1, h2, h3, h4, _⟩ := h
  refine ⟨i, h1, h2, fun k hk => ?_⟩
  have gi := hx.rack.issues _ (getD_mem default h1)
  have gl := hx.line _ (getD_mem default hk)
  rw [linesO_at hx.n hk]
  unfold lineO
  by_cases h0 : k = 0
  · subst h0
    rw [if_pos (by rfl)]
    exact ((mem_meanL gl gi).1 h3).has gl gi
  · rw [if_neg (by omega)]
    have hn := hx.n
    obtain rfl : k = 1 := by omega
    unfold secL at h4
    rw [if_pos hk] at h4
    exact ((mem_meanL gl gi).1 h4).has gl gi
end Wb
