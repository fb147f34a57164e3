import Derived.Test.YtjdljckgphbkmaaDoorJ
set_option linter.unusedVariables false
set_option linter.unusedSimpArgs false
/- A piece that is too big: no kind takes it (no program in sight). -/
namespace Wb
open Go Go.Proofs Enc Row
set_option linter.unusedSimpArgs false
set_option linter.unusedVariables false
set_option maxRecDepth 20000
set_option maxHeartbeats 4000000
/-- There is a division just if one is told. -/
theorem dv_some {c : Bool} {b : PBook} (hG : GBook b) {z : Int} (hz : 0 ≤ z ∧ z ≤ 4) {s : Nat} (hs : s < 128) : 0 ≤ (dvOf c b z s).2 ↔ ∃ L, IsDiv b.kinds.length (postG b z) s L := by
  have h := divD_ok (c := c) (nk := b.kinds.length) (post := postG b z) (fun k p => (postG_nonneg hG hz k p).1) 128 s hs hs
  rcases h with ⟨h1, h2⟩ | ⟨h1, h2, _⟩
  · constructor
    · intro h; unfold dvOf at h; rw [h1] at h; simp only at h; omega
    · rintro ⟨L, hL⟩
      obtain ⟨m, hm, _⟩ := bestK_min (w := wOf c (postG b z)) 128 s hs hs L hL
      rw [h2] at hm; cases hm
  · exact ⟨fun _ => ⟨_, h2⟩, fun _ => h1⟩
theorem and_sub {a s : Nat} (h : a &&& s = a) : ∀ i, a.testBit i = true → s.testBit i = true := fun i hi => by
  rw [← h, Nat.testBit_and] at hi
  simp only [Bool.and_eq_true] at hi; exact hi.2
theorem one_some {c : Bool} {b : PBook} (hG : GBook b) {z : Int} (hz : 0 ≤ z ∧ z ≤ 4) {i : Nat} (hi : i < b.pieces.length) : 0 ≤ (dvOf c b z (2 ^ i)).2 ↔ ∃ k, k < b.kinds.length ∧ fitsB b k (2 ^ i) = true := by
  have hp7 := hG.p7
  have hlt : 2 ^ i < 2 ^ b.pieces.length := (Nat.pow_lt_pow_iff_right (a := 2) (by decide)).2 hi
  have hpos := Nat.two_pow_pos i
  have h128 : 2 ^ i < 128 := Nat.lt_of_lt_of_le hlt (two7 hp7)
  rw [dv_some hG hz h128]
  constructor
  · rintro ⟨L, hL⟩
    have h1 := hL.once i
    rw [if_pos (by simp)] at h1
    obtain ⟨x, hx⟩ := List.exists_mem_of_ne_nil _ (show (L.filter fun x => x.2.testBit i) ≠ [] by intro e; rw [e] at h1; simp at h1)
    obtain ⟨hx, _⟩ := List.mem_filter.1 hx
    obtain ⟨h2, h3, h4, h5⟩ := hL.ok x hx
    have e := pow_sub (Nat.pos_of_ne_zero h4) (and_sub (div_mem hL hx))
    rw [e] at h5
    refine ⟨x.1, h2, ?_⟩
    rw [← Bool.not_eq_false]
    exact fun h => h5 ((postG_zero hG hz h2 hpos hlt).2 h)
  · rintro ⟨k, hk, hf⟩
    have h5 : postG b z k (2 ^ i) ≠ 0 := fun h => by
      rw [(postG_zero hG hz hk hpos hlt).1 h] at hf; cases hf
    have := div_cons (nk := b.kinds.length) (post := postG b z) (s := 2 ^ i) h128 (L := []) (x := (k, 2 ^ i)) (by rw [Nat.sub_self]; exact isDiv_nil) hk h128 (by simp only; omega) h5 (by simp)
    exact ⟨_, this⟩
theorem mem_bigL {b : PBook} {n : Nat} {j : Int} : j ∈ bigL b n ↔ ∃ i : Nat, i < n ∧ (dvOf false b 0 (2 ^ i)).2 < 0 ∧ j = (i : Int) := by
  unfold bigL
  simp only [List.mem_map, List.mem_filter, List.mem_range, decide_eq_true_eq]
  constructor
  · rintro ⟨i, ⟨h1, h2⟩, rfl⟩; exact ⟨i, h1, h2, rfl⟩
  · rintro ⟨i, h1, h2, rfl⟩; exact ⟨i, ⟨h1, h2⟩, rfl⟩
theorem findI_neg {n : Int} : ∀ (l : List Int) (i : Nat), findI (fun a => a == n) l i < 0 ↔ n ∉ l
  | [], i => by simp [findI]
  | a :: l, i => by
    unfold findI
    by_cases h : a = n
    · subst h; simp <;> omega
    · rw [if_neg (by simpa using h), findI_neg l (i + 1)]
      simp [Ne.symm h]
theorem big_place {b : PBook} (hG : GBook b) {i : Nat} (hi : i < b.pieces.length) : findI (fun a => a == (i : Int)) (bigL b b.pieces.length) 0 < 0 ↔ ∃ k, k < b.kinds.length ∧ fitsB b k (2 ^ i) = true := by
  rw [findI_neg, ← one_some (c := false) hG (z := 0) (by decide) hi, mem_bigL]
  constructor
  · intro h
    by_cases h2 : 0 ≤ (dvOf false b 0 (2 ^ i)).2
    · exact h2
    · exact absurd ⟨i, hi, by omega, rfl⟩ h
  · rintro h ⟨j, _, h2, h3⟩
    have e : i = j := by omega
    subst e; omega
theorem of_one_all : ∀ i : Nat, i < 7 → ofS (2 ^ i) 7 = [(i : Int)] := by decide
end Wb
/- ParcelBig. -/
namespace Wb
open Go Go.Proofs Enc Row
set_option linter.unusedSimpArgs false
set_option linter.unusedVariables false
set_option maxRecDepth 20000
set_option maxHeartbeats 4000000
theorem dec_one (a : Int) (ex : Bool) : (dec (.sl [[.int .i64 a]] ex) : Option (List Int)) = some [a] := rfl
theorem big_one (a : Int) : big [a].length = True := eq_true (by unfold big; simp)
theorem big_1 : big 1 = True := eq_true (by unfold big; decide)
theorem bigL_le (b : PBook) (n : Nat) : (bigL b n).length ≤ n := by
  unfold bigL
  rw [List.length_map]
  exact Nat.le_trans (List.length_filter_le _ _) (by simp)
theorem big_law (b : PBook) (h4 : Big4 b) (n0 n1 n2 : Int) : Fn E14 0 8 Tryd.f8 (Tryd.f8.body.getD .skip) [.agg (encB b), .agg [.int .i64 n0, .int .i64 n1, .int .i64 n2]] (.bool true) := by
  have hdb : (dec (.agg (encB b)) : Option PBook) = some b := dec_book b
  unfold Fn Tryd.f8
  cases hb : bookOk b with
  | false =>
    have hbm : bigM b = ([], 60) := by unfold bigM; rw [hb]; rfl
    obtain ⟨ps, ks, gr, fr, un, fe, st⟩ := b
    simp only [encB] at hdb
    simp only [go_sem, Nat.reduceAdd, Nat.reduceSub, Nat.reduceMul, Nat.reduceEqDiff, Nat.reduceLT, Nat.reduceLeDiff, Nat.reduceBEq, Nat.reduceBNe, Int.reduceToNat, Int.reduceLE, Int.reduceLT, Int.reduceNe, Int.reduceNeg, reduceCtorEq, Int.reduceBEq, Int.reduceBNe, @callV_spec E14 20 s20 rfl, @callV_specT E14 20 s20 rfl, @stepV_spec E14 20 s20 rfl, @effV_spec E14 20 s20 rfl, s20, @callV_spec E14 36 s36 rfl, @callV_specT E14 36 s36 rfl, @stepV_spec E14 36 s36 rfl, @effV_spec E14 36 s36 rfl, s36, @callV_spec E14 23 s23 rfl, @callV_specT E14 23 s23 rfl, @stepV_spec E14 23 s23 rfl, @effV_spec E14 23 s23 rfl, s23, encB, callSpec, hdb, h4, hb, hbm, il_nil0]
  | true =>
    have hG := book_good hb
    have p1 := hG.p1
    have p7 := hG.p7
    have k1 := hG.k1
    have k4 := hG.k4
    have hbm : bigM b = (bigL b b.pieces.length, 0) := by unfold bigM; rw [hb]; rfl
    obtain ⟨i, hi, hil⟩ := spin_nat (n := n0) (m := b.pieces.length) (by omega)
    obtain ⟨kd, hk, hkl⟩ := spin_nat (n := n1) (m := b.kinds.length) (by omega)
    obtain ⟨z, hz, hzl⟩ := spin_nat (n := n2) (m := 5) (by omega)
    rw [show ((5 : Nat) : Int) = 5 from rfl] at hz
    have hzz : 0 ≤ (z : Int) ∧ (z : Int) ≤ 4 := by omega
    have hlt : 2 ^ i < 2 ^ b.pieces.length := (Nat.pow_lt_pow_iff_right (a := 2) (by decide)).2 hil
    have hpos := Nat.two_pow_pos i
    have hone := of_one_all i (by omega)
    have hF : ∀ k : Nat, k < b.kinds.length → fitsM b ⟨(k : Int), [(i : Int)]⟩ = (fitsB b k (2 ^ i), 0) := fun k hk => by rw [← hone]; exact fitsM_of hb hk hpos hlt
    have hT : ∀ k : Nat, takesM b (k : Int) [(i : Int)] = fitsB b k (2 ^ i) := fun k => by rw [← hone]; exact takes_fits hG hlt
    have okT : ∀ k : Nat, k < b.kinds.length → okTake b (k : Int) [(i : Int)] = True := fun k hk => eq_true ⟨hG, by omega, by rw [← hone]; exact inP_of hlt, by simp⟩
    have hP := postM_of hb hkl hpos hlt hzz
    have hC := postG_fit (z := (z : Int)) hkl hpos hlt
    rw [hone] at hP hC
    have okC : okCost b (kd : Int) [(i : Int)] z = True := eq_true ⟨of_eq_true (okT kd hkl), by rw [← hone, sumP_allF]; exact weight_pos hG hpos hlt, hzz⟩
    have hplace := big_place hG hil
    have hLb : big (bigL b b.pieces.length).length = True := eq_true (by have := bigL_le b b.pieces.length; unfold big; omega)
    have hpb : ((b.pieces.length : Int) ≤ 9223372036854775807) = True := eq_true (by omega)
    have hkb : ((b.kinds.length : Int) ≤ 9223372036854775807) = True := eq_true (by omega)
    generalize hfit : (fun k : Nat => fitsB b k (2 ^ i)) = fit at *
    have hF : ∀ k : Nat, k < b.kinds.length → fitsM b ⟨(k : Int), [(i : Int)]⟩ = (fit k, 0) := fun k hk => by rw [← hfit]; exact hF k hk
    have hT : ∀ k : Nat, takesM b (k : Int) [(i : Int)] = fit k := fun k => by rw [← hfit]; exact hT k
    have hTk := hT kd
    rw [show fitsB b kd (2 ^ i) = fit kd from congrFun hfit kd] at hP hC
    have hplace2 : findI (fun a => a == (i : Int)) (bigL b b.pieces.length) 0 < 0 ↔ ∃ k, k < b.kinds.length ∧ fit k = true := by rw [hplace, ← hfit]
    obtain ⟨ps, ks, gr, fr, un, fe, st⟩ := b
    simp only [encB] at hdb
    simp only at hi hk hil hkl hpb hkb p7 k4 hplace2 hLb hbm
    generalize hfl : findI (fun a => a == (i : Int)) (bigL ⟨ps, ks, gr, fr, un, fe, st⟩ ps.length) 0 = fl at *
    simp only [go_sem, Nat.reduceAdd, Nat.reduceSub, Nat.reduceMul, Nat.reduceEqDiff, Nat.reduceLT, Nat.reduceLeDiff, Nat.reduceBEq, Nat.reduceBNe, Int.reduceToNat, Int.reduceLE, Int.reduceLT, Int.reduceNe, Int.reduceNeg, reduceCtorEq, Int.reduceBEq, Int.reduceBNe, @callV_spec E14 20 s20 rfl, @callV_specT E14 20 s20 rfl, @stepV_spec E14 20 s20 rfl, @effV_spec E14 20 s20 rfl, s20, @callV_spec E14 36 s36 rfl, @callV_specT E14 36 s36 rfl, @stepV_spec E14 36 s36 rfl, @effV_spec E14 36 s36 rfl, s36, @callV_spec E14 23 s23 rfl, @callV_specT E14 23 s23 rfl, @stepV_spec E14 23 s23 rfl, @effV_spec E14 23 s23 rfl, s23, @callV_spec E14 35 sSpin rfl, @callV_specT E14 35 sSpin rfl, @stepV_spec E14 35 sSpin rfl, @effV_spec E14 35 sSpin rfl, sSpin, encB, callSpec, hdb, h4, hb, hbm, hi, hk, hz, hpb, hkb, List.length_map]
    refine ev_loopS [2, 3, 5, 6, 7, 8, 9] (fun j : Nat => [(10, .bool ((List.range j).any fit)), (11, .int .i64 j)])
      (fun j H => j ≤ ks.length ∧ H (([], 8000000) : Key) = some (.cells (encB ⟨ps, ks, gr, fr, un, fe, st⟩) 1 false))
      (fun j => ks.length - j) 0 ?_ ⟨Nat.zero_le _, ?_⟩ ?_
    · simp only [go_sem, Nat.reduceAdd, Nat.reduceSub, Nat.reduceMul, Nat.reduceEqDiff, Nat.reduceLT, Nat.reduceLeDiff, Nat.reduceBEq, Nat.reduceBNe, Int.reduceToNat, Int.reduceLE, Int.reduceLT, Int.reduceNe, Int.reduceNeg, reduceCtorEq, Int.reduceBEq, Int.reduceBNe, List.range_zero, List.any_nil, Int.natCast_zero]
    · simp only [go_sem, Nat.reduceAdd, Nat.reduceSub, Nat.reduceMul, Nat.reduceEqDiff, Nat.reduceLT, Nat.reduceLeDiff, Nat.reduceBEq, Nat.reduceBNe, Int.reduceToNat, Int.reduceLE, Int.reduceLT, Int.reduceNe, Int.reduceNeg, reduceCtorEq, Int.reduceBEq, Int.reduceBNe, encB]
    · simp only [go_sem, Nat.reduceAdd, Nat.reduceSub, Nat.reduceMul, Nat.reduceEqDiff, Nat.reduceLT, Nat.reduceLeDiff, Nat.reduceBEq, Nat.reduceBNe, Int.reduceToNat, Int.reduceLE, Int.reduceLT, Int.reduceNe, Int.reduceNeg, reduceCtorEq, Int.reduceBEq, Int.reduceBNe]
      intro K j H ⟨hj, h1⟩ hK hE
      have h1' := h1
      simp only [encB] at h1'
      simp only [go_sem, Nat.reduceAdd, Nat.reduceSub, Nat.reduceMul, Nat.reduceEqDiff, Nat.reduceLT, Nat.reduceLeDiff, Nat.reduceBEq, Nat.reduceBNe, Int.reduceToNat, Int.reduceLE, Int.reduceLT, Int.reduceNe, Int.reduceNeg, reduceCtorEq, Int.reduceBEq, Int.reduceBNe, h1', List.length_map]
      rw [condK_bool]
      refine ⟨fun h => ?_, fun h => ?_⟩
      · have h' : j < ks.length := by simpa using h
        have w2 : IntKind.i64.wrap ((j : Int) + 1) = ((j + 1 : Nat) : Int) := by rw [Int.natCast_add, Int.natCast_one]; exact wrap_id (by omega)
        have hFj := hF j h'
        have hTj := hT j
        have okTj := okT j h'
        have hany : (List.range (j + 1)).any fit = ((List.range j).any fit || fit j) := by rw [List.range_succ, List.any_append]; simp
        generalize hgj : fit j = fj at *
        have nff : (fj != fj) = false := by cases fj <;> rfl
        simp only [go_sem, Nat.reduceAdd, Nat.reduceSub, Nat.reduceMul, Nat.reduceEqDiff, Nat.reduceLT, Nat.reduceLeDiff, Nat.reduceBEq, Nat.reduceBNe, Int.reduceToNat, Int.reduceLE, Int.reduceLT, Int.reduceNe, Int.reduceNeg, reduceCtorEq, Int.reduceBEq, Int.reduceBNe, @callV_spec E14 42 s42 rfl, @callV_specT E14 42 s42 rfl, @stepV_spec E14 42 s42 rfl, @effV_spec E14 42 s42 rfl, s42, @callV_spec E14 14 s14 rfl, @callV_specT E14 14 s14 rfl, @stepV_spec E14 14 s14 rfl, @effV_spec E14 14 s14 rfl, s14, @callV_spec E14 43 s43 rfl, @callV_specT E14 43 s43 rfl, @stepV_spec E14 43 s43 rfl, @effV_spec E14 43 s43 rfl, s43, callSpec, h1', hdb, dec_one, big_one, h4, hFj, hTj, okTj, nff, big_1]
        refine hK (j + 1) _ _ ?_ ⟨h', ?_⟩ (by omega)
        · rw [List.range_succ] at hany
          simp only [go_sem, Nat.reduceAdd, Nat.reduceSub, Nat.reduceMul, Nat.reduceEqDiff, Nat.reduceLT, Nat.reduceLeDiff, Nat.reduceBEq, Nat.reduceBNe, Int.reduceToNat, Int.reduceLE, Int.reduceLT, Int.reduceNe, Int.reduceNeg, reduceCtorEq, Int.reduceBEq, Int.reduceBNe, w2, hany]
        · simp only [go_sem, Nat.reduceAdd, Nat.reduceSub, Nat.reduceMul, Nat.reduceEqDiff, Nat.reduceLT, Nat.reduceLeDiff, Nat.reduceBEq, Nat.reduceBNe, Int.reduceToNat, Int.reduceLE, Int.reduceLT, Int.reduceNe, Int.reduceNeg, reduceCtorEq, Int.reduceBEq, Int.reduceBNe, h1]
      · have hjl : j = ks.length := by simp only [decide_eq_false_iff_not] at h; omega
        subst hjl
        have hsome : ((List.range ks.length).any fit == decide (fl < 0)) = true := by
          rw [beq_iff_eq, Bool.eq_iff_iff, decide_eq_true_eq, hplace2, List.any_eq_true]
          constructor
          · rintro ⟨k, hk1, hk2⟩; exact ⟨k, List.mem_range.1 hk1, hk2⟩
          · rintro ⟨k, hk1, hk2⟩; exact ⟨k, List.mem_range.2 hk1, hk2⟩
        have okTd := okT kd hkl
        refine hE _ _ _ (by simp) ?_
        cases hfk : fit kd with
        | true =>
          rw [if_pos hfk] at hP
          rw [hfk] at hTk
          have hc := hC hfk
          have hcb : (postG ⟨ps, ks, gr, fr, un, fe, st⟩ z kd (2 ^ i) == costsM ⟨ps, ks, gr, fr, un, fe, st⟩ kd [(i : Int)] z) = true := by rw [hc]; exact beq_self_eq_true _
          simp only [go_sem, Nat.reduceAdd, Nat.reduceSub, Nat.reduceMul, Nat.reduceEqDiff, Nat.reduceLT, Nat.reduceLeDiff, Nat.reduceBEq, Nat.reduceBNe, Int.reduceToNat, Int.reduceLE, Int.reduceLT, Int.reduceNe, Int.reduceNeg, reduceCtorEq, Int.reduceBEq, Int.reduceBNe, @callV_spec E14 42 s42 rfl, @callV_specT E14 42 s42 rfl, @stepV_spec E14 42 s42 rfl, @effV_spec E14 42 s42 rfl, s42, @callV_spec E14 18 s18 rfl, @callV_specT E14 18 s18 rfl, @stepV_spec E14 18 s18 rfl, @effV_spec E14 18 s18 rfl, s18, @callV_spec E14 43 s43 rfl, @callV_specT E14 43 s43 rfl, @stepV_spec E14 43 s43 rfl, @effV_spec E14 43 s43 rfl, s43, @callV_spec E14 44 sPlace rfl, @callV_specT E14 44 sPlace rfl, @stepV_spec E14 44 sPlace rfl, @effV_spec E14 44 sPlace rfl, sPlace, @callV_spec E14 45 s45 rfl, @callV_specT E14 45 s45 rfl, @stepV_spec E14 45 s45 rfl, @effV_spec E14 45 s45 rfl, s45, @callV_spec E14 23 s23 rfl, @callV_specT E14 23 s23 rfl, @stepV_spec E14 23 s23 rfl, @effV_spec E14 23 s23 rfl, s23, callSpec, h1', hdb, dec_one, big_one, big_1, h4, hP, hTk, okTd, okC, hLb, hfl, hsome, hcb]
          trace_state
        | false =>
          rw [if_neg (by rw [hfk]; simp)] at hP
          rw [hfk] at hTk
          simp only [go_sem, Nat.reduceAdd, Nat.reduceSub, Nat.reduceMul, Nat.reduceEqDiff, Nat.reduceLT, Nat.reduceLeDiff, Nat.reduceBEq, Nat.reduceBNe, Int.reduceToNat, Int.reduceLE, Int.reduceLT, Int.reduceNe, Int.reduceNeg, reduceCtorEq, Int.reduceBEq, Int.reduceBNe, @callV_spec E14 42 s42 rfl, @callV_specT E14 42 s42 rfl, @stepV_spec E14 42 s42 rfl, @effV_spec E14 42 s42 rfl, s42, @callV_spec E14 18 s18 rfl, @callV_specT E14 18 s18 rfl, @stepV_spec E14 18 s18 rfl, @effV_spec E14 18 s18 rfl, s18, @callV_spec E14 43 s43 rfl, @callV_specT E14 43 s43 rfl, @stepV_spec E14 43 s43 rfl, @effV_spec E14 43 s43 rfl, s43, @callV_spec E14 44 sPlace rfl, @callV_specT E14 44 sPlace rfl, @stepV_spec E14 44 sPlace rfl, @effV_spec E14 44 sPlace rfl, sPlace, @callV_spec E14 45 s45 rfl, @callV_specT E14 45 s45 rfl, @stepV_spec E14 45 s45 rfl, @effV_spec E14 45 s45 rfl, s45, @callV_spec E14 23 s23 rfl, @callV_specT E14 23 s23 rfl, @stepV_spec E14 23 s23 rfl, @effV_spec E14 23 s23 rfl, s23, callSpec, h1', hdb, dec_one, big_one, big_1, h4, hP, hTk, okTd, okC, hLb, hfl, hsome]
          trace_state
end Wb
