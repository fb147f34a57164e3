import Derived.Test.YtjdljckgphbkmaaDoorAD
set_option linter.unusedVariables false
set_option linter.unusedSimpArgs false
/- A division that numbers choose: the walk. -/
namespace Wb
open Go Go.Proofs Enc Row
set_option linter.unusedSimpArgs false
set_option linter.unusedVariables false
set_option maxRecDepth 20000
set_option maxHeartbeats 4000000
def setV (l : List Int) : PV := .sl (il l) l.isEmpty
def setC (S : List (List Int)) : List PV := S.map setV
theorem setC_get (S : List (List Int)) {k : Nat} (h : k < S.length) (d : PV) : (setC S).getD k d = .sl (il (S.getD k [])) (S.getD k []).isEmpty := by
  unfold setC; simp [List.getD_eq_getElem?_getD, h, setV]
theorem setC_set (S : List (List Int)) (k : Nat) (l : List Int) (i : Int) : (setC S).set k (.sl (il (l ++ [i])) false) = setC (S.set k (l ++ [i])) := by
  unfold setC
  rw [List.map_set]
  congr 1
  unfold setV
  have : (l ++ [i]).isEmpty = false := by cases l <;> rfl
  rw [this]
theorem setC_len (S : List (List Int)) : (setC S).length = S.length := by unfold setC; simp
theorem setC_zero : setC [[], [], [], [], [], [], []] = [.sl [] true, .sl [] true, .sl [] true, .sl [] true, .sl [] true, .sl [] true, .sl [] true] := rfl
theorem packed_fn (b : PBook) (hG : GBook b) (bits : List Int) (hbl : big bits.length) : Fn E24 0 38 Tryd.f38 (Tryd.f38.body.getD .skip) [.agg (encB b), .sl (il bits) false] (.tup [.sl ((packedM b bits).1.map encQ) false, .bool (packedM b bits).2]) := by
  have hdb : (dec (.agg (encB b)) : Option PBook) = some b := dec_book b
  have p1 := hG.p1
  have p7 := hG.p7
  have k1 := hG.k1
  have k4 := hG.k4
  have hT : ∀ m : Int, (if bits.length = 0 then (0 : Int) else bits.getD (spinF m (bits.length : Int)).toNat 0) = takeF bits m := fun _ => rfl
  have hpw : ((b.pieces.length : Int) ≤ 9223372036854775807) = True := eq_true (by omega)
  have hkw : ((b.kinds.length : Int) ≤ 9223372036854775807) = True := eq_true (by omega)
  have hsl := setsF_len b bits
  have hso := setsF_ok hG bits
  have hko := fun S i => kOf_range hG.p1 bits S i
  have hkd : ∀ S i, kOf b bits S i = if (b.pieces.getD i default).alone then findK b.pieces.length S b.pieces.length (spinF (takeF bits i) b.pieces.length) else spinF (takeF bits i) b.pieces.length := fun _ _ => rfl
  have hss : ∀ i, setsF b bits (i + 1) = (setsF b bits i).set (kOf b bits (setsF b bits i) i).toNat ((setsF b bits i).getD (kOf b bits (setsF b bits i) i).toNat [] ++ [(i : Int)]) := fun _ => rfl
  have hs0 : setsF b bits 0 = [[], [], [], [], [], [], []] := rfl
  have hpk : ∀ o, outF b bits (setsF b bits b.pieces.length) 7 = some o → packedM b bits = (o, true) := fun o h => by unfold packedM; rw [h]
  have hpn : outF b bits (setsF b bits b.pieces.length) 7 = none → packedM b bits = ([], false) := fun h => by unfold packedM; rw [h]
  have hout : ∀ S k o, outF b bits S k = some o → outF b bits S (k + 1) = if ((S.getD k []).length : Int) == 0 then some o else if kindF b bits S k < 0 then none else some (o ++ [⟨kindF b bits S k, S.getD k []⟩]) := fun S k o h => by rw [outF, h]
  have hkf : ∀ S k, kindF b bits S k = kindN b (S.getD k []) (spinF (takeF bits ((k : Int) + 3)) b.kinds.length) b.kinds.length := fun _ _ => rfl
  have hkn := fun l first => kindN_ok (b := b) hG.k1 l first
  have hkst := kindN_stay b
  have hkns : ∀ l first m, kindN b l first (m + 1) = if kindN b l first m < 0 then (if takesM b (spinF (first + m) b.kinds.length) l then spinF (first + m) b.kinds.length else -1) else kindN b l first m := fun _ _ _ => rfl
  have hok : ∀ (l : List Int) (j : Int), climbsF b.pieces.length (-1) l = true → (0 ≤ j ∧ j < b.kinds.length) → okTake b j l = True := fun l j h hj => by
    have e := climb_of hG.p7 h
    have hm := climbs_mem _ _ h
    refine eq_true ⟨hG, hj, fun q hq => by have := hm q hq; omega, ?_⟩
    rw [e]; exact Nat.le_trans (ofS_len _ 7) (by decide)
  have hl7 : ∀ (l : List Int), climbsF b.pieces.length (-1) l = true → l.length ≤ 7 := fun l h => by
    rw [climb_of hG.p7 h]; exact ofS_len _ 7
  have ho7 : ∀ S, (∀ k, k < 7 → climbsF b.pieces.length (-1) (S.getD k []) = true) → ∀ m o, m ≤ 7 → outF b bits S m = some o → o.length ≤ 7 := fun S hS m o hm h => by
    obtain ⟨L, l1, l2, _⟩ := outF_ok hG bits hS m hm o h
    rw [l1, toldL_len]; omega
  have hci : ∀ i, i ≤ b.pieces.length → ∀ k, k < 7 → ((setsF b bits i).getD k []).length ≤ 7 := fun i hi k hk => by
    have h := (hso i hi).1 k hk
    rw [climb_of (by omega : i ≤ 7) h]; exact ofS_len _ 7
  unfold Fn Tryd.f38
  obtain ⟨ps, ks, gr, fr, un, fe, st⟩ := b
  simp only [encB] at hdb
  simp only at p1 p7 k1 k4 hpw hkw hko hkd hkf hkns hkn hok hl7 ho7 hci hso hpk hpn
  simp only [go_sem, Nat.reduceAdd, Nat.reduceSub, Nat.reduceMul, Nat.reduceEqDiff, Nat.reduceLT, Nat.reduceLeDiff, Nat.reduceBEq, Nat.reduceBNe, Int.reduceToNat, Int.reduceLE, Int.reduceLT, Int.reduceNe, Int.reduceNeg, reduceCtorEq, Int.reduceBEq, Int.reduceBNe, encB]
  refine ev_loopS [1, 2, 6] (fun i : Nat => [(7, .int .i64 i)])
    (fun i H => i ≤ ps.length ∧ H (([], 38000000) : Key) = some (.cells (encB ⟨ps, ks, gr, fr, un, fe, st⟩) 1 false) ∧ H (([], 38001000) : Key) = some (.cells (setC (setsF ⟨ps, ks, gr, fr, un, fe, st⟩ bits i)) 1 false))
    (fun i => ps.length - i) 0 ?_ ⟨Nat.zero_le _, ?_, ?_⟩ ?_
  · simp only [go_sem, Nat.reduceAdd, Nat.reduceSub, Nat.reduceMul, Nat.reduceEqDiff, Nat.reduceLT, Nat.reduceLeDiff, Nat.reduceBEq, Nat.reduceBNe, Int.reduceToNat, Int.reduceLE, Int.reduceLT, Int.reduceNe, Int.reduceNeg, reduceCtorEq, Int.reduceBEq, Int.reduceBNe, Int.natCast_zero]
  · simp only [go_sem, Nat.reduceAdd, Nat.reduceSub, Nat.reduceMul, Nat.reduceEqDiff, Nat.reduceLT, Nat.reduceLeDiff, Nat.reduceBEq, Nat.reduceBNe, Int.reduceToNat, Int.reduceLE, Int.reduceLT, Int.reduceNe, Int.reduceNeg, reduceCtorEq, Int.reduceBEq, Int.reduceBNe, encB]
  · rw [hs0, setC_zero]
    simp only [go_sem, Nat.reduceAdd, Nat.reduceSub, Nat.reduceMul, Nat.reduceEqDiff, Nat.reduceLT, Nat.reduceLeDiff, Nat.reduceBEq, Nat.reduceBNe, Int.reduceToNat, Int.reduceLE, Int.reduceLT, Int.reduceNe, Int.reduceNeg, reduceCtorEq, Int.reduceBEq, Int.reduceBNe]
  · simp only [go_sem, Nat.reduceAdd, Nat.reduceSub, Nat.reduceMul, Nat.reduceEqDiff, Nat.reduceLT, Nat.reduceLeDiff, Nat.reduceBEq, Nat.reduceBNe, Int.reduceToNat, Int.reduceLE, Int.reduceLT, Int.reduceNe, Int.reduceNeg, reduceCtorEq, Int.reduceBEq, Int.reduceBNe]
    intro K i H ⟨hi, g1, g2⟩ hK hE
    have g1' := g1
    simp only [encB] at g1'
    simp only [go_sem, Nat.reduceAdd, Nat.reduceSub, Nat.reduceMul, Nat.reduceEqDiff, Nat.reduceLT, Nat.reduceLeDiff, Nat.reduceBEq, Nat.reduceBNe, Int.reduceToNat, Int.reduceLE, Int.reduceLT, Int.reduceNe, Int.reduceNeg, reduceCtorEq, Int.reduceBEq, Int.reduceBNe, g1', List.length_map]
    rw [condK_bool]
    refine ⟨fun h => ?_, fun h => ?_⟩
    · have h' : i < ps.length := by simpa using h
      have hii : (i : Int) < (ps.length : Int) := by omega
      have w2 : IntKind.i64.wrap ((i : Int) + 1) = ((i + 1 : Nat) : Int) := by rw [Int.natCast_add, Int.natCast_one]; exact wrap_id (by omega)
      have hS7 := hsl i
      have hci' := hci i (by omega)
      obtain ⟨ka, kb⟩ := hko (setsF ⟨ps, ks, gr, fr, un, fe, st⟩ bits i) i
      have hkd' := hkd (setsF ⟨ps, ks, gr, fr, un, fe, st⟩ bits i) i
      have hss' := hss i
      generalize setsF ⟨ps, ks, gr, fr, un, fe, st⟩ bits i = S at *
      obtain ⟨c, hc⟩ : ∃ c : Nat, kOf ⟨ps, ks, gr, fr, un, fe, st⟩ bits S i = (c : Int) := ⟨(kOf ⟨ps, ks, gr, fr, un, fe, st⟩ bits S i).toNat, by omega⟩
      rw [hc] at hkd' hss' ka kb
      rw [Int.toNat_natCast] at hss'
      obtain ⟨κ0, hκ0, hκ0l⟩ := spin_nat (n := takeF bits i) (m := ps.length) (by omega)
      rw [hκ0] at hkd'
      have hc7 : c < 7 := by omega
      have hc7i : (c : Int) < 7 := by omega
      have hc6 : c ≤ 6 := by omega
      have hcl : (S.getD c []).length < 1000000000 := by have := hci' c hc7; omega
      have hcl := eq_true hcl
      have hget := fun (k : Nat) (hk : k < 7) d => setC_get S (k := k) (by omega) d
      have hset := setC_set S c (S.getD c []) (i : Int)
      rw [← hss'] at hset
      have hcc := setC_len S
      rw [hS7] at hcc
      generalize hcs : setC S = cs at *
      generalize hyy : ps.getD i default = y at *
      cases hal : y.alone with
      | false =>
        rw [hal, if_neg (by simp)] at hkd'
        have hκc : κ0 = c := by omega
        subst hκc
        have hgc := hget κ0 hc7
        simp only [go_sem, Nat.reduceAdd, Nat.reduceSub, Nat.reduceMul, Nat.reduceEqDiff, Nat.reduceLT, Nat.reduceLeDiff, Nat.reduceBEq, Nat.reduceBNe, Int.reduceToNat, Int.reduceLE, Int.reduceLT, Int.reduceNe, Int.reduceNeg, reduceCtorEq, Int.reduceBEq, Int.reduceBNe, @callV_spec E24 48 s48 rfl, @callV_specT E24 48 s48 rfl, @stepV_spec E24 48 s48 rfl, @effV_spec E24 48 s48 rfl, s48, @callV_spec E24 35 sSpin rfl, @callV_specT E24 35 sSpin rfl, @stepV_spec E24 35 sSpin rfl, @effV_spec E24 35 sSpin rfl, sSpin, @callV_spec E24 79 s79 rfl, @callV_specT E24 79 s79 rfl, @stepV_spec E24 79 s79 rfl, @effV_spec E24 79 s79 rfl, s79, callSpec, g1', g2, hbl, hT, hpw, hκ0, hii, h', getD_mapN encP ps i _ h', hyy, encP, hal, hc7, hc7i, hc6, Nat.mul_one, hgc, hcl, hset, hcc, il_length, List.length_map]
        refine hK (i + 1) _ _ ?_ ⟨h', ?_, ?_⟩ (by omega)
        · simp only [go_sem, Nat.reduceAdd, Nat.reduceSub, Nat.reduceMul, Nat.reduceEqDiff, Nat.reduceLT, Nat.reduceLeDiff, Nat.reduceBEq, Nat.reduceBNe, Int.reduceToNat, Int.reduceLE, Int.reduceLT, Int.reduceNe, Int.reduceNeg, reduceCtorEq, Int.reduceBEq, Int.reduceBNe, w2]
        · simp only [go_sem, Nat.reduceAdd, Nat.reduceSub, Nat.reduceMul, Nat.reduceEqDiff, Nat.reduceLT, Nat.reduceLeDiff, Nat.reduceBEq, Nat.reduceBNe, Int.reduceToNat, Int.reduceLE, Int.reduceLT, Int.reduceNe, Int.reduceNeg, reduceCtorEq, Int.reduceBEq, Int.reduceBNe, g1]
        · simp only [go_sem, Nat.reduceAdd, Nat.reduceSub, Nat.reduceMul, Nat.reduceEqDiff, Nat.reduceLT, Nat.reduceLeDiff, Nat.reduceBEq, Nat.reduceBNe, Int.reduceToNat, Int.reduceLE, Int.reduceLT, Int.reduceNe, Int.reduceNeg, reduceCtorEq, Int.reduceBEq, Int.reduceBNe]
      | true =>
        rw [hal, if_pos rfl] at hkd'
        simp only [go_sem, Nat.reduceAdd, Nat.reduceSub, Nat.reduceMul, Nat.reduceEqDiff, Nat.reduceLT, Nat.reduceLeDiff, Nat.reduceBEq, Nat.reduceBNe, Int.reduceToNat, Int.reduceLE, Int.reduceLT, Int.reduceNe, Int.reduceNeg, reduceCtorEq, Int.reduceBEq, Int.reduceBNe, @callV_spec E24 48 s48 rfl, @callV_specT E24 48 s48 rfl, @stepV_spec E24 48 s48 rfl, @effV_spec E24 48 s48 rfl, s48, @callV_spec E24 35 sSpin rfl, @callV_specT E24 35 sSpin rfl, @stepV_spec E24 35 sSpin rfl, @effV_spec E24 35 sSpin rfl, sSpin, callSpec, g1', g2, hbl, hT, hpw, hκ0, hii, h', getD_mapN encP ps i _ h', hyy, encP, hal, List.length_map]
        refine ev_loopS [1, 2, 6, 7] (fun x : Nat × Nat => [(8, .int .i64 x.2), (9, .int .i64 x.1)])
          (fun x H => (x.1 ≤ ps.length ∧ x.2 < ps.length ∧ findK ps.length S (ps.length - x.1) x.2 = findK ps.length S ps.length κ0) ∧ H (([], 38000000) : Key) = some (.cells (encB ⟨ps, ks, gr, fr, un, fe, st⟩) 1 false) ∧ H (([], 38001000) : Key) = some (.cells cs 1 false))
          (fun x => ps.length - x.1) (0, κ0) ?_ ⟨⟨Nat.zero_le _, hκ0l, rfl⟩, g1, g2⟩ ?_
        · simp only [go_sem, Nat.reduceAdd, Nat.reduceSub, Nat.reduceMul, Nat.reduceEqDiff, Nat.reduceLT, Nat.reduceLeDiff, Nat.reduceBEq, Nat.reduceBNe, Int.reduceToNat, Int.reduceLE, Int.reduceLT, Int.reduceNe, Int.reduceNeg, reduceCtorEq, Int.reduceBEq, Int.reduceBNe, Int.natCast_zero]
        · simp only [go_sem, Nat.reduceAdd, Nat.reduceSub, Nat.reduceMul, Nat.reduceEqDiff, Nat.reduceLT, Nat.reduceLeDiff, Nat.reduceBEq, Nat.reduceBNe, Int.reduceToNat, Int.reduceLE, Int.reduceLT, Int.reduceNe, Int.reduceNeg, reduceCtorEq, Int.reduceBEq, Int.reduceBNe]
          intro K2 x H2 ⟨⟨hj, hxl, hfk⟩, r1, r2⟩ hK2 hE2
          obtain ⟨j, κ⟩ := x
          simp only at hj hxl hfk
          dsimp only
          have r1' := r1
          simp only [encB] at r1'
          have hκ7 : κ < 7 := by omega
          have hκ7i : (κ : Int) < 7 := by omega
          have hκ6 : κ ≤ 6 := by omega
          have hgκ := hget κ hκ7
          simp only [go_sem, Nat.reduceAdd, Nat.reduceSub, Nat.reduceMul, Nat.reduceEqDiff, Nat.reduceLT, Nat.reduceLeDiff, Nat.reduceBEq, Nat.reduceBNe, Int.reduceToNat, Int.reduceLE, Int.reduceLT, Int.reduceNe, Int.reduceNeg, reduceCtorEq, Int.reduceBEq, Int.reduceBNe, r1', r2, hκ7, hκ7i, hκ6, Nat.mul_one, hgκ, hcc, il_length, List.length_map]
          rw [condK_bool]
          refine ⟨fun hc2 => ?_, fun hc2 => ?_⟩
          · simp only [Bool.and_eq_true, decide_eq_true_eq] at hc2
            have hj' : j < ps.length := by omega
            have w8 : IntKind.i64.wrap ((j : Int) + 1) = ((j + 1 : Nat) : Int) := by rw [Int.natCast_add, Int.natCast_one]; exact wrap_id (by omega)
            have w9 : IntKind.i64.wrap ((κ : Int) + 1) = (κ : Int) + 1 := wrap_id (by omega)
            obtain ⟨κ', hκ', hκl'⟩ := spin_nat (n := (κ : Int) + 1) (m := ps.length) (by omega)
            rw [show ps.length - j = (ps.length - (j + 1)) + 1 by omega, findK, Int.toNat_natCast, if_pos hc2.2, hκ'] at hfk
            simp only [go_sem, Nat.reduceAdd, Nat.reduceSub, Nat.reduceMul, Nat.reduceEqDiff, Nat.reduceLT, Nat.reduceLeDiff, Nat.reduceBEq, Nat.reduceBNe, Int.reduceToNat, Int.reduceLE, Int.reduceLT, Int.reduceNe, Int.reduceNeg, reduceCtorEq, Int.reduceBEq, Int.reduceBNe, @callV_spec E24 35 sSpin rfl, @callV_specT E24 35 sSpin rfl, @stepV_spec E24 35 sSpin rfl, @effV_spec E24 35 sSpin rfl, sSpin, callSpec, r1', w9, hpw, hκ', List.length_map]
            refine hK2 (j + 1, κ') _ _ ?_ ⟨⟨hj', hκl', hfk⟩, ?_, ?_⟩ (by simp only; omega)
            · simp only [go_sem, Nat.reduceAdd, Nat.reduceSub, Nat.reduceMul, Nat.reduceEqDiff, Nat.reduceLT, Nat.reduceLeDiff, Nat.reduceBEq, Nat.reduceBNe, Int.reduceToNat, Int.reduceLE, Int.reduceLT, Int.reduceNe, Int.reduceNeg, reduceCtorEq, Int.reduceBEq, Int.reduceBNe, w8]
            · simp only [go_sem, Nat.reduceAdd, Nat.reduceSub, Nat.reduceMul, Nat.reduceEqDiff, Nat.reduceLT, Nat.reduceLeDiff, Nat.reduceBEq, Nat.reduceBNe, Int.reduceToNat, Int.reduceLE, Int.reduceLT, Int.reduceNe, Int.reduceNeg, reduceCtorEq, Int.reduceBEq, Int.reduceBNe, r1]
            · simp only [go_sem, Nat.reduceAdd, Nat.reduceSub, Nat.reduceMul, Nat.reduceEqDiff, Nat.reduceLT, Nat.reduceLeDiff, Nat.reduceBEq, Nat.reduceBNe, Int.reduceToNat, Int.reduceLE, Int.reduceLT, Int.reduceNe, Int.reduceNeg, reduceCtorEq, Int.reduceBEq, Int.reduceBNe, r2]
          · have hfin : findK ps.length S (ps.length - j) κ = κ := by
              by_cases e : j = ps.length
              · subst e; rw [Nat.sub_self, findK]
              · rw [show ps.length - j = (ps.length - (j + 1)) + 1 by omega, findK, Int.toNat_natCast, if_neg]
                intro hgt
                have : (decide ((j : Int) < (ps.length : Int)) && decide (((S.getD κ []).length : Int) > 0)) = true := by
                  rw [Bool.and_eq_true, decide_eq_true_eq, decide_eq_true_eq]; exact ⟨by omega, hgt⟩
                rw [hc2] at this; cases this
            rw [hfin] at hfk
            have hκc : κ = c := by omega
            subst hκc
            refine hE2 _ _ _ (by simp) ?_
            simp only [go_sem, Nat.reduceAdd, Nat.reduceSub, Nat.reduceMul, Nat.reduceEqDiff, Nat.reduceLT, Nat.reduceLeDiff, Nat.reduceBEq, Nat.reduceBNe, Int.reduceToNat, Int.reduceLE, Int.reduceLT, Int.reduceNe, Int.reduceNeg, reduceCtorEq, Int.reduceBEq, Int.reduceBNe, @callV_spec E24 79 s79 rfl, @callV_specT E24 79 s79 rfl, @stepV_spec E24 79 s79 rfl, @effV_spec E24 79 s79 rfl, s79, callSpec, r2, hc7, hc7i, hc6, Nat.mul_one, hgκ, hcl, hset, hcc, il_length]
            refine hK (i + 1) _ _ ?_ ⟨h', ?_, ?_⟩ (by omega)
            · simp only [go_sem, Nat.reduceAdd, Nat.reduceSub, Nat.reduceMul, Nat.reduceEqDiff, Nat.reduceLT, Nat.reduceLeDiff, Nat.reduceBEq, Nat.reduceBNe, Int.reduceToNat, Int.reduceLE, Int.reduceLT, Int.reduceNe, Int.reduceNeg, reduceCtorEq, Int.reduceBEq, Int.reduceBNe, w2]
            · simp only [go_sem, Nat.reduceAdd, Nat.reduceSub, Nat.reduceMul, Nat.reduceEqDiff, Nat.reduceLT, Nat.reduceLeDiff, Nat.reduceBEq, Nat.reduceBNe, Int.reduceToNat, Int.reduceLE, Int.reduceLT, Int.reduceNe, Int.reduceNeg, reduceCtorEq, Int.reduceBEq, Int.reduceBNe, r1]
            · simp only [go_sem, Nat.reduceAdd, Nat.reduceSub, Nat.reduceMul, Nat.reduceEqDiff, Nat.reduceLT, Nat.reduceLeDiff, Nat.reduceBEq, Nat.reduceBNe, Int.reduceToNat, Int.reduceLE, Int.reduceLT, Int.reduceNe, Int.reduceNeg, reduceCtorEq, Int.reduceBEq, Int.reduceBNe]
    · have hil : i = ps.length := by simp only [decide_eq_false_iff_not] at h; omega
      subst hil
      have hS7 := hsl ps.length
      have hcl := (hso ps.length (Nat.le_refl _)).1
      generalize setsF ⟨ps, ks, gr, fr, un, fe, st⟩ bits ps.length = S at *
      have hget := fun (k : Nat) (hk : k < 7) d => setC_get S (k := k) (by omega) d
      have hcc := setC_len S
      rw [hS7] at hcc
      have ho7 := ho7 S hcl
      have hout := hout S
      have hon := @outF_none ⟨ps, ks, gr, fr, un, fe, st⟩ bits S
      have hkf := hkf S
      generalize hcs : setC S = cs at *
      refine hE _ _ _ (by simp) ?_
      simp only [go_sem, Nat.reduceAdd, Nat.reduceSub, Nat.reduceMul, Nat.reduceEqDiff, Nat.reduceLT, Nat.reduceLeDiff, Nat.reduceBEq, Nat.reduceBNe, Int.reduceToNat, Int.reduceLE, Int.reduceLT, Int.reduceNe, Int.reduceNeg, reduceCtorEq, Int.reduceBEq, Int.reduceBNe]
      refine ev_loopS [1, 2, 6] (fun x : Nat × PV => [(10, x.2), (11, .int .i64 x.1)])
        (fun x H => x.1 ≤ 7 ∧ ∃ o, outF ⟨ps, ks, gr, fr, un, fe, st⟩ bits S x.1 = some o ∧ H (([], 38000000) : Key) = some (.cells (encB ⟨ps, ks, gr, fr, un, fe, st⟩) 1 false) ∧ H (([], 38001000) : Key) = some (.cells cs 1 false) ∧
          Own H (fun K => K = ([], 38027007)) x.2 2 (o.map encQ))
        (fun x => 7 - x.1) (0, .sl [] true) ?_ ⟨Nat.zero_le _, [], rfl, g1, g2, .nil⟩ ?_
      · simp only [go_sem, Nat.reduceAdd, Nat.reduceSub, Nat.reduceMul, Nat.reduceEqDiff, Nat.reduceLT, Nat.reduceLeDiff, Nat.reduceBEq, Nat.reduceBNe, Int.reduceToNat, Int.reduceLE, Int.reduceLT, Int.reduceNe, Int.reduceNeg, reduceCtorEq, Int.reduceBEq, Int.reduceBNe, Int.natCast_zero]
      · simp only [go_sem, Nat.reduceAdd, Nat.reduceSub, Nat.reduceMul, Nat.reduceEqDiff, Nat.reduceLT, Nat.reduceLeDiff, Nat.reduceBEq, Nat.reduceBNe, Int.reduceToNat, Int.reduceLE, Int.reduceLT, Int.reduceNe, Int.reduceNeg, reduceCtorEq, Int.reduceBEq, Int.reduceBNe]
        intro K2 x H2 ⟨hk7, o, ho, r1, r2, r3⟩ hK2 hE2
        obtain ⟨k, p⟩ := x
        simp only at hk7 ho r3
        dsimp only
        obtain ⟨hT1, hC1, hP1, hV1, hU1⟩ := OwnTaint r3
        have r1' := r1
        simp only [encB] at r1'
        rw [condK_bool]
        refine ⟨fun hc2 => ?_, fun hc2 => ?_⟩
        · have hk' : k < 7 := by simp only [decide_eq_true_eq] at hc2; omega
          have hki : (k : Int) < 7 := by omega
          have hk6 : k ≤ 6 := by omega
          have w8 : IntKind.i64.wrap ((k : Int) + 1) = ((k + 1 : Nat) : Int) := by rw [Int.natCast_add, Int.natCast_one]; exact wrap_id (by omega)
          have w3 : IntKind.i64.wrap ((k : Int) + 3) = (k : Int) + 3 := wrap_id (by omega)
          have hgk := hget k hk'
          have hcb := hcl k hk'
          have hos := hout k o ho
          have hkf' := hkf k
          have hon' := fun h => hon (k := k + 1) h (6 - k)
          rw [show k + 1 + (6 - k) = 7 by omega] at hon'
          have hok' := hok (S.getD k [])
          have hkn' := hkn (S.getD k []) (spinF (takeF bits ((k : Int) + 3)) ks.length)
          have hkst' := hkst (S.getD k []) (spinF (takeF bits ((k : Int) + 3)) ks.length)
          have hkns' := hkns (S.getD k []) (spinF (takeF bits ((k : Int) + 3)) ks.length)
          have hol := ho7 k o (by omega) ho
          have hll := hl7 _ hcb
          generalize S.getD k [] = l at *
          generalize kindF ⟨ps, ks, gr, fr, un, fe, st⟩ bits S k = kd at *
          cases he : ((l.length : Int) == 0) with
          | true =>
            rw [he, if_pos rfl] at hos
            simp only [go_sem, Nat.reduceAdd, Nat.reduceSub, Nat.reduceMul, Nat.reduceEqDiff, Nat.reduceLT, Nat.reduceLeDiff, Nat.reduceBEq, Nat.reduceBNe, Int.reduceToNat, Int.reduceLE, Int.reduceLT, Int.reduceNe, Int.reduceNeg, reduceCtorEq, Int.reduceBEq, Int.reduceBNe, r2, hk', hki, hk6, Nat.mul_one, hgk, hcc, he, il_length]
            refine hK2 (k + 1, p) _ _ ?_ ⟨hk', o, hos, ?_, ?_, ?_⟩ (by simp only; omega)
            · simp only [go_sem, Nat.reduceAdd, Nat.reduceSub, Nat.reduceMul, Nat.reduceEqDiff, Nat.reduceLT, Nat.reduceLeDiff, Nat.reduceBEq, Nat.reduceBNe, Int.reduceToNat, Int.reduceLE, Int.reduceLT, Int.reduceNe, Int.reduceNeg, reduceCtorEq, Int.reduceBEq, Int.reduceBNe, w8]
            · simp only [go_sem, Nat.reduceAdd, Nat.reduceSub, Nat.reduceMul, Nat.reduceEqDiff, Nat.reduceLT, Nat.reduceLeDiff, Nat.reduceBEq, Nat.reduceBNe, Int.reduceToNat, Int.reduceLE, Int.reduceLT, Int.reduceNe, Int.reduceNeg, reduceCtorEq, Int.reduceBEq, Int.reduceBNe, r1]
            · simp only [go_sem, Nat.reduceAdd, Nat.reduceSub, Nat.reduceMul, Nat.reduceEqDiff, Nat.reduceLT, Nat.reduceLeDiff, Nat.reduceBEq, Nat.reduceBNe, Int.reduceToNat, Int.reduceLE, Int.reduceLT, Int.reduceNe, Int.reduceNeg, reduceCtorEq, Int.reduceBEq, Int.reduceBNe, r2]
            · exact r3
          | false =>
            rw [he, if_neg (by simp)] at hos
            obtain ⟨f1, f2⟩ := spin_range (n := takeF bits ((k : Int) + 3)) (m := (ks.length : Int)) (by omega)
            generalize hfr : spinF (takeF bits ((k : Int) + 3)) (ks.length : Int) = first at *
            simp only [go_sem, Nat.reduceAdd, Nat.reduceSub, Nat.reduceMul, Nat.reduceEqDiff, Nat.reduceLT, Nat.reduceLeDiff, Nat.reduceBEq, Nat.reduceBNe, Int.reduceToNat, Int.reduceLE, Int.reduceLT, Int.reduceNe, Int.reduceNeg, reduceCtorEq, Int.reduceBEq, Int.reduceBNe, @callV_spec E24 48 s48 rfl, @callV_specT E24 48 s48 rfl, @stepV_spec E24 48 s48 rfl, @effV_spec E24 48 s48 rfl, s48, @callV_spec E24 35 sSpin rfl, @callV_specT E24 35 sSpin rfl, @stepV_spec E24 35 sSpin rfl, @effV_spec E24 35 sSpin rfl, sSpin, callSpec, r1', r2, hk', hki, hk6, Nat.mul_one, hgk, hcc, he, w3, hbl, hT, hkw, hfr, il_length, List.length_map]
            refine ev_loopS [1, 2, 6, 10, 11, 13] (fun m : Nat => [(12, .int .i64 (kindN ⟨ps, ks, gr, fr, un, fe, st⟩ l first m)), (14, .int .i64 m)])
              (fun m H => m ≤ ks.length ∧ H (([], 38000000) : Key) = some (.cells (encB ⟨ps, ks, gr, fr, un, fe, st⟩) 1 false) ∧ H (([], 38001000) : Key) = some (.cells cs 1 false) ∧ Own H (fun K => K = ([], 38027007)) p 2 (o.map encQ))
              (fun m => ks.length - m) 0 ?_ ⟨Nat.zero_le _, r1, r2, r3⟩ ?_
            · simp only [go_sem, Nat.reduceAdd, Nat.reduceSub, Nat.reduceMul, Nat.reduceEqDiff, Nat.reduceLT, Nat.reduceLeDiff, Nat.reduceBEq, Nat.reduceBNe, Int.reduceToNat, Int.reduceLE, Int.reduceLT, Int.reduceNe, Int.reduceNeg, reduceCtorEq, Int.reduceBEq, Int.reduceBNe, Int.natCast_zero, kindN]
            · simp only [go_sem, Nat.reduceAdd, Nat.reduceSub, Nat.reduceMul, Nat.reduceEqDiff, Nat.reduceLT, Nat.reduceLeDiff, Nat.reduceBEq, Nat.reduceBNe, Int.reduceToNat, Int.reduceLE, Int.reduceLT, Int.reduceNe, Int.reduceNeg, reduceCtorEq, Int.reduceBEq, Int.reduceBNe]
              intro K3 m H3 ⟨hm, q1, q2, q3⟩ hK3 hE3
              have q1' := q1
              simp only [encB] at q1'
              simp only [go_sem, Nat.reduceAdd, Nat.reduceSub, Nat.reduceMul, Nat.reduceEqDiff, Nat.reduceLT, Nat.reduceLeDiff, Nat.reduceBEq, Nat.reduceBNe, Int.reduceToNat, Int.reduceLE, Int.reduceLT, Int.reduceNe, Int.reduceNeg, reduceCtorEq, Int.reduceBEq, Int.reduceBNe, q1', List.length_map]
              rw [condK_bool]
              refine ⟨fun hc3 => ?_, fun hc3 => ?_⟩
              · simp only [Bool.and_eq_true, decide_eq_true_eq] at hc3
                have hm' : m < ks.length := by omega
                have w9 : IntKind.i64.wrap ((m : Int) + 1) = ((m + 1 : Nat) : Int) := by rw [Int.natCast_add, Int.natCast_one]; exact wrap_id (by omega)
                have w10 : IntKind.i64.wrap (first + (m : Int)) = first + (m : Int) := wrap_id (by omega)
                obtain ⟨j1, j2⟩ := spin_range (n := first + (m : Int)) (m := (ks.length : Int)) (by omega)
                have hks := hkns' m
                rw [if_pos hc3.1] at hks
                have hk1 : kindN ⟨ps, ks, gr, fr, un, fe, st⟩ l first m = -1 := (hkn' m).resolve_right (by omega)
                generalize hjj : spinF (first + (m : Int)) (ks.length : Int) = jj at *
                have hokj := hok' jj hcb ⟨j1, j2⟩
                cases ht : takesM ⟨ps, ks, gr, fr, un, fe, st⟩ jj l with
                | true =>
                  rw [ht, if_pos rfl] at hks
                  simp only [go_sem, Nat.reduceAdd, Nat.reduceSub, Nat.reduceMul, Nat.reduceEqDiff, Nat.reduceLT, Nat.reduceLeDiff, Nat.reduceBEq, Nat.reduceBNe, Int.reduceToNat, Int.reduceLE, Int.reduceLT, Int.reduceNe, Int.reduceNeg, reduceCtorEq, Int.reduceBEq, Int.reduceBNe, @callV_spec E24 35 sSpin rfl, @callV_specT E24 35 sSpin rfl, @stepV_spec E24 35 sSpin rfl, @effV_spec E24 35 sSpin rfl, sSpin, @callV_spec E24 43 s43 rfl, @callV_specT E24 43 s43 rfl, @stepV_spec E24 43 s43 rfl, @effV_spec E24 43 s43 rfl, s43, callSpec, q1', q2, hk', hki, hk6, Nat.mul_one, hgk, hcc, w10, hkw, hjj, hdb, hokj, ht, il_length, List.length_map]
                  refine hK3 (m + 1) _ _ ?_ ⟨hm', ?_, ?_, ?_⟩ (by omega)
                  · simp only [go_sem, Nat.reduceAdd, Nat.reduceSub, Nat.reduceMul, Nat.reduceEqDiff, Nat.reduceLT, Nat.reduceLeDiff, Nat.reduceBEq, Nat.reduceBNe, Int.reduceToNat, Int.reduceLE, Int.reduceLT, Int.reduceNe, Int.reduceNeg, reduceCtorEq, Int.reduceBEq, Int.reduceBNe, w9, hks]
                  · simp only [go_sem, Nat.reduceAdd, Nat.reduceSub, Nat.reduceMul, Nat.reduceEqDiff, Nat.reduceLT, Nat.reduceLeDiff, Nat.reduceBEq, Nat.reduceBNe, Int.reduceToNat, Int.reduceLE, Int.reduceLT, Int.reduceNe, Int.reduceNeg, reduceCtorEq, Int.reduceBEq, Int.reduceBNe, q1]
                  · simp only [go_sem, Nat.reduceAdd, Nat.reduceSub, Nat.reduceMul, Nat.reduceEqDiff, Nat.reduceLT, Nat.reduceLeDiff, Nat.reduceBEq, Nat.reduceBNe, Int.reduceToNat, Int.reduceLE, Int.reduceLT, Int.reduceNe, Int.reduceNeg, reduceCtorEq, Int.reduceBEq, Int.reduceBNe, q2]
                  · exact q3
                | false =>
                  rw [ht, if_neg (by simp)] at hks
                  simp only [go_sem, Nat.reduceAdd, Nat.reduceSub, Nat.reduceMul, Nat.reduceEqDiff, Nat.reduceLT, Nat.reduceLeDiff, Nat.reduceBEq, Nat.reduceBNe, Int.reduceToNat, Int.reduceLE, Int.reduceLT, Int.reduceNe, Int.reduceNeg, reduceCtorEq, Int.reduceBEq, Int.reduceBNe, @callV_spec E24 35 sSpin rfl, @callV_specT E24 35 sSpin rfl, @stepV_spec E24 35 sSpin rfl, @effV_spec E24 35 sSpin rfl, sSpin, @callV_spec E24 43 s43 rfl, @callV_specT E24 43 s43 rfl, @stepV_spec E24 43 s43 rfl, @effV_spec E24 43 s43 rfl, s43, callSpec, q1', q2, hk', hki, hk6, Nat.mul_one, hgk, hcc, w10, hkw, hjj, hdb, hokj, ht, il_length, List.length_map]
                  refine hK3 (m + 1) _ _ ?_ ⟨hm', ?_, ?_, ?_⟩ (by omega)
                  · simp only [go_sem, Nat.reduceAdd, Nat.reduceSub, Nat.reduceMul, Nat.reduceEqDiff, Nat.reduceLT, Nat.reduceLeDiff, Nat.reduceBEq, Nat.reduceBNe, Int.reduceToNat, Int.reduceLE, Int.reduceLT, Int.reduceNe, Int.reduceNeg, reduceCtorEq, Int.reduceBEq, Int.reduceBNe, w9, hks, hk1]
                  · simp only [go_sem, Nat.reduceAdd, Nat.reduceSub, Nat.reduceMul, Nat.reduceEqDiff, Nat.reduceLT, Nat.reduceLeDiff, Nat.reduceBEq, Nat.reduceBNe, Int.reduceToNat, Int.reduceLE, Int.reduceLT, Int.reduceNe, Int.reduceNeg, reduceCtorEq, Int.reduceBEq, Int.reduceBNe, q1]
                  · simp only [go_sem, Nat.reduceAdd, Nat.reduceSub, Nat.reduceMul, Nat.reduceEqDiff, Nat.reduceLT, Nat.reduceLeDiff, Nat.reduceBEq, Nat.reduceBNe, Int.reduceToNat, Int.reduceLE, Int.reduceLT, Int.reduceNe, Int.reduceNeg, reduceCtorEq, Int.reduceBEq, Int.reduceBNe, q2]
                  · exact q3
              · have hkfin : kd = kindN ⟨ps, ks, gr, fr, un, fe, st⟩ l first m := by
                  rw [hkf']
                  by_cases hneg : kindN ⟨ps, ks, gr, fr, un, fe, st⟩ l first m < 0
                  · have : m = ks.length := by
                      have hn : ¬ (m : Int) < (ks.length : Int) := fun hlt => by
                        have : (decide (kindN ⟨ps, ks, gr, fr, un, fe, st⟩ l first m < 0) && decide ((m : Int) < (ks.length : Int))) = true := by
                          rw [Bool.and_eq_true, decide_eq_true_eq, decide_eq_true_eq]; exact ⟨hneg, hlt⟩
                        rw [hc3] at this; cases this
                      omega
                    rw [this]
                  · have := hkst' m (by omega) (ks.length - m)
                    rw [show m + (ks.length - m) = ks.length by omega] at this
                    exact this
                rw [← hkfin]
                obtain ⟨hT2, hC2, hP2, hV2, hU2⟩ := OwnTaint q3
                refine hE3 _ _ _ (by simp) ?_
                by_cases hneg : kd < 0
                · rw [if_pos hneg] at hos
                  have hP := hpn (hon' hos)
                  simp only [go_sem, Nat.reduceAdd, Nat.reduceSub, Nat.reduceMul, Nat.reduceEqDiff, Nat.reduceLT, Nat.reduceLeDiff, Nat.reduceBEq, Nat.reduceBNe, Int.reduceToNat, Int.reduceLE, Int.reduceLT, Int.reduceNe, Int.reduceNeg, reduceCtorEq, Int.reduceBEq, Int.reduceBNe, hneg]
                  refine hE2 _ _ _ (by simp) ?_
                  simp only [go_sem, Nat.reduceAdd, Nat.reduceSub, Nat.reduceMul, Nat.reduceEqDiff, Nat.reduceLT, Nat.reduceLeDiff, Nat.reduceBEq, Nat.reduceBNe, Int.reduceToNat, Int.reduceLE, Int.reduceLT, Int.reduceNe, Int.reduceNeg, reduceCtorEq, Int.reduceBEq, Int.reduceBNe, hP, List.map_nil]
                · rw [if_neg hneg] at hos
                  simp only [go_sem, Nat.reduceAdd, Nat.reduceSub, Nat.reduceMul, Nat.reduceEqDiff, Nat.reduceLT, Nat.reduceLeDiff, Nat.reduceBEq, Nat.reduceBNe, Int.reduceToNat, Int.reduceLE, Int.reduceLT, Int.reduceNe, Int.reduceNeg, reduceCtorEq, Int.reduceBEq, Int.reduceBNe, @callV_spec E24 42 s42 rfl, @callV_specT E24 42 s42 rfl, @stepV_spec E24 42 s42 rfl, @effV_spec E24 42 s42 rfl, s42, callSpec, q2, hk', hki, hk6, Nat.mul_one, hgk, hcc, hneg, hT2, hC2, hP2, hV2, hU2, il_length]
                  refine app_one trivial rfl rfl (by decide) (by decide) (set_at_eq _ _ _) (q3.frame fun K hK => ?_) ?_ (by rw [List.length_map]; show (_ + 1) * 32 ≤ _; omega) ?_ ⟨rfl, rfl⟩ fun p' H4 hO hF4 => ?_
                  · subst hK; simp only [go_sem, Nat.reduceAdd, Nat.reduceSub, Nat.reduceMul, Nat.reduceEqDiff, Nat.reduceLT, Nat.reduceLeDiff, Nat.reduceBEq, Nat.reduceBNe, Int.reduceToNat, Int.reduceLE, Int.reduceLT, Int.reduceNe, Int.reduceNeg, reduceCtorEq, Int.reduceBEq, Int.reduceBNe]
                  · rfl
                  · intro row hrow
                    obtain ⟨q, _, rfl⟩ := List.mem_map.1 hrow; rfl
                  · obtain ⟨hT', hC', hP', hV', hU'⟩ := OwnTaint hO
                    simp only [go_sem, Nat.reduceAdd, Nat.reduceSub, Nat.reduceMul, Nat.reduceEqDiff, Nat.reduceLT, Nat.reduceLeDiff, Nat.reduceBEq, Nat.reduceBNe, Int.reduceToNat, Int.reduceLE, Int.reduceLT, Int.reduceNe, Int.reduceNeg, reduceCtorEq, Int.reduceBEq, Int.reduceBNe, hT', hC', hP', hV', hU']
                    refine hK2 (k + 1, p') _ _ ?_ ⟨hk', _, hos, ?_, ?_, ?_⟩ (by simp only; omega)
                    · simp only [go_sem, Nat.reduceAdd, Nat.reduceSub, Nat.reduceMul, Nat.reduceEqDiff, Nat.reduceLT, Nat.reduceLeDiff, Nat.reduceBEq, Nat.reduceBNe, Int.reduceToNat, Int.reduceLE, Int.reduceLT, Int.reduceNe, Int.reduceNeg, reduceCtorEq, Int.reduceBEq, Int.reduceBNe, w8]
                    · rw [hF4 _ (by simp)]; simp only [go_sem, Nat.reduceAdd, Nat.reduceSub, Nat.reduceMul, Nat.reduceEqDiff, Nat.reduceLT, Nat.reduceLeDiff, Nat.reduceBEq, Nat.reduceBNe, Int.reduceToNat, Int.reduceLE, Int.reduceLT, Int.reduceNe, Int.reduceNeg, reduceCtorEq, Int.reduceBEq, Int.reduceBNe, q1]
                    · rw [hF4 _ (by simp)]; simp only [go_sem, Nat.reduceAdd, Nat.reduceSub, Nat.reduceMul, Nat.reduceEqDiff, Nat.reduceLT, Nat.reduceLeDiff, Nat.reduceBEq, Nat.reduceBNe, Int.reduceToNat, Int.reduceLE, Int.reduceLT, Int.reduceNe, Int.reduceNeg, reduceCtorEq, Int.reduceBEq, Int.reduceBNe, q2]
                    · rw [List.map_append]; exact hO
        · have hk7' : k = 7 := by simp only [decide_eq_false_iff_not] at hc2; omega
          subst hk7'
          have hP := hpk o ho
          refine hE2 _ _ _ (by simp) ?_
          rcases r3 with ⟨e1, rfl⟩ | ⟨K', v', rfl, rfl, h5⟩
          · simp only [go_sem, Nat.reduceAdd, Nat.reduceSub, Nat.reduceMul, Nat.reduceEqDiff, Nat.reduceLT, Nat.reduceLeDiff, Nat.reduceBEq, Nat.reduceBNe, Int.reduceToNat, Int.reduceLE, Int.reduceLT, Int.reduceNe, Int.reduceNeg, reduceCtorEq, Int.reduceBEq, Int.reduceBNe, hP, e1]
          · simp only [go_sem, Nat.reduceAdd, Nat.reduceSub, Nat.reduceMul, Nat.reduceEqDiff, Nat.reduceLT, Nat.reduceLeDiff, Nat.reduceBEq, Nat.reduceBNe, Int.reduceToNat, Int.reduceLE, Int.reduceLT, Int.reduceNe, Int.reduceNeg, reduceCtorEq, Int.reduceBEq, Int.reduceBNe, hP, h5, List.length_map]
noncomputable def packX : PBook → List Int → List Parc × Bool := Classical.choose (⟨packedM, rfl⟩ : ∃ f, f = packedM)
theorem packX_eq : packX = packedM := Classical.choose_spec (⟨packedM, rfl⟩ : ∃ f, f = packedM)
noncomputable def s38 : Spec := spec2 (fun (b : PBook) (bits : List Int) => GBook b ∧ big bits.length) (fun b bits => .tup [.sl ((packX b bits).1.map encQ) false, .bool (packX b bits).2])
theorem s38_ok : SpecOK Tryd.prog glB 38 s38 := spec2_ok E24_ok Tryd.func38 rfl (by kernel_rfl) fun b bits h => by rw [packX_eq]; exact packed_fn b h.1 bits h.2
end Wb
/- ParcelOnce. -/
namespace Wb
open Go Go.Proofs Enc Row
set_option linter.unusedSimpArgs false
set_option linter.unusedVariables false
set_option maxRecDepth 20000
set_option maxHeartbeats 4000000
noncomputable def E26t : List (Nat × Spec) := [(38, s38), (39, s39), (40, s40)] ++ E24t
theorem E26t_ok : AllOK E26t := ⟨⟨s38_ok, Tryd.call38⟩, ⟨s39_ok, Tryd.call39⟩, ⟨s40_ok, Tryd.call40⟩, E24t_ok⟩
noncomputable def E26 : Env := mkE E26t []
theorem E26_ok : EnvOK Tryd.prog E26 := envOK E26t_ok trivial
theorem E26_ti {t : Nat} : E26.ti t = ti t := rfl
theorem E26_q0 : (E26).eqt 130 = true := rfl
theorem E26_q1 : (E26).keyt 3 = true := rfl
theorem E26_q2 : (E26).keyt 85 = true := rfl
attribute [go_sem] E26_ti E26_q0 E26_q1 E26_q2
theorem once_law (b : PBook) (h4 : Big4 b) (zone : Int) (bits : List Int) (hbl : big bits.length) : Fn E26 0 7 Tryd.f7 (Tryd.f7.body.getD .skip) [.agg (encB b), .int .i64 zone, .sl (il bits) false] (.bool true) := by
  have hdb : (dec (.agg (encB b)) : Option PBook) = some b := dec_book b
  have hdl : ∀ (l : List Parc) (ex : Bool), (dec (.sl (l.map encQ) ex) : Option (List Parc)) = some l := fun l ex => drows_rows l
  obtain ⟨z1, z2⟩ := spin_range (n := zone) (m := 5) (by omega)
  generalize hz : spinF zone 5 = z at *
  have hzz : 0 ≤ z ∧ z ≤ 4 := by omega
  unfold Fn Tryd.f7
  have hco : costM b z = ((wholeM true b z).1.2, (wholeM true b z).2) := rfl
  have hfw : fewM b = (((wholeM false b 0).1.1.length : Int), (wholeM false b 0).2) := rfl
  have hch : cheapestM b z = if (wholeM true b z).2 ≠ 0 then ([], (wholeM true b z).2) else (toldL (wholeM true b z).1.1, 0) := rfl
  cases hb : bookOk b with
  | false =>
    have hw : wholeM true b z = (([], 0), 60) := by unfold wholeM; rw [hb]; rfl
    rw [hw] at hch
    rw [if_pos (by decide)] at hch
    obtain ⟨ps, ks, gr, fr, un, fe, st⟩ := b
    simp only [encB] at hdb
    simp only [go_sem, Nat.reduceAdd, Nat.reduceSub, Nat.reduceMul, Nat.reduceEqDiff, Nat.reduceLT, Nat.reduceLeDiff, Nat.reduceBEq, Nat.reduceBNe, Int.reduceToNat, Int.reduceLE, Int.reduceLT, Int.reduceNe, Int.reduceNeg, reduceCtorEq, Int.reduceBEq, Int.reduceBNe, @callV_spec E26 35 sSpin rfl, @callV_specT E26 35 sSpin rfl, @stepV_spec E26 35 sSpin rfl, @effV_spec E26 35 sSpin rfl, sSpin, @callV_spec E26 29 s29 rfl, @callV_specT E26 29 s29 rfl, @stepV_spec E26 29 s29 rfl, @effV_spec E26 29 s29 rfl, s29, @callV_spec E26 36 s36 rfl, @callV_specT E26 36 s36 rfl, @stepV_spec E26 36 s36 rfl, @effV_spec E26 36 s36 rfl, s36, @callV_spec E26 23 s23 rfl, @callV_specT E26 23 s23 rfl, @stepV_spec E26 23 s23 rfl, @effV_spec E26 23 s23 rfl, s23, encB, callSpec, hdb, h4, hz, hch, hb, List.map_nil, List.length_nil]
  | true =>
    have hG := book_good hb
    have p7 := hG.p7
    have hbm : bigM b = (bigL b b.pieces.length, 0) := by unfold bigM; rw [hb]; rfl
    have hcl := bigL_climbs b b.pieces.length
    have hbll := bigL_le b b.pieces.length
    have hbb : big (bigL b b.pieces.length).length = True := eq_true (by unfold big; omega)
    have hof := once_facts hb hzz bits
    have hpl := packed_len b bits hG
    rw [← packX_eq] at hof hpl
    generalize hpk : packX b bits = pk at *
    obtain ⟨po, pi⟩ := pk
    have hokq := fun L h => okQ_told (L := L) hG hzz h
    have hsq := fun L h => sumQ_told (b := b) (z := z) L h
    have hpo : big po.length = True := eq_true (by simp only at hpl; unfold big; omega)
    rcases hof with ⟨w1, w2, w3, w4⟩ | ⟨L, F, d, w1, w2, w3, w4, w5, w6, w7, w8, w9⟩
    · rw [w1] at hco hch
      rw [w2] at hfw
      rw [if_pos (by decide)] at hch
      simp only [List.length_nil] at hco hfw w4
      subst w4
      have hne : (((bigL b b.pieces.length).length : Int) == 0) = false := by
        have := List.length_pos_iff.2 w3
        simp; omega
      generalize bigL b b.pieces.length = B at *
      obtain ⟨ps, ks, gr, fr, un, fe, st⟩ := b
      simp only [encB] at hdb
      simp only at hcl
      simp only [go_sem, Nat.reduceAdd, Nat.reduceSub, Nat.reduceMul, Nat.reduceEqDiff, Nat.reduceLT, Nat.reduceLeDiff, Nat.reduceBEq, Nat.reduceBNe, Int.reduceToNat, Int.reduceLE, Int.reduceLT, Int.reduceNe, Int.reduceNeg, reduceCtorEq, Int.reduceBEq, Int.reduceBNe, @callV_spec E26 35 sSpin rfl, @callV_specT E26 35 sSpin rfl, @stepV_spec E26 35 sSpin rfl, @effV_spec E26 35 sSpin rfl, sSpin, @callV_spec E26 29 s29 rfl, @callV_specT E26 29 s29 rfl, @stepV_spec E26 29 s29 rfl, @effV_spec E26 29 s29 rfl, s29, @callV_spec E26 36 s36 rfl, @callV_specT E26 36 s36 rfl, @stepV_spec E26 36 s36 rfl, @effV_spec E26 36 s36 rfl, s36, @callV_spec E26 28 s28 rfl, @callV_specT E26 28 s28 rfl, @stepV_spec E26 28 s28 rfl, @effV_spec E26 28 s28 rfl, s28, @callV_spec E26 26 s26 rfl, @callV_specT E26 26 s26 rfl, @stepV_spec E26 26 s26 rfl, @effV_spec E26 26 s26 rfl, s26, @callV_spec E26 20 s20 rfl, @callV_specT E26 20 s20 rfl, @stepV_spec E26 20 s20 rfl, @effV_spec E26 20 s20 rfl, s20, @callV_spec E26 37 s37 rfl, @callV_specT E26 37 s37 rfl, @stepV_spec E26 37 s37 rfl, @effV_spec E26 37 s37 rfl, s37, @callV_spec E26 38 s38 rfl, @callV_specT E26 38 s38 rfl, @stepV_spec E26 38 s38 rfl, @effV_spec E26 38 s38 rfl, s38, @callV_spec E26 23 s23 rfl, @callV_specT E26 23 s23 rfl, @stepV_spec E26 23 s23 rfl, @effV_spec E26 23 s23 rfl, s23, encB, callSpec, hdb, h4, hz, hch, hb, hco, hfw, hbm, hcl, hbb, hne, hG, hbl, hpk, bne_self_eq_false, il_length, List.map_nil, List.length_nil, List.length_map]
    · rw [w1] at hco hch
      rw [w2] at hfw
      rw [if_neg (by simp)] at hch
      simp only at hco hfw hch
      rw [w3] at hbm hcl hbb
      have hdv : (∃ L', toldL L = toldL L' ∧ isDv b L') = True := eq_true ⟨L, rfl, hb, w4, w5, w6⟩
      have hLok := eq_true (hokq L w4)
      have hL7 : ((toldL L).length ≤ 127) = True := eq_true (by rw [toldL_len]; exact w5)
      have hLs := hsq L w4
      have hb0 : big 0 = True := eq_true (by unfold big; decide)
      have hL77 : (L.length ≤ 127) = True := eq_true w5
      have htl := toldL_len L
      have htw : (decide ((1 : Int) ≤ (F.length : Int)) && decide ((F.length : Int) ≤ (L.length : Int))) = true := by simp; omega
      cases pi with
      | false =>
        obtain ⟨ps, ks, gr, fr, un, fe, st⟩ := b
        simp only [encB] at hdb
        simp only at hcl
        simp only [go_sem, Nat.reduceAdd, Nat.reduceSub, Nat.reduceMul, Nat.reduceEqDiff, Nat.reduceLT, Nat.reduceLeDiff, Nat.reduceBEq, Nat.reduceBNe, Int.reduceToNat, Int.reduceLE, Int.reduceLT, Int.reduceNe, Int.reduceNeg, reduceCtorEq, Int.reduceBEq, Int.reduceBNe, @callV_spec E26 35 sSpin rfl, @callV_specT E26 35 sSpin rfl, @stepV_spec E26 35 sSpin rfl, @effV_spec E26 35 sSpin rfl, sSpin, @callV_spec E26 29 s29 rfl, @callV_specT E26 29 s29 rfl, @stepV_spec E26 29 s29 rfl, @effV_spec E26 29 s29 rfl, s29, @callV_spec E26 36 s36 rfl, @callV_specT E26 36 s36 rfl, @stepV_spec E26 36 s36 rfl, @effV_spec E26 36 s36 rfl, s36, @callV_spec E26 28 s28 rfl, @callV_specT E26 28 s28 rfl, @stepV_spec E26 28 s28 rfl, @effV_spec E26 28 s28 rfl, s28, @callV_spec E26 26 s26 rfl, @callV_specT E26 26 s26 rfl, @stepV_spec E26 26 s26 rfl, @effV_spec E26 26 s26 rfl, s26, @callV_spec E26 20 s20 rfl, @callV_specT E26 20 s20 rfl, @stepV_spec E26 20 s20 rfl, @effV_spec E26 20 s20 rfl, s20, @callV_spec E26 37 s37 rfl, @callV_specT E26 37 s37 rfl, @stepV_spec E26 37 s37 rfl, @effV_spec E26 37 s37 rfl, s37, @callV_spec E26 38 s38 rfl, @callV_specT E26 38 s38 rfl, @stepV_spec E26 38 s38 rfl, @effV_spec E26 38 s38 rfl, s38, @callV_spec E26 39 s39 rfl, @callV_specT E26 39 s39 rfl, @stepV_spec E26 39 s39 rfl, @effV_spec E26 39 s39 rfl, s39, @callV_spec E26 40 s40 rfl, @callV_specT E26 40 s40 rfl, @stepV_spec E26 40 s40 rfl, @effV_spec E26 40 s40 rfl, s40, @callV_spec E26 41 sTween rfl, @callV_specT E26 41 sTween rfl, @stepV_spec E26 41 sTween rfl, @effV_spec E26 41 sTween rfl, sTween, @callV_spec E26 23 s23 rfl, @callV_specT E26 23 s23 rfl, @stepV_spec E26 23 s23 rfl, @effV_spec E26 23 s23 rfl, s23, encB, callSpec, hdb, hdl, h4, hz, hch, hb, hco, hfw, hbm, hcl, hbb, hG, hbl, hpk, hdv, hb0, hL77, hLok, hL7, hLs, htl, htw, il_length, il_nil0, bne_self_eq_false, List.map_nil, List.length_nil, List.length_map]
      | true =>
        obtain ⟨M, m1, m2, m3, m4, m5, m6⟩ := w9 rfl
        simp only at m1
        subst m1
        have hMok := eq_true (hokq M m3)
        have hM7 : ((toldL M).length ≤ 127) = True := eq_true (by rw [toldL_len]; omega)
        have hMs := hsq M m3
        have hM77 : (M.length ≤ 127) = True := eq_true (by omega)
        have htm := toldL_len M
        have hMb : big M.length = True := eq_true (by unfold big; omega)
        have hMq : (∀ q ∈ toldL M, big q.pieces.length) = True := eq_true fun q hq => by
          unfold toldL at hq
          obtain ⟨x, _, rfl⟩ := List.mem_map.1 hq
          have := ofS_len x.2 7
          unfold big; simp only; omega
        have hfin : (decide (sumW (postG b z) M > sumW (postG b z) L) || ((sumW (postG b z) M == sumW (postG b z) L) && decide ((M.length : Int) ≥ (L.length : Int)))) = true := by
          rcases m5 with h | ⟨h1, h2⟩
          · simp; omega
          · simp; omega
        have hfin2 : decide ((M.length : Int) ≥ (F.length : Int)) = true := decide_eq_true (by omega)
        generalize sumW (postG b z) M = wM at *
        generalize sumW (postG b z) L = wL at *
        obtain ⟨ps, ks, gr, fr, un, fe, st⟩ := b
        simp only [encB] at hdb
        simp only at hcl
        simp only [go_sem, Nat.reduceAdd, Nat.reduceSub, Nat.reduceMul, Nat.reduceEqDiff, Nat.reduceLT, Nat.reduceLeDiff, Nat.reduceBEq, Nat.reduceBNe, Int.reduceToNat, Int.reduceLE, Int.reduceLT, Int.reduceNe, Int.reduceNeg, reduceCtorEq, Int.reduceBEq, Int.reduceBNe, @callV_spec E26 35 sSpin rfl, @callV_specT E26 35 sSpin rfl, @stepV_spec E26 35 sSpin rfl, @effV_spec E26 35 sSpin rfl, sSpin, @callV_spec E26 29 s29 rfl, @callV_specT E26 29 s29 rfl, @stepV_spec E26 29 s29 rfl, @effV_spec E26 29 s29 rfl, s29, @callV_spec E26 36 s36 rfl, @callV_specT E26 36 s36 rfl, @stepV_spec E26 36 s36 rfl, @effV_spec E26 36 s36 rfl, s36, @callV_spec E26 28 s28 rfl, @callV_specT E26 28 s28 rfl, @stepV_spec E26 28 s28 rfl, @effV_spec E26 28 s28 rfl, s28, @callV_spec E26 26 s26 rfl, @callV_specT E26 26 s26 rfl, @stepV_spec E26 26 s26 rfl, @effV_spec E26 26 s26 rfl, s26, @callV_spec E26 20 s20 rfl, @callV_specT E26 20 s20 rfl, @stepV_spec E26 20 s20 rfl, @effV_spec E26 20 s20 rfl, s20, @callV_spec E26 37 s37 rfl, @callV_specT E26 37 s37 rfl, @stepV_spec E26 37 s37 rfl, @effV_spec E26 37 s37 rfl, s37, @callV_spec E26 38 s38 rfl, @callV_specT E26 38 s38 rfl, @stepV_spec E26 38 s38 rfl, @effV_spec E26 38 s38 rfl, s38, @callV_spec E26 39 s39 rfl, @callV_specT E26 39 s39 rfl, @stepV_spec E26 39 s39 rfl, @effV_spec E26 39 s39 rfl, s39, @callV_spec E26 40 s40 rfl, @callV_specT E26 40 s40 rfl, @stepV_spec E26 40 s40 rfl, @effV_spec E26 40 s40 rfl, s40, @callV_spec E26 41 sTween rfl, @callV_specT E26 41 sTween rfl, @stepV_spec E26 41 sTween rfl, @effV_spec E26 41 sTween rfl, sTween, @callV_spec E26 24 s24 rfl, @callV_specT E26 24 s24 rfl, @stepV_spec E26 24 s24 rfl, @effV_spec E26 24 s24 rfl, s24, @callV_spec E26 23 s23 rfl, @callV_specT E26 23 s23 rfl, @stepV_spec E26 23 s23 rfl, @effV_spec E26 23 s23 rfl, s23, encB, callSpec, hdb, hdl, h4, hz, hch, hb, hco, hfw, hbm, hcl, hbb, hG, hbl, hpk, hdv, hb0, hL77, hLok, hL7, hLs, htl, htw, hMok, hM7, hM77, hMs, htm, hMb, hMq, hpo, m4, hfin, hfin2, il_length, il_nil0, bne_self_eq_false, List.map_nil, List.length_nil, List.length_map]
        exact fun a b => ⟨a, b⟩
end Wb
