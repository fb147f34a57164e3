import Derived.Test.YtjdljckgphbkmaaDoorL
set_option linter.unusedVariables false
set_option linter.unusedSimpArgs false
/- The laws' own helpers: worth. -/
namespace Wb
open Go Go.Proofs Enc Row
set_option linter.unusedSimpArgs false
set_option linter.unusedVariables false
set_option maxRecDepth 20000
set_option maxHeartbeats 4000000
theorem dot_take : ∀ (st l : List Int) (i : Nat), i < l.length → i < st.length → dot (st.take (i + 1)) (l.take (i + 1)) = dot (st.take i) (l.take i) + st.getD i 0 * l.getD i 0
  | [], _, i, _, h => by simp at h
  | _ :: _, [], i, h, _ => by simp at h
  | w :: st, a :: l, 0, _, _ => by simp [dot]
  | w :: st, a :: l, i + 1, h, h' => by
    have := dot_take st l i (by simpa using h) (by simpa using h')
    simp only [List.take_succ_cons, dot, this, List.getD_cons_succ]; omega
theorem sumL_take : ∀ (l : List Int) (i : Nat), i < l.length → sumL (l.take (i + 1)) = sumL (l.take i) + l.getD i 0
  | [], i, h => by simp at h
  | a :: l, 0, _ => by simp [sumL]
  | a :: l, i + 1, h => by
    have := sumL_take l i (by simpa using h)
    simp only [List.take_succ_cons, sumL, this, List.getD_cons_succ]; omega
def inR (a : Int) : Bool := decide (0 ≤ a) && decide (a ≤ 20000)
theorem all_takeR (p : Int → Bool) {l : List Int} {i : Nat} (h : i < l.length) : (l.take (i + 1)).all p = ((l.take i).all p && p (l.getD i 0)) := by
  rw [List.take_succ_eq_append_getElem h, List.all_append]
  simp [List.getD_eq_getElem?_getD, h]
theorem dot_le : ∀ (st l : List Int), (∀ w ∈ st, 1 ≤ w ∧ w ≤ 1000) → l.all inR = true → 0 ≤ dot st l ∧ dot st l ≤ 20000000 * l.length
  | [], _, _, _ => by simp only [dot]; omega
  | _ :: _, [], _, _ => by simp only [dot]; simp
  | w :: st, a :: l, h, k => by
    rw [List.all_cons, Bool.and_eq_true] at k
    have ih := dot_le st l (fun w hw => h w (by simp [hw])) k.2
    have hw := h w (by simp)
    have ha := k.1
    simp only [inR, Bool.and_eq_true, decide_eq_true_eq] at ha
    have h1 := Int.mul_nonneg (show 0 ≤ w by omega) ha.1
    have h2 := Int.mul_le_mul hw.2 ha.2 ha.1 (by omega)
    simp only [dot, List.length_cons]; omega
theorem sumL_le : ∀ (l : List Int), l.all inR = true → 0 ≤ sumL l ∧ sumL l ≤ 20000 * l.length
  | [], _ => by simp [sumL]
  | a :: l, k => by
    rw [List.all_cons, Bool.and_eq_true] at k
    have ih := sumL_le l k.2
    have ha := k.1
    simp only [inR, Bool.and_eq_true, decide_eq_true_eq] at ha
    simp only [sumL, List.length_cons]; omega
def worthM (st l : List Int) : Int × Int × Bool := if l.all inR then (dot (st.take l.length) l, sumL l, true) else (0, 0, false)
-- f47 worth
theorem worth_fn (b : PBook) (hG : GBook b) (l : List Int) (hn : l.length ≤ b.stamps.length) : Fn E14 0 47 Tryd.f47 (Tryd.f47.body.getD .skip) [.agg (encB b), .sl (il l) false] (.tup [.int .i64 (worthM b.stamps l).1, .int .i64 (worthM b.stamps l).2.1, .bool (worthM b.stamps l).2.2]) := by
  have hs5 := hG.s5
  have hst := stamps_in hG.st
  unfold Fn Tryd.f47
  generalize hr : worthM b.stamps l = r
  obtain ⟨r1, r2, r3⟩ := r
  obtain ⟨ps, ks, gr, fr, un, fe, st⟩ := b
  simp only at hn hs5 hst hr
  simp only [go_sem, Nat.reduceAdd, Nat.reduceSub, Nat.reduceMul, Nat.reduceEqDiff, Nat.reduceLT, Nat.reduceLeDiff, Nat.reduceBEq, Nat.reduceBNe, Int.reduceToNat, Int.reduceLE, Int.reduceLT, Int.reduceNe, Int.reduceNeg, reduceCtorEq, Int.reduceBEq, Int.reduceBNe, encB]
  refine ev_loopS [1, 2] (fun j : Nat => [(7, .int .i64 (dot (st.take j) (l.take j))), (8, .int .i64 (sumL (l.take j))), (9, .int .i64 j)])
    (fun j H => j ≤ l.length ∧ (l.take j).all inR = true ∧ H (([], 47000000) : Key) = some (.cells (encB ⟨ps, ks, gr, fr, un, fe, st⟩) 1 false))
    (fun j => l.length - j) 0 ?_ ⟨Nat.zero_le _, rfl, ?_⟩ ?_
  · simp only [go_sem, Nat.reduceAdd, Nat.reduceSub, Nat.reduceMul, Nat.reduceEqDiff, Nat.reduceLT, Nat.reduceLeDiff, Nat.reduceBEq, Nat.reduceBNe, Int.reduceToNat, Int.reduceLE, Int.reduceLT, Int.reduceNe, Int.reduceNeg, reduceCtorEq, Int.reduceBEq, Int.reduceBNe]
    exact ⟨rfl, rfl⟩
  · simp only [go_sem, Nat.reduceAdd, Nat.reduceSub, Nat.reduceMul, Nat.reduceEqDiff, Nat.reduceLT, Nat.reduceLeDiff, Nat.reduceBEq, Nat.reduceBNe, Int.reduceToNat, Int.reduceLE, Int.reduceLT, Int.reduceNe, Int.reduceNeg, reduceCtorEq, Int.reduceBEq, Int.reduceBNe, encB]
  · simp only [go_sem, Nat.reduceAdd, Nat.reduceSub, Nat.reduceMul, Nat.reduceEqDiff, Nat.reduceLT, Nat.reduceLeDiff, Nat.reduceBEq, Nat.reduceBNe, Int.reduceToNat, Int.reduceLE, Int.reduceLT, Int.reduceNe, Int.reduceNeg, reduceCtorEq, Int.reduceBEq, Int.reduceBNe]
    intro K j H ⟨hj, ha, h1⟩ hK hE
    have h1' := h1
    simp only [encB] at h1'
    simp only [go_sem, Nat.reduceAdd, Nat.reduceSub, Nat.reduceMul, Nat.reduceEqDiff, Nat.reduceLT, Nat.reduceLeDiff, Nat.reduceBEq, Nat.reduceBNe, Int.reduceToNat, Int.reduceLE, Int.reduceLT, Int.reduceNe, Int.reduceNeg, reduceCtorEq, Int.reduceBEq, Int.reduceBNe, il_length]
    rw [condK_bool]
    refine ⟨fun h => ?_, fun h => ?_⟩
    · have h' : j < l.length := by simpa using h
      have hjj : (j : Int) < (l.length : Int) := by omega
      have hs' : j < st.length := by omega
      have hsj : (j : Int) < (st.length : Int) := by omega
      have w2 : IntKind.i64.wrap ((j : Int) + 1) = ((j + 1 : Nat) : Int) := by rw [Int.natCast_add, Int.natCast_one]; exact wrap_id (by omega)
      have hall := all_takeR inR h'
      rw [ha, Bool.true_and] at hall
      have t1 := dot_take st l j h' hs'
      have t2 := sumL_take l j h'
      simp only [go_sem, Nat.reduceAdd, Nat.reduceSub, Nat.reduceMul, Nat.reduceEqDiff, Nat.reduceLT, Nat.reduceLeDiff, Nat.reduceBEq, Nat.reduceBNe, Int.reduceToNat, Int.reduceLE, Int.reduceLT, Int.reduceNe, Int.reduceNeg, reduceCtorEq, Int.reduceBEq, Int.reduceBNe, @callV_spec E14 41 sTween rfl, @callV_specT E14 41 sTween rfl, @stepV_spec E14 41 sTween rfl, @effV_spec E14 41 sTween rfl, sTween, callSpec, h1', h', hjj, hs', hsj, il_getD, il_length]
      rw [condK_bool]
      refine ⟨fun hc => ?_, fun hc => ?_⟩
      · have e : (!inR (l.getD j 0)) = true := hc
        have hin : inR (l.getD j 0) = false := by rw [Bool.not_eq_true'] at e; exact e
        have hr2 : worthM st l = (0, 0, false) := by
          unfold worthM
          rw [if_neg]
          rw [← List.take_append_drop (j + 1) l, List.all_append, hall, hin]; simp
        rw [hr2] at hr
        cases hr
        simp only [go_sem, Nat.reduceAdd, Nat.reduceSub, Nat.reduceMul, Nat.reduceEqDiff, Nat.reduceLT, Nat.reduceLeDiff, Nat.reduceBEq, Nat.reduceBNe, Int.reduceToNat, Int.reduceLE, Int.reduceLT, Int.reduceNe, Int.reduceNeg, reduceCtorEq, Int.reduceBEq, Int.reduceBNe]
        refine hE _ _ _ (by simp) ?_
        simp only [go_sem, Nat.reduceAdd, Nat.reduceSub, Nat.reduceMul, Nat.reduceEqDiff, Nat.reduceLT, Nat.reduceLeDiff, Nat.reduceBEq, Nat.reduceBNe, Int.reduceToNat, Int.reduceLE, Int.reduceLT, Int.reduceNe, Int.reduceNeg, reduceCtorEq, Int.reduceBEq, Int.reduceBNe]
      · have e : (!inR (l.getD j 0)) = false := hc
        have hin : inR (l.getD j 0) = true := by rw [Bool.not_eq_false'] at e; exact e
        rw [hin] at hall
        have hlt := List.length_take_le (j + 1) l
        have b1 := dot_le (st.take (j + 1)) (l.take (j + 1)) (fun w hw => hst w (List.mem_of_mem_take hw)) hall
        have b2 := sumL_le (l.take (j + 1)) hall
        have b0 := dot_le (st.take j) (l.take j) (fun w hw => hst w (List.mem_of_mem_take hw)) ha
        have hlt0 := List.length_take_le j l
        rw [Int.mul_comm] at t1
        have w3 : IntKind.i64.wrap (l.getD j 0 * st.getD j 0) = l.getD j 0 * st.getD j 0 := wrap_id (by omega)
        have w4 : IntKind.i64.wrap (dot (st.take j) (l.take j) + l.getD j 0 * st.getD j 0) = dot (st.take (j + 1)) (l.take (j + 1)) := by
          rw [t1]; exact wrap_id (by omega)
        have w5 : IntKind.i64.wrap (sumL (l.take j) + l.getD j 0) = sumL (l.take (j + 1)) := by
          rw [t2]; exact wrap_id (by omega)
        simp only [go_sem, Nat.reduceAdd, Nat.reduceSub, Nat.reduceMul, Nat.reduceEqDiff, Nat.reduceLT, Nat.reduceLeDiff, Nat.reduceBEq, Nat.reduceBNe, Int.reduceToNat, Int.reduceLE, Int.reduceLT, Int.reduceNe, Int.reduceNeg, reduceCtorEq, Int.reduceBEq, Int.reduceBNe, @callV_spec E14 41 sTween rfl, @callV_specT E14 41 sTween rfl, @stepV_spec E14 41 sTween rfl, @effV_spec E14 41 sTween rfl, sTween, callSpec, h1', h', hjj, hs', hsj, il_getD, il_length, w3, w4, w5]
        refine hK (j + 1) _ _ ?_ ⟨h', hall, ?_⟩ (by omega)
        · simp only [go_sem, Nat.reduceAdd, Nat.reduceSub, Nat.reduceMul, Nat.reduceEqDiff, Nat.reduceLT, Nat.reduceLeDiff, Nat.reduceBEq, Nat.reduceBNe, Int.reduceToNat, Int.reduceLE, Int.reduceLT, Int.reduceNe, Int.reduceNeg, reduceCtorEq, Int.reduceBEq, Int.reduceBNe, w2, il_length]
        · simp only [go_sem, Nat.reduceAdd, Nat.reduceSub, Nat.reduceMul, Nat.reduceEqDiff, Nat.reduceLT, Nat.reduceLeDiff, Nat.reduceBEq, Nat.reduceBNe, Int.reduceToNat, Int.reduceLE, Int.reduceLT, Int.reduceNe, Int.reduceNeg, reduceCtorEq, Int.reduceBEq, Int.reduceBNe, h1]
    · have hjl : j = l.length := by simp only [decide_eq_false_iff_not] at h; omega
      subst hjl
      rw [List.take_length] at ha
      have hr2 : worthM st l = (dot (st.take l.length) l, sumL l, true) := by unfold worthM; rw [if_pos ha]
      rw [hr2] at hr
      cases hr
      refine hE _ _ _ (by simp) ?_
      simp only [go_sem, Nat.reduceAdd, Nat.reduceSub, Nat.reduceMul, Nat.reduceEqDiff, Nat.reduceLT, Nat.reduceLeDiff, Nat.reduceBEq, Nat.reduceBNe, Int.reduceToNat, Int.reduceLE, Int.reduceLT, Int.reduceNe, Int.reduceNeg, reduceCtorEq, Int.reduceBEq, Int.reduceBNe, List.take_length]
def s47 : Spec := spec2 (fun (b : PBook) (l : List Int) => GBook b ∧ l.length ≤ b.stamps.length) (fun b l => .tup [.int .i64 (worthM b.stamps l).1, .int .i64 (worthM b.stamps l).2.1, .bool (worthM b.stamps l).2.2])
theorem s47_ok : SpecOK Tryd.prog glB 47 s47 := spec2_ok E14_ok Tryd.func47 rfl (by kernel_rfl) fun b l h => worth_fn b h.1 l h.2
end Wb
/- The last stamp (no program in sight). -/
namespace Wb
open Go Go.Proofs Enc Row
set_option linter.unusedSimpArgs false
set_option linter.unusedVariables false
set_option maxRecDepth 20000
set_option maxHeartbeats 4000000
theorem dot_elem : ∀ (st l : List Int) (i : Nat), (∀ w ∈ st, 0 ≤ w) → (∀ a ∈ l, 0 ≤ a) → i < l.length → i < st.length → st.getD i 0 * l.getD i 0 ≤ dot st l
  | [], _, i, _, _, _, h => by simp at h
  | _ :: _, [], i, _, _, h, _ => by simp at h
  | w :: st, a :: l, 0, h, k, _, _ => by
    have := dot_nonneg st l (fun w hw => h w (by simp [hw])) fun a ha => k a (by simp [ha])
    simp only [List.getD_cons_zero, dot]; omega
  | w :: st, a :: l, i + 1, h, k, hi, hj => by
    have := dot_elem st l i (fun w hw => h w (by simp [hw])) (fun a ha => k a (by simp [ha])) (by simpa using hi) (by simpa using hj)
    have h1 := Int.mul_nonneg (h w (by simp)) (k a (by simp))
    simp only [List.getD_cons_succ, dot]; omega
structure LastStamp (st : List Int) (c V : Nat) (l : List Int) : Prop where
  len : l.length = st.length
  val : dot st l = V
  low : c ≤ V
  up : V < c + 1000
  rng : l.all inR = true
  last : ∀ i, i < st.length → l.getD i 0 > 0 → (V : Int) - st.getD i 0 < c
  least : ∀ o : List Int, o.length = st.length → (∀ a ∈ o, 0 ≤ a) → (c : Int) ≤ dot st o → (V : Int) < dot st o ∨ dot st o = V ∧ (sumL l < sumL o ∨ sumL o = sumL l ∧ lexLt o l = false)
theorem last_stamp {st : List Int} (h1 : st ≠ []) (h5 : st.length ≤ 5) (hst : ∀ w ∈ st, 1 ≤ w ∧ w ≤ 1000) {c : Nat} (hc : c ≤ 20000) : LastStamp st c (stampV st c) (stampM st c) := by
  obtain ⟨a1, a2, a3, _, a5⟩ := stampV_ok h1 h5 hst c
  generalize stampV st c = V at *
  generalize stampM st c = l at *
  have hst0 : ∀ w ∈ st, 0 ≤ w := fun w hw => by have := (hst w hw).1; omega
  have hst1 : ∀ w ∈ st, 1 ≤ w := fun w hw => (hst w hw).1
  have hlast : ∀ i, i < st.length → l.getD i 0 > 0 → (V : Int) - st.getD i 0 < c := fun i hi hp => by
    have hm := makes_dec a3.is hi hp
    have hw := hst1 (st.getD i 0) (by simp [List.getD_eq_getElem?_getD, hi])
    by_cases h : (V : Int) - st.getD i 0 < c
    · exact h
    · exfalso
      have hu : ((((V : Int) - st.getD i 0).toNat : Nat) : Int) = (V : Int) - st.getD i 0 := by omega
      rw [← hu] at hm
      exact (a5 _ (by omega) (by omega)).2 _ hm
  have hsum : sumL l ≤ V := by
    have := sum_le_dot st l a3.is.len.symm hst1 a3.is.pos
    rw [a3.is.sum] at this; exact this
  refine ⟨a3.is.len, a3.is.sum, a1, a2, ?_, hlast, fun o ho hp hd => ?_⟩
  · rw [List.all_eq_true]
    intro a ha
    have h0 := a3.is.pos a ha
    have hle := mem_le_sum l a3.is.pos a ha
    simp only [inR, Bool.and_eq_true, decide_eq_true_eq]
    refine ⟨h0, ?_⟩
    by_cases hV : V ≤ 20000
    · omega
    · by_cases hp : a > 0
      · obtain ⟨i, hi, rfl⟩ := List.mem_iff_getElem.1 ha
        have hi' : i < st.length := by rw [← a3.is.len]; exact hi
        have hg : l.getD i 0 = l[i] := by simp [List.getD_eq_getElem?_getD, hi]
        have h2 := hlast i hi' (by rw [hg]; exact hp)
        have h3 := dot_elem st l i hst0 a3.is.pos hi hi'
        rw [a3.is.sum, hg] at h3
        have h4 := Int.mul_le_mul_of_nonneg_right (show 2 ≤ st.getD i 0 by omega) h0
        omega
      · omega
  · have hm : Makes st (((dot st o).toNat : Nat) : Int) o := ⟨ho, hp, by have := dot_nonneg st o hst0 hp; omega⟩
    have hge : V ≤ (dot st o).toNat := by
      by_cases h : (dot st o).toNat < V
      · exact absurd hm ((a5 _ (by omega) h).2 o)
      · omega
    have h0 := dot_nonneg st o hst0 hp
    by_cases h : (dot st o).toNat = V
    · right
      refine ⟨by omega, ?_⟩
      rw [h] at hm
      rcases a3.best o hm with h | ⟨h, h'⟩
      · exact .inl h
      · exact .inr ⟨h.symm, h'⟩
    · left; omega
end Wb
/- ParcelStamp. -/
namespace Wb
open Go Go.Proofs Enc Row
set_option linter.unusedSimpArgs false
set_option linter.unusedVariables false
set_option maxRecDepth 20000
set_option maxHeartbeats 4000000
noncomputable def E15t : List (Nat × Spec) := [(47, s47)] ++ E14t
theorem E15t_ok : AllOK E15t := ⟨⟨s47_ok, Tryd.call47⟩, E14t_ok⟩
noncomputable def E15 : Env := mkE E15t []
theorem E15_ok : EnvOK Tryd.prog E15 := envOK E15t_ok trivial
theorem E15_ti {t : Nat} : E15.ti t = ti t := rfl
theorem E15_q0 : (E15).eqt 130 = true := rfl
theorem E15_q1 : (E15).keyt 3 = true := rfl
theorem E15_q2 : (E15).keyt 85 = true := rfl
attribute [go_sem] E15_ti E15_q0 E15_q1 E15_q2
theorem oth_step {st oth : List Int} {c left k : Int} {i : Nat} (h : i < st.length) (g1 : oth.length = i) (g3 : 0 ≤ left ∧ left ≤ c) (g4 : ∀ a ∈ oth, 0 ≤ a ∧ a ≤ 20000) (g5 : left = 0 ∨ ∀ m, m < i → oth.getD m 0 * st.getD m 0 + left ≤ 20000)
    (g6 : c ≤ dot (st.take i) oth + left) (hc : c ≤ 20000) (hk : 0 ≤ k ∧ k ≤ 20000) (hw : 0 ≤ st.getD i 0) :
    (oth ++ [k]).length = i + 1 ∧ (0 ≤ (if left - k * st.getD i 0 > 0 then left - k * st.getD i 0 else 0) ∧ (if left - k * st.getD i 0 > 0 then left - k * st.getD i 0 else 0) ≤ c) ∧ (∀ a ∈ oth ++ [k], 0 ≤ a ∧ a ≤ 20000) ∧
      ((if left - k * st.getD i 0 > 0 then left - k * st.getD i 0 else 0) = 0 ∨ ∀ m, m < i + 1 → (oth ++ [k]).getD m 0 * st.getD m 0 + (if left - k * st.getD i 0 > 0 then left - k * st.getD i 0 else 0) ≤ 20000) ∧
      c ≤ dot (st.take (i + 1)) (oth ++ [k]) + (if left - k * st.getD i 0 > 0 then left - k * st.getD i 0 else 0) := by
  have h0 := Int.mul_nonneg hk.1 hw
  have hl1 : (oth ++ [k]).length = i + 1 := by simp [g1]
  have hd := dot_take st (oth ++ [k]) i (by omega) h
  rw [List.take_of_length_le (l := oth ++ [k]) (by omega), List.take_left' (l₁ := oth) (l₂ := [k]) g1] at hd
  have hg : (oth ++ [k]).getD i 0 = k := by
    rw [List.getD_eq_getElem?_getD, List.getElem?_append_right (by omega), g1]; simp
  rw [hg, Int.mul_comm] at hd
  generalize hq : k * st.getD i 0 = q at *
  refine ⟨hl1, by split <;> omega, fun a ha => ?_, ?_, ?_⟩
  · rcases List.mem_append.1 ha with ha | ha
    · exact g4 a ha
    · rw [List.mem_singleton.1 ha]; exact hk
  · by_cases hp : left - q > 0
    · right
      intro m hm
      rw [if_pos hp]
      by_cases e : m = i
      · subst e
        rw [hg, hq]; omega
      · rw [List.getD_eq_getElem?_getD, List.getElem?_append_left (by omega), ← List.getD_eq_getElem?_getD]
        rcases g5 with g5 | g5
        · omega
        · have := g5 m (by omega); omega
    · left; rw [if_neg hp]
  · rw [hd]; split <;> omega
theorem dot_set : ∀ (st l : List Int) (j : Nat) (v : Int), j < l.length → j < st.length → dot st (l.set j v) = dot st l + st.getD j 0 * (v - l.getD j 0)
  | [], _, j, _, _, h => by simp at h
  | _ :: _, [], j, _, h, _ => by simp at h
  | w :: st, a :: l, 0, v, _, _ => by
    simp only [List.set_cons_zero, dot, List.getD_cons_zero, Int.mul_sub]; omega
  | w :: st, a :: l, j + 1, v, h, h' => by
    have := dot_set st l j v (by simpa using h) (by simpa using h')
    simp only [List.set_cons_succ, dot, List.getD_cons_succ, this]; omega
theorem il_set (l : List Int) (j : Nat) (v : Int) : (il l).set j [PV.int .i64 v] = il (l.set j v) := by simp [il, List.map_set]
theorem over_ok {n m : Int} (hm : 1 ≤ m) (hn : 0 ≤ n) : 0 ≤ overF n m ∧ n ≤ m * overF n m ∧ m * overF n m < n + m ∧ (n = 0 → overF n m = 0) := by
  unfold overF
  have h1 := Int.emod_add_mul_ediv (-n) m
  have h2 := Int.emod_nonneg (-n) (show m ≠ 0 by omega)
  have h3 := Int.emod_lt_of_pos (-n) (show 0 < m by omega)
  have h4 : m * -(-n / m) = -(m * (-n / m)) := by rw [Int.mul_neg]
  refine ⟨?_, by omega, by omega, fun h => by rw [h]; simp⟩
  generalize -n / m = e at *
  by_cases he : e ≤ 0
  · omega
  · have := Int.mul_le_mul_of_nonneg_right (a := 1) (b := m) (c := e) (by omega) (by omega)
    omega
theorem stamp_law (b : PBook) (h4 : Big4 b) (cents : Int) (bits : List Int) (hbits : big bits.length) : Fn E15 0 11 Tryd.f11 (Tryd.f11.body.getD .skip) [.agg (encB b), .int .i64 cents, .sl (il bits) false] (.bool true) := by
  have hdb : (dec (.agg (encB b)) : Option PBook) = some b := dec_book b
  unfold Fn Tryd.f11
  cases hb : bookOk b with
  | false =>
    obtain ⟨ps, ks, gr, fr, un, fe, st⟩ := b
    simp only [encB] at hdb
    simp only [go_sem, Nat.reduceAdd, Nat.reduceSub, Nat.reduceMul, Nat.reduceEqDiff, Nat.reduceLT, Nat.reduceLeDiff, Nat.reduceBEq, Nat.reduceBNe, Int.reduceToNat, Int.reduceLE, Int.reduceLT, Int.reduceNe, Int.reduceNeg, reduceCtorEq, Int.reduceBEq, Int.reduceBNe, @callV_spec E15 36 s36 rfl, @callV_specT E15 36 s36 rfl, @stepV_spec E15 36 s36 rfl, @effV_spec E15 36 s36 rfl, s36, @callV_spec E15 23 s23 rfl, @callV_specT E15 23 s23 rfl, @stepV_spec E15 23 s23 rfl, @effV_spec E15 23 s23 rfl, s23, encB, callSpec, hdb, h4, hb]
  | true =>
    have hG := book_good hb
    have s1 := hG.s1
    have s5 := hG.s5
    have hst := stamps_in hG.st
    obtain ⟨c, hc, hcl⟩ := spin_nat (n := cents) (m := 20001) (by omega)
    rw [show ((20001 : Nat) : Int) = 20001 from rfl] at hc
    have hL := last_stamp (st := b.stamps) (by intro e; simp [e] at s1) s5 hst (c := c) (by omega)
    have hO : stampO b (c : Int) = (stampM b.stamps c, 0) := by
      unfold stampO
      rw [if_pos hb, if_pos (by simp; omega)]
      rfl
    generalize hV : stampV b.stamps c = V at *
    generalize hl : stampM b.stamps c = l at *
    have hlen := hL.len
    have hW : worthM b.stamps l = ((V : Int), sumL l, true) := by
      unfold worthM
      rw [if_pos hL.rng, hlen, List.take_length, hL.val]
    have okW : l.length ≤ b.stamps.length := by omega
    have hbne : ((b.stamps.length : Int) != (b.stamps.length : Int)) = false := bne_self_eq_false _
    have hcV : ¬ ((V : Int) < (c : Int)) := by have := hL.low; omega
    obtain ⟨ps, ks, gr, fr, un, fe, st⟩ := b
    simp only [encB] at hdb
    simp only at s1 s5 hst hlen hW okW hbne hL
    simp only [go_sem, Nat.reduceAdd, Nat.reduceSub, Nat.reduceMul, Nat.reduceEqDiff, Nat.reduceLT, Nat.reduceLeDiff, Nat.reduceBEq, Nat.reduceBNe, Int.reduceToNat, Int.reduceLE, Int.reduceLT, Int.reduceNe, Int.reduceNeg, reduceCtorEq, Int.reduceBEq, Int.reduceBNe, @callV_spec E15 36 s36 rfl, @callV_specT E15 36 s36 rfl, @stepV_spec E15 36 s36 rfl, @effV_spec E15 36 s36 rfl, s36, @callV_spec E15 23 s23 rfl, @callV_specT E15 23 s23 rfl, @stepV_spec E15 23 s23 rfl, @effV_spec E15 23 s23 rfl, s23, @callV_spec E15 35 sSpin rfl, @callV_specT E15 35 sSpin rfl, @stepV_spec E15 35 sSpin rfl, @effV_spec E15 35 sSpin rfl, sSpin, @callV_spec E15 31 s31 rfl, @callV_specT E15 31 s31 rfl, @stepV_spec E15 31 s31 rfl, @effV_spec E15 31 s31 rfl, s31, @callV_spec E15 47 s47 rfl, @callV_specT E15 47 s47 rfl, @stepV_spec E15 47 s47 rfl, @effV_spec E15 47 s47 rfl, s47, encB, callSpec, hdb, h4, hb, hc, hO, hG, hW, okW, il_length, hlen, hbne, hcV, Nat.le_refl]
    refine ev_loopS [2, 3, 7, 8, 10, 11] (fun i : Nat => [(13, .int .i64 i)])
      (fun i H => i ≤ st.length ∧ H (([], 11000000) : Key) = some (.cells (encB ⟨ps, ks, gr, fr, un, fe, st⟩) 1 false))
      (fun i => st.length - i) 0 ?_ ⟨Nat.zero_le _, ?_⟩ ?_
    · simp only [go_sem, Nat.reduceAdd, Nat.reduceSub, Nat.reduceMul, Nat.reduceEqDiff, Nat.reduceLT, Nat.reduceLeDiff, Nat.reduceBEq, Nat.reduceBNe, Int.reduceToNat, Int.reduceLE, Int.reduceLT, Int.reduceNe, Int.reduceNeg, reduceCtorEq, Int.reduceBEq, Int.reduceBNe]
    · simp only [go_sem, Nat.reduceAdd, Nat.reduceSub, Nat.reduceMul, Nat.reduceEqDiff, Nat.reduceLT, Nat.reduceLeDiff, Nat.reduceBEq, Nat.reduceBNe, Int.reduceToNat, Int.reduceLE, Int.reduceLT, Int.reduceNe, Int.reduceNeg, reduceCtorEq, Int.reduceBEq, Int.reduceBNe, encB]
    · simp only [go_sem, Nat.reduceAdd, Nat.reduceSub, Nat.reduceMul, Nat.reduceEqDiff, Nat.reduceLT, Nat.reduceLeDiff, Nat.reduceBEq, Nat.reduceBNe, Int.reduceToNat, Int.reduceLE, Int.reduceLT, Int.reduceNe, Int.reduceNeg, reduceCtorEq, Int.reduceBEq, Int.reduceBNe]
      intro K i H ⟨hi, h1⟩ hK hE
      have h1' := h1
      simp only [encB] at h1'
      simp only [go_sem, Nat.reduceAdd, Nat.reduceSub, Nat.reduceMul, Nat.reduceEqDiff, Nat.reduceLT, Nat.reduceLeDiff, Nat.reduceBEq, Nat.reduceBNe, Int.reduceToNat, Int.reduceLE, Int.reduceLT, Int.reduceNe, Int.reduceNeg, reduceCtorEq, Int.reduceBEq, Int.reduceBNe, h1', il_length, hlen]
      rw [condK_bool]
      refine ⟨fun h => ?_, fun h => ?_⟩
      · have h' : i < st.length := by simpa using h
        have hii : (i : Int) < (st.length : Int) := by omega
        have hil : i < l.length := by omega
        have w2 : IntKind.i64.wrap ((i : Int) + 1) = ((i + 1 : Nat) : Int) := by rw [Int.natCast_add, Int.natCast_one]; exact wrap_id (by omega)
        have hsi := hst (st.getD i 0) (by simp [List.getD_eq_getElem?_getD, h'])
        have hup := hL.up
        have w3 : IntKind.i64.wrap ((V : Int) - st.getD i 0) = (V : Int) - st.getD i 0 := wrap_id (by omega)
        have hlast := hL.last i h'
        have hff : (decide (l.getD i 0 > 0) && decide ((V : Int) - st.getD i 0 ≥ (c : Int))) = false := by
          rw [← Bool.not_eq_true]; simp only [Bool.and_eq_true, decide_eq_true_eq]
          rintro ⟨a1, a2⟩; have := hlast a1; omega
        simp only [go_sem, Nat.reduceAdd, Nat.reduceSub, Nat.reduceMul, Nat.reduceEqDiff, Nat.reduceLT, Nat.reduceLeDiff, Nat.reduceBEq, Nat.reduceBNe, Int.reduceToNat, Int.reduceLE, Int.reduceLT, Int.reduceNe, Int.reduceNeg, reduceCtorEq, Int.reduceBEq, Int.reduceBNe, h1', h', hii, il_getD, il_length, hlen, hil, w3]
        rw [hff, condK_bool]
        refine ⟨fun h => (by cases h), fun _ => ?_⟩
        simp only [go_sem, Nat.reduceAdd, Nat.reduceSub, Nat.reduceMul, Nat.reduceEqDiff, Nat.reduceLT, Nat.reduceLeDiff, Nat.reduceBEq, Nat.reduceBNe, Int.reduceToNat, Int.reduceLE, Int.reduceLT, Int.reduceNe, Int.reduceNeg, reduceCtorEq, Int.reduceBEq, Int.reduceBNe]
        refine hK (i + 1) _ _ ?_ ⟨h', ?_⟩ (by omega)
        · simp only [go_sem, Nat.reduceAdd, Nat.reduceSub, Nat.reduceMul, Nat.reduceEqDiff, Nat.reduceLT, Nat.reduceLeDiff, Nat.reduceBEq, Nat.reduceBNe, Int.reduceToNat, Int.reduceLE, Int.reduceLT, Int.reduceNe, Int.reduceNeg, reduceCtorEq, Int.reduceBEq, Int.reduceBNe, w2]
        · simp only [go_sem, Nat.reduceAdd, Nat.reduceSub, Nat.reduceMul, Nat.reduceEqDiff, Nat.reduceLT, Nat.reduceLeDiff, Nat.reduceBEq, Nat.reduceBNe, Int.reduceToNat, Int.reduceLE, Int.reduceLT, Int.reduceNe, Int.reduceNeg, reduceCtorEq, Int.reduceBEq, Int.reduceBNe, h1]
      · refine hE _ _ _ (by simp) ?_
        simp only [go_sem, Nat.reduceAdd, Nat.reduceSub, Nat.reduceMul, Nat.reduceEqDiff, Nat.reduceLT, Nat.reduceLeDiff, Nat.reduceBEq, Nat.reduceBNe, Int.reduceToNat, Int.reduceLE, Int.reduceLT, Int.reduceNe, Int.reduceNeg, reduceCtorEq, Int.reduceBEq, Int.reduceBNe]
        refine ev_loopS [2, 3, 7, 8, 10, 11] (fun x : Nat × Int × List Int × PV => [(14, .int .i64 x.2.1), (15, x.2.2.2), (16, .int .i64 x.1)])
          (fun x H => x.1 ≤ st.length ∧ x.2.2.1.length = x.1 ∧ (0 ≤ x.2.1 ∧ x.2.1 ≤ c) ∧ (∀ a ∈ x.2.2.1, 0 ≤ a ∧ a ≤ 20000) ∧ (x.2.1 = 0 ∨ ∀ m, m < x.1 → x.2.2.1.getD m 0 * st.getD m 0 + x.2.1 ≤ 20000) ∧ (c : Int) ≤ dot (st.take x.1) x.2.2.1 + x.2.1 ∧
            H (([], 11000000) : Key) = some (.cells (encB ⟨ps, ks, gr, fr, un, fe, st⟩) 1 false) ∧ Own H (fun K => K = ([], 11023003)) x.2.2.2 1 (il x.2.2.1))
          (fun x => st.length - x.1) (0, (c : Int), [], .sl [] true) ?_ ⟨Nat.zero_le _, rfl, ⟨by simp only; omega, Int.le_refl _⟩, by simp, .inr (by intro m hm; simp at hm), ?_, ?_, ?_⟩ ?_
        · simp only [go_sem, Nat.reduceAdd, Nat.reduceSub, Nat.reduceMul, Nat.reduceEqDiff, Nat.reduceLT, Nat.reduceLeDiff, Nat.reduceBEq, Nat.reduceBNe, Int.reduceToNat, Int.reduceLE, Int.reduceLT, Int.reduceNe, Int.reduceNeg, reduceCtorEq, Int.reduceBEq, Int.reduceBNe]
        · simp [dot]
        · simp only [go_sem, Nat.reduceAdd, Nat.reduceSub, Nat.reduceMul, Nat.reduceEqDiff, Nat.reduceLT, Nat.reduceLeDiff, Nat.reduceBEq, Nat.reduceBNe, Int.reduceToNat, Int.reduceLE, Int.reduceLT, Int.reduceNe, Int.reduceNeg, reduceCtorEq, Int.reduceBEq, Int.reduceBNe, h1]
        · exact Own.nil
        · simp only [go_sem, Nat.reduceAdd, Nat.reduceSub, Nat.reduceMul, Nat.reduceEqDiff, Nat.reduceLT, Nat.reduceLeDiff, Nat.reduceBEq, Nat.reduceBNe, Int.reduceToNat, Int.reduceLE, Int.reduceLT, Int.reduceNe, Int.reduceNeg, reduceCtorEq, Int.reduceBEq, Int.reduceBNe]
          intro K x H ⟨hi, g1, g2, g3, g4, g5, g6, g7⟩ hK hE
          obtain ⟨i, left, oth, p⟩ := x
          simp only at hi g1 g2 g3 g4 g5 g6 g7
          have g6' := g6
          simp only [encB] at g6'
          obtain ⟨t1, t2, t3, t4, t5⟩ := OwnTaint g7
          simp only [go_sem, Nat.reduceAdd, Nat.reduceSub, Nat.reduceMul, Nat.reduceEqDiff, Nat.reduceLT, Nat.reduceLeDiff, Nat.reduceBEq, Nat.reduceBNe, Int.reduceToNat, Int.reduceLE, Int.reduceLT, Int.reduceNe, Int.reduceNeg, reduceCtorEq, Int.reduceBEq, Int.reduceBNe, g6', il_length]
          rw [condK_bool]
          refine ⟨fun h => ?_, fun h => ?_⟩
          · have h' : i < st.length := by simpa using h
            have hii : (i : Int) < (st.length : Int) := by omega
            have w2 : IntKind.i64.wrap ((i : Int) + 1) = ((i + 1 : Nat) : Int) := by rw [Int.natCast_add, Int.natCast_one]; exact wrap_id (by omega)
            have hsi := hst (st.getD i 0) (by simp [List.getD_eq_getElem?_getD, h'])
            by_cases hi0 : i = 0
            · have hib : decide ((i : Int) > 0) = false := decide_eq_false (by omega)
              have hkk : 0 ≤ (0 : Int) ∧ (0 : Int) ≤ 20000 := by omega
              simp only [go_sem, Nat.reduceAdd, Nat.reduceSub, Nat.reduceMul, Nat.reduceEqDiff, Nat.reduceLT, Nat.reduceLeDiff, Nat.reduceBEq, Nat.reduceBNe, Int.reduceToNat, Int.reduceLE, Int.reduceLT, Int.reduceNe, Int.reduceNeg, reduceCtorEq, Int.reduceBEq, Int.reduceBNe, g6', il_getD, il_length, t1, t2, t3, t4, t5]
              rw [hib, condK_bool]
              refine ⟨fun h => (by cases h), fun _ => ?_⟩
              simp only [go_sem, Nat.reduceAdd, Nat.reduceSub, Nat.reduceMul, Nat.reduceEqDiff, Nat.reduceLT, Nat.reduceLeDiff, Nat.reduceBEq, Nat.reduceBNe, Int.reduceToNat, Int.reduceLE, Int.reduceLT, Int.reduceNe, Int.reduceNeg, reduceCtorEq, Int.reduceBEq, Int.reduceBNe, g6', il_getD, il_length, t1, t2, t3, t4, t5]
              have hstep := oth_step (k := 0) h' g1 g2 g3 g4 g5 (by omega) hkk (by omega)
              have q0 := Int.mul_nonneg hkk.1 (show 0 ≤ st.getD i 0 by omega)
              have q1 := Int.mul_le_mul hkk.2 hsi.2 (by omega) (by omega)
              have w3 : IntKind.i64.wrap (0 * st.getD i 0) = 0 * st.getD i 0 := wrap_id (by omega)
              have w4 : IntKind.i64.wrap (left - 0 * st.getD i 0) = left - 0 * st.getD i 0 := wrap_id (by omega)
              refine app_one (S := fun K => K = ([], 11023003)) trivial rfl rfl (by decide) (by decide) (set_at_eq _ _ _) (g7.frame fun K hK => ?_) rfl ?_ (il_row _) ⟨rfl, rfl⟩ fun p' H' hO hF => ?_
              · rw [hK]; simp only [go_sem, Nat.reduceAdd, Nat.reduceSub, Nat.reduceMul, Nat.reduceEqDiff, Nat.reduceLT, Nat.reduceLeDiff, Nat.reduceBEq, Nat.reduceBNe, Int.reduceToNat, Int.reduceLE, Int.reduceLT, Int.reduceNe, Int.reduceNeg, reduceCtorEq, Int.reduceBEq, Int.reduceBNe]
              · rw [il_length, g1]; show (i + 1) * 8 ≤ _; omega
              have e6 := (hF ([], 11000000) (by simp)).trans (show _ = some (.cells (encB ⟨ps, ks, gr, fr, un, fe, st⟩) 1 false) by simp only [go_sem, Nat.reduceAdd, Nat.reduceSub, Nat.reduceMul, Nat.reduceEqDiff, Nat.reduceLT, Nat.reduceLeDiff, Nat.reduceBEq, Nat.reduceBNe, Int.reduceToNat, Int.reduceLE, Int.reduceLT, Int.reduceNe, Int.reduceNeg, reduceCtorEq, Int.reduceBEq, Int.reduceBNe, g6])
              have e6' := e6
              simp only [encB] at e6'
              rw [show il oth ++ [[PV.int .i64 0]] = il (oth ++ [0]) from (il_append' oth [0]).symm] at hO
              obtain ⟨y1, y2, y3, y4, y5⟩ := OwnTaint hO
              obtain ⟨z1, z2, z3, z4, z5⟩ := hstep
              simp only [go_sem, Nat.reduceAdd, Nat.reduceSub, Nat.reduceMul, Nat.reduceEqDiff, Nat.reduceLT, Nat.reduceLeDiff, Nat.reduceBEq, Nat.reduceBNe, Int.reduceToNat, Int.reduceLE, Int.reduceLT, Int.reduceNe, Int.reduceNeg, reduceCtorEq, Int.reduceBEq, Int.reduceBNe, e6', h', hii, il_getD, il_length, y1, y2, y3, y4, y5, w3, w4]
              refine hK (i + 1, (if left - 0 * st.getD i 0 > 0 then left - 0 * st.getD i 0 else 0), oth ++ [0], p') _ _ ?_ ⟨h', z1, z2, z3, z4, z5, ?_, ?_⟩ (by simp only; omega)
              · simp only [go_sem, Nat.reduceAdd, Nat.reduceSub, Nat.reduceMul, Nat.reduceEqDiff, Nat.reduceLT, Nat.reduceLeDiff, Nat.reduceBEq, Nat.reduceBNe, Int.reduceToNat, Int.reduceLE, Int.reduceLT, Int.reduceNe, Int.reduceNeg, reduceCtorEq, Int.reduceBEq, Int.reduceBNe, w2]
              · simp only [go_sem, Nat.reduceAdd, Nat.reduceSub, Nat.reduceMul, Nat.reduceEqDiff, Nat.reduceLT, Nat.reduceLeDiff, Nat.reduceBEq, Nat.reduceBNe, Int.reduceToNat, Int.reduceLE, Int.reduceLT, Int.reduceNe, Int.reduceNeg, reduceCtorEq, Int.reduceBEq, Int.reduceBNe, e6]
              · exact hO.frame fun K hK => by subst hK; simp only [go_sem, Nat.reduceAdd, Nat.reduceSub, Nat.reduceMul, Nat.reduceEqDiff, Nat.reduceLT, Nat.reduceLeDiff, Nat.reduceBEq, Nat.reduceBNe, Int.reduceToNat, Int.reduceLE, Int.reduceLT, Int.reduceNe, Int.reduceNeg, reduceCtorEq, Int.reduceBEq, Int.reduceBNe]
            · have hib : decide ((i : Int) > 0) = true := decide_eq_true (by omega)
              have hmin := stamp_min st 0 i hG.st h'
              rw [if_neg hi0] at hmin
              have hprev := hst (st.getD (i - 1) 0) (by simp [List.getD_eq_getElem?_getD, show i - 1 < st.length by omega])
              simp only [go_sem, Nat.reduceAdd, Nat.reduceSub, Nat.reduceMul, Nat.reduceEqDiff, Nat.reduceLT, Nat.reduceLeDiff, Nat.reduceBEq, Nat.reduceBNe, Int.reduceToNat, Int.reduceLE, Int.reduceLT, Int.reduceNe, Int.reduceNeg, reduceCtorEq, Int.reduceBEq, Int.reduceBNe, g6', il_getD, il_length, t1, t2, t3, t4, t5]
              rw [hib, condK_bool]
              refine ⟨fun _ => ?_, fun h => (by cases h)⟩
              obtain ⟨d, hd⟩ : ∃ d, left / st.getD i 0 = d := ⟨_, rfl⟩
              have hde := Int.emod_add_mul_ediv left (st.getD i 0)
              have hd0 := Int.ediv_nonneg g2.1 (show 0 ≤ st.getD i 0 by omega)
              have hmod := Int.emod_nonneg left (show st.getD i 0 ≠ 0 by omega)
              rw [hd] at hde hd0
              have h2d := Int.mul_le_mul_of_nonneg_right (show 2 ≤ st.getD i 0 by omega) hd0
              have w5 : IntKind.i64.wrap (left.tdiv (st.getD i 0)) = d := by rw [Int.tdiv_eq_ediv_of_nonneg g2.1, hd]; exact wrap_id (by omega)
              have w6 : IntKind.i64.wrap (d + 2) = d + 2 := wrap_id (by omega)
              have w7 : (if d + 2 > 1 then d + 2 else 1) = d + 2 := if_pos (by omega)
              have hne : (st.getD i 0 = 0) = False := eq_false (by omega)
              have hmx : (d + 2 ≤ 9223372036854775807) = True := eq_true (by omega)
              simp only [go_sem, Nat.reduceAdd, Nat.reduceSub, Nat.reduceMul, Nat.reduceEqDiff, Nat.reduceLT, Nat.reduceLeDiff, Nat.reduceBEq, Nat.reduceBNe, Int.reduceToNat, Int.reduceLE, Int.reduceLT, Int.reduceNe, Int.reduceNeg, reduceCtorEq, Int.reduceBEq, Int.reduceBNe, @callV_spec E15 48 s48 rfl, @callV_specT E15 48 s48 rfl, @stepV_spec E15 48 s48 rfl, @effV_spec E15 48 s48 rfl, s48, @callV_spec E15 35 sSpin rfl, @callV_specT E15 35 sSpin rfl, @stepV_spec E15 35 sSpin rfl, @effV_spec E15 35 sSpin rfl, sSpin, callSpec, g6', h', hii, il_getD, il_length, hbits, w5, w6, w7, hne, hmx]
              have hsr := spin_range (n := if bits.length = 0 then 0 else bits.getD (spinF (i : Int) bits.length).toNat 0) (m := d + 2) (by omega)
              generalize spinF (if bits.length = 0 then 0 else bits.getD (spinF (i : Int) bits.length).toNat 0) (d + 2) = k at *
              have hkk : 0 ≤ k ∧ k ≤ 20000 := by omega
              simp only [go_sem, Nat.reduceAdd, Nat.reduceSub, Nat.reduceMul, Nat.reduceEqDiff, Nat.reduceLT, Nat.reduceLeDiff, Nat.reduceBEq, Nat.reduceBNe, Int.reduceToNat, Int.reduceLE, Int.reduceLT, Int.reduceNe, Int.reduceNeg, reduceCtorEq, Int.reduceBEq, Int.reduceBNe, g6', il_getD, il_length, t1, t2, t3, t4, t5]
              have hstep := oth_step (k := k) h' g1 g2 g3 g4 g5 (by omega) hkk (by omega)
              have q0 := Int.mul_nonneg hkk.1 (show 0 ≤ st.getD i 0 by omega)
              have q1 := Int.mul_le_mul hkk.2 hsi.2 (by omega) (by omega)
              have w3 : IntKind.i64.wrap (k * st.getD i 0) = k * st.getD i 0 := wrap_id (by omega)
              have w4 : IntKind.i64.wrap (left - k * st.getD i 0) = left - k * st.getD i 0 := wrap_id (by omega)
              refine app_one (S := fun K => K = ([], 11023003)) trivial rfl rfl (by decide) (by decide) (set_at_eq _ _ _) (g7.frame fun K hK => ?_) rfl ?_ (il_row _) ⟨rfl, rfl⟩ fun p' H' hO hF => ?_
              · rw [hK]; simp only [go_sem, Nat.reduceAdd, Nat.reduceSub, Nat.reduceMul, Nat.reduceEqDiff, Nat.reduceLT, Nat.reduceLeDiff, Nat.reduceBEq, Nat.reduceBNe, Int.reduceToNat, Int.reduceLE, Int.reduceLT, Int.reduceNe, Int.reduceNeg, reduceCtorEq, Int.reduceBEq, Int.reduceBNe]
              · rw [il_length, g1]; show (i + 1) * 8 ≤ _; omega
              have e6 := (hF ([], 11000000) (by simp)).trans (show _ = some (.cells (encB ⟨ps, ks, gr, fr, un, fe, st⟩) 1 false) by simp only [go_sem, Nat.reduceAdd, Nat.reduceSub, Nat.reduceMul, Nat.reduceEqDiff, Nat.reduceLT, Nat.reduceLeDiff, Nat.reduceBEq, Nat.reduceBNe, Int.reduceToNat, Int.reduceLE, Int.reduceLT, Int.reduceNe, Int.reduceNeg, reduceCtorEq, Int.reduceBEq, Int.reduceBNe, g6])
              have e6' := e6
              simp only [encB] at e6'
              rw [show il oth ++ [[PV.int .i64 k]] = il (oth ++ [k]) from (il_append' oth [k]).symm] at hO
              obtain ⟨y1, y2, y3, y4, y5⟩ := OwnTaint hO
              obtain ⟨z1, z2, z3, z4, z5⟩ := hstep
              simp only [go_sem, Nat.reduceAdd, Nat.reduceSub, Nat.reduceMul, Nat.reduceEqDiff, Nat.reduceLT, Nat.reduceLeDiff, Nat.reduceBEq, Nat.reduceBNe, Int.reduceToNat, Int.reduceLE, Int.reduceLT, Int.reduceNe, Int.reduceNeg, reduceCtorEq, Int.reduceBEq, Int.reduceBNe, e6', h', hii, il_getD, il_length, y1, y2, y3, y4, y5, w3, w4]
              refine hK (i + 1, (if left - k * st.getD i 0 > 0 then left - k * st.getD i 0 else 0), oth ++ [k], p') _ _ ?_ ⟨h', z1, z2, z3, z4, z5, ?_, ?_⟩ (by simp only; omega)
              · simp only [go_sem, Nat.reduceAdd, Nat.reduceSub, Nat.reduceMul, Nat.reduceEqDiff, Nat.reduceLT, Nat.reduceLeDiff, Nat.reduceBEq, Nat.reduceBNe, Int.reduceToNat, Int.reduceLE, Int.reduceLT, Int.reduceNe, Int.reduceNeg, reduceCtorEq, Int.reduceBEq, Int.reduceBNe, w2]
              · simp only [go_sem, Nat.reduceAdd, Nat.reduceSub, Nat.reduceMul, Nat.reduceEqDiff, Nat.reduceLT, Nat.reduceLeDiff, Nat.reduceBEq, Nat.reduceBNe, Int.reduceToNat, Int.reduceLE, Int.reduceLT, Int.reduceNe, Int.reduceNeg, reduceCtorEq, Int.reduceBEq, Int.reduceBNe, e6]
              · exact hO.frame fun K hK => by subst hK; simp only [go_sem, Nat.reduceAdd, Nat.reduceSub, Nat.reduceMul, Nat.reduceEqDiff, Nat.reduceLT, Nat.reduceLeDiff, Nat.reduceBEq, Nat.reduceBNe, Int.reduceToNat, Int.reduceLE, Int.reduceLT, Int.reduceNe, Int.reduceNeg, reduceCtorEq, Int.reduceBEq, Int.reduceBNe]
          · have hil : i = st.length := by simp only [decide_eq_false_iff_not] at h; omega
            subst hil
            rw [List.take_length] at g5
            obtain ⟨j, hj, hjl⟩ := spin_nat (n := if bits.length = 0 then 0 else bits.getD (spinF 0 bits.length).toNat 0) (m := st.length) (by omega)
            have hjo : j < oth.length := by omega
            have hji : (j : Int) < (st.length : Int) := by omega
            have hjoi : (j : Int) < (oth.length : Int) := by omega
            have hsj := hst (st.getD j 0) (by simp [List.getD_eq_getElem?_getD, hjl])
            have hlb : ((st.length : Int) ≤ 9223372036854775807) = True := eq_true (by omega)
            rcases g7 with ⟨e, _⟩ | ⟨K0, v0, hK0, rfl, hH0⟩
            · exfalso
              have : (il oth).length = 0 := by rw [e]; rfl
              rw [il_length] at this; omega
            subst hK0
            refine hE _ _ _ (by simp) ?_
            simp only [go_sem, Nat.reduceAdd, Nat.reduceSub, Nat.reduceMul, Nat.reduceEqDiff, Nat.reduceLT, Nat.reduceLeDiff, Nat.reduceBEq, Nat.reduceBNe, Int.reduceToNat, Int.reduceLE, Int.reduceLT, Int.reduceNe, Int.reduceNeg, reduceCtorEq, Int.reduceBEq, Int.reduceBNe, @callV_spec E15 48 s48 rfl, @callV_specT E15 48 s48 rfl, @stepV_spec E15 48 s48 rfl, @effV_spec E15 48 s48 rfl, s48, @callV_spec E15 35 sSpin rfl, @callV_specT E15 35 sSpin rfl, @stepV_spec E15 35 sSpin rfl, @effV_spec E15 35 sSpin rfl, sSpin, @callV_spec E15 49 s49 rfl, @callV_specT E15 49 s49 rfl, @stepV_spec E15 49 s49 rfl, @effV_spec E15 49 s49 rfl, s49, callSpec, g6', il_getD, il_length, hbits, hj, hlb, hjl, hji, hjo, hjoi, hH0]
            have hov := over_ok (n := left) (m := st.getD j 0) (by omega) g2.1
            generalize overF left (st.getD j 0) = q at *
            have hoj := g3 (oth.getD j 0) (by simp [List.getD_eq_getElem?_getD, hjo])
            have hv : 0 ≤ oth.getD j 0 + q ∧ oth.getD j 0 + q ≤ 20000 := by
              refine ⟨by omega, ?_⟩
              rcases g4 with g4 | g4
              · have := hov.2.2.2 g4; omega
              · have h1 := g4 j hjl
                by_cases hq : q = 0
                · omega
                · have h2 : st.getD j 0 * (oth.getD j 0 + q - 1) = oth.getD j 0 * st.getD j 0 + st.getD j 0 * q - st.getD j 0 := by
                    rw [Int.mul_sub, Int.mul_add, Int.mul_one, Int.mul_comm (st.getD j 0) (oth.getD j 0)]
                  have h3 := Int.mul_le_mul_of_nonneg_right (show 1 ≤ st.getD j 0 by omega) (show 0 ≤ oth.getD j 0 + q - 1 by omega)
                  omega
            have wv : IntKind.i64.wrap (oth.getD j 0 + q) = oth.getD j 0 + q := wrap_id (by omega)
            have hds := dot_set st oth j (oth.getD j 0 + q) hjo hjl
            rw [show oth.getD j 0 + q - oth.getD j 0 = q by omega] at hds
            have hsl : (oth.set j (oth.getD j 0 + q)).length = st.length := by rw [List.length_set, g1]
            generalize hoo : oth.set j (oth.getD j 0 + q) = oo at *
            have hall : oo.all inR = true := by
              rw [List.all_eq_true]
              intro a ha
              rw [← hoo] at ha
              have : 0 ≤ a ∧ a ≤ 20000 := by
                rcases List.mem_or_eq_of_mem_set ha with h | h
                · exact g3 a h
                · rw [h]; exact hv
              simp [inR, this.1, this.2]
            have hWo : worthM st oo = (dot st oo, sumL oo, true) := by
              unfold worthM
              rw [if_pos hall, hsl, List.take_length]
            have okWo : oo.length ≤ st.length := by omega
            have hlow : (c : Int) ≤ dot st oo := by omega
            have hleast := hL.least oo hsl (fun a ha => by have := List.all_eq_true.1 hall a ha; simp [inR] at this; exact this.1) hlow
            have bO : big oo.length = True := eq_true (by unfold big; omega)
            have bL : big l.length = True := eq_true (by unfold big; omega)
            have hsm : small left ∧ 1 ≤ st.getD j 0 ∧ st.getD j 0 ≤ 4611686018427387904 := ⟨by unfold small; omega, by omega, by omega⟩
            refine ⟨hsm, ?_⟩
            simp only [go_sem, Nat.reduceAdd, Nat.reduceSub, Nat.reduceMul, Nat.reduceEqDiff, Nat.reduceLT, Nat.reduceLeDiff, Nat.reduceBEq, Nat.reduceBNe, Int.reduceToNat, Int.reduceLE, Int.reduceLT, Int.reduceNe, Int.reduceNeg, reduceCtorEq, Int.reduceBEq, Int.reduceBNe, @callV_spec E15 47 s47 rfl, @callV_specT E15 47 s47 rfl, @stepV_spec E15 47 s47 rfl, @effV_spec E15 47 s47 rfl, s47, @callV_spec E15 50 s50 rfl, @callV_specT E15 50 s50 rfl, @stepV_spec E15 50 s50 rfl, @effV_spec E15 50 s50 rfl, s50, @callV_spec E15 23 s23 rfl, @callV_specT E15 23 s23 rfl, @stepV_spec E15 23 s23 rfl, @effV_spec E15 23 s23 rfl, s23, callSpec, g6', il_length, hdb, hG, wv, il_set, hoo, hWo, okWo, hsl, bO, bL, cmp_lex, g1]
            refine ⟨fun _ => by unfold big; omega, fun a b => ⟨a, b⟩, fun a b => ⟨a, b⟩, fun a b => ⟨a, b⟩, fun a b => ⟨a, b⟩, ?_⟩
            rw [show decide (dot st oo ≥ (c : Int)) = true from decide_eq_true hlow, Bool.true_and]
            rcases hleast with h | ⟨h, h' | ⟨h', h''⟩⟩
            · rw [show decide (dot st oo > (V : Int)) = true from decide_eq_true h]; rfl
            · rw [show (dot st oo == (V : Int)) = true from beq_iff_eq.2 h, show decide (sumL oo > sumL l) = true from decide_eq_true h']; simp
            · rw [show (dot st oo == (V : Int)) = true from beq_iff_eq.2 h, show (sumL oo == sumL l) = true from beq_iff_eq.2 h', h'']; simp
end Wb
