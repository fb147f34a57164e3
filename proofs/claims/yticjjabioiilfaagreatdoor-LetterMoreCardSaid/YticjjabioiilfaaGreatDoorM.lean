import Derived.Test.YticjjabioiilfaaGreatDoorL
set_option linter.unusedVariables false
set_option linter.unusedSimpArgs false
/- The laws' own helpers: the numbers of a set, what is fair, what is sound. -/
namespace Wb
open Go Go.Proofs Enc Row
set_option linter.unusedSimpArgs false
set_option linter.unusedVariables false
set_option maxRecDepth 20000
set_option maxHeartbeats 8000000
noncomputable def E48t : List (Nat × Spec) := [(87, sIn), (45, sTween), (58, sProper), (57, s20), (26, t26)] ++ E47t
theorem E48t_ok : AllOK E48t := ⟨⟨s104_ok, Tryz.call87⟩, ⟨s50_ok, Tryz.call45⟩, ⟨s69_ok, Tryz.call58⟩, ⟨s20_ok, Tryz.call57⟩, ⟨t26_ok, Tryz.call26⟩, E47t_ok⟩
noncomputable def E48 : Env := mkE E48t []
theorem E48_ok : EnvOK Tryz.prog E48 := envOK E48t_ok trivial
theorem E48_ti {t : Nat} : E48.ti t = ti t := rfl
theorem E48_q0 : (E48).eqt 26 = true := rfl
theorem E48_q1 : (E48).eqt 65 = true := rfl
theorem E48_q2 : (E48).eqt 77 = true := rfl
theorem E48_q3 : (E48).eqt 79 = true := rfl
theorem E48_q4 : (E48).eqt 182 = true := rfl
theorem E48_q5 : (E48).eqt 243 = true := rfl
theorem E48_q6 : (E48).keyt 3 = true := rfl
theorem E48_q7 : (E48).keyt 114 = true := rfl
theorem E48_q8 : (E48).keyt 169 = true := rfl
theorem E48_q9 : (E48).keyt 180 = true := rfl
theorem E48_q10 : (E48).keyt 193 = true := rfl
theorem E48_q11 : (E48).glob 0 = some [.fn 219 [] [], .fn 220 [] [], .fn 216 [] [], .fn 221 [] []] := rfl
theorem E48_q12 : (E48).glob 1 = some [.fn 222 [] [], .fn 223 [] []] := rfl
attribute [go_sem] E48_ti E48_q0 E48_q1 E48_q2 E48_q3 E48_q4 E48_q5 E48_q6 E48_q7 E48_q8 E48_q9 E48_q10 E48_q11 E48_q12
/-- The numbers of a set that are below a number. -/
def ofI (a : Int) (n : Nat) : List Int := ((List.range n).filter fun (k : Nat) => inF a (k : Int)).map fun (k : Nat) => (k : Int)
theorem ofI_succ (a : Int) (n : Nat) : ofI a (n + 1) = ofI a n ++ if inF a n then [(n : Int)] else [] := by
  unfold ofI
  rw [List.range_succ, List.filter_append, List.map_append]
  cases h : inF a (n : Int) <;> simp [h]
theorem ofI_len (a : Int) (n : Nat) : (ofI a n).length ≤ n := by
  unfold ofI
  rw [List.length_map]
  exact Nat.le_trans (List.length_filter_le _ _) (by simp)
theorem Of_fn (a : Int) (n : Nat) (hn : n ≤ 62) : Fn E48 0 53 Tryz.f53 (Tryz.f53.body.getD .skip) [.int .i64 a, .int .i64 n] (.sl (il (ofI a n)) false) := by
  unfold Fn Tryz.f53
  simp only [go_sem]
  refine ev_loopS [0, 1, 4] (fun x : Nat × PV => [(5, x.2), (6, .int .i64 x.1)])
    (fun x H => x.1 ≤ n ∧ Own H (fun K => K = ([], 53006003)) x.2 1 (il (ofI a x.1))) (fun x => n - x.1) (0, .sl [] true) ?_ ⟨Nat.zero_le _, .nil⟩ ?_
  · simp only [go_sem]
  · simp only [go_sem]
    intro K x H ⟨hi, h3⟩ hK hE
    obtain ⟨i, p⟩ := x
    simp only at hi h3
    dsimp only
    obtain ⟨ex, ks, hz1, hz2, hks⟩ := h3.frz
    obtain ⟨hT, hC, hP, hV, hU⟩ := OwnTaint h3
    rw [condK_bool]
    refine ⟨fun h => ?_, fun h => ?_⟩
    · have h' : i < n := by simpa using h
      have w2 : IntKind.i64.wrap ((i : Int) + 1) = (i : Int) + 1 := wrap_id (by omega)
      have hb := ofI_len a i
      simp only [go_sem, @ct E48 87 sIn rfl, sIn, callSpec, hU, hT, hC, Int.natCast_nonneg, Int.toNat_natCast]
      rw [condK_bool]
      refine ⟨fun hc => ?_, fun hc => ?_⟩
      · simp only [go_sem, hT, hC, hP, hV, hU]
        refine app_one trivial rfl rfl (by decide) (by decide) (set_at_eq _ _ _) (h3.frame fun K hK => set_at_ne _ _ (by rw [hK]; simp)) rfl (by rw [il_length]; show ((ofI a i).length + 1) * 8 ≤ _; omega) (il_row _) ⟨rfl, rfl⟩ fun p' H' hO hF => ?_
        obtain ⟨hT', hC', hP', hV', hU'⟩ := OwnTaint hO
        simp only [go_sem, hT', hC', hP', hV', hU']
        refine hK (i + 1, p') _ _ ?_ ⟨h', by rw [ofI_succ, if_pos hc, il_append]; exact hO⟩ (by simp only; omega)
        simp only [go_sem, w2, Int.natCast_add, Int.natCast_one]
      · simp only [go_sem]
        refine hK (i + 1, p) _ _ ?_ ⟨h', by rw [ofI_succ, if_neg (by simp [hc]), List.append_nil]; exact h3⟩ (by simp only; omega)
        simp only [go_sem, w2, Int.natCast_add, Int.natCast_one]
    · have h' : i = n := by have : ¬ ((i : Int) < (n : Int)) := by simpa using h
                            omega
      subst h'
      refine hE _ _ _ (by simp) ?_
      simp only [go_sem, hU]
      exact h3.fin
def t53 : Spec := spec2 (fun (_ n : Int) => 0 ≤ n ∧ n ≤ 62) (fun a n => .sl (il (ofI a n.toNat)) false)
theorem t53_ok : SpecOK Tryz.prog glB 53 t53 := spec2_ok E48_ok Tryz.func53 rfl (by kernel_rfl) fun a n h => by
  obtain ⟨h3, h4⟩ := h
  obtain ⟨b, rfl⟩ := Int.eq_ofNat_of_zero_le h3
  exact Of_fn a b (by omega)
noncomputable def E49t : List (Nat × Spec) := [(53, t53)] ++ E48t
theorem E49t_ok : AllOK E49t := ⟨⟨t53_ok, Tryz.call53⟩, E48t_ok⟩
noncomputable def E49 : Env := mkE E49t []
theorem E49_ok : EnvOK Tryz.prog E49 := envOK E49t_ok trivial
theorem E49_ti {t : Nat} : E49.ti t = ti t := rfl
theorem E49_q0 : (E49).eqt 26 = true := rfl
theorem E49_q1 : (E49).eqt 65 = true := rfl
theorem E49_q2 : (E49).eqt 77 = true := rfl
theorem E49_q3 : (E49).eqt 79 = true := rfl
theorem E49_q4 : (E49).eqt 182 = true := rfl
theorem E49_q5 : (E49).eqt 243 = true := rfl
theorem E49_q6 : (E49).keyt 3 = true := rfl
theorem E49_q7 : (E49).keyt 114 = true := rfl
theorem E49_q8 : (E49).keyt 169 = true := rfl
theorem E49_q9 : (E49).keyt 180 = true := rfl
theorem E49_q10 : (E49).keyt 193 = true := rfl
theorem E49_q11 : (E49).glob 0 = some [.fn 219 [] [], .fn 220 [] [], .fn 216 [] [], .fn 221 [] []] := rfl
theorem E49_q12 : (E49).glob 1 = some [.fn 222 [] [], .fn 223 [] []] := rfl
attribute [go_sem] E49_ti E49_q0 E49_q1 E49_q2 E49_q3 E49_q4 E49_q5 E49_q6 E49_q7 E49_q8 E49_q9 E49_q10 E49_q11 E49_q12
theorem members_fn (a n : Int) (h : 0 ≤ n ∧ n ≤ 62) : Fn E49 0 100 Tryz.f100 (Tryz.f100.body.getD .skip) [.int .i64 a, .int .i64 n] (.int .i64 (ofI a n.toNat).length) := by
  unfold Fn Tryz.f100
  simp only [go_sem, @ct E49 53 t53 rfl, t53, callSpec, h.1, h.2, il_length]
def t100 : Spec := spec2 (fun (_ n : Int) => 0 ≤ n ∧ n ≤ 62) (fun a n => .int .i64 (ofI a n.toNat).length)
theorem t100_ok : SpecOK Tryz.prog glB 100 t100 := spec2_ok E49_ok Tryz.func100 rfl (by kernel_rfl) fun a n h => members_fn a n h
theorem ofI_ten (a : Int) : (ofI a 10).length = countF (readB a) := by
  unfold ofI countF readB
  rw [List.length_map, show List.range 10 = [0, 1, 2, 3, 4, 5, 6, 7, 8, 9] from rfl]
  show _ = (([((0 : Nat) : Int), ((1 : Nat) : Int), ((2 : Nat) : Int), ((3 : Nat) : Int), ((4 : Nat) : Int), ((5 : Nat) : Int), ((6 : Nat) : Int), ((7 : Nat) : Int), ((8 : Nat) : Int), ((9 : Nat) : Int)].map (inF a)).filter id).length
  rw [List.filter_map, List.length_map]
  rw [show ([((0 : Nat) : Int), ((1 : Nat) : Int), ((2 : Nat) : Int), ((3 : Nat) : Int), ((4 : Nat) : Int), ((5 : Nat) : Int), ((6 : Nat) : Int), ((7 : Nat) : Int), ((8 : Nat) : Int), ((9 : Nat) : Int)] : List Int) = [0, 1, 2, 3, 4, 5, 6, 7, 8, 9].map (fun (k : Nat) => (k : Int)) from rfl, List.filter_map, List.length_map]
  rfl
theorem ofI_four {a : Int} (h : 1 ≤ a ∧ a ≤ 15) : (ofI a 4).length = countF (readB a) := by
  obtain ⟨n, rfl⟩ := Int.eq_ofNat_of_zero_le (by omega : 0 ≤ a)
  have key : ∀ n ∈ List.range 16, (ofI (n : Int) 4).length = countF (readB (n : Int)) := by decide +kernel
  exact key n (List.mem_range.2 (by omega))
theorem prodC_append (l : List Int) (c : Int) : prodC (l ++ [c]) = prodC l * countF (readB c) := by
  induction l with
  | nil => simp [prodC]
  | cons a l ih => simp only [List.cons_append, prodC, ih, Nat.mul_assoc]
theorem prodC_take {l : List Int} {i : Nat} (h : i < l.length) : prodC (l.take (i + 1)) = prodC (l.take i) * countF (readB (l.getD i default)) := by
  have e : l.getD i default = l[i] := by simp [h]
  rw [e, List.take_succ_eq_append_getElem h, prodC_append]
theorem prodC_le : ∀ {l : List Int} (i : Nat), (∀ c ∈ l, 1 ≤ countF (readB c)) → prodC (l.take i) ≤ prodC l
  | [], i, _ => by simp
  | c :: l, 0, h => prodC_pos h
  | c :: l, i + 1, h => by
    simp only [List.take_succ_cons, prodC]
    exact Nat.mul_le_mul (Nat.le_refl _) (prodC_le i fun d hd => h d (List.mem_cons_of_mem _ hd))
end Wb
/- What is fair, what is sound. -/
namespace Wb
open Go Go.Proofs Enc Row
set_option linter.unusedSimpArgs false
set_option linter.unusedVariables false
set_option maxRecDepth 20000
set_option maxHeartbeats 8000000
noncomputable def E50t : List (Nat × Spec) := [(100, t100), (14, t14)] ++ E49t
theorem E50t_ok : AllOK E50t := ⟨⟨t100_ok, Tryz.call100⟩, ⟨t14_ok, Tryz.call14⟩, E49t_ok⟩
noncomputable def E50 : Env := mkE E50t []
theorem E50_ok : EnvOK Tryz.prog E50 := envOK E50t_ok trivial
theorem E50_ti {t : Nat} : E50.ti t = ti t := rfl
theorem E50_q0 : (E50).eqt 26 = true := rfl
theorem E50_q1 : (E50).eqt 65 = true := rfl
theorem E50_q2 : (E50).eqt 77 = true := rfl
theorem E50_q3 : (E50).eqt 79 = true := rfl
theorem E50_q4 : (E50).eqt 182 = true := rfl
theorem E50_q5 : (E50).eqt 243 = true := rfl
theorem E50_q6 : (E50).keyt 3 = true := rfl
theorem E50_q7 : (E50).keyt 114 = true := rfl
theorem E50_q8 : (E50).keyt 169 = true := rfl
theorem E50_q9 : (E50).keyt 180 = true := rfl
theorem E50_q10 : (E50).keyt 193 = true := rfl
theorem E50_q11 : (E50).glob 0 = some [.fn 219 [] [], .fn 220 [] [], .fn 216 [] [], .fn 221 [] []] := rfl
theorem E50_q12 : (E50).glob 1 = some [.fn 222 [] [], .fn 223 [] []] := rfl
attribute [go_sem] E50_ti E50_q0 E50_q1 E50_q2 E50_q3 E50_q4 E50_q5 E50_q6 E50_q7 E50_q8 E50_q9 E50_q10 E50_q11 E50_q12
theorem fair_fn (y : LLine) (hy : GLine y) : Fn E50 0 59 Tryz.f59 (Tryz.f59.body.getD .skip) [.agg (encLL y)] (.bool true) := by
  unfold Fn Tryz.f59
  obtain ⟨hl1, hl2⟩ := hy.len
  have i1 : ((1 : Int) ≤ (y.digits.length : Int)) = True := eq_true (by omega)
  have i2 : ((y.digits.length : Int) ≤ 4) = True := eq_true (by omega)
  have i3 : ((y.sizes.length : Int) ≤ 3) = True := eq_true (by have := hy.sizes; omega)
  have i4 := eq_true hy.colours.1
  have i5 := eq_true hy.colours.2
  have i6 : (((ofI y.colours 4).length : Int) ≤ 2) = True := eq_true (by rw [ofI_four hy.colours]; have := hy.two; omega)
  obtain ⟨m1, m2, m3, m4⟩ := hy.many
  have j1 := eq_true m1
  have j2 := eq_true m2
  have j3 := eq_true m3
  have j4 := eq_true m4
  have wm : IntKind.i64.wrap (y.mhi - y.mlo) = y.mhi - y.mlo := wrap_id (by omega)
  have hw : ∀ i, prodC (y.digits.take i) ≤ 4 := fun i => Nat.le_trans (prodC_le i fun c hc => (hy.dig c hc).2) hy.ways
  have hz := hw y.digits.length
  rw [List.take_length] at hz
  by_cases h0 : (0 < (y.sizes.length : Int))
  case' pos => have h0' := eq_true h0
  case' neg => have h0' := eq_false h0
  case' neg => have hf := hy.foot.1 (List.eq_nil_of_length_eq_zero (by omega))
  case' neg => have k1 := eq_true hf.1
  case' neg => have k2 := eq_true hf.2.1
  case' neg => have k3 := eq_true hf.2.2
  case' pos => simp only [go_sem, @ct E50 45 sTween rfl, sTween, @ct E50 58 sProper rfl, sProper, @ct E50 100 t100 rfl, t100, encLL, il_length, callSpec, i1, i2, i3, i4, i5, i6, j1, j2, j3, j4, wm, h0']
  case' neg => simp only [go_sem, @ct E50 45 sTween rfl, sTween, @ct E50 58 sProper rfl, sProper, @ct E50 100 t100 rfl, t100, encLL, il_length, callSpec, i1, i2, i3, i4, i5, i6, j1, j2, j3, j4, wm, h0', k1, k2, k3]
  all_goals
    refine ev_loopS [1] (fun i : Nat => [(3, .bool true), (4, .int .i64 (prodC (y.digits.take i))), (5, .int .i64 i)]) (fun i H => i ≤ y.digits.length ∧ H ([], 59000000) = some (.cells (encLL y) 1 false)) (fun i => y.digits.length - i) 0 ?_ ⟨Nat.zero_le _, ?_⟩ ?_
    · simp only [go_sem, Int.natCast_zero, prodC, List.take_zero, Int.natCast_one]
    · simp only [go_sem, encLL]
    · simp only [go_sem]
      intro K i H ⟨hi, h1⟩ hK hE
      simp only [go_sem, h1, encLL, il_length]
      rw [condK_bool]
      refine ⟨fun h => ?_, fun h => ?_⟩
      · have hi' : i < y.digits.length := by have := of_decide_eq_true h; omega
        have hii : ((i : Int) < (y.digits.length : Int)) = True := eq_true (by omega)
        have hi0 : (0 ≤ (i : Int)) = True := eq_true (by omega)
        have w2 : IntKind.i64.wrap ((i : Int) + 1) = (i : Int) + 1 := wrap_id (by omega)
        have hg := hy.dig _ (getD_mem 0 hi')
        have p1 := prodC_take hi'
        rw [show (default : Int) = 0 from rfl] at p1
        have p2 := hw (i + 1)
        rw [p1] at p2
        have p3 : ((prodC (y.digits.take i) : Nat) : Int) * ((countF (readB (y.digits.getD i 0)) : Nat) : Int) = ((prodC (y.digits.take (i + 1)) : Nat) : Int) := by rw [p1]; push_cast; rfl
        have p4 : IntKind.i64.wrap ((prodC (y.digits.take (i + 1)) : Nat) : Int) = ((prodC (y.digits.take (i + 1)) : Nat) : Int) := wrap_id (by have := hw (i + 1); omega)
        have ht : (ofI (y.digits.getD i 0) 10).length = countF (readB (y.digits.getD i 0)) := ofI_ten _
        have g1 := eq_true hg.1.1
        have g2 := eq_true hg.1.2
        simp only [go_sem, @ct E50 45 sTween rfl, sTween, @ct E50 100 t100 rfl, t100, callSpec, h1, encLL, hii, hi0, Int.toNat_natCast, il_length, il_getD, g1, g2, ht, p3, p4]
        refine hK (i + 1) _ _ ?_ ⟨by omega, ?_⟩ (by omega)
        · simp only [go_sem, w2, Int.natCast_add, Int.natCast_one]
        · simp only [go_sem, h1]
      · have hi' : i = y.digits.length := by have : ¬ ((i : Int) < (y.digits.length : Int)) := by simpa using h
                                             omega
        subst hi'
        have p5 : (((prodC (y.digits.take y.digits.length) : Nat) : Int) ≤ 4) = True := eq_true (by have := hw y.digits.length; omega)
        simp only [go_sem]
        refine hE _ _ _ (by simp) ?_
        simp only [go_sem, p5]
def t59 : Spec := spec1 GLine fun _ => .bool true
theorem t59_ok : SpecOK Tryz.prog glB 59 t59 := spec1_ok E50_ok Tryz.func59 rfl (by kernel_rfl) fun y h => fair_fn y h
noncomputable def E51t : List (Nat × Spec) := [(59, t59)] ++ E50t
theorem E51t_ok : AllOK E51t := ⟨⟨t59_ok, Tryz.call59⟩, E50t_ok⟩
noncomputable def E51 : Env := mkE E51t []
theorem E51_ok : EnvOK Tryz.prog E51 := envOK E51t_ok trivial
theorem E51_ti {t : Nat} : E51.ti t = ti t := rfl
theorem E51_q0 : (E51).eqt 26 = true := rfl
theorem E51_q1 : (E51).eqt 65 = true := rfl
theorem E51_q2 : (E51).eqt 77 = true := rfl
theorem E51_q3 : (E51).eqt 79 = true := rfl
theorem E51_q4 : (E51).eqt 182 = true := rfl
theorem E51_q5 : (E51).eqt 243 = true := rfl
theorem E51_q6 : (E51).keyt 3 = true := rfl
theorem E51_q7 : (E51).keyt 114 = true := rfl
theorem E51_q8 : (E51).keyt 169 = true := rfl
theorem E51_q9 : (E51).keyt 180 = true := rfl
theorem E51_q10 : (E51).keyt 193 = true := rfl
theorem E51_q11 : (E51).glob 0 = some [.fn 219 [] [], .fn 220 [] [], .fn 216 [] [], .fn 221 [] []] := rfl
theorem E51_q12 : (E51).glob 1 = some [.fn 222 [] [], .fn 223 [] []] := rfl
attribute [go_sem] E51_ti E51_q0 E51_q1 E51_q2 E51_q3 E51_q4 E51_q5 E51_q6 E51_q7 E51_q8 E51_q9 E51_q10 E51_q11 E51_q12
theorem soundL_fn (x : Lett) (hx : LOk x) : Fn E51 0 13 Tryz.f13 (Tryz.f13.body.getD .skip) [.agg (encLt x)] (.bool (lettOk x)) := by
  unfold Fn Tryz.f13
  have hxl := eq_true hx
  have hxr := eq_true hx.1
  have eR : (⟨x.rack.goods, x.rack.issues⟩ : Rack) = x.rack := rfl
  cases hk : lettOk x with
  | false =>
    simp only [go_sem, @ct E51 26 t26 rfl, t26, @ct E51 57 s20 rfl, s20, @ct E51 58 sProper rfl, sProper, @ct E51 45 sTween rfl, sTween, encLt, lett_eta, callSpec, hxl, hk, if_false]
    refine ev_loopS [1, 3] (fun i : Nat => [(4, .int .i64 i)]) (fun i H => i = 0 ∧ H (([], 13000000) : Key) = some (.cells (encLt x) 1 false)) (fun i => 0) 0 ?_ ⟨rfl, ?_⟩ ?_
    · simp only [go_sem]
    · simp only [go_sem, encLt]
    · simp only [go_sem]
      intro K i H ⟨hi, h1⟩ hE
      simp only [go_sem, h1, encLt]
      refine hE _ _ _ (by simp) ?_
      simp only [go_sem]
      refine ev_loopS [1, 3] (fun i : Nat => [(9, .int .i64 i)]) (fun i H => i = 0 ∧ H (([], 13000000) : Key) = some (.cells (encLt x) 1 false)) (fun i => 0) 0 ?_ ⟨rfl, ?_⟩ ?_
      · simp only [go_sem]
      · simp only [go_sem, h1]
      · simp only [go_sem]
        intro K i H ⟨hi, h1⟩ hE
        simp only [go_sem, h1, encLt]
        exact hE _ _ _ (by simp) (by simp only [go_sem])
  | true =>
    have hG := lett_good hk
    have hR := hG.rack
    have hrk : rackOk x.rack = true := lett_rack hk
    obtain ⟨d1, d2, d3⟩ := hG.days
    obtain ⟨c1, c2, c3⟩ := hG.money
    have hl1 : ((1 : Int) ≤ (x.lines.length : Int)) = True := eq_true (by have := hG.n; omega)
    have hl2 : ((x.lines.length : Int) ≤ 2) = True := eq_true (by have := hG.n; omega)
    have hi4 : ((x.rack.issues.length : Int) ≤ 4) = True := eq_true (by have := hR.len; omega)
    have D1 := eq_true d1
    have D2 := eq_true d2
    have D3 := eq_true d3
    have C1 := eq_true c1
    have C2 := eq_true c2
    have C3 := eq_true c3
    simp only [go_sem, @ct E51 26 t26 rfl, t26, @ct E51 57 s20 rfl, s20, @ct E51 58 sProper rfl, sProper, @ct E51 45 sTween rfl, sTween, encLt, lett_eta, eR, callSpec, hxl, hxr, hk, hrk, if_true, List.length_map, hl1, hl2, hi4, D1, D2, D3, C1, C2, C3]
    refine ev_loopS [1] (fun i : Nat => [(3, .bool true), (4, .int .i64 i)])
      (fun i H => i ≤ x.rack.issues.length ∧ H (([], 13000000) : Key) = some (.cells (encLt x) 1 false))
      (fun i => x.rack.issues.length - i) 0 ?_ ⟨Nat.zero_le _, ?_⟩ ?_
    · simp only [go_sem, Int.natCast_zero]
    · simp only [go_sem, encLt]
    · simp only [go_sem]
      intro K i H ⟨hi, h1⟩ hK hE
      simp only [go_sem, h1, encLt, List.length_map]
      rw [condK_bool]
      refine ⟨fun h => ?_, fun h => ?_⟩
      · have h' : i < x.rack.issues.length := by have := of_decide_eq_true h; omega
        have hii : ((i : Int) < (x.rack.issues.length : Int)) = True := eq_true (by omega)
        have hi0 : (0 ≤ (i : Int)) = True := eq_true (by omega)
        have w2 : IntKind.i64.wrap ((i : Int) + 1) = (i : Int) + 1 := wrap_id (by have := hR.len; omega)
        have gy := hR.issues _ (getD_mem default h')
        generalize hyy : x.rack.issues.getD i default = y at *
        have hd := gy.days
        have h24 := gy.len
        have a1 : ((y.entries.length : Int) ≤ 24) = True := eq_true (by omega)
        have A1 := eq_true hd.1
        have A2 := eq_true hd.2.1
        have A3 := eq_true hd.2.2
        simp only [go_sem, @ct E51 58 sProper rfl, sProper, callSpec, h1, encLt, hii, hi0, Int.toNat_natCast, List.length_map, getD_mapN encI x.rack.issues i _ h', hyy, encI, A1, A2, A3, a1]
        generalize hv : verOf H ([], 13005006) + 1 = v
        refine ev_loopS [1, 4, 5] (fun k : Nat => [(3, .bool true), (6, .int .i64 k)])
          (fun k H => k ≤ y.entries.length ∧ H (([], 13000000) : Key) = some (.cells (encLt x) 1 false) ∧ H (([], 13005006) : Key) = some (.cells (encI y) v false))
          (fun k => y.entries.length - k) 0 ?_ ⟨Nat.zero_le _, ?_, ?_⟩ ?_
        · simp only [go_sem, Int.natCast_zero]
        · simp only [go_sem, h1]
        · simp only [go_sem, encI]
        · simp only [go_sem]
          intro K2 k H2 ⟨hk2, k1, k2⟩ hK2 hE2
          simp only [go_sem, k1, k2, encI, List.length_map]
          rw [condK_bool]
          refine ⟨fun h => ?_, fun h => ?_⟩
          · have hk' : k < y.entries.length := by have := of_decide_eq_true h; omega
            have hkk : ((k : Int) < (y.entries.length : Int)) = True := eq_true (by omega)
            have hk0 : (0 ≤ (k : Int)) = True := eq_true (by omega)
            have w3 : IntKind.i64.wrap ((k : Int) + 1) = (k : Int) + 1 := wrap_id (by omega)
            have ge := gy.entries _ (getD_mem default hk')
            generalize hee : y.entries.getD k default = e at *
            have B1 := eq_true ge.number.1
            have B2 := eq_true ge.number.2
            have B3 := eq_true ge.colours.1
            have B4 := eq_true ge.colours.2
            have b1 : ((1 : Int) ≤ (e.sizes.length : Int)) = True := eq_true (by have := ge.sizes; omega)
            have b8 : ((e.sizes.length : Int) ≤ 8) = True := eq_true (by have := ge.sizes; omega)
            simp only [go_sem, @ct E51 45 sTween rfl, sTween, callSpec, k1, k2, hkk, hk0, Int.toNat_natCast, List.length_map, getD_mapN encE y.entries k _ hk', hee, encI, encE, B1, B2, B3, B4, b1, b8]
            generalize hv2 : verOf H2 ([], 13010005) + 1 = v2
            refine ev_loopS [1, 4, 5, 6, 7] (fun m : Nat => [(3, .bool true), (8, .int .i64 m)])
              (fun m H => m ≤ e.sizes.length ∧ H (([], 13000000) : Key) = some (.cells (encLt x) 1 false) ∧ H (([], 13005006) : Key) = some (.cells (encI y) v false) ∧ H (([], 13010005) : Key) = some (.cells (encE e) v2 false))
              (fun m => e.sizes.length - m) 0 ?_ ⟨Nat.zero_le _, ?_, ?_, ?_⟩ ?_
            · simp only [go_sem, Int.natCast_zero]
            · simp only [go_sem, k1]
            · simp only [go_sem, k2, encI]
            · simp only [go_sem, encE]
            · simp only [go_sem]
              intro K3 m H3 ⟨hm, m1, m2, m3⟩ hK3 hE3
              simp only [go_sem, m1, m2, m3, encE, List.length_map]
              rw [condK_bool]
              refine ⟨fun h => ?_, fun h => ?_⟩
              · have hm' : m < e.sizes.length := by have := of_decide_eq_true h; omega
                have hmm : ((m : Int) < (e.sizes.length : Int)) = True := eq_true (by omega)
                have hm0 : (0 ≤ (m : Int)) = True := eq_true (by omega)
                have w4 : IntKind.i64.wrap ((m : Int) + 1) = (m : Int) + 1 := wrap_id (by have := ge.sizes; omega)
                have gf := ge.fits _ (getD_mem default hm')
                generalize hff : e.sizes.getD m default = f at *
                have F1 := eq_true gf.size.1
                have F2 := eq_true gf.size.2
                have F3 := eq_true gf.foot.1
                have F4 := eq_true gf.foot.2.1
                have F5 := eq_true gf.foot.2.2
                simp only [go_sem, @ct E51 45 sTween rfl, sTween, @ct E51 58 sProper rfl, sProper, callSpec, m1, m2, m3, hmm, hm0, Int.toNat_natCast, List.length_map, getD_mapN encF e.sizes m _ hm', hff, encE, encF, F1, F2, F3, F4, F5]
                refine hK3 (m + 1) _ _ ?_ ⟨hm', ?_, ?_, ?_⟩ (by omega)
                · simp only [go_sem, w4, Int.natCast_add, Int.natCast_one]
                · simp only [go_sem, m1]
                · simp only [go_sem, m2, encI]
                · simp only [go_sem, m3, encE]
              · refine hE3 _ _ _ (by simp) ?_
                simp only [go_sem]
                refine hK2 (k + 1) _ _ ?_ ⟨hk', m1, m2⟩ (by omega)
                simp only [go_sem, w3, Int.natCast_add, Int.natCast_one]
          · refine hE2 _ _ _ (by simp) ?_
            simp only [go_sem]
            refine hK (i + 1) _ _ ?_ ⟨h', k1⟩ (by omega)
            simp only [go_sem, w2, Int.natCast_add, Int.natCast_one]
      · refine hE _ _ _ (by simp) ?_
        simp only [go_sem]
        refine ev_loopS [1] (fun i : Nat => [(3, .bool true), (9, .int .i64 i)])
          (fun i H => i ≤ x.lines.length ∧ H (([], 13000000) : Key) = some (.cells (encLt x) 1 false))
          (fun i => x.lines.length - i) 0 ?_ ⟨Nat.zero_le _, ?_⟩ ?_
        · simp only [go_sem, Int.natCast_zero]
        · simp only [go_sem, h1]
        · simp only [go_sem]
          intro K i H ⟨hi, h1⟩ hK hE
          simp only [go_sem, h1, encLt, List.length_map]
          rw [condK_bool]
          refine ⟨fun h => ?_, fun h => ?_⟩
          · have h' : i < x.lines.length := by have := of_decide_eq_true h; omega
            have hii : ((i : Int) < (x.lines.length : Int)) = True := eq_true (by omega)
            have hi0 : (0 ≤ (i : Int)) = True := eq_true (by omega)
            have w2 : IntKind.i64.wrap ((i : Int) + 1) = (i : Int) + 1 := wrap_id (by have := hG.n; omega)
            have gy := hG.line _ (getD_mem default h')
            generalize hyy : x.lines.getD i default = y at *
            obtain ⟨ds, ss, q1, q2, q3, q4, q5⟩ := y
            simp only [go_sem, @ct E51 59 t59 rfl, t59, callSpec, h1, encLt, hii, hi0, Int.toNat_natCast, List.length_map, getD_mapN encLL x.lines i _ h', hyy, encLL]
            refine ⟨gy, hK (i + 1) _ _ ?_ ⟨h', ?_⟩ (by omega)⟩
            · simp only [go_sem, w2, Int.natCast_add, Int.natCast_one]
            · simp only [go_sem, h1]
          · refine hE _ _ _ (by simp) ?_
            simp only [go_sem]
def t13 : Spec := spec1 LOk fun x => .bool (lettOk x)
theorem t13_ok : SpecOK Tryz.prog glB 13 t13 := spec1_ok E51_ok Tryz.func13 rfl (by kernel_rfl) fun x h => soundL_fn x h
end Wb
/- Letters with other money, or other days. Plain. -/
namespace Wb
open Go Go.Proofs Enc Row
set_option linter.unusedSimpArgs false
set_option linter.unusedVariables false
set_option maxRecDepth 20000
set_option maxHeartbeats 8000000
def setC (x : Lett) (lo hi : Int) : Lett := ⟨x.rack, x.dlo, x.dhi, x.lines, lo, hi⟩
def setD (x : Lett) (lo hi : Int) : Lett := ⟨x.rack, lo, hi, x.lines, x.clo, x.chi⟩
theorem LOk.setC {x : Lett} (h : LOk x) (lo hi : Int) : LOk (setC x lo hi) := h
theorem LOk.setD {x : Lett} (h : LOk x) (lo hi : Int) : LOk (setD x lo hi) := h
theorem lettOk_setC {x : Lett} (h : lettOk x = true) {lo hi : Int} (h1 : 0 ≤ lo) (h2 : lo ≤ hi) (h3 : hi ≤ 10000000) : lettOk (setC x lo hi) = true := by
  unfold lettOk lett0 at h ⊢
  simp only [Bool.and_eq_true, decide_eq_true_eq] at h ⊢
  simp only [Wb.setC]
  exact ⟨⟨⟨⟨h.1.1.1.1, h1, h2⟩, h3⟩, h.1.2⟩, h.2⟩
theorem lettOk_setD {x : Lett} (h : lettOk x = true) {lo hi : Int} (h1 : 0 ≤ lo) (h2 : lo ≤ hi) (h3 : hi ≤ 20000) : lettOk (setD x lo hi) = true := by
  unfold lettOk lett0 at h ⊢
  simp only [Bool.and_eq_true, decide_eq_true_eq] at h ⊢
  simp only [Wb.setD]
  exact ⟨⟨⟨⟨⟨⟨h.1.1.1.1.1.1, h1, h2⟩, h3⟩, h.1.1.1.2⟩, h.1.1.2⟩, h.1.2⟩, h.2⟩
theorem key_b {x : Lett} (hd : Days x) {o : Ord2} (h : o ∈ keysM x) (hn : x.lines.length ≤ 1) : o.b = zLine := by
  obtain ⟨d, _, i, _, _, _, h2, _⟩ := (mem_keys hd).1 h
  unfold secL at h2
  rw [if_neg (by omega)] at h2
  exact List.mem_singleton.1 h2
theorem linesO_len {x : Lett} (hn : 1 ≤ x.lines.length ∧ x.lines.length ≤ 2) (o : Ord2) : (linesO x o).length = x.lines.length := by
  unfold linesO
  by_cases h : x.lines.length = 1
  · rw [if_pos h, h]; rfl
  · rw [if_neg h]; simp only [List.length_cons, List.length_nil]; omega
theorem lineupO_lines {x : Lett} (hd : Days x) (hn : 1 ≤ x.lines.length ∧ x.lines.length ≤ 2) {o : Ord2} (h : o ∈ keysM x) : lineupO (linesO x o) = o := by
  unfold linesO
  by_cases h1 : x.lines.length = 1
  · rw [if_pos h1]
    have := key_b hd h (by omega)
    obtain ⟨a, b⟩ := o
    simp only at this
    subst this
    rfl
  · rw [if_neg h1]; rfl
theorem when_of {x y : Lett} (hd : Days x) (hn : 1 ≤ x.lines.length ∧ x.lines.length ≤ 2) (hl : y.lines.length = x.lines.length) {o : Ord2} (h : o ∈ keysM x) : whenM y (linesO x o) = getA (allM y) o := by
  unfold whenM lineupM
  rw [if_pos (by rw [linesO_len hn, hl]), if_pos (by rw [linesO_len hn, hl]), lineupO_lines hd hn h]
theorem isSome_keys {x : Lett} (hd : Days x) (o : Ord2) : (getA (allM x) o).isSome = true ↔ ∃ d, (x.dlo ≤ d ∧ d ≤ x.dhi) ∧ Mn x d o := by
  rw [← mem_keys hd, mem_keysM, Option.isSome_iff_exists]
theorem Mn_money {x : Lett} {d lo hi : Int} {o : Ord2} (h : Mn x d o) (h1 : lo ≤ co x d o) (h2 : co x d o ≤ hi) : Mn (setC x lo hi) d o := by
  obtain ⟨i, a, b, c, e, f, g, _⟩ := h
  exact ⟨i, a, b, c, e, f, g, by simp only [inSpan, Bool.and_eq_true, decide_eq_true_eq]; exact ⟨h1, h2⟩⟩
theorem Mn.cost {x : Lett} {d : Int} {o : Ord2} (h : Mn x d o) : x.clo ≤ co x d o ∧ co x d o ≤ x.chi := by
  obtain ⟨i, a, b, c, e, f, g, h⟩ := h
  simpa only [inSpan, Bool.and_eq_true, decide_eq_true_eq] using h
theorem Mn_days {x : Lett} {d lo hi : Int} {o : Ord2} : Mn (setD x lo hi) d o ↔ Mn x d o := Iff.rfl
/-- The orders of a letter with less money, and with more. -/
theorem parted_money {x : Lett} (hx : lettOk x = true) {o : Ord2} (ho : o ∈ keysM x) {c : Int} (h1 : x.clo ≤ c) (h2 : c ≤ x.chi) :
    (getA (allM (setC x x.clo c)) o).isSome = true ∨ (getA (allM (setC x (min (c + 1) 10000000) (max x.chi (min (c + 1) 10000000)))) o).isSome = true := by
  have hG := lett_good hx
  obtain ⟨c1, c2, c3⟩ := hG.money
  obtain ⟨d, hd, hm⟩ := (mem_keys hG.days).1 ho
  have hc := hm.cost
  by_cases h : co x d o ≤ c
  · exact .inl ((isSome_keys (lett_good (lettOk_setC hx c1 h1 (by omega))).days o).2 ⟨d, hd, Mn_money hm hc.1 h⟩)
  · have e : min (c + 1) 10000000 = c + 1 := by omega
    rw [e]
    exact .inr ((isSome_keys (lett_good (lettOk_setC hx (by omega) (by omega) (by omega))).days o).2 ⟨d, hd, Mn_money hm (by omega) (by omega)⟩)
/-- The orders of a letter written until some day, and behind it. -/
theorem parted_days {x : Lett} (hx : lettOk x = true) {o : Ord2} {g : Fnd} (hg : Told x o g) {d : Int} (h1 : x.dlo ≤ d) (h2 : d ≤ x.dhi) :
    (getA (allM (setD x x.dlo d)) o).isSome = decide (g.lo ≤ d) ∧
    ((getA (allM (setD x x.dlo d)) o).isSome = true ∨ (getA (allM (setD x (min (d + 1) 20000) (max x.dhi (min (d + 1) 20000)))) o).isSome = true) ∧
    (d < x.dhi → (getA (allM (setD x (min (d + 1) 20000) (max x.dhi (min (d + 1) 20000)))) o).isSome = decide (g.hi > d)) := by
  have hG := lett_good hx
  have hD := hG.days
  have ha := hD.lo
  have hb := hD.hi
  have k1 := (lett_good (lettOk_setD hx (lo := x.dlo) (hi := d) ha h1 (by omega))).days
  have k2 := (lett_good (lettOk_setD hx (lo := min (d + 1) 20000) (hi := max x.dhi (min (d + 1) 20000)) (by omega) (by omega) (by omega))).days
  have e1 : (getA (allM (setD x x.dlo d)) o).isSome = decide (g.lo ≤ d) := by
    rw [Bool.eq_iff_iff, isSome_keys k1, decide_eq_true_iff]
    constructor
    · rintro ⟨e, ⟨e1, e2⟩, hm⟩
      have := (hg.all e e1 (by simp only [Wb.setD] at e2; omega) hm).1.1
      simp only [Wb.setD] at e2
      omega
    · intro h
      exact ⟨g.lo, ⟨hg.lo.1.1, h⟩, hg.lo.2⟩
  have e2 : d < x.dhi → (getA (allM (setD x (min (d + 1) 20000) (max x.dhi (min (d + 1) 20000)))) o).isSome = decide (g.hi > d) := fun hd => by
    rw [Bool.eq_iff_iff, isSome_keys k2, decide_eq_true_iff]
    constructor
    · rintro ⟨e, ⟨e1, e2⟩, hm⟩
      simp only [Wb.setD] at e1 e2
      have := (hg.all e (by omega) (by omega) hm).1.2
      omega
    · intro h
      exact ⟨g.hi, ⟨by simp only [Wb.setD]; omega, by simp only [Wb.setD]; have := hg.hi.1; omega⟩, hg.hi.2⟩
  refine ⟨e1, ?_, e2⟩
  by_cases h : g.lo ≤ d
  · exact .inl (by rw [e1]; exact decide_eq_true h)
  · have hh := (hg.all g.lo hg.lo.1.1 hg.lo.1.2 hg.lo.2).1.2
    have hk := hg.hi.1
    exact .inr (by rw [e2 (by omega)]; exact decide_eq_true (by omega))
end Wb
