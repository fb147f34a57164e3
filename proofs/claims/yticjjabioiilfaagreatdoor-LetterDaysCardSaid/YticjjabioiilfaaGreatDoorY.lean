import Derived.Test.YticjjabioiilfaaGreatDoorV
set_option linter.unusedVariables false
set_option linter.unusedSimpArgs false
namespace Wb
open Go Go.Proofs Enc Row
set_option linter.unusedSimpArgs false
set_option linter.unusedVariables false
set_option maxRecDepth 20000
set_option maxHeartbeats 8000000
theorem manyR_fn (a n : Int) (h : 0 ≤ n ∧ n ≤ 62) : Fn E83 0 116 Tryz.f116 (Tryz.f116.body.getD .skip) [.int .i64 a, .int .i64 n] (.int .i64 (ofI a n.toNat).length) := by
 unfold Fn Tryz.f116
 simp only [go_sem, @ct E83 53 t53 rfl, t53, callSpec, eq_true h, il_length]
def t116 : Spec := spec2 (fun (_ n : Int) => 0 ≤ n ∧ n ≤ 62) (fun a n => .int .i64 (ofI a n.toNat).length)
theorem t116_ok : SpecOK Tryz.prog glB 116 t116 := spec2_ok E83_ok Tryz.func116 rfl (by kernel_rfl) fun a n h => manyR_fn a n h
noncomputable def E61t : List (Nat × Spec) := [(116, t116), (56, t56), (54, t54), (14, t14)] ++ E49t
theorem E61t_ok : AllOK E61t := ⟨⟨t116_ok, Tryz.call116⟩, ⟨t56_ok, Tryz.call56⟩, ⟨t54_ok, Tryz.call54⟩, ⟨t14_ok, Tryz.call14⟩, E49t_ok⟩
noncomputable def E61 : Env := mkE E61t []
theorem E61_ok : EnvOK Tryz.prog E61 := envOK E61t_ok trivial
theorem E61_ti {t : Nat} : E61.ti t = ti t := rfl
theorem E61_e {t : Nat} : E61.eqt t = eqB t := rfl
theorem E61_k {t : Nat} : E61.keyt t = keyB t := rfl
theorem E61_g {t : Nat} : E61.glob t = glB t := rfl
attribute [go_sem] E61_ti E61_e E61_k E61_g
def rdStep (s : Bool × Int) (c : Int) : Bool × Int := if s.1 = true then (decide (1 ≤ c) && decide (c ≤ 1023), s.2 * (countF (readB c) : Int)) else s
def rsStep (s : Bool × Int) (n : Int) : Bool × Int := if s.1 = true then (decide (s.2 + 1 ≤ n) && decide (n ≤ 99), n) else s
def line0R (x : LLine) : Bool := (decide (1 ≤ (x.digits.length : Int)) && decide ((x.digits.length : Int) ≤ 4)) && decide ((x.sizes.length : Int) ≤ 3) && (decide (1 ≤ x.colours) && decide (x.colours ≤ 15)) && decide (((ofI x.colours 4).length : Int) ≤ 2) &&
 ((decide (1 ≤ x.mlo) && decide (x.mlo ≤ x.mhi)) && decide (x.mhi ≤ 1000)) && decide (IntKind.i64.wrap (x.mhi - x.mlo) ≤ 1)
def lineDR (x : LLine) : Bool × Int := x.digits.foldl rdStep (line0R x, 1)
def lineSR (x : LLine) : Bool × Int := x.sizes.foldl rsStep ((lineDR x).1, 0)
def footR (x : LLine) : Bool := if 0 < (x.sizes.length : Int) then (x.flo == 0) && (x.fhi == 0) else (decide (1 ≤ x.flo) && decide (x.flo ≤ x.fhi)) && decide (x.fhi ≤ 400)
def rlineOk (x : LLine) : Bool := ((lineSR x).1 && footR x) && decide ((lineDR x).2 ≤ 4)
theorem rd_stop {l : List Int} {w : Int} : l.foldl rdStep (false, w) = (false, w) := by
 induction l with
 | nil => rfl
 | cons c l ih => rw [List.foldl_cons]; exact ih
theorem rs_stop {l : List Int} {w : Int} : l.foldl rsStep (false, w) = (false, w) := by
 induction l with
 | nil => rfl
 | cons c l ih => rw [List.foldl_cons]; exact ih
theorem drop_foldl {α : Type} (f : α → Int → α) {l : List Int} {i : Nat} (h : i < l.length) (s : α) : (l.drop i).foldl f s = (l.drop (i + 1)).foldl f (f s (l.getD i 0)) := by
 have e1 : l.getD i 0 = l[i] := by simp [h]
 rw [List.drop_eq_getElem_cons h, e1]; rfl
theorem isLineR_fn (x : LLine) (hx : big x.digits.length ∧ big x.sizes.length) : Fn E61 0 80 Tryz.f80 (Tryz.f80.body.getD .skip) [.agg (encLL x)] (.bool (rlineOk x)) := by
 unfold Fn Tryz.f80
 unfold big at hx
 simp only [go_sem, @ct E61 45 sTween rfl, sTween, @ct E61 58 sProper rfl, sProper, @ct E61 116 t116 rfl, t116, encLL, il_length, callSpec]
 obtain ⟨b0, hb0⟩ : ∃ b0, b0 = line0R x := ⟨_, rfl⟩
 have hb1 := hb0
 unfold line0R at hb1
 rw [← hb1]
 have h4 : b0 = true → x.digits.length ≤ 4 ∧ x.sizes.length ≤ 3 := fun h => by
  rw [h] at hb1
  have := hb1.symm
  simp only [Bool.and_eq_true, decide_eq_true_eq] at this
  omega
 have hD : lineDR x = x.digits.foldl rdStep (b0, 1) := by unfold lineDR; rw [hb0]
 refine ev_loopS [1] (fun s : Nat × Bool × Int => [(3, .bool s.2.1), (4, .int .i64 s.2.2), (5, .int .i64 s.1)]) (fun s H => s.1 ≤ x.digits.length ∧ H ([], 80000000) = some (.cells (encLL x) 1 false) ∧ (x.digits.drop s.1).foldl rdStep s.2 = lineDR x ∧ (s.2.1 = true → x.digits.length ≤ 4 ∧ x.sizes.length ≤ 3 ∧ 0 ≤ s.2.2 ∧ s.2.2 ≤ 10 ^ s.1)) (fun s => x.digits.length - s.1) (0, b0, 1) ?_ ⟨Nat.zero_le _, ?_, ?_, fun h => ⟨(h4 h).1, (h4 h).2, by simp, by simp⟩⟩ ?_
 ·simp only [go_sem, Int.natCast_zero]
 ·simp only [go_sem, encLL]
 ·rw [hD]; rfl
 ·simp only [go_sem]
  rintro K ⟨i, b, w⟩ H ⟨hi, h1, h2, h3⟩ hK hE
  simp only at hi h2 h3
  cases b with
  | false =>
   rw [rd_stop] at h2
   have hS : (lineSR x).1 = false := by unfold lineSR; rw [← h2, rs_stop]
   have hr : rlineOk x = false := by unfold rlineOk; rw [hS]; rfl
   simp only [go_sem, h1, encLL, il_length]
   refine hE _ _ _ (by simp) ?_
   simp only [go_sem]
   refine ev_loopS [1, 3, 4] (fun k : Nat => [(7, .int .i64 k)]) (fun k H => k ≤ 0 ∧ H ([], 80000000) = some (.cells (encLL x) 1 false)) (fun k => 0) 0 ?_ ⟨Nat.le_refl _, h1⟩ ?_
   ·simp only [go_sem, Int.natCast_zero]
   ·simp only [go_sem]
    intro K2 k H2 ⟨hk, k1⟩ hE2
    obtain rfl : k = 0 := by omega
    simp only [go_sem, k1, encLL, il_length]
    refine hE2 _ _ _ (by simp) ?_
    simp only [go_sem, k1, encLL, il_length]
    rw [condK_bool]
    refine ⟨fun hc => ?_, fun hc => ?_⟩
    ·simp only [go_sem, @ct E61 17 sTo rfl, sTo, callSpec, k1, encLL, hr]
    ·simp only [go_sem, @ct E61 58 sProper rfl, sProper, callSpec, k1, encLL, hr]
  | true =>
   obtain ⟨h41, h42, h43, h44⟩ := h3 rfl
   simp only [go_sem, h1, encLL, il_length]
   rw [condK_bool]
   refine ⟨fun h => ?_, fun h => ?_⟩
   ·have hi' : i < x.digits.length := by have := of_decide_eq_true h; omega
    have hii : ((i : Int) < (x.digits.length : Int)) = True := eq_true (by omega)
    have hi0 : (0 ≤ (i : Int)) = True := eq_true (by omega)
    have w2 : IntKind.i64.wrap ((i : Int) + 1) = (i : Int) + 1 := wrap_id (by omega)
    rw [drop_foldl rdStep hi'] at h2
    have ht := ofI_ten (x.digits.getD i 0)
    generalize hc : x.digits.getD i 0 = c at h2 ht
    have hcl : countF (readB c) ≤ 10 := countF_le (readB c)
    have hp1 : (10 : Int) ^ (i + 1) = 10 ^ i * 10 := Int.pow_succ ..
    have hp2 : (10 : Int) ^ i ≤ 1000 := by
     obtain h | h | h | h : i = 0 ∨ i = 1 ∨ i = 2 ∨ i = 3 := by omega
     all_goals subst h; decide
    have hm : w * (countF (readB c) : Int) ≤ 10 ^ i * 10 := Int.mul_le_mul h44 (by omega) (by omega) (by omega)
    have hm0 : 0 ≤ w * (countF (readB c) : Int) := Int.mul_nonneg h43 (by omega)
    have ww : IntKind.i64.wrap (w * (countF (readB c) : Int)) = w * (countF (readB c) : Int) := wrap_id (by omega)
    simp only [go_sem, @ct E61 45 sTween rfl, sTween, @ct E61 116 t116 rfl, t116, callSpec, h1, encLL, hii, hi0, Int.toNat_natCast, il_length, il_getD, hc, ht, ww]
    refine hK (i + 1, decide (1 ≤ c) && decide (c ≤ 1023), w * (countF (readB c) : Int)) _ _ ?_ ⟨by simp only; omega, ?_, ?_, fun _ => ⟨h41, h42, hm0, by simp only; omega⟩⟩ (by simp only; omega)
    ·simp only [go_sem, w2, Int.natCast_add, Int.natCast_one]
    ·simp only [go_sem, h1, encLL]
    ·exact h2
   ·have hi' : i = x.digits.length := by have : ¬ ((i : Int) < (x.digits.length : Int)) := by simpa using h
                                         omega
    subst hi'
    rw [List.drop_length] at h2
    have hD2 : lineDR x = (true, w) := h2.symm
    have hS0 : lineSR x = x.sizes.foldl rsStep (true, 0) := by unfold lineSR; rw [hD2]
    refine hE _ _ _ (by simp) ?_
    simp only [go_sem]
    refine ev_loopS [1, 4] (fun s : Nat × Bool × Int => [(3, .bool s.2.1), (6, .int .i64 s.2.2), (7, .int .i64 s.1)]) (fun s H => s.1 ≤ x.sizes.length ∧ H ([], 80000000) = some (.cells (encLL x) 1 false) ∧ (x.sizes.drop s.1).foldl rsStep s.2 = lineSR x ∧ (s.2.1 = true → 0 ≤ s.2.2 ∧ s.2.2 ≤ 99)) (fun s => x.sizes.length - s.1) (0, true, 0) ?_ ⟨Nat.zero_le _, h1, hS0.symm, fun _ => by simp⟩ ?_
    ·simp only [go_sem, Int.natCast_zero]
    ·simp only [go_sem]
     rintro K2 ⟨k, b, n⟩ H2 ⟨hk, k1, k2, k3⟩ hK2 hE2
     simp only at hk k2 k3
     have fin : lineSR x = (b, n) → ∀ Q' : Exit → List PV → Heap → Prop, True := fun _ _ => trivial
     cases b with
     | false =>
      rw [rs_stop] at k2
      have hr : rlineOk x = false := by unfold rlineOk; rw [← k2]; rfl
      simp only [go_sem, k1, encLL, il_length]
      refine hE2 _ _ _ (by simp) ?_
      simp only [go_sem, k1, encLL, il_length]
      rw [condK_bool]
      refine ⟨fun hc => ?_, fun hc => ?_⟩
      ·simp only [go_sem, @ct E61 17 sTo rfl, sTo, callSpec, k1, encLL, hr]
      ·simp only [go_sem, @ct E61 58 sProper rfl, sProper, callSpec, k1, encLL, hr]
     | true =>
      obtain ⟨k31, k32⟩ := k3 rfl
      simp only [go_sem, k1, encLL, il_length]
      rw [condK_bool]
      refine ⟨fun h => ?_, fun h => ?_⟩
      ·have hk' : k < x.sizes.length := by have := of_decide_eq_true h; omega
       have hkk : ((k : Int) < (x.sizes.length : Int)) = True := eq_true (by omega)
       have hk0 : (0 ≤ (k : Int)) = True := eq_true (by omega)
       have w3 : IntKind.i64.wrap ((k : Int) + 1) = (k : Int) + 1 := wrap_id (by omega)
       have w4 : IntKind.i64.wrap (n + 1) = n + 1 := wrap_id (by omega)
       rw [drop_foldl rsStep hk'] at k2
       generalize hc : x.sizes.getD k 0 = c at k2
       simp only [go_sem, @ct E61 45 sTween rfl, sTween, callSpec, k1, encLL, hkk, hk0, Int.toNat_natCast, il_length, il_getD, hc, w4]
       refine hK2 (k + 1, decide (n + 1 ≤ c) && decide (c ≤ 99), c) _ _ ?_ ⟨by simp only; omega, ?_, k2, fun hb => ?_⟩ (by simp only; omega)
       ·simp only [go_sem, w3, Int.natCast_add, Int.natCast_one]
       ·simp only [go_sem, k1, encLL]
       ·simp only [Bool.and_eq_true, decide_eq_true_eq] at hb
        simp only
        omega
      ·have hk' : k = x.sizes.length := by have : ¬ ((k : Int) < (x.sizes.length : Int)) := by simpa using h
                                           omega
       subst hk'
       rw [List.drop_length] at k2
       have hr : rlineOk x = (footR x && decide (w ≤ 4)) := by unfold rlineOk; rw [← k2, hD2]; rfl
       refine hE2 _ _ _ (by simp) ?_
       simp only [go_sem, k1, encLL, il_length]
       by_cases hz : 0 < (x.sizes.length : Int)
       ·have hz1 : ((x.sizes.length : Int) > 0) = True := eq_true hz
        have hf : footR x = ((x.flo == 0) && (x.fhi == 0)) := by unfold footR; rw [if_pos hz]
        simp only [go_sem, @ct E61 17 sTo rfl, sTo, callSpec, k1, encLL, il_length, hz1, hr, hf]
       ·have hz1 : ((x.sizes.length : Int) > 0) = False := eq_false hz
        have hf : footR x = ((decide (1 ≤ x.flo) && decide (x.flo ≤ x.fhi)) && decide (x.fhi ≤ 400)) := by unfold footR; rw [if_neg hz]
        simp only [go_sem, @ct E61 58 sProper rfl, sProper, callSpec, k1, encLL, il_length, hz1, hr, hf]
theorem cnt_pos {c : Int} (h : 1 ≤ c ∧ c ≤ 1023) : 1 ≤ countF (readB c) := by
 have key : ∀ n ∈ List.range 1024, n = 0 ∨ 1 ≤ countF (readB (n : Int)) := by decide +kernel
 obtain ⟨n, rfl⟩ := Int.eq_ofNat_of_zero_le (by omega : 0 ≤ c)
 exact (key n (List.mem_range.2 (by omega))).elim (fun e => by omega) id
theorem rd_all : ∀ (l : List Int) (b : Bool) (w : Int), (l.foldl rdStep (b, w)).1 = (b && l.all fun c => decide (1 ≤ c) && decide (c ≤ 1023)) ∧ ((l.foldl rdStep (b, w)).1 = true → (l.foldl rdStep (b, w)).2 = w * (prodC l : Int))
 | [], b, w => ⟨by simp, fun _ => by simp [prodC]⟩
 | c :: l, false, w => by rw [rd_stop]; exact ⟨rfl, fun h => by cases h⟩
 | c :: l, true, w => by
  have ih := rd_all l (decide (1 ≤ c) && decide (c ≤ 1023)) (w * (countF (readB c) : Int))
  have e : (c :: l).foldl rdStep (true, w) = l.foldl rdStep (decide (1 ≤ c) && decide (c ≤ 1023), w * (countF (readB c) : Int)) := rfl
  rw [e]
  refine ⟨by rw [ih.1]; simp [List.all_cons], fun h => ?_⟩
  rw [ih.2 h, prodC, Int.natCast_mul, Int.mul_assoc]
theorem rs_all : ∀ (l : List Int) (b : Bool) (m : Int), (l.foldl rsStep (b, m)).1 = true ↔ b = true ∧ (∀ n ∈ l, m < n ∧ n ≤ 99) ∧ l.Pairwise (· < ·)
 | [], b, m => by simp
 | c :: l, false, m => by rw [rs_stop]; simp
 | c :: l, true, m => by
  have e : (c :: l).foldl rsStep (true, m) = l.foldl rsStep (decide (m + 1 ≤ c) && decide (c ≤ 99), c) := rfl
  rw [e, rs_all l _ c]
  simp only [Bool.and_eq_true, decide_eq_true_eq, List.pairwise_cons, List.mem_cons, true_and]
  constructor
  ·rintro ⟨⟨h1, h2⟩, h3, h4⟩
   refine ⟨fun n hn => ?_, fun n hn => (h3 n hn).1, h4⟩
   rcases hn with rfl | hn
   ·omega
   ·have := h3 n hn; omega
  ·rintro ⟨h1, h2, h3⟩
   have := h1 c (.inl rfl)
   exact ⟨by omega, fun n hn => ⟨h2 n hn, (h1 n (.inr hn)).2⟩, h3⟩
theorem sz_back : ∀ (l : List Int) (b : Bool) (m : Int), b = true → (∀ n ∈ l, m < n ∧ n ≤ 99) → l.Pairwise (· < ·) → (l.foldl szStep (b, m)).1 = true
 | [], b, m, h, _, _ => h
 | c :: l, b, m, h, h1, h2 => by
  rw [List.pairwise_cons] at h2
  have hc := h1 c (List.mem_cons_self ..)
  refine sz_back l _ c ?_ (fun n hn => ⟨h2.1 n hn, (h1 n (List.mem_cons_of_mem _ hn)).2⟩) h2.2
  simp only [h, Bool.true_and, Bool.and_eq_true, decide_eq_true_eq]
  omega
theorem dg_back : ∀ (l : List Int) (b : Bool) (m : Int), b = true → 0 ≤ m → (∀ c ∈ l, (1 ≤ c ∧ c ≤ 1023) ∧ 1 ≤ countF (readB c)) → (l.foldl dgStep (b, m)).1 = true ∧ (l.foldl dgStep (b, m)).2 ≤ m * (prodC l : Int)
 | [], b, m, h, h0, _ => ⟨h, by simp [prodC]⟩
 | c :: l, b, m, h, h0, h1 => by
  have hc := h1 c (List.mem_cons_self ..)
  have hnd : noDig c = false := by
   refine Bool.eq_false_iff.2 fun hn => ?_
   have : countF (readB c) = 0 := by
    simp [noDig, readB, encBs, eqL] at hn
    simp [countF, readB, hn]
   omega
  have hm0 : 0 ≤ m * (countF (readB c) : Int) := Int.mul_nonneg h0 (by omega)
  have ih := dg_back l (b && (decide (1 ≤ c) && decide (c ≤ 1023)) && !noDig c) (if m * (countF (readB c) : Int) < 1000 then m * (countF (readB c) : Int) else 1000) (by
   rw [h, hnd]; simp only [Bool.true_and, Bool.not_false, Bool.and_true, Bool.and_eq_true, decide_eq_true_eq]; exact hc.1) (by split <;> omega) fun d hd => h1 d (List.mem_cons_of_mem _ hd)
  refine ⟨ih.1, Int.le_trans ih.2 ?_⟩
  rw [prodC, Int.natCast_mul, ← Int.mul_assoc]
  exact Int.mul_le_mul_of_nonneg_right (by split <;> omega) (by omega)
theorem rline_good {x : LLine} (h : rlineOk x = true) : GLine x := by
 unfold rlineOk at h
 simp only [Bool.and_eq_true, decide_eq_true_eq] at h
 obtain ⟨⟨h1, h2⟩, h3⟩ := h
 unfold lineSR at h1
 obtain ⟨b1, b2, b3⟩ := (rs_all _ _ _).1 h1
 have hd := rd_all x.digits (line0R x) 1
 have hw := hd.2 b1
 have b4 := b1
 unfold lineDR at b4
 rw [hd.1] at b4
 simp only [Bool.and_eq_true, List.all_eq_true, decide_eq_true_eq] at b4
 obtain ⟨c0, c1⟩ := b4
 unfold line0R at c0
 simp only [Bool.and_eq_true, decide_eq_true_eq] at c0
 obtain ⟨⟨⟨⟨⟨⟨d1, d2⟩, d3⟩, d4⟩, d5⟩, ⟨d6, d7⟩⟩, d8⟩ := c0
 rw [ofI_four d4] at d5
 rw [wrap_id (by omega)] at d8
 have hw2 : (lineDR x).2 = 1 * (prodC x.digits : Int) := hw
 rw [hw2] at h3
 refine ⟨by omega, fun c hc => ⟨c1 c hc, cnt_pos (c1 c hc)⟩, by omega, by omega, fun n hn => by have := b2 n hn; omega, b3, d4, by omega, by omega, fun hs => ?_, fun hs => ?_⟩
 ·unfold footR at h2
  rw [hs, if_neg (by simp)] at h2
  simp only [Bool.and_eq_true, decide_eq_true_eq] at h2
  omega
 ·unfold footR at h2
  rw [if_pos (by have := List.length_pos_iff.2 hs; omega)] at h2
  simp only [Bool.and_eq_true, beq_iff_eq] at h2
  exact h2
theorem GLine.foot_ok {x : LLine} (h : GLine x) : footB x = true ∧ footR x = true := by
 unfold footB footR
 by_cases hs : x.sizes = []
 ·have := h.foot.1 hs
  have hz : ¬ 0 < (x.sizes.length : Int) := by rw [hs]; simp
  rw [if_neg hz]
  simp only [Bool.and_eq_true, decide_eq_true_eq]
  omega
 ·have := h.foot.2 hs
  have hz : 0 < (x.sizes.length : Int) := by have := List.length_pos_iff.2 hs; omega
  rw [if_pos hz]
  simp [this]
theorem GLine.rline {x : LLine} (h : GLine x) : rlineOk x = true := by
 have h1 := h.len
 have h2 := h.sizes
 have h3 := h.colours
 have h4 := h.many
 have h5 := h.two
 have h0 : line0R x = true := by
  unfold line0R
  rw [ofI_four h3, wrap_id (by omega)]
  simp only [Bool.and_eq_true, decide_eq_true_eq]
  omega
 have hd := rd_all x.digits (line0R x) 1
 have hD1 : (lineDR x).1 = true := by
  unfold lineDR
  rw [hd.1, h0, Bool.true_and, List.all_eq_true]
  exact fun c hc => by have := (h.dig c hc).1; simp only [Bool.and_eq_true, decide_eq_true_eq]; exact this
 have hD2 : (lineDR x).2 = 1 * (prodC x.digits : Int) := hd.2 hD1
 have hw := h.ways
 unfold rlineOk
 rw [h.foot_ok.2, hD2]
 have hS : (lineSR x).1 = true := by
  unfold lineSR
  exact (rs_all _ _ _).2 ⟨hD1, fun n hn => by have := h.size n hn; omega, h.climb⟩
 rw [hS]
 simp only [Bool.true_and, decide_eq_true_eq]
 omega
theorem GLine.lline {x : LLine} (h : GLine x) : llineOk x = true := by
 have h1 := h.len
 have h2 := h.sizes
 have h3 := h.colours
 have h4 := h.many
 have h5 := h.two
 have hw := h.ways
 have h0 : line0 x = true := by
  unfold line0
  rw [wrap_id (by omega)]
  simp only [Bool.and_eq_true, decide_eq_true_eq]
  refine ⟨⟨⟨⟨by omega, by omega⟩, by omega⟩, by omega⟩, ?_⟩
  split <;> omega
 obtain ⟨d1, d2⟩ := dg_back x.digits (line0 x) 1 h0 (by omega) h.dig
 unfold llineOk lineS lineD
 rw [sz_back x.sizes _ 0 d1 (fun n hn => by have := h.size n hn; omega) h.climb, h.foot_ok.1]
 simp only [Bool.true_and, Bool.and_eq_true, decide_eq_true_eq]
 omega
theorem rline_eq (x : LLine) : rlineOk x = llineOk x := by
 rw [Bool.eq_iff_iff]
 exact ⟨fun h => (rline_good h).lline, fun h => (lline_good h).rline⟩
def t80 : Spec := spec1 (fun (x : LLine) => big x.digits.length ∧ big x.sizes.length) fun x => .bool (llineOk x)
theorem t80_ok : SpecOK Tryz.prog glB 80 t80 := spec1_ok E61_ok Tryz.func80 rfl (by kernel_rfl) fun x h => by rw [← rline_eq]; exact isLineR_fn x h
theorem thaw_own {τ : List PV} {H : Heap} {i : Nat} {S : Key → Prop} {p : PV} {sz : Nat} {rs : List (List PV)} (hp : τ[i]? = some p) (hO : Own H S p sz rs) :
    ∃ ex H', (∀ τ', fg τ' (τ.set i (.sl rs ex)) → ThawS τ' H' τ H) ∧ ∀ K, ¬ S K → H' K = H K := by
 rcases hO with ⟨rfl, rfl⟩ | ⟨K, v, h1, rfl, h3⟩
 ·refine ⟨true, H, fun τ' hf => .of_fg ?_, fun _ _ => rfl⟩
  have e : τ.set i (.sl [] true) = τ := by
   refine List.ext_getElem? fun k => ?_
   rw [List.getElem?_set]
   by_cases h : i = k
   ·subst h
    rw [if_pos rfl, hp]
    have := (List.getElem?_eq_some_iff.1 hp).1
    rw [if_pos this]
   ·rw [if_neg h]
  rwa [e] at hf
 ·refine ⟨false, H.set K (.rows sz rs v true), fun τ' hf => ?_, fun K' hK' => set_at_ne _ _ fun e => hK' (e ▸ h1)⟩
  refine ⟨H.set K (.rows sz rs v true), fun K' => ?_, thawL_slot i hp (thaw1_sref (set_at_eq _ _ _) rfl) hf, fun _ => .inl rfl⟩
  by_cases e : K' = K
  ·subst e; exact .inr ⟨_, h3, set_at_eq _ _ _⟩
  ·exact .inl (set_at_ne _ _ e)
theorem thaw_sref {τ : List PV} {H : Heap} {i : Nat} {K : Key} {v sz n : Nat} {ex : Bool} {rs : List (List PV)} (hp : τ[i]? = some (.sref K v sz n ex)) (hK : H K = some (.rows sz rs v false)) (hn : n = rs.length) :
    ∃ H', (∀ τ', fg τ' (τ.set i (.sl rs ex)) → ThawS τ' H' τ H) ∧ ∀ K', K' ≠ K → H' K' = H K' := by
 refine ⟨H.set K (.rows sz rs v true), fun τ' hf => ⟨H.set K (.rows sz rs v true), fun K' => ?_, thawL_slot i hp (thaw1_sref (set_at_eq _ _ _) hn) hf, fun _ => .inl rfl⟩, fun K' hK' => set_at_ne _ _ hK'⟩
 by_cases e : K' = K
 ·subst e; exact .inr ⟨_, hK, set_at_eq _ _ _⟩
 ·exact .inl (set_at_ne _ _ e)
theorem thaw_slot2 {τ τ' : List PV} {H : Heap} {i : Nat} {K : Key} {v sz n : Nat} {ex : Bool} {rs : List (List PV)} (hp : τ[i]? = some (.sref K v sz n ex)) (hK : H K = some (.rows sz rs v false)) (hn : n = rs.length)
    (hf : fg τ' (τ.set i (.sl rs ex))) : ThawS τ' (H.set K (.rows sz rs v true)) τ H := by
 refine ⟨H.set K (.rows sz rs v true), fun K' => ?_, thawL_slot i hp (thaw1_sref (set_at_eq _ _ _) hn) hf, fun _ => .inl rfl⟩
 by_cases e : K' = K
 ·subst e; exact .inr ⟨_, hK, set_at_eq _ _ _⟩
 ·exact .inl (set_at_ne _ _ e)
theorem app_oneF' {E : Env} {K K2 : Key} {t e sz v2 : Nat} {p : PV} {rs : List (List PV)} {row : List PV} {ex ro : Bool} {q : Prop} {Q : PV → Heap → List Key → List Key → Prop} {H : Heap} (hq : q) (hk : (E.ti t).kind = .slice e) (hsz : (E.ti e).size = sz) (h0 : 0 < sz) (hb0 : 0 < (E.ti e).bytes)
    (hx : H K2 = some (.rows sz [row] v2 ro)) (hO : Own H (fun K' => K' = K) p sz rs) (hb : (rs.length + 1) * (E.ti e).bytes ≤ 35184372088832) (hrow : row.length = sz ∧ cells1 row = true)
    (hQ : ∀ p' H' R', (R' = [K2] ∨ R' = [K, K2]) → Own H' (fun K' => K' = K) p' sz (rs ++ [row]) → (∀ K', K' ≠ K → H' K' = H K') → Q p' H' R' [K]) : (app E K t p (.sref K2 v2 sz 1 ex)).wpF q Q H [] [] := by
 subst hsz
 unfold app
 rw [hk]
 refine ⟨fun _ => h0, ?_⟩
 simp only [rowsOf, frz, Prg.wpF, hx]
 refine ⟨fun _ => by simp, fun _ => fun r hr => by rw [List.mem_singleton.1 hr]; exact hrow, ?_⟩
 rcases hO with ⟨rfl, rfl⟩ | ⟨K', v, rfl, rfl, h2⟩
 ·refine ⟨fun _ => ⟨rfl, .inl (List.cons_ne_nil _ _), fun row h => (by cases h), h0, hb0, hb⟩, fun v => rfl, ?_⟩
  refine hQ _ _ _ (.inl rfl) (.inr ⟨K, verOf H K + 1, rfl, by simp, by simp [Heap.set]⟩) fun K' hK' => set_at_ne _ _ hK'
 ·simp only [Prg.wpF, h2]
  refine ⟨fun _ => ⟨trivial, trivial, trivial, trivial, h0, hb0, hb⟩, fun _ => trivial, hq, ?_⟩
  exact hQ _ _ _ (.inr rfl) (.inr ⟨K', v + 1, rfl, by simp, by simp [Heap.set]⟩) fun K2 hK2 => set_at_ne _ _ hK2
def numG (b : Bool) (c m : Int) : List Int := ((ofI c 10).filter fun d => b || decide (d > 0)).map fun d => 10 * m + d
def numStep (b : Bool) (c : Int) (out : List Int) : List Int := out.flatMap (numG b c)
def numR : Bool → List Int → List Int → List Int
 | _, [], out => out
 | b, c :: cs, out => numR true cs (numStep b c out)
theorem ofI_mem {a d : Int} {n : Nat} : d ∈ ofI a n ↔ ∃ k : Nat, k < n ∧ inF a k = true ∧ d = (k : Int) := by
 unfold ofI
 simp only [List.mem_map, List.mem_filter, List.mem_range]
 constructor
 ·rintro ⟨k, ⟨h1, h2⟩, rfl⟩; exact ⟨k, h1, h2, rfl⟩
 ·rintro ⟨k, h1, h2, rfl⟩; exact ⟨k, ⟨h1, h2⟩, rfl⟩
theorem mem_numG {b : Bool} {c m n : Int} : n ∈ numG b c m ↔ ∃ d : Nat, d ≤ 9 ∧ inF c d = true ∧ (b = false → 0 < d) ∧ n = 10 * m + d := by
 unfold numG
 simp only [List.mem_map, List.mem_filter, Bool.or_eq_true, decide_eq_true_eq]
 constructor
 ·rintro ⟨d, ⟨h1, h2⟩, rfl⟩
  obtain ⟨k, h3, h4, rfl⟩ := ofI_mem.1 h1
  refine ⟨k, by omega, h4, fun hb => ?_, rfl⟩
  rcases h2 with h2 | h2
  ·rw [hb] at h2; cases h2
  ·omega
 ·rintro ⟨d, h1, h2, h3, rfl⟩
  refine ⟨(d : Int), ⟨ofI_mem.2 ⟨d, by omega, h2, rfl⟩, ?_⟩, rfl⟩
  cases b with
  | true => exact .inl rfl
  | false => exact .inr (by have := h3 rfl; omega)
theorem mem_numR : ∀ {cs : List Int} {b : Bool} {out : List Int} {m : Int}, m ∈ numR b cs out ↔ ∃ n ∈ out, readsP cs (!b) n m
 | [], b, out, m => by unfold numR readsP; constructor; exact fun h => ⟨m, h, rfl⟩; rintro ⟨n, h, rfl⟩; exact h
 | c :: cs, b, out, m => by
  unfold numR readsP
  rw [mem_numR]
  unfold numStep
  constructor
  ·rintro ⟨n, hn, h⟩
   obtain ⟨a, ha, hna⟩ := List.mem_flatMap.1 hn
   obtain ⟨d, h1, h2, h3, rfl⟩ := mem_numG.1 hna
   exact ⟨a, ha, d, h1, h2, fun hb => h3 (by simpa using hb), h⟩
  ·rintro ⟨a, ha, d, h1, h2, h3, h⟩
   exact ⟨10 * a + d, List.mem_flatMap.2 ⟨a, ha, mem_numG.2 ⟨d, h1, h2, (fun hb => h3 (by rw [hb]; rfl)), rfl⟩⟩, h⟩
theorem numG_len (b : Bool) (c m : Int) : (numG b c m).length ≤ 10 := by
 unfold numG
 rw [List.length_map]
 exact Nat.le_trans (List.length_filter_le _ _) (ofI_len c 10)
theorem flatMap_take {α β : Type} [Inhabited α] (g : α → List β) {l : List α} {k : Nat} (h : k < l.length) : (l.take (k + 1)).flatMap g = (l.take k).flatMap g ++ g (l.getD k default) := by
 have e : l.getD k default = l[k] := by simp [h]
 rw [e, List.take_succ_eq_append_getElem h, List.flatMap_append]; simp
theorem filt_takeM {α β : Type} [Inhabited α] (p : α → Bool) (f : α → β) {l : List α} {k : Nat} (h : k < l.length) : ((l.take (k + 1)).filter p).map f = ((l.take k).filter p).map f ++ if p (l.getD k default) = true then [f (l.getD k default)] else [] := by
 have e : l.getD k default = l[k] := by simp [h]
 rw [e, List.take_succ_eq_append_getElem h, List.filter_append, List.map_append]
 congr 1
 cases hp : p l[k] <;> simp [hp]
theorem numbersR_fn (cs : List Int) (hc : cs.length ≤ 4) : Fn E61 0 158 Tryz.f158 (Tryz.f158.body.getD .skip) [.sl (il cs) false] (.sl (il (numR false cs [0])) false) := by
 unfold Fn Tryz.f158
 simp only [go_sem]
 refine ev_loopT (fun y : Nat × List Int × Bool => [.sl (il cs) false, .undef, .undef, .sl (il y.2.1) y.2.2, .int .i64 y.1] ++ List.replicate 52 .undef) (fun y H => y.1 ≤ cs.length ∧ numR (decide ((y.1 : Int) > 0)) (cs.drop y.1) y.2.1 = numR false cs [0] ∧ y.2.1.length ≤ 10 ^ y.1 ∧ ∀ m ∈ y.2.1, 0 ≤ m ∧ m < 10 ^ y.1) (fun y => cs.length - y.1) (0, [0], true) (thaw_slot2 (i := 3) (rs := [[.int .i64 0]]) rfl (set_at_eq _ _ _) rfl ?_) ⟨Nat.zero_le _, rfl, by simp, by simp⟩ ?_
 ·simp only [go_sem, il, List.map_cons, List.map_nil, Int.natCast_zero]
 ·rintro K ⟨i, out, ex⟩ H ⟨hi, h1, h2, h3⟩ hK hE
  simp only at hi h1 h2 h3
  simp only [go_sem, il_length]
  rw [condK_bool]
  refine ⟨fun h => ?_, fun h => ?_⟩
  ·have hi' : i < cs.length := by have := of_decide_eq_true h; omega
   have hii : ((i : Int) < (cs.length : Int)) = True := eq_true (by omega)
   have hi0 : (0 ≤ (i : Int)) = True := eq_true (by omega)
   have w2 : IntKind.i64.wrap ((i : Int) + 1) = (i : Int) + 1 := wrap_id (by omega)
   have e1 : cs.getD i 0 = cs[i] := by simp [hi']
   rw [List.drop_eq_getElem_cons hi', ← e1, numR] at h1
   have hpw : (10 : Int) ^ i ≤ 1000 := by
    obtain h | h | h | h : i = 0 ∨ i = 1 ∨ i = 2 ∨ i = 3 := by omega
    all_goals subst h; decide
   have hpn : 10 ^ i ≤ 1000 := by
    obtain h | h | h | h : i = 0 ∨ i = 1 ∨ i = 2 ∨ i = 3 := by omega
    all_goals subst h; decide
   have hb1 : decide (((i + 1 : Nat) : Int) > 0) = true := decide_eq_true (by omega)
   generalize hcc : cs.getD i 0 = c at h1
   generalize hb : decide ((i : Int) > 0) = b at h1
   have hnl : ∀ k, k ≤ out.length → ((out.take k).flatMap (numG b c)).length ≤ 10 * k := fun k hk => by
    have := flatMap_le (numG b c) 10 (out.take k) fun y _ => numG_len b c y
    rw [List.length_take] at this; omega
   have hmb : ∀ m ∈ numStep b c out, 0 ≤ m ∧ m < 10 ^ (i + 1) := fun m hm => by
    obtain ⟨a, ha, hma⟩ := List.mem_flatMap.1 hm
    obtain ⟨d, h4, _, _, rfl⟩ := mem_numG.1 hma
    have := h3 a ha
    rw [Int.pow_succ]; omega
   have hlb : (numStep b c out).length ≤ 10 ^ (i + 1) := by
    have := hnl out.length (Nat.le_refl _)
    rw [List.take_length] at this
    unfold numStep
    rw [Nat.pow_succ]; omega
   have key : ∀ (τ : List PV) (H : Heap) (p : PV), τ[3]? = some p → Own H (fun K => K = ([], 158014012)) p 1 (il (numStep b c out)) → (∀ ex, fg ([.sl (il cs) false, .undef, .undef, .sl (il (numStep b c out)) ex, .int .i64 ((i + 1 : Nat) : Int)] ++ List.replicate 52 .undef) (τ.set 3 (.sl (il (numStep b c out)) ex))) → K .normal τ H := fun τ H p hp hO hf => by
    obtain ⟨ex, H', hth, _⟩ := thaw_own hp hO
    exact hK (i + 1, numStep b c out, ex) τ H H' (hth _ (hf ex)) ⟨by simp only; omega, by simp only [hb1]; exact h1, hlb, hmb⟩ (by simp only; omega)
   simp only [go_sem]
   refine ev_loopS [0, 3, 4] (fun z : Nat × PV => [(5, z.2), (6, .int .i64 z.1)]) (fun z H => z.1 ≤ out.length ∧ Own H (fun K => K = ([], 158014012)) z.2 1 (il ((out.take z.1).flatMap (numG b c)))) (fun z => out.length - z.1) (0, .sl [] true) ?_ ⟨Nat.zero_le _, .nil⟩ ?_
   ·simp only [go_sem, Int.natCast_zero]
   ·simp only [go_sem, il_length]
    rintro K2 ⟨k, p⟩ H2 ⟨hk, k1⟩ hK2 hE2
    simp only at hk k1
    obtain ⟨hT, hC, hP, hV, hU⟩ := OwnTaint k1
    dsimp only
    rw [condK_bool]
    refine ⟨fun h => ?_, fun h => ?_⟩
    ·have hk' : k < out.length := by have := of_decide_eq_true h; omega
     have hkk : ((k : Int) < (out.length : Int)) = True := eq_true (by omega)
     have hk0 : (0 ≤ (k : Int)) = True := eq_true (by omega)
     have w3 : IntKind.i64.wrap ((k : Int) + 1) = (k : Int) + 1 := wrap_id (by omega)
     have hfl := flatMap_take (numG b c) hk'
     have hm3 := h3 _ (getD_mem (0 : Int) hk')
     have hpl := hnl k hk
     rw [show (default : Int) = 0 from rfl] at hfl
     generalize hmm : out.getD k 0 = m at hfl hm3
     obtain ⟨l, hl⟩ : ∃ l, l = ofI c 10 := ⟨_, rfl⟩
     have hll : l.length ≤ 10 := by rw [hl]; exact ofI_len c 10
     have hlm : ∀ d ∈ l, 0 ≤ d ∧ d ≤ 9 := fun d hd => by
      rw [hl] at hd
      obtain ⟨q, h4, _, rfl⟩ := ofI_mem.1 hd
      omega
     have hG : numG b c m = (l.filter fun d => b || decide (d > 0)).map fun d => 10 * m + d := by unfold numG; rw [hl]
     simp only [go_sem, @ct E61 53 t53 rfl, t53, callSpec, hii, hi0, Int.toNat_natCast, il_length, il_getD, hcc, hT, hC, hP, hV, hU, ← hl]
     refine ev_loopS [0, 3, 4, 6, 7] (fun z : Nat × PV => [(5, z.2), (8, .int .i64 z.1)]) (fun z H => z.1 ≤ l.length ∧ Own H (fun K => K = ([], 158014012)) z.2 1 (il ((out.take k).flatMap (numG b c) ++ ((l.take z.1).filter fun d => b || decide (d > 0)).map fun d => 10 * m + d))) (fun z => l.length - z.1) (0, p) ?_ ⟨Nat.zero_le _, by simpa using k1⟩ ?_
     ·simp only [go_sem, Int.natCast_zero]
     ·simp only [go_sem, il_length]
      rintro K3 ⟨j, p2⟩ H3 ⟨hj, j1⟩ hK3 hE3
      simp only at hj j1
      obtain ⟨hT2, hC2, hP2, hV2, hU2⟩ := OwnTaint j1
      dsimp only
      rw [condK_bool]
      refine ⟨fun h => ?_, fun h => ?_⟩
      ·have hj' : j < l.length := by have := of_decide_eq_true h; omega
       have hjj : ((j : Int) < (l.length : Int)) = True := eq_true (by omega)
       have hj0 : (0 ≤ (j : Int)) = True := eq_true (by omega)
       have w4 : IntKind.i64.wrap ((j : Int) + 1) = (j : Int) + 1 := wrap_id (by omega)
       have hft := filt_takeM (fun d : Int => b || decide (d > 0)) (fun d : Int => 10 * m + d) hj'
       have hd9 := hlm _ (getD_mem (0 : Int) hj')
       rw [show (default : Int) = 0 from rfl] at hft
       generalize hdd : l.getD j 0 = d at hft hd9
       have w5 : IntKind.i64.wrap (10 * m) = 10 * m := wrap_id (by omega)
       have w6 : IntKind.i64.wrap (10 * m + d) = 10 * m + d := wrap_id (by omega)
       have hfl2 : (((l.take j).filter fun d => b || decide (d > 0)).map fun d => 10 * m + d).length ≤ 10 := by
        rw [List.length_map]
        refine Nat.le_trans (List.length_filter_le _ _) ?_
        rw [List.length_take]; omega
       simp only [go_sem, hjj, hj0, Int.toNat_natCast, il_length, il_getD, hdd, hb]
       rw [condK_bool]
       refine ⟨fun hc => ?_, fun hc => ?_⟩
       ·rw [if_pos hc] at hft
        simp only [go_sem, hjj, hj0, hkk, hk0, Int.toNat_natCast, il_length, il_getD, hdd, hmm, w5, w6, hT2, hC2, hP2, hV2, hU2]
        refine app_oneF' trivial rfl rfl (by decide) (by decide) (set_at_eq _ _ _) (j1.frame fun K hK => set_at_ne _ _ (by rw [hK]; simp)) (by rw [il_length, List.length_append]; show (_ + 1) * 8 ≤ _; omega) ⟨rfl, rfl⟩ fun p' H' R' hR hO hF => ?_
        obtain ⟨hT', hC', hP', hV', hU'⟩ := OwnTaint hO
        rcases hR with rfl | rfl
        all_goals
         simp only [go_sem, hT', hC', hP', hV', hU', binds_data]
         refine hK3 (j + 1, p') _ _ ?_ ⟨hj', by rw [hft, ← List.append_assoc, il_append]; exact hO⟩ (by simp only; omega)
         simp only [go_sem, w4, Int.natCast_add, Int.natCast_one]
       ·rw [if_neg (by simp only [hc]; simp), List.append_nil] at hft
        simp only [go_sem]
        refine hK3 (j + 1, p2) _ _ ?_ ⟨hj', by rw [hft]; exact j1⟩ (by simp only; omega)
        simp only [go_sem, w4, Int.natCast_add, Int.natCast_one]
      ·have hj' : j = l.length := by have : ¬ ((j : Int) < (l.length : Int)) := by simpa using h
                                     omega
       subst hj'
       rw [List.take_length, ← hG, ← hfl] at j1
       refine hE3 _ _ _ (by simp) ?_
       simp only [go_sem]
       refine hK2 (k + 1, p2) _ _ ?_ ⟨hk', j1⟩ (by simp only; omega)
       simp only [go_sem, w3, Int.natCast_add, Int.natCast_one]
    ·have hk' : k = out.length := by have : ¬ ((k : Int) < (out.length : Int)) := by simpa using h
                                     omega
     subst hk'
     rw [List.take_length] at k1
     refine hE2 _ _ _ (by simp) ?_
     simp only [go_sem, hT, hC, hP, hV, hU]
     refine key _ _ p rfl k1 fun ex => ?_
     simp only [go_sem, w2, Int.natCast_add, Int.natCast_one]
  ·have hi' : i = cs.length := by have : ¬ ((i : Int) < (cs.length : Int)) := by simpa using h
                                  omega
   subst hi'
   rw [List.drop_length, numR] at h1
   refine hE _ _ _ (by simp) ?_
   simp only [go_sem, ← h1]
def t158 : Spec := spec1 (fun (cs : List Int) => cs.length ≤ 4) fun cs => .sl (il (numR false cs [0])) false
theorem t158_ok : SpecOK Tryz.prog glB 158 t158 := spec1_ok E61_ok Tryz.func158 rfl (by kernel_rfl) fun cs h => numbersR_fn cs h
end Wb
namespace Wb
open Go Go.Proofs Enc Row
set_option linter.unusedSimpArgs false
set_option linter.unusedVariables false
set_option maxRecDepth 20000
set_option maxHeartbeats 2000000
theorem dec_line2 (l : Line) : (dec (.agg (encL l)) : Option Line) = some l := Enc.dec_enc l
def putGo (x : Line) : List Line → Bool → List Line
 | [], d => if d = true then [] else [x]
 | a :: l, d => if (!d && aheadB (keyL x) (keyL a)) = true then x :: a :: putGo x l true else a :: putGo x l d
def putL (l : List Line) (x : Line) : List Line := if x ∈ l then l else putGo x l false
theorem putGo_drop (x : Line) {l : List Line} {i : Nat} (h : i < l.length) (d : Bool) : putGo x (l.drop i) d = if (!d && aheadB (keyL x) (keyL (l.getD i default))) = true then x :: l.getD i default :: putGo x (l.drop (i + 1)) true else l.getD i default :: putGo x (l.drop (i + 1)) d := by
 have e1 : l.getD i default = l[i] := by simp [h]
 rw [List.drop_eq_getElem_cons h, e1]; rfl
theorem map_row4 (l : List Line) : ∀ row ∈ l.map encL, row.length = 4 := fun row h => by
 obtain ⟨a, _, rfl⟩ := List.mem_map.1 h; rfl
def S82 (K : Key) : Prop := K = ([], 82009003) ∨ K = ([], 82010006) ∨ K = ([], 82012003)
theorem S82a : S82 ([], 82009003) := .inl rfl
theorem S82b : S82 ([], 82010006) := .inr (.inl rfl)
theorem S82c : S82 ([], 82012003) := .inr (.inr rfl)
theorem S82n {K : Key} (h : S82 K) (n : Nat) (hn : n ≠ 82009003 ∧ n ≠ 82010006 ∧ n ≠ 82012003) : K ≠ ([], n) := by
 rintro rfl
 unfold S82 at h
 simp only [Prod.mk.injEq, true_and] at h
 omega
theorem bnd82 {o i n : Nat} (h1 : o ≤ 2 * i) (h2 : i ≤ n) (h3 : n ≤ 1000000) : (o + 1) * 32 ≤ 35184372088832 ∧ (o + 1 + 1) * 32 ≤ 35184372088832 := by omega
theorem put_fn (l : List Line) (x : Line) (hl : l.length ≤ 1000000) : Fn E61 0 82 Tryz.f82 (Tryz.f82.body.getD .skip) [.sl (l.map encL) false, .agg (encL x)] (.sl ((putL l x).map encL) false) := by
 unfold Fn Tryz.f82
 have hdx := dec_line2 x
 obtain ⟨x', hx'⟩ : ∃ x', x' = x := ⟨_, rfl⟩
 rw [← hx'] at hdx ⊢
 obtain ⟨⟨x0, x1, x2⟩, x3⟩ := x
 have hex : encL x' = [.int .i64 x0, .int .i64 x1, .int .i64 x2, .int .i64 x3] := by rw [hx']; rfl
 rw [hex] at hdx
 simp only [go_sem, hex]
 refine ev_loopS [0, 3, 4] (fun y : Nat × PV × Bool × List Line => [(5, y.2.1), (6, .bool y.2.2.1), (7, .int .i64 y.1)]) (fun y H => y.1 ≤ l.length ∧ H ([], 82000000) = some (.cells [.int .i64 x0, .int .i64 x1, .int .i64 x2, .int .i64 x3] 1 false)
  ∧ Own H S82 y.2.1 4 (y.2.2.2.map encL) ∧ y.2.2.2 ++ putGo x' (l.drop y.1) y.2.2.1 = putGo x' l false ∧ x' ∉ l.take y.1 ∧ y.2.2.2.length ≤ 2 * y.1) (fun y => l.length - y.1) (0, .sl [] true, false, []) ?_ ⟨Nat.zero_le _, ?_, .nil, rfl, by simp, by simp⟩ ?_
 ·simp only [go_sem, Int.natCast_zero]
 ·simp only [go_sem]
 ·simp only [go_sem]
  rintro K ⟨i, p, d, o⟩ H ⟨hi, h1, h2, h3, h4, h5⟩ hK hE
  simp only at hi h2 h3 h4 h5
  obtain ⟨hT, hC, hP, hV, hU⟩ := OwnTaint h2
  simp only [go_sem, List.length_map, hT, hC, hP, hV, hU]
  rw [condK_bool]
  refine ⟨fun h => ?_, fun h => ?_⟩
  ·have hi' : i < l.length := by have := of_decide_eq_true h; omega
   have hii : ((i : Int) < (l.length : Int)) = True := eq_true (by omega)
   have hi0 : (0 ≤ (i : Int)) = True := eq_true (by omega)
   have w2 : IntKind.i64.wrap ((i : Int) + 1) = (i : Int) + 1 := wrap_id (by omega)
   have hst := putGo_drop x' hi' d
   have htk : ∀ z, z ∈ l.take (i + 1) → z ∈ l.take i ∨ z = l.getD i default := fun z hz => by
    rw [List.take_succ_eq_append_getElem hi'] at hz
    rcases List.mem_append.1 hz with q | q
    ·exact .inl q
    ·exact .inr (by rw [List.mem_singleton.1 q]; simp [hi'])
   have hmem := getD_mem (default : Line) hi'
   generalize hA : l.getD i default = a at hst htk hmem
   have hq := same29_eq a x'
   have hda := dec_line2 a
   rw [hex] at hq
   by_cases hax : a = x'
   ·have hin : putL l x' = l := by unfold putL; rw [if_pos (hax ▸ hmem)]
    rw [decide_eq_true hax] at hq
    rcases a with ⟨⟨a0, a1, a2⟩, a3⟩
    simp only [go_sem, encL] at hq
    simp only [go_sem, h1, hii, hi0, Int.toNat_natCast, List.length_map, getD_mapN encL l i _ hi', hA, encL, hq, hT, hC, hP, hV, hU]
    refine hE _ _ _ (by simp) ?_
    simp only [go_sem, hin]
   ·rw [decide_eq_false hax] at hq
    have hnin : x' ∉ l.take (i + 1) := fun hz => (htk x' hz).elim h4 fun e => hax e.symm
    rcases a with ⟨⟨a0, a1, a2⟩, a3⟩
    simp only [go_sem, encL] at hq
    simp only [encL] at hda
    cases d with
    | true =>
     simp only [Bool.not_true, Bool.false_and, Bool.false_eq_true, if_false] at hst
     simp only [go_sem, @ct E61 56 t56 rfl, t56, callSpec, h1, hii, hi0, Int.toNat_natCast, List.length_map, getD_mapN encL l i _ hi', hA, encL, hq, hda, hdx, hT, hC, hP, hV, hU]
     refine app_one trivial rfl rfl (by decide) (by decide) (set_at_eq _ _ _) (h2.frame fun K hK => set_at_ne _ _ (S82n hK _ (by decide))) S82b (by rw [List.length_map]; exact (bnd82 h5 hi hl).1) (map_row4 o) ⟨rfl, rfl⟩ fun p' H' hO hF => ?_
     obtain ⟨hT', hC', hP', hV', hU'⟩ := OwnTaint hO
     simp only [go_sem, hT', hC', hP', hV', hU']
     refine hK (i + 1, p', true, o ++ [(⟨⟨a0, a1, a2⟩, a3⟩ : Line)]) _ _ ?_ ⟨hi', (hF _ fun q => S82n q _ (by decide) rfl).trans ((set_at_ne _ _ (by simp)).trans h1), by rw [List.map_append]; exact hO, by rw [← h3, hst, List.append_assoc]; rfl, hnin, by simp only [List.length_append, List.length_singleton]; omega⟩ (by simp only; omega)
     simp only [go_sem, w2, Int.natCast_add, Int.natCast_one]
    | false =>
     generalize hah : aheadB (keyL x') (keyL (⟨⟨a0, a1, a2⟩, a3⟩ : Line)) = ah at hst
     cases ah with
     | false =>
      simp only [Bool.not_false, Bool.true_and, Bool.false_eq_true, if_false] at hst
      simp only [go_sem, @ct E61 56 t56 rfl, t56, callSpec, h1, hii, hi0, Int.toNat_natCast, List.length_map, getD_mapN encL l i _ hi', hA, encL, hq, hda, hdx, hT, hC, hP, hV, hU, hah]
      refine app_one trivial rfl rfl (by decide) (by decide) (set_at_eq _ _ _) (h2.frame fun K hK => set_at_ne _ _ (S82n hK _ (by decide))) S82b (by rw [List.length_map]; exact (bnd82 h5 hi hl).1) (map_row4 o) ⟨rfl, rfl⟩ fun p' H' hO hF => ?_
      obtain ⟨hT', hC', hP', hV', hU'⟩ := OwnTaint hO
      simp only [go_sem, hT', hC', hP', hV', hU']
      refine hK (i + 1, p', false, o ++ [(⟨⟨a0, a1, a2⟩, a3⟩ : Line)]) _ _ ?_ ⟨hi', (hF _ fun q => S82n q _ (by decide) rfl).trans ((set_at_ne _ _ (by simp)).trans h1), by rw [List.map_append]; exact hO, by rw [← h3, hst, List.append_assoc]; rfl, hnin, by simp only [List.length_append, List.length_singleton]; omega⟩ (by simp only; omega)
      simp only [go_sem, w2, Int.natCast_add, Int.natCast_one]
     | true =>
      simp only [Bool.not_false, Bool.true_and, if_true] at hst
      simp only [go_sem, @ct E61 56 t56 rfl, t56, callSpec, h1, hii, hi0, Int.toNat_natCast, List.length_map, getD_mapN encL l i _ hi', hA, encL, hq, hda, hdx, hT, hC, hP, hV, hU, hah]
      refine app_one trivial rfl rfl (by decide) (by decide) (set_at_eq _ _ _) (h2.frame fun K hK => set_at_ne _ _ (S82n hK _ (by decide))) S82a (by rw [List.length_map]; exact (bnd82 h5 hi hl).1) (map_row4 o) ⟨rfl, rfl⟩ fun p1 H1 hO1 hF1 => ?_
      obtain ⟨hT1, hC1, hP1, hV1, hU1⟩ := OwnTaint hO1
      simp only [go_sem, hii, hi0, Int.toNat_natCast, List.length_map, getD_mapN encL l i _ hi', hA, encL, hT1, hC1, hP1, hV1, hU1]
      refine app_one trivial rfl rfl (by decide) (by decide) (set_at_eq _ _ _) (hO1.frame fun K hK => set_at_ne _ _ (S82n hK _ (by decide))) S82b (by rw [List.length_append, List.length_map]; exact (bnd82 h5 hi hl).2) (fun row hr => (List.mem_append.1 hr).elim (map_row4 o row) fun q => by rw [List.mem_singleton.1 q]; rfl) ⟨rfl, rfl⟩ fun p' H' hO hF => ?_
      obtain ⟨hT', hC', hP', hV', hU'⟩ := OwnTaint hO
      simp only [go_sem, hT', hC', hP', hV', hU']
      refine hK (i + 1, p', true, o ++ [x', (⟨⟨a0, a1, a2⟩, a3⟩ : Line)]) _ _ ?_ ⟨hi', (hF _ fun q => S82n q _ (by decide) rfl).trans ((set_at_ne _ _ (by simp)).trans ((hF1 _ fun q => S82n q _ (by decide) rfl).trans ((set_at_ne _ _ (by simp)).trans h1))), by rw [List.map_append, List.map_cons, List.map_cons, List.map_nil, hex]; simpa [List.append_assoc, encL] using hO, by rw [← h3, hst, List.append_assoc]; rfl, hnin, by simp only [List.length_append, List.length_cons, List.length_nil]; omega⟩ (by simp only; omega)
      simp only [go_sem, w2, Int.natCast_add, Int.natCast_one]
  ·have hi' : i = l.length := by have : ¬ ((i : Int) < (l.length : Int)) := by simpa using h
                                 omega
   subst hi'
   rw [List.take_length] at h4
   rw [List.drop_length] at h3
   have hput : putL l x' = putGo x' l false := by unfold putL; rw [if_neg h4]
   cases d with
   | true =>
    have hres : putL l x' = o := by rw [hput, ← h3]; unfold putGo; rw [if_pos rfl, List.append_nil]
    refine hE _ _ _ (by simp) ?_
    simp only [go_sem, hT, hC, hP, hV, hU]
    rw [hres]
    exact h2.fin
   | false =>
    have hres : putL l x' = o ++ [x'] := by rw [hput, ← h3]; unfold putGo; rw [if_neg (by simp)]
    refine hE _ _ _ (by simp) ?_
    simp only [go_sem, h1, hT, hC, hP, hV, hU]
    refine app_one trivial rfl rfl (by decide) (by decide) (set_at_eq _ _ _) (h2.frame fun K hK => set_at_ne _ _ (S82n hK _ (by decide))) S82c (by rw [List.length_map]; exact (bnd82 h5 hi hl).1) (map_row4 o) ⟨rfl, rfl⟩ fun p' H' hO hF => ?_
    obtain ⟨hT', hC', hP', hV', hU'⟩ := OwnTaint hO
    simp only [go_sem, hT', hC', hP', hV', hU']
    rw [hres, List.map_append, List.map_cons, List.map_nil, hex]
    exact hO.fin
def t82 : Spec := spec2 (fun (l : List Line) (_ : Line) => l.length ≤ 1000000) fun l x => .sl ((putL l x).map encL) false
theorem t82_ok : SpecOK Tryz.prog glB 82 t82 := spec2_ok E61_ok Tryz.func82 rfl (by kernel_rfl) fun l x h => put_fn l x h
end Wb
namespace Wb
open Go Go.Proofs Enc Row
set_option linter.unusedSimpArgs false
set_option linter.unusedVariables false
set_option maxRecDepth 20000
set_option maxHeartbeats 8000000
theorem cmpK_ahead : ∀ {l m : List Int}, l.length = m.length → (aheadB l m = true ↔ cmpK l m < 0)
 | [], [], _ => by simp [aheadB, cmpK]
 | [], _ :: _, h => by simp at h
 | _ :: _, [], h => by simp at h
 | a :: l, b :: m, h => by
  rw [cmpK_cons]
  unfold aheadB
  by_cases e : a = b
  ·subst e
   rw [if_pos rfl, if_pos (cmpI_self a)]
   exact cmpK_ahead (by simpa using h)
  ·rw [if_neg e, if_neg (fun h => e (cmpI_zero h)), decide_eq_true_iff, cmpI_lt]
def lineLt (a b : Line) : Prop := cmpK (keyL a) (keyL b) < 0
theorem lineLt_ahead {a b : Line} : aheadB (keyL a) (keyL b) = true ↔ lineLt a b := cmpK_ahead (l := keyL a) (m := keyL b) rfl
theorem lineLt_irrefl (a : Line) : ¬ lineLt a a := fun h => by unfold lineLt at h; rw [cmpK_self] at h; omega
theorem lineLt_trans {a b c : Line} (h1 : lineLt a b) (h2 : lineLt b c) : lineLt a c := cmpK_trans (l := keyL a) (m := keyL b) (n := keyL c) rfl rfl h1 h2
theorem keyL_inj2 {a b : Line} (h : keyL a = keyL b) : a = b := by
 obtain ⟨⟨a0, a1, a2⟩, a3⟩ := a
 obtain ⟨⟨b0, b1, b2⟩, b3⟩ := b
 simp only [keyL, List.cons.injEq, and_true] at h
 obtain ⟨rfl, rfl, rfl, rfl⟩ := h
 rfl
theorem lineLt_total {a b : Line} (h : a ≠ b) : lineLt a b ∨ lineLt b a := by
 unfold lineLt
 have h1 := cmpK_neg (keyL a) (keyL b)
 have h2 : cmpK (keyL a) (keyL b) ≠ 0 := fun e => h (keyL_inj2 (cmpK_zero rfl e))
 omega
theorem putGo_mem (x : Line) : ∀ (l : List Line) (d : Bool) (z : Line), z ∈ putGo x l d ↔ z ∈ l ∨ (d = false ∧ z = x)
 | [], d, z => by unfold putGo; cases d <;> simp
 | a :: l, d, z => by
  unfold putGo
  split
  ·rename_i h
   simp only [Bool.and_eq_true, Bool.not_eq_true'] at h
   simp only [List.mem_cons, putGo_mem x l true z, h.1]
   constructor
   ·rintro (h | h | h | h)
    ·exact .inr ⟨by simp, h⟩
    ·exact .inl (.inl h)
    ·exact .inl (.inr h)
    ·exact absurd h.1 (by simp)
   ·rintro ((h | h) | h)
    ·exact .inr (.inl h)
    ·exact .inr (.inr (.inl h))
    ·exact .inl h.2
  ·simp only [List.mem_cons, putGo_mem x l d z, or_assoc]
theorem putGo_true (x : Line) : ∀ (l : List Line), putGo x l true = l
 | [] => by unfold putGo; rfl
 | a :: l => by unfold putGo; rw [if_neg (by simp), putGo_true x l]
theorem putGo_sort (x : Line) : ∀ (l : List Line), l.Pairwise lineLt → x ∉ l → (putGo x l false).Pairwise lineLt
 | [], _, _ => by unfold putGo; simp
 | a :: l, h, hx => by
  rw [List.pairwise_cons] at h
  have hxa : x ≠ a := fun e => hx (by rw [e]; exact List.mem_cons_self ..)
  have hxl : x ∉ l := fun e => hx (List.mem_cons_of_mem _ e)
  unfold putGo
  by_cases hc : aheadB (keyL x) (keyL a) = true
  ·rw [if_pos (by simp [hc]), putGo_true]
   have hlt := lineLt_ahead.1 hc
   refine List.pairwise_cons.2 ⟨fun z hz => ?_, List.pairwise_cons.2 h⟩
   rcases List.mem_cons.1 hz with rfl | hz
   ·exact hlt
   ·exact lineLt_trans hlt (h.1 z hz)
  ·rw [if_neg (by simp [hc])]
   refine List.pairwise_cons.2 ⟨fun z hz => ?_, putGo_sort x l h.2 hxl⟩
   rcases (putGo_mem x l false z).1 hz with q | ⟨_, rfl⟩
   ·exact h.1 z q
   ·exact (lineLt_total hxa).elim (fun q => absurd (lineLt_ahead.2 q) hc) id
theorem putL_mem {l : List Line} {x z : Line} : z ∈ putL l x ↔ z ∈ l ∨ z = x := by
 unfold putL
 split
 ·rename_i h
  exact ⟨.inl, fun q => q.elim id fun e => e ▸ h⟩
 ·rw [putGo_mem]; simp
theorem putL_sort {l : List Line} {x : Line} (h : l.Pairwise lineLt) : (putL l x).Pairwise lineLt := by
 unfold putL
 split
 ·exact h
 ·rename_i hx; exact putGo_sort x l h hx
theorem putGo_len (x : Line) : ∀ (l : List Line) (d : Bool), (putGo x l d).length ≤ l.length + 1
 | [], d => by unfold putGo; cases d <;> simp
 | a :: l, d => by
  unfold putGo
  split
  ·rw [putGo_true]; simp
  ·have := putGo_len x l d; simp only [List.length_cons]; omega
theorem putL_len (l : List Line) (x : Line) : (putL l x).length ≤ l.length + 1 := by
 unfold putL
 split
 ·omega
 ·exact putGo_len x l false
def putAll (l : List Line) (c : List Line) : List Line := c.foldl putL l
theorem putAll_mem {z : Line} : ∀ {c l : List Line}, z ∈ putAll l c ↔ z ∈ l ∨ z ∈ c
 | [], l => by simp [putAll]
 | x :: c, l => by
  have := putAll_mem (z := z) (c := c) (l := putL l x)
  unfold putAll at this ⊢
  rw [List.foldl_cons, this, putL_mem, List.mem_cons, or_assoc]
theorem putAll_sort : ∀ {c l : List Line}, l.Pairwise lineLt → (putAll l c).Pairwise lineLt
 | [], l, h => h
 | x :: c, l, h => putAll_sort (c := c) (putL_sort h)
theorem putAll_len : ∀ (c l : List Line), (putAll l c).length ≤ l.length + c.length
 | [], l => by simp [putAll]
 | x :: c, l => by
  have h1 := putAll_len c (putL l x)
  have h2 := putL_len l x
  unfold putAll at h1 ⊢
  rw [List.foldl_cons, List.length_cons]; omega
theorem putAll_append (l a b : List Line) : putAll l (a ++ b) = putAll (putAll l a) b := by unfold putAll; rw [List.foldl_append]
theorem sorted_same {α : Type} {lt : α → α → Prop} (hi : ∀ a, ¬ lt a a) (ht : ∀ {a b c}, lt a b → lt b c → lt a c) : ∀ {l m : List α}, l.Pairwise lt → m.Pairwise lt → (∀ z, z ∈ l ↔ z ∈ m) → l = m
 | [], [], _, _, _ => rfl
 | [], b :: m, _, _, h => absurd ((h b).2 (List.mem_cons_self ..)) (by simp)
 | a :: l, [], _, _, h => absurd ((h a).1 (List.mem_cons_self ..)) (by simp)
 | a :: l, b :: m, h1, h2, h => by
  rw [List.pairwise_cons] at h1 h2
  have e : a = b := by
   refine Classical.byContradiction fun hne => ?_
   have ha := (h a).1 (List.mem_cons_self ..)
   have hb := (h b).2 (List.mem_cons_self ..)
   have ha' : a ∈ m := (List.mem_cons.1 ha).elim (fun e => absurd e hne) id
   have hb' : b ∈ l := (List.mem_cons.1 hb).elim (fun e => absurd e.symm hne) id
   exact hi a (ht (h1.1 b hb') (h2.1 a ha'))
  subst e
  rw [sorted_same hi ht h1.2 h2.2 fun z => ?_]
  constructor
  ·intro hz
   exact (List.mem_cons.1 ((h z).1 (List.mem_cons_of_mem _ hz))).elim (fun e => absurd (h1.1 z hz) (by rw [e]; exact hi a)) id
  ·intro hz
   exact (List.mem_cons.1 ((h z).2 (List.mem_cons_of_mem _ hz))).elim (fun e => absurd (h2.1 z hz) (by rw [e]; exact hi a)) id
end Wb
