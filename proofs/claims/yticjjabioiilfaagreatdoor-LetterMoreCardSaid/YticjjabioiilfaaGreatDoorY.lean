import Derived.Test.YticjjabioiilfaaGreatDoorW
import Derived.Test.YticjjabioiilfaaGreatDoorZ
import Derived.Test.YticjjabioiilfaaGreatDoorV
set_option linter.unusedVariables false
set_option linter.unusedSimpArgs false
/- LetterMore. -/
namespace Wb
open Go Go.Proofs Enc Row
set_option linter.unusedSimpArgs false
set_option linter.unusedVariables false
set_option maxRecDepth 20000
set_option maxHeartbeats 16000000
noncomputable def E60t : List (Nat × Spec) := [(50, t50)] ++ E54t
theorem E60t_ok : AllOK E60t := ⟨⟨t50_ok, Tryz.call50⟩, E54t_ok⟩
noncomputable def E60 : Env := mkE E60t []
theorem E60_ok : EnvOK Tryz.prog E60 := envOK E60t_ok trivial
theorem E60_ti {t : Nat} : E60.ti t = ti t := rfl
theorem E60_q0 : (E60).eqt 26 = true := rfl
theorem E60_q1 : (E60).eqt 65 = true := rfl
theorem E60_q2 : (E60).eqt 77 = true := rfl
theorem E60_q3 : (E60).eqt 79 = true := rfl
theorem E60_q4 : (E60).eqt 182 = true := rfl
theorem E60_q5 : (E60).eqt 243 = true := rfl
theorem E60_q6 : (E60).keyt 3 = true := rfl
theorem E60_q7 : (E60).keyt 114 = true := rfl
theorem E60_q8 : (E60).keyt 169 = true := rfl
theorem E60_q9 : (E60).keyt 180 = true := rfl
theorem E60_q10 : (E60).keyt 193 = true := rfl
theorem E60_q11 : (E60).glob 0 = some [.fn 219 [] [], .fn 220 [] [], .fn 216 [] [], .fn 221 [] []] := rfl
theorem E60_q12 : (E60).glob 1 = some [.fn 222 [] [], .fn 223 [] []] := rfl
attribute [go_sem] E60_ti E60_q0 E60_q1 E60_q2 E60_q3 E60_q4 E60_q5 E60_q6 E60_q7 E60_q8 E60_q9 E60_q10 E60_q11 E60_q12
/-- The code behind so many parts, and the code with another end. -/
noncomputable def tailC : Nat → Code → Code
  | 0, c => c
  | n + 1, .seq _ b => tailC n b
  | _, c => c
noncomputable def cutC (t : Code) : Nat → Code → Code
  | 0, _ => t
  | n + 1, .seq a b => .seq a (cutC t n b)
  | _, c => c
theorem il_set (l : List Int) (k : Nat) (b : Int) : (il l).set k [PV.int .i64 b] = il (l.set k b) := by unfold il; rw [List.map_set]
theorem MoreX.gen {x : Lett} {i : Nat} {y' : LLine} {a b c d : Int} (h : MoreL (x.lines.getD i default) y') (h1 : a ≤ x.dlo) (h2 : x.dhi ≤ b) (h3 : c ≤ x.clo) (h4 : x.chi ≤ d) : MoreX x ⟨x.rack, a, b, x.lines.set i y', c, d⟩ :=
  ⟨rfl, by simp, h1, h2, h3, h4, (MoreX.line1 h).line⟩
theorem LOk.more {x x' : Lett} (hx : LOk x) (hr : x'.rack = x.rack) (hb : big x'.lines.length) (h : ∀ y ∈ x'.lines, y ∈ x.lines ∨ (big y.digits.length ∧ big y.sizes.length)) : LOk x' :=
  ⟨hr ▸ hx.1, hb, fun y hy => (h y hy).elim (fun q => hx.2.2 y q) id⟩
noncomputable def tl10 : Code := tailC 8 (Tryz.f10.body.getD .skip)
theorem f10_cut : Tryz.f10.body.getD .skip = cutC tl10 8 (Tryz.f10.body.getD .skip) := by kernel_rfl
theorem len3 : ∀ l : List Int, l.length = 3 → ∃ a b c, l = [a, b, c]
  | [a, b, c], _ => ⟨a, b, c, rfl⟩
theorem more_walk (x : Lett) (hx : LOk x) (n0 n1 n2 : Int) : Fn E60 0 10 Tryz.f10 (Tryz.f10.body.getD .skip) [.agg (encLt x), .agg [.int .i64 n0, .int .i64 n1, .int .i64 n2]] (.bool true) := by
  have hxl := eq_true hx
  have hx0 := encLt_lit x
  cases hk : lettOk x with
  | false =>
    unfold Fn Tryz.f10
    simp only [go_sem, @ct E60 13 t13 rfl, t13, @ct E60 14 t14 rfl, t14, hx0, lett_eta, callSpec, hxl, hk]
  | true =>
    have hG := lett_good hk
    have hN := hG.n
    rw [f10_cut]
    unfold Fn Tryz.f10
    have hi := spin_range (n := n1) (m := (x.lines.length : Int)) (by omega)
    have hby := spin_range (n := n2) (m := 40) (by omega)
    obtain ⟨i, hi1⟩ := Int.eq_ofNat_of_zero_le hi.1
    obtain ⟨by', hb1⟩ := Int.eq_ofNat_of_zero_le hby.1
    rw [hi1] at hi
    rw [hb1] at hby
    have hi' : i < x.lines.length := by omega
    have hii : ((i : Int) < (x.lines.length : Int)) = True := eq_true (by omega)
    have hi0 : (0 ≤ (i : Int)) = True := eq_true (by omega)
    have gy := hG.line _ (getD_mem default hi')
    generalize hyy : x.lines.getD i default = y at gy
    have hrows : (∀ row ∈ x.lines.map encLL, row.length = 7 ∧ cells1 row = true) = True := eq_true fun row hr => by
      obtain ⟨a, _, rfl⟩ := List.mem_map.1 hr; exact ⟨rfl, rfl⟩
    have hbytes : (x.lines.length : Nat) ≤ 2 := hN.2
    obtain ⟨sp, hsp⟩ : ∃ sp, sp = spinF n0 7 := ⟨_, rfl⟩
    have hs := spin_range (n := n0) (m := 7) (by omega)
    rw [← hsp] at hs
    have h7 : sp = 0 ∨ sp = 1 ∨ sp = 2 ∨ sp = 3 ∨ sp = 4 ∨ sp = 5 ∨ sp = 6 := by omega
    obtain ⟨ds, ss, a1, a2, a3, a4, a5⟩ := y
    have hl64 : ((x.lines.length : Int) ≤ 9223372036854775807) = True := eq_true (by omega)
    have hl88 : (x.lines.length * 88 ≤ 35184372088832) = True := eq_true (by omega)
    have hgl := gy.len
    simp only at hgl
    have hd64 : ((ds.length : Int) ≤ 9223372036854775807) = True := eq_true (by omega)
    have hd8 : (ds.length * 8 ≤ 35184372088832) = True := eq_true (by omega)
    have hrd : (∀ row ∈ il ds, row.length = 1 ∧ cells1 row = true) = True := eq_true fun row hr => by
      obtain ⟨a, _, rfl⟩ := List.mem_map.1 hr; exact ⟨rfl, rfl⟩
    have hsk := spin_range (n := (by' : Int)) (m := (ds.length : Int)) (by omega)
    obtain ⟨k, hk1⟩ := Int.eq_ofNat_of_zero_le hsk.1
    rw [hk1] at hsk
    have hk' : k < ds.length := by omega
    have hkk : ((k : Int) < (ds.length : Int)) = True := eq_true (by omega)
    have hkn : (k < ds.length) = True := eq_true (by omega)
    have hk0 : (0 ≤ (k : Int)) = True := eq_true (by omega)
    have hsd := spin_range (n := (by' : Int)) (m := 10) (by omega)
    obtain ⟨d, hd1⟩ := Int.eq_ofNat_of_zero_le hsd.1
    rw [hd1] at hsd
    have hd0 : (0 ≤ (d : Int)) = True := eq_true (by omega)
    rcases h7 with h7 | h7 | h7 | h7 | h7 | h7 | h7
    case' inl =>
      subst h7
      simp only [go_sem, @ct E60 13 t13 rfl, t13, @ct E60 14 t14 rfl, t14, @ct E60 17 sTo rfl, sTo, @ct E60 49 sSpin rfl, sSpin, @ct E60 50 t50 rfl, t50, cutC, hx0, lett_eta, callSpec, hxl, hk, List.length_map, hi1, hb1, ← hsp, hii, hi0, Int.toNat_natCast, app, rowsOf, hrows, getD_mapN encLL x.lines i _ hi', hyy, encLL, il_length, il_getD, hl64, hl88, hd64, hd8, hrd, hk1, hd1, hkk, hkn, hk0, hd0]
      refine ⟨by rw [List.length_set, il_length], hi', ?_⟩
      generalize hv : bits BinOp.or .i64 (ds.getD k 0) (shft true .i64 1 (d : Int)) = v
      obtain ⟨y', hy'⟩ : ∃ y', y' = (⟨ds.set k v, ss, a1, a2, a3, a4, a5⟩ : LLine) := ⟨_, rfl⟩
      have e := List.map_set (f := encLL) (l := x.lines) (i := i) (a := y')
      rw [hy'] at e
      simp only [encLL] at e
      simp only [il_set, ← e]
      rw [← hy']
      have hmo : MoreL (x.lines.getD i default) y' := by
        rw [hyy, hy']
        refine .dig fun q hq hin => ?_
        have hdg := gy.dig _ (getD_mem 0 hk')
        rw [← hv]
        exact or_more (by simp only at hdg; have := hdg.1; show 0 ≤ ds.getD k 0; omega) (by simp only at hdg; have := hdg.1; show ds.getD k 0 ≤ 1023; omega) (by omega) q hin
      have hbg : big y'.digits.length ∧ big y'.sizes.length := by
        rw [hy']; unfold big; simp only [List.length_set]; have := gy.sizes; simp only at this; omega
      obtain ⟨x', hx'⟩ : ∃ x', x' = (⟨⟨x.rack.goods, x.rack.issues⟩, x.dlo, x.dhi, x.lines.set i y', x.clo, x.chi⟩ : Lett) := ⟨_, rfl⟩
      have hm : MoreX x x' := by rw [hx']; exact .gen hmo (Int.le_refl _) (Int.le_refl _) (Int.le_refl _) (Int.le_refl _)
      have hl' : x'.lines = x.lines.set i y' := by rw [hx']
      clear hy' hv e hmo
    case' inr.inl =>
      subst h7
      have h3 := gy.sizes
      simp only at h3
      have hw : IntKind.i64.wrap ((ss.length : Int) - 1) = (ss.length : Int) - 1 := wrap_id (by omega)
      have hn : ((ss.length : Int) - 1).toNat = ss.length - 1 := by omega
      simp only [go_sem, @ct E60 13 t13 rfl, t13, @ct E60 14 t14 rfl, t14, @ct E60 17 sTo rfl, sTo, @ct E60 49 sSpin rfl, sSpin, @ct E60 50 t50 rfl, t50, cutC, hx0, lett_eta, callSpec, hxl, hk, List.length_map, hi1, hb1, ← hsp, hii, hi0, Int.toNat_natCast, app, rowsOf, hrows, getD_mapN encLL x.lines i _ hi', hyy, encLL, il_length, il_getD, hl64, hl88, hw, hn]
      refine ⟨fun q => by simp only [Bool.and_eq_true, decide_eq_true_eq] at q; omega, ?_⟩
      by_cases hq : 0 < ss.length ∧ ss.length < 3 ∧ IntKind.i64.wrap (ss.getD (ss.length - 1) 0 + (by' : Int)) < 99
      case' neg =>
        have hf : (decide ((ss.length : Int) > 0) && decide ((ss.length : Int) < 3) && decide (IntKind.i64.wrap (ss.getD (ss.length - 1) 0 + (by' : Int)) < 99)) = false := by
          refine Bool.eq_false_iff.2 fun h => hq ?_
          simp only [Bool.and_eq_true, decide_eq_true_eq] at h
          exact ⟨by omega, by omega, h.2⟩
        rw [hf]
        simp only [go_sem, @ct E60 13 t13 rfl, t13, @ct E60 14 t14 rfl, t14, @ct E60 17 sTo rfl, sTo, @ct E60 49 sSpin rfl, sSpin, @ct E60 50 t50 rfl, t50, cutC, hx0, lett_eta, callSpec, hxl, hk, List.length_map, hi1, hb1, ← hsp, hii, hi0, Int.toNat_natCast, app, rowsOf, hrows, getD_mapN encLL x.lines i _ hi', hyy, encLL, il_length, il_getD, hl64, hl88]
        refine ⟨hi', ?_⟩
        obtain ⟨y', hy'⟩ : ∃ y', y' = (⟨ds, ss, a1, a2, a3, a4, a5⟩ : LLine) := ⟨_, rfl⟩
        have e := List.map_set (f := encLL) (l := x.lines) (i := i) (a := y')
        rw [hy'] at e
        simp only [encLL] at e
        simp only [← e]
        rw [← hy']
        have hmo : MoreL (x.lines.getD i default) y' := by
          rw [hyy, hy']
          exact .refl _
        have hbg : big y'.digits.length ∧ big y'.sizes.length := by
          rw [hy']; exact ⟨by unfold big; show ds.length < _; omega, by unfold big; have := gy.sizes; simp only at this; show ss.length < _; omega⟩
        obtain ⟨x', hx'⟩ : ∃ x', x' = (⟨⟨x.rack.goods, x.rack.issues⟩, x.dlo, x.dhi, x.lines.set i y', x.clo, x.chi⟩ : Lett) := ⟨_, rfl⟩
        have hm : MoreX x x' := by rw [hx']; exact .gen hmo (Int.le_refl _) (Int.le_refl _) (Int.le_refl _) (Int.le_refl _)
        have hl' : x'.lines = x.lines.set i y' := by rw [hx']
        clear hy' e hmo
        clear hf
      case' pos =>
        obtain ⟨q1, q2, q3⟩ := hq
        have hz := gy.size _ (getD_mem (0 : Int) (by omega : ss.length - 1 < ss.length))
        generalize hzz : ss.getD (ss.length - 1) 0 = z at hz q3
        have hz2 : 1 ≤ z ∧ z ≤ 99 := hz
        have w1 : IntKind.i64.wrap (z + (by' : Int)) = z + (by' : Int) := wrap_id (by omega)
        have w2 : IntKind.i64.wrap (z + (by' : Int) + 1) = z + (by' : Int) + 1 := wrap_id (by omega)
        rw [w1] at q3
        have g1 : ((ss.length : Int) > 0) = True := eq_true (by omega)
        have g2 : ((ss.length : Int) < 3) = True := eq_true (by omega)
        have g3 := eq_true q3
        have g4 : (0 ≤ (ss.length : Int) - 1) = True := eq_true (by omega)
        have g5 : ((ss.length : Int) - 1 < (ss.length : Int)) = True := eq_true (by omega)
        have g6 : (ss.length ≤ 1000) = True := eq_true (by omega)
        have g7 : (ss ≠ []) = True := eq_true (fun e => by rw [e] at q1; simp at q1)
        simp only [go_sem, @ct E60 13 t13 rfl, t13, @ct E60 14 t14 rfl, t14, @ct E60 17 sTo rfl, sTo, @ct E60 49 sSpin rfl, sSpin, @ct E60 50 t50 rfl, t50, cutC, hx0, lett_eta, callSpec, hxl, hk, List.length_map, hi1, hb1, ← hsp, hii, hi0, Int.toNat_natCast, app, rowsOf, hrows, getD_mapN encLL x.lines i _ hi', hyy, encLL, il_length, il_getD, hl64, hl88, hw, hn, w1, w2, g1, g2, g3, g4, g5, g6, g7, hzz]
        refine ⟨hi', ?_⟩
        obtain ⟨y', hy'⟩ : ∃ y', y' = (⟨ds, ss ++ [z + (by' : Int) + 1], a1, a2, a3, a4, a5⟩ : LLine) := ⟨_, rfl⟩
        have e := List.map_set (f := encLL) (l := x.lines) (i := i) (a := y')
        rw [hy'] at e
        simp only [encLL] at e
        simp only [← e]
        rw [← hy']
        have hmo : MoreL (x.lines.getD i default) y' := by
          rw [hyy, hy']
          exact .size q1
        have hbg : big y'.digits.length ∧ big y'.sizes.length := by
          rw [hy']; exact ⟨by unfold big; show ds.length < _; omega, by unfold big; show (ss ++ [_]).length < _; rw [List.length_append, List.length_singleton]; omega⟩
        obtain ⟨x', hx'⟩ : ∃ x', x' = (⟨⟨x.rack.goods, x.rack.issues⟩, x.dlo, x.dhi, x.lines.set i y', x.clo, x.chi⟩ : Lett) := ⟨_, rfl⟩
        have hm : MoreX x x' := by rw [hx']; exact .gen hmo (Int.le_refl _) (Int.le_refl _) (Int.le_refl _) (Int.le_refl _)
        have hl' : x'.lines = x.lines.set i y' := by rw [hx']
        clear hy' e hmo
    case' inr.inr.inl =>
      subst h7
      simp only [go_sem, @ct E60 13 t13 rfl, t13, @ct E60 14 t14 rfl, t14, @ct E60 17 sTo rfl, sTo, @ct E60 49 sSpin rfl, sSpin, @ct E60 50 t50 rfl, t50, cutC, hx0, lett_eta, callSpec, hxl, hk, List.length_map, hi1, hb1, ← hsp, hii, hi0, Int.toNat_natCast, app, rowsOf, hrows, getD_mapN encLL x.lines i _ hi', hyy, encLL, il_length, il_getD, hl64, hl88]
      by_cases hq : ss = []
      case' neg =>
        have hf : ((ss.length : Int) == 0) = false := by
          have := List.length_pos_iff.2 hq
          simpa using (by omega : ¬ (ss.length : Int) = 0)
        rw [hf]
        simp only [go_sem, @ct E60 13 t13 rfl, t13, @ct E60 14 t14 rfl, t14, @ct E60 17 sTo rfl, sTo, @ct E60 49 sSpin rfl, sSpin, @ct E60 50 t50 rfl, t50, cutC, hx0, lett_eta, callSpec, hxl, hk, List.length_map, hi1, hb1, ← hsp, hii, hi0, Int.toNat_natCast, app, rowsOf, hrows, getD_mapN encLL x.lines i _ hi', hyy, encLL, il_length, il_getD, hl64, hl88]
        refine ⟨hi', ?_⟩
        obtain ⟨y', hy'⟩ : ∃ y', y' = (⟨ds, ss, a1, a2, a3, a4, a5⟩ : LLine) := ⟨_, rfl⟩
        have e := List.map_set (f := encLL) (l := x.lines) (i := i) (a := y')
        rw [hy'] at e
        simp only [encLL] at e
        simp only [← e]
        rw [← hy']
        have hmo : MoreL (x.lines.getD i default) y' := by
          rw [hyy, hy']
          exact .refl _
        have hbg : big y'.digits.length ∧ big y'.sizes.length := by
          rw [hy']; exact ⟨by unfold big; show ds.length < _; omega, by unfold big; have := gy.sizes; simp only at this; show ss.length < _; omega⟩
        obtain ⟨x', hx'⟩ : ∃ x', x' = (⟨⟨x.rack.goods, x.rack.issues⟩, x.dlo, x.dhi, x.lines.set i y', x.clo, x.chi⟩ : Lett) := ⟨_, rfl⟩
        have hm : MoreX x x' := by rw [hx']; exact .gen hmo (Int.le_refl _) (Int.le_refl _) (Int.le_refl _) (Int.le_refl _)
        have hl' : x'.lines = x.lines.set i y' := by rw [hx']
        clear hy' e hmo
        clear hf
      case' pos =>
        subst hq
        have hft := gy.foot.1 rfl
        simp only at hft
        have ww : IntKind.i64.wrap (a1 - (by' : Int)) = a1 - (by' : Int) := wrap_id (by omega)
        have ww2 : IntKind.i64.wrap (a2 + (by' : Int)) = a2 + (by' : Int) := wrap_id (by omega)
        have hf : ((([] : List Int).length : Int) == 0) = true := rfl
        have hil0 : il ([] : List Int) = [] := rfl
        rw [hf]
        simp only [go_sem, @ct E60 13 t13 rfl, t13, @ct E60 14 t14 rfl, t14, @ct E60 17 sTo rfl, sTo, @ct E60 49 sSpin rfl, sSpin, @ct E60 50 t50 rfl, t50, cutC, hx0, lett_eta, callSpec, hxl, hk, List.length_map, hi1, hb1, ← hsp, hii, hi0, Int.toNat_natCast, app, rowsOf, hrows, getD_mapN encLL x.lines i _ hi', hyy, encLL, il_length, il_getD, hl64, hl88, ww, ww2, hf]
        obtain ⟨A, hA⟩ : ∃ A, A = (if a1 - (by' : Int) > 1 then a1 - (by' : Int) else 1) := ⟨_, rfl⟩
        obtain ⟨B, hB⟩ : ∃ B, B = (if a2 + (by' : Int) < 400 then a2 + (by' : Int) else 400) := ⟨_, rfl⟩
        have hA1 : A ≤ a1 := by rw [hA]; split <;> omega
        have hB1 : a2 ≤ B := by rw [hB]; split <;> omega
        simp only [← hA, ← hB]
        refine ⟨hi', ?_⟩
        obtain ⟨y', hy'⟩ : ∃ y', y' = (⟨ds, [], A, B, a3, a4, a5⟩ : LLine) := ⟨_, rfl⟩
        have e := List.map_set (f := encLL) (l := x.lines) (i := i) (a := y')
        rw [hy'] at e
        simp only [encLL] at e
        simp only [← e]
        rw [← hy']
        have hmo : MoreL (x.lines.getD i default) y' := by
          rw [hyy, hy']
          exact .foot hA1 hB1
        have hbg : big y'.digits.length ∧ big y'.sizes.length := by
          rw [hy']; exact ⟨by unfold big; show ds.length < _; omega, by unfold big; show ([] : List Int).length < _; simp⟩
        obtain ⟨x', hx'⟩ : ∃ x', x' = (⟨⟨x.rack.goods, x.rack.issues⟩, x.dlo, x.dhi, x.lines.set i y', x.clo, x.chi⟩ : Lett) := ⟨_, rfl⟩
        have hm : MoreX x x' := by rw [hx']; exact .gen hmo (Int.le_refl _) (Int.le_refl _) (Int.le_refl _) (Int.le_refl _)
        have hl' : x'.lines = x.lines.set i y' := by rw [hx']
        clear hy' e hmo
        clear hA hB
    case' inr.inr.inr.inl =>
      subst h7
      have hs4 := spin_range (n := (by' : Int)) (m := 4) (by omega)
      obtain ⟨d4, hd4⟩ := Int.eq_ofNat_of_zero_le hs4.1
      rw [hd4] at hs4
      have hd40 : (0 ≤ (d4 : Int)) = True := eq_true (by omega)
      simp only [go_sem, @ct E60 13 t13 rfl, t13, @ct E60 14 t14 rfl, t14, @ct E60 17 sTo rfl, sTo, @ct E60 49 sSpin rfl, sSpin, @ct E60 50 t50 rfl, t50, cutC, hx0, lett_eta, callSpec, hxl, hk, List.length_map, hi1, hb1, ← hsp, hii, hi0, Int.toNat_natCast, app, rowsOf, hrows, getD_mapN encLL x.lines i _ hi', hyy, encLL, il_length, il_getD, hl64, hl88, hd4, hd40]
      generalize hv : bits BinOp.or .i64 a3 (shft true .i64 1 (d4 : Int)) = v
      refine ⟨hi', ?_⟩
      obtain ⟨y', hy'⟩ : ∃ y', y' = (⟨ds, ss, a1, a2, v, a4, a5⟩ : LLine) := ⟨_, rfl⟩
      have e := List.map_set (f := encLL) (l := x.lines) (i := i) (a := y')
      rw [hy'] at e
      simp only [encLL] at e
      simp only [← e]
      rw [← hy']
      have hmo : MoreL (x.lines.getD i default) y' := by
        rw [hyy, hy']
        refine .col fun q hq hin => ?_
        rw [← hv]
        have := gy.colours
        simp only at this
        exact or_more (by omega) (by omega) (by omega) q hin
      have hbg : big y'.digits.length ∧ big y'.sizes.length := by
        rw [hy']; exact ⟨by unfold big; show ds.length < _; omega, by unfold big; have := gy.sizes; simp only at this; show ss.length < _; omega⟩
      obtain ⟨x', hx'⟩ : ∃ x', x' = (⟨⟨x.rack.goods, x.rack.issues⟩, x.dlo, x.dhi, x.lines.set i y', x.clo, x.chi⟩ : Lett) := ⟨_, rfl⟩
      have hm : MoreX x x' := by rw [hx']; exact .gen hmo (Int.le_refl _) (Int.le_refl _) (Int.le_refl _) (Int.le_refl _)
      have hl' : x'.lines = x.lines.set i y' := by rw [hx']
      clear hy' e hmo
      clear hv
    case' inr.inr.inr.inr.inl =>
      subst h7
      have hmn := gy.many
      simp only at hmn
      have ww : IntKind.i64.wrap (a4 + 1) = a4 + 1 := wrap_id (by omega)
      simp only [go_sem, @ct E60 13 t13 rfl, t13, @ct E60 14 t14 rfl, t14, @ct E60 17 sTo rfl, sTo, @ct E60 49 sSpin rfl, sSpin, @ct E60 50 t50 rfl, t50, cutC, hx0, lett_eta, callSpec, hxl, hk, List.length_map, hi1, hb1, ← hsp, hii, hi0, Int.toNat_natCast, app, rowsOf, hrows, getD_mapN encLL x.lines i _ hi', hyy, encLL, il_length, il_getD, hl64, hl88, ww]
      obtain ⟨M, hM⟩ : ∃ M, M = (if (if a4 + 1 < 1000 then a4 + 1 else 1000) > a5 then (if a4 + 1 < 1000 then a4 + 1 else 1000) else a5) := ⟨_, rfl⟩
      have hM1 : a5 ≤ M := by rw [hM]; split <;> omega
      simp only [← hM]
      refine ⟨hi', ?_⟩
      obtain ⟨y', hy'⟩ : ∃ y', y' = (⟨ds, ss, a1, a2, a3, a4, M⟩ : LLine) := ⟨_, rfl⟩
      have e := List.map_set (f := encLL) (l := x.lines) (i := i) (a := y')
      rw [hy'] at e
      simp only [encLL] at e
      simp only [← e]
      rw [← hy']
      have hmo : MoreL (x.lines.getD i default) y' := by
        rw [hyy, hy']
        exact .many hM1
      have hbg : big y'.digits.length ∧ big y'.sizes.length := by
        rw [hy']; exact ⟨by unfold big; show ds.length < _; omega, by unfold big; have := gy.sizes; simp only at this; show ss.length < _; omega⟩
      obtain ⟨x', hx'⟩ : ∃ x', x' = (⟨⟨x.rack.goods, x.rack.issues⟩, x.dlo, x.dhi, x.lines.set i y', x.clo, x.chi⟩ : Lett) := ⟨_, rfl⟩
      have hm : MoreX x x' := by rw [hx']; exact .gen hmo (Int.le_refl _) (Int.le_refl _) (Int.le_refl _) (Int.le_refl _)
      have hl' : x'.lines = x.lines.set i y' := by rw [hx']
      clear hy' e hmo
      clear hM
    case' inr.inr.inr.inr.inr.inl =>
      subst h7
      have hdd := hG.days
      have hda := hdd.lo
      have hdb := hdd.hi
      have hdc := hdd.le
      have ww : IntKind.i64.wrap (x.dlo - (by' : Int)) = x.dlo - (by' : Int) := wrap_id (by omega)
      have ww2 : IntKind.i64.wrap (x.dhi + (by' : Int)) = x.dhi + (by' : Int) := wrap_id (by omega)
      simp only [go_sem, @ct E60 13 t13 rfl, t13, @ct E60 14 t14 rfl, t14, @ct E60 17 sTo rfl, sTo, @ct E60 49 sSpin rfl, sSpin, @ct E60 50 t50 rfl, t50, cutC, hx0, lett_eta, callSpec, hxl, hk, List.length_map, hi1, hb1, ← hsp, hii, hi0, Int.toNat_natCast, app, rowsOf, hrows, getD_mapN encLL x.lines i _ hi', hyy, encLL, il_length, il_getD, hl64, hl88, ww, ww2]
      obtain ⟨A, hA⟩ : ∃ A, A = (if x.dlo - (by' : Int) > 0 then x.dlo - (by' : Int) else 0) := ⟨_, rfl⟩
      obtain ⟨B, hB⟩ : ∃ B, B = (if x.dhi + (by' : Int) < 20000 then x.dhi + (by' : Int) else 20000) := ⟨_, rfl⟩
      have hA1 : A ≤ x.dlo := by rw [hA]; split <;> omega
      have hB1 : x.dhi ≤ B := by rw [hB]; split <;> omega
      simp only [← hA, ← hB]
      refine ⟨hi', ?_⟩
      obtain ⟨y', hy'⟩ : ∃ y', y' = (⟨ds, ss, a1, a2, a3, a4, a5⟩ : LLine) := ⟨_, rfl⟩
      have e := List.map_set (f := encLL) (l := x.lines) (i := i) (a := y')
      rw [hy'] at e
      simp only [encLL] at e
      simp only [← e]
      rw [← hy']
      have hmo : MoreL (x.lines.getD i default) y' := by
        rw [hyy, hy']
        exact .refl _
      have hbg : big y'.digits.length ∧ big y'.sizes.length := by
        rw [hy']; exact ⟨by unfold big; show ds.length < _; omega, by unfold big; have := gy.sizes; simp only at this; show ss.length < _; omega⟩
      obtain ⟨x', hx'⟩ : ∃ x', x' = (⟨⟨x.rack.goods, x.rack.issues⟩, A, B, x.lines.set i y', x.clo, x.chi⟩ : Lett) := ⟨_, rfl⟩
      have hm : MoreX x x' := by rw [hx']; exact .gen hmo hA1 hB1 (Int.le_refl _) (Int.le_refl _)
      have hl' : x'.lines = x.lines.set i y' := by rw [hx']
      clear hy' e hmo
      clear hA hB
    case' inr.inr.inr.inr.inr.inr =>
      subst h7
      obtain ⟨hca, hcb, hcc⟩ := hG.money
      have w50 : IntKind.i64.wrap (50 * (by' : Int)) = 50 * (by' : Int) := wrap_id (by omega)
      have ww : IntKind.i64.wrap (x.clo - 50 * (by' : Int)) = x.clo - 50 * (by' : Int) := wrap_id (by omega)
      have ww2 : IntKind.i64.wrap (x.chi + 50 * (by' : Int)) = x.chi + 50 * (by' : Int) := wrap_id (by omega)
      simp only [go_sem, @ct E60 13 t13 rfl, t13, @ct E60 14 t14 rfl, t14, @ct E60 17 sTo rfl, sTo, @ct E60 49 sSpin rfl, sSpin, @ct E60 50 t50 rfl, t50, cutC, hx0, lett_eta, callSpec, hxl, hk, List.length_map, hi1, hb1, ← hsp, hii, hi0, Int.toNat_natCast, app, rowsOf, hrows, getD_mapN encLL x.lines i _ hi', hyy, encLL, il_length, il_getD, hl64, hl88, w50, ww, ww2]
      obtain ⟨A, hA⟩ : ∃ A, A = (if x.clo - 50 * (by' : Int) > 0 then x.clo - 50 * (by' : Int) else 0) := ⟨_, rfl⟩
      obtain ⟨B, hB⟩ : ∃ B, B = (if x.chi + 50 * (by' : Int) < 10000000 then x.chi + 50 * (by' : Int) else 10000000) := ⟨_, rfl⟩
      have hA1 : A ≤ x.clo := by rw [hA]; split <;> omega
      have hB1 : x.chi ≤ B := by rw [hB]; split <;> omega
      simp only [← hA, ← hB]
      refine ⟨hi', ?_⟩
      obtain ⟨y', hy'⟩ : ∃ y', y' = (⟨ds, ss, a1, a2, a3, a4, a5⟩ : LLine) := ⟨_, rfl⟩
      have e := List.map_set (f := encLL) (l := x.lines) (i := i) (a := y')
      rw [hy'] at e
      simp only [encLL] at e
      simp only [← e]
      rw [← hy']
      have hmo : MoreL (x.lines.getD i default) y' := by
        rw [hyy, hy']
        exact .refl _
      have hbg : big y'.digits.length ∧ big y'.sizes.length := by
        rw [hy']; exact ⟨by unfold big; show ds.length < _; omega, by unfold big; have := gy.sizes; simp only at this; show ss.length < _; omega⟩
      obtain ⟨x', hx'⟩ : ∃ x', x' = (⟨⟨x.rack.goods, x.rack.issues⟩, x.dlo, x.dhi, x.lines.set i y', A, B⟩ : Lett) := ⟨_, rfl⟩
      have hm : MoreX x x' := by rw [hx']; exact .gen hmo (Int.le_refl _) (Int.le_refl _) hA1 hB1
      have hl' : x'.lines = x.lines.set i y' := by rw [hx']
      clear hy' e hmo
      clear hA hB
    all_goals as_aux_lemma =>
      have hxl' : LOk x' = True := eq_true (hx.more hm.rack (by unfold big; rw [hm.len]; omega) fun z hz => by
        rw [hl'] at hz
        rcases List.mem_or_eq_of_mem_set hz with q | q
        · exact .inl q
        · exact .inr (q ▸ hbg))
      have hmy : manyPV x = .tup [.int .i64 (allM x).length, .int .i64 0] := by unfold manyPV; rw [if_pos hk]
      cases hk2 : lettOk x' with
      | false =>
        have hmy' : manyPV x' = .tup [.int .i64 0, .int .i64 20] := by unfold manyPV; rw [if_neg (by rw [hk2]; simp)]
        simp only [go_sem, @ct E60 14 t14 rfl, t14, @ct E60 21 t21 rfl, t21, tl10, tailC, Tryz.f10, callSpec, hx0, lett_eta, hxl, hmy, ← hx', hxl', hmy', List.length_set]
      | true =>
        have hG' := lett_good hk2
        have hmy' : manyPV x' = .tup [.int .i64 (allM x').length, .int .i64 0] := by unfold manyPV; rw [if_pos hk2]
        obtain ⟨T, g, h1, hTk, hT0, hT64⟩ : ∃ (T : List Ord2) (g : Int), ordersPV x = .tup [.sl (T.map (rowO x)) true, .int .i64 g] ∧ (∀ o ∈ T, o ∈ keysM x) ∧ (g = 0 → T.length = (allM x).length) ∧ T.length ≤ 64 := by
          by_cases h0 : sortedM x = []
          · exact ⟨[], 4, by unfold ordersPV; rw [if_pos hk, if_pos h0]; rfl, (fun o h => by cases h), (fun h => by cases h), by simp⟩
          · by_cases h64 : 64 < (sortedM x).length
            · exact ⟨[], 6, by unfold ordersPV; rw [if_pos hk, if_neg h0, if_pos h64]; rfl, (fun o h => by cases h), (fun h => by cases h), by simp⟩
            · exact ⟨sortedM x, 0, ordersPV_ok hk h0 h64, fun o h => mem_sorted.1 h, fun _ => sorted_len x, by omega⟩
        have hlS : (T.map (rowO x)).length = T.length := List.length_map ..
        have hfin : ((g == 0) && ((T.length : Int) != ((allM x).length : Int))) = false := by
          by_cases hg : g = 0
          · rw [hT0 hg]; simp
          · simp [hg]
        have hle := more_len hm hG hG'
        have b1 : (((allM x').length : Int) < ((allM x).length : Int)) = False := eq_false (by omega)
        simp only [go_sem, @ct E60 14 t14 rfl, t14, @ct E60 15 t15 rfl, t15, @ct E60 21 t21 rfl, t21, tl10, tailC, Tryz.f10, callSpec, hx0, lett_eta, hxl, hmy, ← hx', hxl', hmy', h1, b1, List.length_set, hlS]
        rw [hfin]
        simp only [go_sem]
        refine ev_loopS [5, 13] (fun k : Nat => [(15, .int .i64 k)]) (fun k H => k ≤ T.length ∧ H ([], 10003001) = some (.cells [.int .i64 x'.rack.goods, .sl (x'.rack.issues.map encI) false, .int .i64 x'.dlo, .int .i64 x'.dhi, .sref ([], 10005003) 1 7 x'.lines.length false, .int .i64 x'.clo, .int .i64 x'.chi] 1 false)
          ∧ H ([], 10005003) = some (.rows 7 (x'.lines.map encLL) 1 false)) (fun k => T.length - k) 0 ?_ ⟨Nat.zero_le _, ?_, ?_⟩ ?_
        · simp only [go_sem, Int.natCast_zero]
        · simp only [go_sem, hx', List.length_set]
        · simp only [go_sem, hl']
        · simp only [go_sem, hlS]
          intro K k H ⟨hkS, w1, w2⟩ hK hE
          rw [condK_bool]
          refine ⟨fun h => ?_, fun h => ?_⟩
          · have hk3 : k < T.length := by have := of_decide_eq_true h; omega
            have hkk3 : ((k : Int) < (T.length : Int)) = True := eq_true (by omega)
            have hk30 : (0 ≤ (k : Int)) = True := eq_true (by omega)
            have w3 : IntKind.i64.wrap ((k : Int) + 1) = (k : Int) + 1 := wrap_id (by omega)
            have hmS := getD_mem (default : Ord2) hk3
            generalize hO : T.getD k default = o at hmS
            have hko := hTk o hmS
            have hrow : rowO x o = [.sl ((linesO x o).map encL) true] := rfl
            have hbo : big (linesO x o).length = True := eq_true (by rw [linesO_len hG.n]; unfold big; omega)
            have hw := when_of (y := x') hG.days hG.n hm.len hko
            have vI : isOrdM x' (linesO x o) = .tup [.bool true, .int .i64 0] := by
              obtain ⟨g, hg⟩ := mem_keysM.1 (more_keys hm hG hG' hko)
              unfold isOrdM; rw [if_pos hk2, hw, hg]; rfl
            simp only [go_sem, @ct E60 18 t18 rfl, t18, callSpec, w1, w2, hkk3, hk30, Int.toNat_natCast, hlS, getD_mapN (rowO x) T k _ hk3, hO, hrow, dec_lines, List.length_map, lett_eta, hxl', hbo, vI]
            refine hK (k + 1) _ _ ?_ ⟨by omega, ?_, ?_⟩ (by omega)
            · simp only [go_sem, w3, Int.natCast_add, Int.natCast_one]
            · simp only [go_sem, w1]
            · simp only [go_sem, w2]
          · refine hE _ _ _ (by simp) ?_
            simp only [go_sem, @ct E60 14 t14 rfl, t14]
end Wb
