import Derived.Test.YtaihkflmkopliaaDoorU
set_option linter.unusedVariables false
set_option linter.unusedSimpArgs false
/- BookFoot. -/
namespace Wb
open Go Go.Proofs Enc Row
set_option linter.unusedSimpArgs false
set_option linter.unusedVariables false
set_option maxRecDepth 20000
set_option maxHeartbeats 4000000
theorem entErr_of {r : Rack} (hk : rackOk r = true) {q : Rack → Bool} (hq : q r = true) {i : Nat} (hi : i < r.issues.length) (n : Int) :
    entErr r q i n = match entNo n (r.issues.getD i default).entries with | some e => (some e, 0) | none => (none, 4) := by
  unfold entErr
  rw [if_pos hk, if_pos hq]
  have : entAt r i n = entNo n (r.issues.getD i default).entries := by
    unfold entAt; rw [if_pos (by omega)]; rfl
  rw [this]
  cases entNo n (r.issues.getD i default).entries <;> rfl
theorem qSizes_of {r : Rack} {i : Nat} (hi : i < r.issues.length) {n : Int} (hn : 1 ≤ n ∧ n ≤ 9999) {d : Int × Int} (hd : 1 ≤ d.1 ∧ d.1 ≤ d.2 ∧ d.2 ≤ 400) : qSizes i n d r = true := by
  unfold qSizes isIssB isNumB isFootB
  simp only [Bool.and_eq_true, decide_eq_true_eq]; omega
theorem foot_none {r : Rack} (hk : rackOk r = true) {i : Nat} (hi : i < r.issues.length) (he : (r.issues.getD i default).entries = []) {d : Int × Int} (hd : 1 ≤ d.1 ∧ d.1 ≤ d.2 ∧ d.2 ≤ 400) : fitsM r i 1 d = ([], 4) := by
  unfold fitsM
  rw [entErr_of hk (qSizes_of hi (by omega) hd) hi, he]; rfl
theorem foot_ent {r : Rack} (hk : rackOk r = true) {i : Nat} (hi : i < r.issues.length) {y : Entry} (hy : y ∈ (r.issues.getD i default).entries) {d : Int × Int} (hd : 1 ≤ d.1 ∧ d.1 ≤ d.2 ∧ d.2 ≤ 400) :
    fitsM r i y.number d = (fitsL d y.sizes, 0) ∧ sureM r i y.number d = match y.sizes.find? (sureP d) with | some f => (f.size, 0) | none => (0, 4) := by
  have hG := rack_good hk
  have hg := hG.issues (r.issues.getD i default) (by simp [List.getD_eq_getElem?_getD, hi])
  have hge := hg.entries y hy
  have e := entErr_of hk (qSizes_of hi hge.number hd) hi y.number
  rw [entNo_of hg.numbers hy] at e
  unfold fitsM sureM
  rw [e]
  exact ⟨rfl, rfl⟩
theorem mem_fitsL {d : Int × Int} {l : List Fit} (hr : (l.map (·.size)).Pairwise (· < ·)) {z : Fit} (hz : z ∈ l) : z.size ∈ fitsL d l ↔ someP d z = true := by
  unfold fitsL
  rw [List.mem_map]
  constructor
  · rintro ⟨f, hf, e⟩
    obtain ⟨h1, h2⟩ := List.mem_filter.1 hf
    have : f = z := by
      have key : ∀ l : List Fit, (l.map (·.size)).Pairwise (· < ·) → f ∈ l → z ∈ l → f = z := by
        intro l
        induction l with
        | nil => intro _ h; cases h
        | cons a l ih =>
          intro hp hf hz
          rw [List.map_cons] at hp
          have hlt : ∀ b ∈ l, a.size < b.size := fun b hb => List.rel_of_pairwise_cons hp (List.mem_map.2 ⟨b, hb, rfl⟩)
          rcases List.mem_cons.1 hf with h3 | h3
          · rcases List.mem_cons.1 hz with h4 | h4
            · rw [h3, h4]
            · have := hlt z h4; rw [← h3] at this; omega
          · rcases List.mem_cons.1 hz with h4 | h4
            · have := hlt f h3; rw [← h4] at this; omega
            · exact ih hp.tail h3 h4
      exact key l hr h1 hz
    rw [← this]; exact h2
  · intro h
    exact ⟨z, List.mem_filter.2 ⟨hz, h⟩, rfl⟩
/-- Which size makes it sure. -/
def sureQ (a t lo hi : Int) (z : Fit) : Bool := (z.size == a) && (decide (z.lo ≤ t) && decide (t ≤ z.hi)) && (decide (z.lo ≤ lo) && decide (lo ≤ z.hi)) && (decide (z.lo ≤ hi) && decide (hi ≤ z.hi))
theorem foot_law (r : Rack) (hr : okRack r) (n0 n1 k0 k1 k2 k3 : Int) : Fn E41 0 15 Tryd.f15 (Tryd.f15.body.getD .skip) [.agg (encR r), .agg [.int .i64 n0, .int .i64 n1], .agg [.int .i64 k0, .int .i64 k1, .int .i64 k2, .int .i64 k3]] (.bool true) := by
  obtain ⟨g, l⟩ := r
  cases hk : rackOk ⟨g, l⟩ with
  | false => unfold Fn Tryd.f15; simp only [go_sem, Nat.reduceAdd, Nat.reduceSub, Nat.reduceMul, Nat.reduceEqDiff, Nat.reduceLT, Nat.reduceLeDiff, Nat.reduceBEq, Nat.reduceBNe, Int.reduceToNat, Int.reduceLE, Int.reduceLT, Int.reduceNe, Int.reduceNeg, reduceCtorEq, Int.reduceBEq, Int.reduceBNe, @callV_spec E41 42 s42 rfl, @callV_specT E41 42 s42 rfl, @stepV_spec E41 42 s42 rfl, @effV_spec E41 42 s42 rfl, s42, @callV_spec E41 27 s27 rfl, @callV_specT E41 27 s27 rfl, @stepV_spec E41 27 s27 rfl, @effV_spec E41 27 s27 rfl, s27, encR, callSpec, hr, hk]
  | true =>
    have hG := rack_good hk
    have hl := hG.len
    simp only at hl
    obtain ⟨s1, s2⟩ := spin_range (n := n0) (m := (l.length : Int)) (by omega)
    obtain ⟨i, hi⟩ : ∃ i : Nat, spinF n0 (l.length : Int) = (i : Int) := ⟨(spinF n0 (l.length : Int)).toNat, by omega⟩
    have hil : i < l.length := by omega
    have hii : (i : Int) < (l.length : Int) := by omega
    have hlw : ((l.length : Int) ≤ 9223372036854775807) = True := eq_true (by omega)
    obtain ⟨p1, p2⟩ := spin_range (n := k0) (m := 400) (by omega)
    obtain ⟨q1, q2⟩ := spin_range (n := k1) (m := 30) (by omega)
    have w1 : IntKind.i64.wrap (1 + spinF k0 400) = 1 + spinF k0 400 := wrap_id (by omega)
    generalize hlo : 1 + spinF k0 400 = lo at *
    have w2 : IntKind.i64.wrap (lo + spinF k1 30) = lo + spinF k1 30 := wrap_id (by omega)
    have hxi : l.getD i default ∈ l := by simp [List.getD_eq_getElem?_getD, hil]
    have hfn := fun h d hd => foot_none hk (i := i) hil h (d := d) hd
    have hfe := fun y h d hd => foot_ent hk (i := i) hil (y := y) h (d := d) hd
    have hgi := hG.issues _ hxi
    generalize hx : l.getD i default = x at *
    obtain ⟨h, hhi⟩ : ∃ h, (if lo + spinF k1 30 < 400 then lo + spinF k1 30 else 400) = h := ⟨_, rfl⟩
    have hh : lo ≤ h ∧ h ≤ 400 := by split at hhi <;> omega
    obtain ⟨t1, t2⟩ := lot_range (a := lo) (b := h) k2 hh.1
    generalize ht : lotF lo h k2 = t at *
    obtain ⟨u1, u2⟩ := lot_range (a := lo) (b := t) k3 t1
    generalize hu : lotF lo t k3 = u at *
    obtain ⟨v1, v2⟩ := lot_range (a := t) (b := h) k3 t2
    generalize hv : lotF t h k3 = v at *
    have c1 : 0 ≤ lo := by omega
    have c2 : lo ≤ 1000000000 := by omega
    have c3 : 0 ≤ h := by omega
    have c4 : h ≤ 1000000000 := by omega
    have c5 : 0 ≤ t := by omega
    have c6 : t ≤ 1000000000 := by omega
    unfold Fn Tryd.f15
    by_cases hem : x.entries = []
    · have hf := hfn hem (lo, h) ⟨by simp only; omega, by simp only; omega, by simp only; omega⟩
      simp only [go_sem, Nat.reduceAdd, Nat.reduceSub, Nat.reduceMul, Nat.reduceEqDiff, Nat.reduceLT, Nat.reduceLeDiff, Nat.reduceBEq, Nat.reduceBNe, Int.reduceToNat, Int.reduceLE, Int.reduceLT, Int.reduceNe, Int.reduceNeg, reduceCtorEq, Int.reduceBEq, Int.reduceBNe, @callV_spec E41 42 s42 rfl, @callV_specT E41 42 s42 rfl, @stepV_spec E41 42 s42 rfl, @effV_spec E41 42 s42 rfl, s42, @callV_spec E41 43 sSpin rfl, @callV_specT E41 43 sSpin rfl, @stepV_spec E41 43 sSpin rfl, @effV_spec E41 43 sSpin rfl, sSpin, @callV_spec E41 44 sTo rfl, @callV_specT E41 44 sTo rfl, @stepV_spec E41 44 sTo rfl, @effV_spec E41 44 sTo rfl, sTo, @callV_spec E41 45 s45 rfl, @callV_specT E41 45 s45 rfl, @stepV_spec E41 45 s45 rfl, @effV_spec E41 45 s45 rfl, s45, @callV_spec E41 38 s38 rfl, @callV_specT E41 38 s38 rfl, @stepV_spec E41 38 s38 rfl, @effV_spec E41 38 s38 rfl, s38, @callV_spec E41 27 s27 rfl, @callV_specT E41 27 s27 rfl, @stepV_spec E41 27 s27 rfl, @effV_spec E41 27 s27 rfl, s27, encR, callSpec, hr, hk, hG, hi, hii, hlw, w1, w2, hlo, getD_mapN encI l i _ hil, hx, encI, hem, hhi, lot_eq, ht, hu, hv, c1, c2, c3, c4, c5, c6, hf, List.length_map, List.map_nil]
    · have hel : 0 < x.entries.length := List.length_pos_iff.2 hem
      have he24 := hgi.len
      obtain ⟨e1, e2⟩ := spin_range (n := n1) (m := (x.entries.length : Int)) (by omega)
      obtain ⟨j, hj⟩ : ∃ j : Nat, spinF n1 (x.entries.length : Int) = (j : Int) := ⟨(spinF n1 (x.entries.length : Int)).toNat, by omega⟩
      have hjl : j < x.entries.length := by omega
      have hjj : (j : Int) < (x.entries.length : Int) := by omega
      have hxw : ((x.entries.length : Int) ≤ 9223372036854775807) = True := eq_true (by omega)
      have hx0 : ((x.entries.length : Int) == 0) = false := by simp; omega
      have hym : x.entries.getD j default ∈ x.entries := by simp [List.getD_eq_getElem?_getD, hjl]
      have hgy := hgi.entries _ hym
      obtain ⟨F1, F2⟩ := hfe _ hym (lo, h) ⟨by simp only; omega, by simp only; omega, by simp only; omega⟩
      obtain ⟨B1, B2⟩ := hfe _ hym (u, v) ⟨by simp only; omega, by simp only; omega, by simp only; omega⟩
      generalize hy : x.entries.getD j default = y at *
      generalize hLf : fitsL (lo, h) y.sizes = Lf at *
      generalize hLb : fitsL (u, v) y.sizes = Lb at *
      obtain ⟨a, ge, ge2, hsu, hsb, hcs⟩ : ∃ a ge ge2, sureM ⟨g, l⟩ i y.number (lo, h) = (a, ge) ∧ (∃ b, sureM ⟨g, l⟩ i y.number (u, v) = (b, ge2)) ∧ ((ge = 0 ∧ ge2 = 0 ∧ ∃ f ∈ y.sizes, sureP (lo, h) f = true ∧ f.size = a) ∨ (ge = 4 ∧ a = 0 ∧ (ge2 = 0 ∨ ge2 = 4))) := by
        rw [F2, B2]
        cases hs : y.sizes.find? (sureP (lo, h)) with
        | none =>
          refine ⟨0, 4, _, rfl, ⟨_, rfl⟩, .inr ⟨rfl, rfl, ?_⟩⟩
          cases y.sizes.find? (sureP (u, v)) with
          | none => exact .inr rfl
          | some f => exact .inl rfl
        | some f =>
          have hfm := List.mem_of_find?_eq_some hs
          have hfp := List.find?_some hs
          have hb : sureP (u, v) f = true := by
            unfold sureP at hfp ⊢
            simp only [Bool.and_eq_true, decide_eq_true_eq] at hfp ⊢; omega
          refine ⟨f.size, 0, _, rfl, ⟨_, rfl⟩, .inl ⟨rfl, ?_, f, hfm, hfp, rfl⟩⟩
          cases hs2 : y.sizes.find? (sureP (u, v)) with
          | none =>
            have := List.find?_eq_none.1 hs2 f hfm
            exact absurd hb this
          | some f2 => rfl
      obtain ⟨bb, hsb⟩ := hsb
      simp only [go_sem, Nat.reduceAdd, Nat.reduceSub, Nat.reduceMul, Nat.reduceEqDiff, Nat.reduceLT, Nat.reduceLeDiff, Nat.reduceBEq, Nat.reduceBNe, Int.reduceToNat, Int.reduceLE, Int.reduceLT, Int.reduceNe, Int.reduceNeg, reduceCtorEq, Int.reduceBEq, Int.reduceBNe, @callV_spec E41 42 s42 rfl, @callV_specT E41 42 s42 rfl, @stepV_spec E41 42 s42 rfl, @effV_spec E41 42 s42 rfl, s42, @callV_spec E41 43 sSpin rfl, @callV_specT E41 43 sSpin rfl, @stepV_spec E41 43 sSpin rfl, @effV_spec E41 43 sSpin rfl, sSpin, @callV_spec E41 44 sTo rfl, @callV_specT E41 44 sTo rfl, @stepV_spec E41 44 sTo rfl, @effV_spec E41 44 sTo rfl, sTo, @callV_spec E41 45 s45 rfl, @callV_specT E41 45 s45 rfl, @stepV_spec E41 45 s45 rfl, @effV_spec E41 45 s45 rfl, s45, @callV_spec E41 38 s38 rfl, @callV_specT E41 38 s38 rfl, @stepV_spec E41 38 s38 rfl, @effV_spec E41 38 s38 rfl, s38, @callV_spec E41 40 s40 rfl, @callV_specT E41 40 s40 rfl, @stepV_spec E41 40 s40 rfl, @effV_spec E41 40 s40 rfl, s40, encR, callSpec, hr, hk, hG, hi, hii, hlw, w1, w2, hlo, getD_mapN encI l i _ hil, hx, encI, hj, hjj, hxw, hx0, getD_mapN encE x.entries j _ hjl, hy, encE, hhi, lot_eq, ht, hu, hv, c1, c2, c3, c4, c5, c6, F1, B1, hLf, hLb, hsu, hsb, List.length_map]
      have hcond : (ge != 0 && (ge != 4 || a != 0) || ge == 0 && ge2 != 0 || ge2 != 0 && ge2 != 4) = false := by
        rcases hcs with ⟨rfl, rfl, _⟩ | ⟨rfl, rfl, rfl | rfl⟩ <;> rfl
      refine ⟨fun a b => ⟨a, b⟩, fun a b => ⟨a, b⟩, fun a b => ⟨a, b⟩, ?_⟩
      rw [hcond]
      have hrise := hgy.rising
      have hfg := hgy.fits
      have hsz := hgy.sizes
      have hlenf := fitsL_len (lo, h) y.sizes
      rw [hLf] at hlenf
      have hmf := fun z hz => mem_fitsL (d := (lo, h)) hrise (z := z) hz
      have hmb := fun z hz => mem_fitsL (d := (u, v)) hrise (z := z) hz
      rw [hLf] at hmf
      rw [hLb] at hmb
      have hbLf : big Lf.length = True := eq_true (by unfold big; omega)
      have hlenb := fitsL_len (u, v) y.sizes
      rw [hLb] at hlenb
      have hbLb : big Lb.length = True := eq_true (by unfold big; omega)
      obtain ⟨yn, yg, yc, ys⟩ := y
      simp only at hmf hmb hlenf hlenb hsz hfg hcs
      simp only [go_sem, Nat.reduceAdd, Nat.reduceSub, Nat.reduceMul, Nat.reduceEqDiff, Nat.reduceLT, Nat.reduceLeDiff, Nat.reduceBEq, Nat.reduceBNe, Int.reduceToNat, Int.reduceLE, Int.reduceLT, Int.reduceNe, Int.reduceNeg, reduceCtorEq, Int.reduceBEq, Int.reduceBNe]
      refine ev_loopS [10, 11, 15, 16, 18, 20, 21] (fun m : Nat => [(24, .bool ((ys.take m).any (sureQ a t lo h))), (25, .int .i64 m)])
        (fun m H => m ≤ ys.length ∧ H (([], 15006008) : Key) = some (.cells [.int .i64 lo, .int .i64 h] 1 false) ∧ H (([], 15012008) : Key) = some (.cells [.int .i64 yn, .int .i64 yg, .int .i64 yc, .sl (ys.map encF) false] 1 false))
        (fun m => ys.length - m) 0 ?_ ⟨Nat.zero_le _, ?_, ?_⟩ ?_
      · simp only [go_sem, Nat.reduceAdd, Nat.reduceSub, Nat.reduceMul, Nat.reduceEqDiff, Nat.reduceLT, Nat.reduceLeDiff, Nat.reduceBEq, Nat.reduceBNe, Int.reduceToNat, Int.reduceLE, Int.reduceLT, Int.reduceNe, Int.reduceNeg, reduceCtorEq, Int.reduceBEq, Int.reduceBNe, List.take_zero, List.any_nil, Int.natCast_zero]
      · simp only [go_sem, Nat.reduceAdd, Nat.reduceSub, Nat.reduceMul, Nat.reduceEqDiff, Nat.reduceLT, Nat.reduceLeDiff, Nat.reduceBEq, Nat.reduceBNe, Int.reduceToNat, Int.reduceLE, Int.reduceLT, Int.reduceNe, Int.reduceNeg, reduceCtorEq, Int.reduceBEq, Int.reduceBNe]
      · simp only [go_sem, Nat.reduceAdd, Nat.reduceSub, Nat.reduceMul, Nat.reduceEqDiff, Nat.reduceLT, Nat.reduceLeDiff, Nat.reduceBEq, Nat.reduceBNe, Int.reduceToNat, Int.reduceLE, Int.reduceLT, Int.reduceNe, Int.reduceNeg, reduceCtorEq, Int.reduceBEq, Int.reduceBNe]
      · simp only [go_sem, Nat.reduceAdd, Nat.reduceSub, Nat.reduceMul, Nat.reduceEqDiff, Nat.reduceLT, Nat.reduceLeDiff, Nat.reduceBEq, Nat.reduceBNe, Int.reduceToNat, Int.reduceLE, Int.reduceLT, Int.reduceNe, Int.reduceNeg, reduceCtorEq, Int.reduceBEq, Int.reduceBNe]
        intro K m H ⟨hm, g1, g2⟩ hK hE
        simp only [go_sem, Nat.reduceAdd, Nat.reduceSub, Nat.reduceMul, Nat.reduceEqDiff, Nat.reduceLT, Nat.reduceLeDiff, Nat.reduceBEq, Nat.reduceBNe, Int.reduceToNat, Int.reduceLE, Int.reduceLT, Int.reduceNe, Int.reduceNeg, reduceCtorEq, Int.reduceBEq, Int.reduceBNe, g2, List.length_map]
        rw [condK_bool]
        refine ⟨fun hc => ?_, fun hc => ?_⟩
        · have hm' : m < ys.length := by simp only [decide_eq_true_eq] at hc; omega
          have hmm : (m : Int) < (ys.length : Int) := by omega
          have w8 : IntKind.i64.wrap ((m : Int) + 1) = ((m + 1 : Nat) : Int) := by rw [Int.natCast_add, Int.natCast_one]; exact wrap_id (by omega)
          have hzm : ys.getD m default ∈ ys := by simp [List.getD_eq_getElem?_getD, hm']
          have hany : (ys.take (m + 1)).any (sureQ a t lo h) = ((ys.take m).any (sureQ a t lo h) || sureQ a t lo h (ys.getD m default)) := by
            rw [List.take_succ_eq_append_getElem hm', List.any_append]; simp [hm']
          have z1 := hmf _ hzm
          have z2 := hmb _ hzm
          have hzr := getD_mapN encF ys m [PV.int .i64 0, .int .i64 0, .int .i64 0, .int .i64 0] hm'
          generalize ys.getD m default = z at *
          obtain ⟨zs, zl, zh, zp⟩ := z
          simp only at z1 z2
          simp only [encF] at hzr
          have hP := place_ge zs Lf
          have hP1 := place_ge zs Lb
          have hP2 := place_neg zs Lb
          have e1 : decide (zs ∈ Lf) = (decide (zl ≤ h) && decide (lo ≤ zh)) := by rw [Bool.eq_iff_iff, decide_eq_true_eq, z1]; unfold someP; rfl
          have e2 : decide (zs ∈ Lb) = (decide (zl ≤ v) && decide (u ≤ zh)) := by rw [Bool.eq_iff_iff, decide_eq_true_eq, z2]; unfold someP; rfl
          have e3 : decide (zs ∉ Lb) = !(decide (zl ≤ v) && decide (u ≤ zh)) := by rw [← e2]; simp
          rw [e1] at hP
          rw [e2] at hP1
          rw [e3] at hP2
          have hq : sureQ a t lo h ⟨zs, zl, zh, zp⟩ = ((zs == a) && (decide (zl ≤ t) && decide (t ≤ zh)) && (decide (zl ≤ lo) && decide (lo ≤ zh)) && (decide (zl ≤ h) && decide (h ≤ zh))) := rfl
          rw [hq] at hany
          have hbLf' : (Lf.length < 4611686018427387904) = True := eq_true (by omega)
          have hbLb' : (Lb.length < 4611686018427387904) = True := eq_true (by omega)
          have hexp : ((((decide (zl ≤ h) && decide (lo ≤ zh)) != (decide (zl ≤ h) && decide (lo ≤ zh))) || ((decide (zl ≤ t) && decide (t ≤ zh)) && !(decide (zl ≤ v) && decide (u ≤ zh)))) || ((decide (zl ≤ v) && decide (u ≤ zh)) && !(decide (zl ≤ h) && decide (lo ≤ zh)))) = false := by
            have i1 : (decide (zl ≤ t) && decide (t ≤ zh)) = true → (decide (zl ≤ v) && decide (u ≤ zh)) = true := by
              simp only [Bool.and_eq_true, decide_eq_true_eq]; omega
            have i2 : (decide (zl ≤ v) && decide (u ≤ zh)) = true → (decide (zl ≤ h) && decide (lo ≤ zh)) = true := by
              simp only [Bool.and_eq_true, decide_eq_true_eq]; omega
            revert i1 i2
            generalize (decide (zl ≤ h) && decide (lo ≤ zh)) = A
            generalize (decide (zl ≤ t) && decide (t ≤ zh)) = B
            generalize (decide (zl ≤ v) && decide (u ≤ zh)) = C
            cases A <;> cases B <;> cases C <;> simp
          simp only [go_sem, Nat.reduceAdd, Nat.reduceSub, Nat.reduceMul, Nat.reduceEqDiff, Nat.reduceLT, Nat.reduceLeDiff, Nat.reduceBEq, Nat.reduceBNe, Int.reduceToNat, Int.reduceLE, Int.reduceLT, Int.reduceNe, Int.reduceNeg, reduceCtorEq, Int.reduceBEq, Int.reduceBNe, @callV_spec E41 47 sPlace rfl, @callV_specT E41 47 sPlace rfl, @stepV_spec E41 47 sPlace rfl, @effV_spec E41 47 sPlace rfl, sPlace, @callV_spec E41 52 sHas rfl, @callV_specT E41 52 sHas rfl, @stepV_spec E41 52 sHas rfl, @effV_spec E41 52 sHas rfl, sHas, callSpec, g1, g2, hm', hmm, hzr, hbLf', hbLb', hP, hP1, hP2, List.length_map]
          refine ⟨fun a b => ⟨a, b⟩, fun a b => ⟨a, b⟩, ?_⟩
          rw [hexp]
          simp only [go_sem, Nat.reduceAdd, Nat.reduceSub, Nat.reduceMul, Nat.reduceEqDiff, Nat.reduceLT, Nat.reduceLeDiff, Nat.reduceBEq, Nat.reduceBNe, Int.reduceToNat, Int.reduceLE, Int.reduceLT, Int.reduceNe, Int.reduceNeg, reduceCtorEq, Int.reduceBEq, Int.reduceBNe, @callV_spec E41 47 sPlace rfl, @callV_specT E41 47 sPlace rfl, @stepV_spec E41 47 sPlace rfl, @effV_spec E41 47 sPlace rfl, sPlace, @callV_spec E41 52 sHas rfl, @callV_specT E41 52 sHas rfl, @stepV_spec E41 52 sHas rfl, @effV_spec E41 52 sHas rfl, sHas, callSpec, g1, g2]
          refine ⟨fun a b => ⟨a, b⟩, fun a b => ⟨a, b⟩, fun a b => ⟨a, b⟩, ?_⟩
          refine hK (m + 1) _ _ ?_ ⟨hm', ?_, ?_⟩ (by omega)
          · simp only [go_sem, Nat.reduceAdd, Nat.reduceSub, Nat.reduceMul, Nat.reduceEqDiff, Nat.reduceLT, Nat.reduceLeDiff, Nat.reduceBEq, Nat.reduceBNe, Int.reduceToNat, Int.reduceLE, Int.reduceLT, Int.reduceNe, Int.reduceNeg, reduceCtorEq, Int.reduceBEq, Int.reduceBNe, w8, hany]
          · simp only [go_sem, Nat.reduceAdd, Nat.reduceSub, Nat.reduceMul, Nat.reduceEqDiff, Nat.reduceLT, Nat.reduceLeDiff, Nat.reduceBEq, Nat.reduceBNe, Int.reduceToNat, Int.reduceLE, Int.reduceLT, Int.reduceNe, Int.reduceNeg, reduceCtorEq, Int.reduceBEq, Int.reduceBNe, g1]
          · simp only [go_sem, Nat.reduceAdd, Nat.reduceSub, Nat.reduceMul, Nat.reduceEqDiff, Nat.reduceLT, Nat.reduceLeDiff, Nat.reduceBEq, Nat.reduceBNe, Int.reduceToNat, Int.reduceLE, Int.reduceLT, Int.reduceNe, Int.reduceNeg, reduceCtorEq, Int.reduceBEq, Int.reduceBNe, g2]
        · have hml : m = ys.length := by simp only [decide_eq_false_iff_not] at hc; omega
          subst hml
          refine hE _ _ _ (by simp) ?_
          rw [List.take_length]
          have hfin : (ys.any (sureQ a t lo h) == (ge == 0)) = true := by
            rcases hcs with ⟨rfl, _, f, f1, f2, f3⟩ | ⟨rfl, rfl, _⟩
            · have : ys.any (sureQ a t lo h) = true := by
                rw [List.any_eq_true]
                refine ⟨f, f1, ?_⟩
                unfold sureQ
                unfold sureP at f2
                simp only [Bool.and_eq_true, decide_eq_true_eq, beq_iff_eq] at f2 ⊢; omega
              rw [this]; rfl
            · have : ys.any (sureQ 0 t lo h) = false := by
                rw [← Bool.not_eq_true, List.any_eq_true]
                rintro ⟨f, f1, f2⟩
                unfold sureQ at f2
                simp only [Bool.and_eq_true, decide_eq_true_eq, beq_iff_eq] at f2
                have := (hfg f f1).size; omega
              rw [this]; rfl
          have hle : ((Lf.length : Int) ≤ (ys.length : Int)) = True := eq_true (by omega)
          simp only [go_sem, Nat.reduceAdd, Nat.reduceSub, Nat.reduceMul, Nat.reduceEqDiff, Nat.reduceLT, Nat.reduceLeDiff, Nat.reduceBEq, Nat.reduceBNe, Int.reduceToNat, Int.reduceLE, Int.reduceLT, Int.reduceNe, Int.reduceNeg, reduceCtorEq, Int.reduceBEq, Int.reduceBNe, @callV_spec E41 27 s27 rfl, @callV_specT E41 27 s27 rfl, @stepV_spec E41 27 s27 rfl, @effV_spec E41 27 s27 rfl, s27, callSpec, g2, il_length, hfin, hle, List.length_map]
end Wb
