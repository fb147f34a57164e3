import Derived.Test.YtaihkflmkopliaaDoorXA
set_option linter.unusedVariables false
set_option linter.unusedSimpArgs false
/- BookKnown. -/
namespace Wb
open Go Go.Proofs Enc Row
set_option linter.unusedSimpArgs false
set_option linter.unusedVariables false
set_option maxRecDepth 20000
set_option maxHeartbeats 40000000
def markL : List Key → Heap → Heap
  | [], H => H
  | K :: ks, H => markL ks (match H K with | some b => H.set K b.mark | none => H)
theorem wp_roAll {q : Prop} {m : Prg PV} {Q : PV → Heap → Prop} : ∀ (ks : List Key) (H : Heap), Prg.wp q (roAll ks m) Q H = Prg.wp q m Q (markL ks H)
  | [], _ => rfl
  | K :: ks, H => by simp only [roAll, Prg.wp, markL]; exact wp_roAll ks _
theorem wp_roK {q : Prop} {m : Prg PV} {Q : PV → Heap → Prop} {p : List Nat} {H : Heap} : Prg.wp q (roAll (rkK p) m) Q H = Prg.wp q m Q (markL (rkK p) H) := wp_roAll _ _
theorem frzL_rk {α : Type} [Inhabited α] {q : Prop} {p : List Nat} {H G : Heap} (hG : ∀ n, n ≠ 53000000 → G (p, n) = rkH p H (p, n)) {k : List PV → List Key → Prg α} {Q : α → Heap → Prop} : Prg.wp q (frzL (frz 7) (rkC p H) k) Q G = Prg.wp q (k (encR rackC) (rkK p)) Q G :=
  (frz_rk hG (k := fun t ks => k (valCells t) ks) : _)
theorem frzL_rkF {α : Type} [Inhabited α] {q : Prop} {p : List Nat} {H G : Heap} (hG : ∀ n, n ≠ 53000000 → G (p, n) = rkH p H (p, n)) {k : List PV → List Key → Prg α} {Q : α → Heap → List Key → List Key → Prop} {R W : List Key} : Prg.wpF q (frzL (frz 7) (rkC p H) k) Q G R W = Prg.wpF q (k (encR rackC) (rkK p)) Q G (rkR p ++ R) W :=
  (frz_rkF hG (k := fun t ks => k (valCells t) ks) : _)
theorem frz_rk0 {α : Type} [Inhabited α] {q : Prop} {p : List Nat} {H : Heap} {k : List PV → List Key → Prg α} {Q : α → Heap → Prop} : Prg.wp q (frzL (frz 7) (rkC p H) k) Q (rkH p H) = Prg.wp q (k (encR rackC) (rkK p)) Q (rkH p H) := frzL_rk fun _ _ => rfl
theorem frz_rkS {α : Type} [Inhabited α] {q : Prop} {x : Nat} {l : List Nat} {n : Nat} {b : PB} {H : Heap} {k : List PV → List Key → Prg α} {Q : α → Heap → Prop} : Prg.wp q (frzL (frz 7) (rkC (x :: l) H) k) Q ((rkH (x :: l) H).set ([], n) b) = Prg.wp q (k (encR rackC) (rkK (x :: l))) Q ((rkH (x :: l) H).set ([], n) b) :=
  frzL_rk fun m _ => by rw [set_at, if_neg (by simp)]
theorem frz_rkSF {α : Type} [Inhabited α] {q : Prop} {x : Nat} {l : List Nat} {n : Nat} {b : PB} {H : Heap} {k : List PV → List Key → Prg α} {Q : α → Heap → List Key → List Key → Prop} {R W : List Key} : Prg.wpF q (frzL (frz 7) (rkC (x :: l) H) k) Q ((rkH (x :: l) H).set ([], n) b) R W = Prg.wpF q (k (encR rackC) (rkK (x :: l))) Q ((rkH (x :: l) H).set ([], n) b) (rkR (x :: l) ++ R) W :=
  frzL_rkF fun m _ => by rw [set_at, if_neg (by simp)]
def zLines : List Line := List.replicate 21 ⟨⟨0, 0, 0⟩, 0⟩
theorem k_jz : (cheapM rackC (0, 1) zLines).2.2 = 11 := k_j
theorem il_nil_len : (il []).length = 0 := rfl
theorem dk_rack : (dec (.agg (encR rackC)) : Option Rack) = some rackC := by rfl
theorem bad_row : ∀ {i : Nat}, i < 14 → ∃ r ∈ bads, ∃ g rs ex, (∀ z, badRows.getD i z = [.int .i64 g, .sl rs ex]) ∧ (dec (.agg [.int .i64 g, .sl rs ex]) : Option Rack) = some r
  | 0, _ => ⟨bads.getD 0 default, by decide, _, _, _, fun z => rfl, rfl⟩
  | 1, _ => ⟨bads.getD 1 default, by decide, _, _, _, fun z => rfl, rfl⟩
  | 2, _ => ⟨bads.getD 2 default, by decide, _, _, _, fun z => rfl, rfl⟩
  | 3, _ => ⟨bads.getD 3 default, by decide, _, _, _, fun z => rfl, rfl⟩
  | 4, _ => ⟨bads.getD 4 default, by decide, _, _, _, fun z => rfl, rfl⟩
  | 5, _ => ⟨bads.getD 5 default, by decide, _, _, _, fun z => rfl, rfl⟩
  | 6, _ => ⟨bads.getD 6 default, by decide, _, _, _, fun z => rfl, rfl⟩
  | 7, _ => ⟨bads.getD 7 default, by decide, _, _, _, fun z => rfl, rfl⟩
  | 8, _ => ⟨bads.getD 8 default, by decide, _, _, _, fun z => rfl, rfl⟩
  | 9, _ => ⟨bads.getD 9 default, by decide, _, _, _, fun z => rfl, rfl⟩
  | 10, _ => ⟨bads.getD 10 default, by decide, _, _, _, fun z => rfl, rfl⟩
  | 11, _ => ⟨bads.getD 11 default, by decide, _, _, _, fun z => rfl, rfl⟩
  | 12, _ => ⟨bads.getD 12 default, by decide, _, _, _, fun z => rfl, rfl⟩
  | 13, _ => ⟨bads.getD 13 default, by decide, _, _, _, fun z => rfl, rfl⟩
  | i + 14, h => absurd h (by omega)
noncomputable def E43t : List (Nat × Spec) := [(44, sTo), (54, s54), (55, s55), (17, s17), (22, s22), (24, s24), (28, s28), (30, s30), (32, s32), (34, s34), (36, s36), (38, s38), (40, s40), (20, s20), (27, s27), (26, s26), (19, s19)]
theorem E43t_ok : AllOK E43t := ⟨⟨s44_ok, Tryd.call44⟩, ⟨s54_ok, Tryd.call54⟩, ⟨s55_ok, Tryd.call55⟩, ⟨s17_ok, Tryd.call17⟩, ⟨s22_ok, Tryd.call22⟩, ⟨s24_ok, Tryd.call24⟩, ⟨s28_ok, Tryd.call28⟩, ⟨s30_ok, Tryd.call30⟩, ⟨s32_ok, Tryd.call32⟩, ⟨s34_ok, Tryd.call34⟩, ⟨s36_ok, Tryd.call36⟩, ⟨s38_ok, Tryd.call38⟩, ⟨s40_ok, Tryd.call40⟩, ⟨s20_ok, Tryd.call20⟩, ⟨s27_ok, Tryd.call27⟩, ⟨s26_ok, Tryd.call26⟩, ⟨s19_ok, Tryd.call19⟩, trivial⟩
noncomputable def E43 : Env := { mkF (E43t ++ [(105, sfit)]) il53 [] [(53, e53)] with ti := tiD }
theorem E43_ok : EnvOK Tryd.prog E43 :=
  have h := envFOK (mt := []) (ef := [(53, e53)]) (E43t_ok.append (m := [(105, sfit)]) ⟨⟨s105_ok, Tryd.call105⟩, trivial⟩) il53_ok trivial ⟨⟨e53_ok, Tryd.call53⟩, trivial⟩
  ⟨tiokD, h.spec, h.inl, h.eqt, h.keyt, h.mixed, h.mt, h.eff⟩
theorem E43_ti {t : Nat} : E43.ti t = tiD t := rfl
theorem E43_q0 : (E43).eqt 152 = true := rfl
theorem E43_q1 : (E43).eqt 69 = true := rfl
theorem E43_q2 : (E43).keyt 3 = true := rfl
theorem E43_q3 : (E43).keyt 108 = true := rfl
attribute [go_sem] E43_ti E43_q0 E43_q1 E43_q2 E43_q3
theorem known_fn : Fn E43 2 16 Tryd.f16 (Tryd.f16.body.getD .skip) [] (.bool true) := by
  unfold Fn Tryd.f16
  have hb : ∀ p H Q, callN E43 2 p (.fn 53 [] []) [] H Q = Q (.agg (rkC p H)) (rkH p H) := rack_in rfl rfl rfl rfl 1
  have hba : ∃ B : List (List PV), B = badRows := ⟨_, rfl⟩
  obtain ⟨B, hB⟩ := hba
  have hBl : B.length = 14 := by rw [hB]; rfl
  simp (maxSteps := 40000000) only [go_sem, Nat.reduceAdd, Nat.reduceSub, Nat.reduceMul, Nat.reduceEqDiff, Nat.reduceLT, Nat.reduceLeDiff, Nat.reduceBEq, Nat.reduceBNe, Int.reduceToNat, Int.reduceLE, Int.reduceLT, Int.reduceNe, Int.reduceNeg, reduceCtorEq, Int.reduceBEq, Int.reduceBNe, @callV_spec E43 44 sTo rfl, @callV_specT E43 44 sTo rfl, @stepV_spec E43 44 sTo rfl, @effV_spec E43 44 sTo rfl, sTo, @callV_spec E43 54 sthing rfl, @callV_specT E43 54 sthing rfl, @stepV_spec E43 54 sthing rfl, @effV_spec E43 54 sthing rfl, sthing, @callV_in E43 53 rfl, heavy_none, hb, rkC, rkH, tiD_eq, dp22, dp62, dp65, dp93, callSpec, buildCells]
  refine ⟨by decide, ?_⟩
  refine ev_loopD 1 (t := .sl B false) rfl ?_ [0, 2] (fun i : Nat => [(1, .sl B false), (3, .int .i64 i)]) (fun i H => i ≤ 14 ∧ H (([], 16015001) : Key) = some (.cells [.int .i64 (-1), .int .i64 0, .int .i64 4] 1 true)) (fun i => 14 - i) 0 ?_ ⟨Nat.zero_le _, ?_⟩ ?_
  · rw [hB]
    refine Stands.of ?_
    kernel_rfl
  · simp only [go_sem, Nat.reduceAdd, Nat.reduceSub, Nat.reduceMul, Nat.reduceEqDiff, Nat.reduceLT, Nat.reduceLeDiff, Nat.reduceBEq, Nat.reduceBNe, Int.reduceToNat, Int.reduceLE, Int.reduceLT, Int.reduceNe, Int.reduceNeg, reduceCtorEq, Int.reduceBEq, Int.reduceBNe, Int.natCast_zero]
  · simp only [markAll_at, go_sem, Nat.reduceAdd, Nat.reduceSub, Nat.reduceMul, Nat.reduceEqDiff, Nat.reduceLT, Nat.reduceLeDiff, Nat.reduceBEq, Nat.reduceBNe, Int.reduceToNat, Int.reduceLE, Int.reduceLT, Int.reduceNe, Int.reduceNeg, reduceCtorEq, Int.reduceBEq, Int.reduceBNe, Option.map_some, PB.mark]
  · simp only [go_sem, Nat.reduceAdd, Nat.reduceSub, Nat.reduceMul, Nat.reduceEqDiff, Nat.reduceLT, Nat.reduceLeDiff, Nat.reduceBEq, Nat.reduceBNe, Int.reduceToNat, Int.reduceLE, Int.reduceLT, Int.reduceNe, Int.reduceNeg, reduceCtorEq, Int.reduceBEq, Int.reduceBNe]
    intro K i H ⟨hi, hH⟩ hK hE
    simp only [go_sem, Nat.reduceAdd, Nat.reduceSub, Nat.reduceMul, Nat.reduceEqDiff, Nat.reduceLT, Nat.reduceLeDiff, Nat.reduceBEq, Nat.reduceBNe, Int.reduceToNat, Int.reduceLE, Int.reduceLT, Int.reduceNe, Int.reduceNeg, reduceCtorEq, Int.reduceBEq, Int.reduceBNe, tiD_eq, hBl]
    rw [condK_bool]
    refine ⟨fun hc => ?_, fun hc => ?_⟩
    · as_aux_lemma =>
        have hi' : i < 14 := by have := of_decide_eq_true hc; omega
        have w2 : IntKind.i64.wrap ((i : Int) + 1) = (i : Int) + 1 := wrap_id (by omega)
        obtain ⟨r, hr1, g, rs, ex, hb2, hd⟩ := bad_row hi'
        rw [← hB] at hb2
        have ho := bads_no r hr1
        have hg := bads_okR r hr1
        clear hr1
        have hi3 : ((i : Int) < 14) = True := eq_true (by omega)
        have hg0 : big 0 = True := eq_true (by simp [big])
        have xz : ((10 : Int) != 10) = false := rfl
        simp (maxSteps := 4000000) only [go_sem, Nat.reduceAdd, Nat.reduceSub, Nat.reduceMul, Nat.reduceEqDiff, Nat.reduceLT, Nat.reduceLeDiff, Nat.reduceBEq, Nat.reduceBNe, Int.reduceToNat, Int.reduceLE, Int.reduceLT, Int.reduceNe, Int.reduceNeg, reduceCtorEq, Int.reduceBEq, Int.reduceBNe, @callV_spec E43 44 sTo rfl, @callV_specT E43 44 sTo rfl, @stepV_spec E43 44 sTo rfl, @effV_spec E43 44 sTo rfl, sTo, @callV_spec E43 17 s17 rfl, @callV_specT E43 17 s17 rfl, @stepV_spec E43 17 s17 rfl, @effV_spec E43 17 s17 rfl, s17, @callV_spec E43 22 s22 rfl, @callV_specT E43 22 s22 rfl, @stepV_spec E43 22 s22 rfl, @effV_spec E43 22 s22 rfl, s22, @callV_spec E43 24 s24 rfl, @callV_specT E43 24 s24 rfl, @stepV_spec E43 24 s24 rfl, @effV_spec E43 24 s24 rfl, s24, @callV_spec E43 28 s28 rfl, @callV_specT E43 28 s28 rfl, @stepV_spec E43 28 s28 rfl, @effV_spec E43 28 s28 rfl, s28, @callV_spec E43 30 s30 rfl, @callV_specT E43 30 s30 rfl, @stepV_spec E43 30 s30 rfl, @effV_spec E43 30 s30 rfl, s30, @callV_spec E43 32 s32 rfl, @callV_specT E43 32 s32 rfl, @stepV_spec E43 32 s32 rfl, @effV_spec E43 32 s32 rfl, s32, @callV_spec E43 34 s34 rfl, @callV_specT E43 34 s34 rfl, @stepV_spec E43 34 s34 rfl, @effV_spec E43 34 s34 rfl, s34, @callV_spec E43 36 s36 rfl, @callV_specT E43 36 s36 rfl, @stepV_spec E43 36 s36 rfl, @effV_spec E43 36 s36 rfl, s36, @callV_spec E43 38 s38 rfl, @callV_specT E43 38 s38 rfl, @stepV_spec E43 38 s38 rfl, @effV_spec E43 38 s38 rfl, s38, @callV_spec E43 40 s40 rfl, @callV_specT E43 40 s40 rfl, @stepV_spec E43 40 s40 rfl, @effV_spec E43 40 s40 rfl, s40, @callV_spec E43 20 s20 rfl, @callV_specT E43 20 s20 rfl, @stepV_spec E43 20 s20 rfl, @effV_spec E43 20 s20 rfl, s20, callSpec, tiD_eq, hb2, hd, hBl, hg, no_means ho, no_num ho, no_twins ho, no_price ho, no_prices ho, no_last ho, no_sum ho, no_cheap ho, no_fits ho, no_sure ho, ho, hi3, hg0, xz, w2, hH]
        refine hK (i + 1) _ _ ?_ ⟨hi', hH⟩ (by omega)
        simp only [go_sem, Nat.reduceAdd, Nat.reduceSub, Nat.reduceMul, Nat.reduceEqDiff, Nat.reduceLT, Nat.reduceLeDiff, Nat.reduceBEq, Nat.reduceBNe, Int.reduceToNat, Int.reduceLE, Int.reduceLT, Int.reduceNe, Int.reduceNeg, reduceCtorEq, Int.reduceBEq, Int.reduceBNe, w2, Int.natCast_add, Int.natCast_one]
    · as_aux_lemma =>
        simp only [go_sem, Nat.reduceAdd, Nat.reduceSub, Nat.reduceMul, Nat.reduceEqDiff, Nat.reduceLT, Nat.reduceLeDiff, Nat.reduceBEq, Nat.reduceBNe, Int.reduceToNat, Int.reduceLE, Int.reduceLT, Int.reduceNe, Int.reduceNeg, reduceCtorEq, Int.reduceBEq, Int.reduceBNe]
        refine hE _ _ _ (by simp) ?_
        clear hE hK
        have y1 : ((11 : Int) != 11) = false := rfl
        have y2 : ((0 : Int) != 0) = false := rfl
        have y3 : ((4 : Int) != 4) = false := rfl
        have y4 : ((0 : Int) == 0) = true := rfl
        have y5 : ((11 : Int) == 11) = true := rfl
        have y6 : ((980 : Int) == 980) = true := rfl
        have y7 : ((450 : Int) == 450) = true := rfl
        have y8 : (([41] : List Int) == [41]) = true := rfl
        have y9 : ((40 : Int) == 40) = true := rfl
        have y10 : ((7 : Int) == 7) = true := rfl
        have y11 : (([(1, 0)] : List (Int × Int)) == [(1, 0)]) = true := rfl
        have y12 : (dec (.sl [[.int .i64 1, .int .i64 0]] true) : Option (List (Int × Int))) = some [(1, 0)] := rfl
        have y13 : (dec (.sl [[.int .i64 0, .int .i64 40, .int .i64 0, .int .i64 1001]] true) : Option (List Line)) = some [⟨⟨0, 40, 0⟩, 1001⟩] := rfl
        have y14 : (dec (.sl [[.int .i64 0, .int .i64 0, .int .i64 0, .int .i64 0], [.int .i64 0, .int .i64 0, .int .i64 0, .int .i64 0], [.int .i64 0, .int .i64 0, .int .i64 0, .int .i64 0], [.int .i64 0, .int .i64 0, .int .i64 0, .int .i64 0], [.int .i64 0, .int .i64 0, .int .i64 0, .int .i64 0], [.int .i64 0, .int .i64 0, .int .i64 0, .int .i64 0], [.int .i64 0, .int .i64 0, .int .i64 0, .int .i64 0], [.int .i64 0, .int .i64 0, .int .i64 0, .int .i64 0], [.int .i64 0, .int .i64 0, .int .i64 0, .int .i64 0], [.int .i64 0, .int .i64 0, .int .i64 0, .int .i64 0], [.int .i64 0, .int .i64 0, .int .i64 0, .int .i64 0], [.int .i64 0, .int .i64 0, .int .i64 0, .int .i64 0], [.int .i64 0, .int .i64 0, .int .i64 0, .int .i64 0], [.int .i64 0, .int .i64 0, .int .i64 0, .int .i64 0], [.int .i64 0, .int .i64 0, .int .i64 0, .int .i64 0], [.int .i64 0, .int .i64 0, .int .i64 0, .int .i64 0], [.int .i64 0, .int .i64 0, .int .i64 0, .int .i64 0], [.int .i64 0, .int .i64 0, .int .i64 0, .int .i64 0], [.int .i64 0, .int .i64 0, .int .i64 0, .int .i64 0], [.int .i64 0, .int .i64 0, .int .i64 0, .int .i64 0], [.int .i64 0, .int .i64 0, .int .i64 0, .int .i64 0]] true) : Option (List Line)) = some zLines := rfl
        have y15 : (dec (.sl [[.int .i64 41]] true) : Option (List Int)) = some [41] := rfl
        have y16 : (dec (.sl (orderC.map encL) false) : Option (List Line)) = some orderC := rfl
        have b3 : big orderC.length = True := eq_true (by unfold big orderC; simp)
        have b4 : big 21 = True := eq_true (by unfold big; simp)
        have b5 : big zLines.length = True := eq_true (by unfold big zLines; simp)
        have b0 : big 0 = True := eq_true (by simp [big])
        have b1 : big 1 = True := eq_true (by simp [big])
        have b2 : big (0 + 1) = True := eq_true (by simp [big])
        simp (maxSteps := 40000000) only [go_sem, Nat.reduceAdd, Nat.reduceSub, Nat.reduceMul, Nat.reduceEqDiff, Nat.reduceLT, Nat.reduceLeDiff, Nat.reduceBEq, Nat.reduceBNe, Int.reduceToNat, Int.reduceLE, Int.reduceLT, Int.reduceNe, Int.reduceNeg, reduceCtorEq, Int.reduceBEq, Int.reduceBNe, @effV_eff E43 53 e53 rfl rfl, e53, @callV_spec E43 44 sTo rfl, @callV_specT E43 44 sTo rfl, @stepV_spec E43 44 sTo rfl, @effV_spec E43 44 sTo rfl, sTo, @callV_spec E43 54 sthing rfl, @callV_specT E43 54 sthing rfl, @stepV_spec E43 54 sthing rfl, @effV_spec E43 54 sthing rfl, sthing, @callV_spec E43 55 s55 rfl, @callV_specT E43 55 s55 rfl, @stepV_spec E43 55 s55 rfl, @effV_spec E43 55 s55 rfl, s55, @callV_spec E43 17 s17 rfl, @callV_specT E43 17 s17 rfl, @stepV_spec E43 17 s17 rfl, @effV_spec E43 17 s17 rfl, s17, @callV_spec E43 22 s22 rfl, @callV_specT E43 22 s22 rfl, @stepV_spec E43 22 s22 rfl, @effV_spec E43 22 s22 rfl, s22, @callV_spec E43 24 s24 rfl, @callV_specT E43 24 s24 rfl, @stepV_spec E43 24 s24 rfl, @effV_spec E43 24 s24 rfl, s24, @callV_spec E43 28 s28 rfl, @callV_specT E43 28 s28 rfl, @stepV_spec E43 28 s28 rfl, @effV_spec E43 28 s28 rfl, s28, @callV_spec E43 30 s30 rfl, @callV_specT E43 30 s30 rfl, @stepV_spec E43 30 s30 rfl, @effV_spec E43 30 s30 rfl, s30, @callV_spec E43 32 s32 rfl, @callV_specT E43 32 s32 rfl, @stepV_spec E43 32 s32 rfl, @effV_spec E43 32 s32 rfl, s32, @callV_spec E43 34 s34 rfl, @callV_specT E43 34 s34 rfl, @stepV_spec E43 34 s34 rfl, @effV_spec E43 34 s34 rfl, s34, @callV_spec E43 36 s36 rfl, @callV_specT E43 36 s36 rfl, @stepV_spec E43 36 s36 rfl, @effV_spec E43 36 s36 rfl, s36, @callV_spec E43 38 s38 rfl, @callV_specT E43 38 s38 rfl, @stepV_spec E43 38 s38 rfl, @effV_spec E43 38 s38 rfl, s38, @callV_spec E43 40 s40 rfl, @callV_specT E43 40 s40 rfl, @stepV_spec E43 40 s40 rfl, @effV_spec E43 40 s40 rfl, s40, @callV_spec E43 19 s19 rfl, @callV_specT E43 19 s19 rfl, @stepV_spec E43 19 s19 rfl, @effV_spec E43 19 s19 rfl, s19, @callV_spec E43 26 s26 rfl, @callV_specT E43 26 s26 rfl, @stepV_spec E43 26 s26 rfl, @effV_spec E43 26 s26 rfl, s26, @callV_spec E43 27 s27 rfl, @callV_specT E43 27 s27 rfl, @stepV_spec E43 27 s27 rfl, @effV_spec E43 27 s27 rfl, s27, callSpec, tiD_eq, dp22, dp62, dp65, dp93, dp48, dp28, dp36, @callV_in E43 53 rfl, heavy_none, hb, ↓forall_rk, dec_ml, frz_rk0, frz_rkS, frz_rkSF, wp_roK, dk_rack, rackC_okR, List.append_nil, List.append, il_nil_len, ml_nil, Int.natCast_zero, y1, y2, y3, y4, y5, y6, y7, y8, y9, y10, y11, y12, y13, y14, y15, y16, b3, b4, b5, b0, b1, b2, k_a, k_b, k_c, k_d, k_e, k_f, k_g, k_h, k_i, k_jz, k_k, k_m, k_a2, k_b2, k_c2, k_d2, k_e2, k_f2, k_g2, k_h2, k_i2, k_a3, k_b3, k_c3, k_d3, k_e3, k_f3, k_g3, k_h3, k_i3, k_j3]
        decide
end Wb
