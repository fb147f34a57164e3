import Derived.Test.YtjdljckgphbkmaaDoorU
set_option linter.unusedVariables false
set_option linter.unusedSimpArgs false
/- ParcelPosts. -/
namespace Wb
open Go Go.Proofs Enc Row
set_option linter.unusedSimpArgs false
set_option linter.unusedVariables false
set_option maxRecDepth 20000
set_option maxHeartbeats 4000000
noncomputable def E19t : List (Nat × Spec) := [(15, s15), (19, s19), (21, s21)] ++ E18t
theorem E19t_ok : AllOK E19t := ⟨⟨s15_ok, Tryd.call15⟩, ⟨s19_ok, Tryd.call19⟩, ⟨s21_ok, Tryd.call21⟩, E18t_ok⟩
noncomputable def E19 : Env := mkE E19t []
theorem E19_ok : EnvOK Tryd.prog E19 := envOK E19t_ok trivial
theorem E19_ti {t : Nat} : E19.ti t = ti t := rfl
theorem E19_q0 : (E19).eqt 130 = true := rfl
theorem E19_q1 : (E19).keyt 3 = true := rfl
theorem E19_q2 : (E19).keyt 85 = true := rfl
attribute [go_sem] E19_ti E19_q0 E19_q1 E19_q2
theorem bigM_big (b : PBook) : big (bigM b).1.length = True := eq_true (by
  unfold bigM
  cases hb : bookOk b with
  | false => simp [big]
  | true =>
    have hG := book_good hb
    have p7 := hG.p7
    have := bigL_le b b.pieces.length
    simp only [if_true]; unfold big; omega)
theorem posts_law (b : PBook) (h4 : Big4 b) (q : Parc) (hq : big q.pieces.length) (z : Int) : Fn E19 0 3 Tryd.f3 (Tryd.f3.body.getD .skip) [.agg (encB b), .agg (encQ q), .int .i64 z] (.bool true) := by
  have hdb : (dec (.agg (encB b)) : Option PBook) = some b := dec_book b
  have hbl := bigM_big b
  unfold Fn Tryd.f3
  obtain ⟨kd, l⟩ := q
  simp only at hq
  generalize hm : bigM b = m at *
  obtain ⟨m1, m2⟩ := m
  generalize hf : fitsM b ⟨kd, l⟩ = f at *
  obtain ⟨f1, f2⟩ := f
  generalize hp : postM b ⟨kd, l⟩ z = p at *
  obtain ⟨p1, p2⟩ := p
  obtain ⟨ps, ks, gr, fr, un, fe, st⟩ := b
  simp only [encB] at hdb
  simp only at hbl
  simp only [go_sem, Nat.reduceAdd, Nat.reduceSub, Nat.reduceMul, Nat.reduceEqDiff, Nat.reduceLT, Nat.reduceLeDiff, Nat.reduceBEq, Nat.reduceBNe, Int.reduceToNat, Int.reduceLE, Int.reduceLT, Int.reduceNe, Int.reduceNeg, reduceCtorEq, Int.reduceBEq, Int.reduceBNe, @callV_spec E19 14 s14 rfl, @callV_specT E19 14 s14 rfl, @stepV_spec E19 14 s14 rfl, @effV_spec E19 14 s14 rfl, s14, @callV_spec E19 15 s15 rfl, @callV_specT E19 15 s15 rfl, @stepV_spec E19 15 s15 rfl, @effV_spec E19 15 s15 rfl, s15, @callV_spec E19 16 s16 rfl, @callV_specT E19 16 s16 rfl, @stepV_spec E19 16 s16 rfl, @effV_spec E19 16 s16 rfl, s16, @callV_spec E19 17 s17 rfl, @callV_specT E19 17 s17 rfl, @stepV_spec E19 17 s17 rfl, @effV_spec E19 17 s17 rfl, s17, @callV_spec E19 18 s18 rfl, @callV_specT E19 18 s18 rfl, @stepV_spec E19 18 s18 rfl, @effV_spec E19 18 s18 rfl, s18, @callV_spec E19 19 s19 rfl, @callV_specT E19 19 s19 rfl, @stepV_spec E19 19 s19 rfl, @effV_spec E19 19 s19 rfl, s19, @callV_spec E19 20 s20 rfl, @callV_specT E19 20 s20 rfl, @stepV_spec E19 20 s20 rfl, @effV_spec E19 20 s20 rfl, s20, @callV_spec E19 21 s21 rfl, @callV_specT E19 21 s21 rfl, @stepV_spec E19 21 s21 rfl, @effV_spec E19 21 s21 rfl, s21, @callV_spec E19 22 s22 rfl, @callV_specT E19 22 s22 rfl, @stepV_spec E19 22 s22 rfl, @effV_spec E19 22 s22 rfl, s22, @callV_spec E19 23 s23 rfl, @callV_specT E19 23 s23 rfl, @stepV_spec E19 23 s23 rfl, @effV_spec E19 23 s23 rfl, s23, encB, encQ, callSpec, hdb, h4, hq, hm, hf, hp, hbl, bne_self_eq_false, beq_self_eq_true]
end Wb
