import Derived.Test.YtjdljckgphbkmaaDoorS
set_option linter.unusedVariables false
set_option linter.unusedSimpArgs false
/- A parcel of the book is a kind and a set of pieces; what the reference says of it (no program in sight). -/
namespace Wb
open Go Go.Proofs Enc Row
set_option linter.unusedSimpArgs false
set_option linter.unusedVariables false
set_option maxRecDepth 20000
set_option maxHeartbeats 4000000
theorem climbs_ext {n : Int} : ∀ (l m : List Int) (b : Int), climbsF n b l = true → climbsF n b m = true → (∀ k, k ∈ l ↔ k ∈ m) → l = m
  | [], [], _, _, _, _ => rfl
  | [], c :: m, _, _, _, h => by have := (h c).2 (by simp); cases this
  | a :: l, [], _, _, _, h => by have := (h a).1 (by simp); cases this
  | a :: l, c :: m, b, h1, h2, h => by
    simp only [climbsF, Bool.and_eq_true, decide_eq_true_eq] at h1 h2
    have m1 := climbs_mem l a h1.2
    have m2 := climbs_mem m c h2.2
    have e : a = c := by
      rcases List.mem_cons.1 ((h a).1 (by simp)) with e | e
      · exact e
      · rcases List.mem_cons.1 ((h c).2 (by simp)) with e' | e'
        · exact e'.symm
        · have := m2 a e; have := m1 c e'; omega
    subst e
    rw [climbs_ext l m a h1.2 h2.2 fun k => ⟨fun hk => ?_, fun hk => ?_⟩]
    · rcases List.mem_cons.1 ((h k).1 (by simp [hk])) with e | e
      · subst e; have := m1 k hk; omega
      · exact e
    · rcases List.mem_cons.1 ((h k).2 (by simp [hk])) with e | e
      · subst e; have := m2 k hk; omega
      · exact e
theorem climb_of {n : Nat} (hn : n ≤ 7) {l : List Int} (h : climbsF n (-1) l = true) : l = ofS (putS l) 7 := by
  have hm := climbs_mem l _ h
  have hlt : putS l < 2 ^ n := putS_pow fun k hk => by have := hm k hk; omega
  refine climbs_ext l _ (-1) h (climbs_all n (by omega) _ (Nat.lt_of_lt_of_le hlt (two7 hn)) hlt) fun k => ?_
  rw [mem_ofS]
  constructor
  · intro hk
    have := hm k hk
    refine ⟨k.toNat, by omega, ?_, by omega⟩
    unfold putS
    rw [putS_bit l 0 _ fun k hk => by have := hm k hk; omega]
    exact .inr (by rw [Int.toNat_of_nonneg (by omega)]; exact hk)
  · rintro ⟨j, _, hj, rfl⟩
    unfold putS at hj
    rw [putS_bit l 0 _ fun k hk => by have := hm k hk; omega] at hj
    simpa using hj
theorem parc_is {b : PBook} (hG : GBook b) {q : Parc} (h : parcOk b q = true) : ∃ k s : Nat, q = ⟨k, ofS s 7⟩ ∧ k < b.kinds.length ∧ 0 < s ∧ s < 2 ^ b.pieces.length ∧ putS q.pieces = s := by
  rcases loadM_cases b q with h0 | ⟨k, s, h1, hL⟩
  · unfold parcOk at h; rw [h0] at h; cases h
  · obtain ⟨q1, q2, q3, q4, q5, q6, q7⟩ := hL
    obtain ⟨kd, l⟩ := q
    simp only at q1 q3 q6 ⊢
    have e := climb_of hG.p7 q6
    rw [q3] at e
    subst q1
    exact ⟨k, s, by rw [e], q2, q4, q5, q3⟩
theorem okRef_of {b : PBook} (hG : GBook b) {k s : Nat} (hk : k < b.kinds.length) (h0 : 0 < s) (hs : s < 2 ^ b.pieces.length) : okRef b ⟨k, ofS s 7⟩ :=
  ⟨hG, ⟨by simp only; omega, by simp only; omega⟩, inP_of hs, Nat.le_trans (ofS_len s 7) (by decide), ofS_ne h0 hs hG.p7⟩
theorem okRef_is {b : PBook} (hG : GBook b) {q : Parc} (h : parcOk b q = true) : okRef b q := by
  obtain ⟨k, s, rfl, h1, h2, h3, h4⟩ := parc_is hG h
  exact okRef_of hG h1 h2 h3
theorem takes_is {b : PBook} (hG : GBook b) {q : Parc} (h : parcOk b q = true) : takesM b q.kind q.pieces = fitsB b q.kind.toNat (putS q.pieces) := by
  obtain ⟨k, s, rfl, h1, h2, h3, h4⟩ := parc_is hG h
  simp only at h4 ⊢
  rw [h4, takes_fits hG h3, Int.toNat_natCast]
theorem weight_is {b : PBook} (hG : GBook b) {q : Parc} (h : parcOk b q = true) : 1 ≤ sumP b .weight q.pieces := by
  obtain ⟨k, s, rfl, h1, h2, h3, h4⟩ := parc_is hG h
  simp only
  rw [sumP_allF]
  exact weight_pos hG h2 h3
theorem post_is {b : PBook} (hb : bookOk b = true) {q : Parc} (h : parcOk b q = true) {z : Int} (hz : 0 ≤ z ∧ z ≤ 4) :
    postM b q z = if takesM b q.kind q.pieces = true then (costsM b q.kind q.pieces z, 0) else (0, 4) := by
  have hG := book_good hb
  obtain ⟨k, s, rfl, h1, h2, h3, h4⟩ := parc_is hG h
  rw [postM_of hb h1 h2 h3 hz]
  simp only
  rw [takes_fits hG h3]
  cases hf : fitsB b k s
  · simp
  · simp only [if_true]; rw [postG_fit h1 h2 h3 hf]
end Wb
/- The reference's Fits and Postage. -/
namespace Wb
open Go Go.Proofs Enc Row
set_option linter.unusedSimpArgs false
set_option linter.unusedVariables false
set_option maxRecDepth 20000
set_option maxHeartbeats 4000000
noncomputable def E18t : List (Nat × Spec) := [(58, s58), (59, s59), (63, s63)] ++ E17t
theorem E18t_ok : AllOK E18t := ⟨⟨s58_ok, Tryd.call58⟩, ⟨s59_ok, Tryd.call59⟩, ⟨s63_ok, Tryd.call63⟩, E17t_ok⟩
noncomputable def E18 : Env := mkE E18t []
theorem E18_ok : EnvOK Tryd.prog E18 := envOK E18t_ok trivial
theorem E18_ti {t : Nat} : E18.ti t = ti t := rfl
theorem E18_q0 : (E18).eqt 130 = true := rfl
theorem E18_q1 : (E18).keyt 3 = true := rfl
theorem E18_q2 : (E18).keyt 85 = true := rfl
attribute [go_sem] E18_ti E18_q0 E18_q1 E18_q2
theorem rFits_fn (b : PBook) (h4 : Big4 b) (q : Parc) (hq : big q.pieces.length) : Fn E18 0 15 Tryd.f15 (Tryd.f15.body.getD .skip) [.agg (encB b), .agg (encQ q)] (.tup [.bool (fitsM b q).1, .int .i64 (fitsM b q).2]) := by
  have hdb : (dec (.agg (encB b)) : Option PBook) = some b := dec_book b
  obtain ⟨kd, l⟩ := q
  simp only at hq
  unfold Fn Tryd.f15
  cases hb : bookOk b with
  | false =>
    have ha : ∀ x, askedM b x = 60 := fun x => by unfold askedM; rw [hb]; rfl
    have hf : fitsM b ⟨kd, l⟩ = (false, 60) := by unfold fitsM; rw [hb]; rfl
    obtain ⟨ps, ks, gr, fr, un, fe, st⟩ := b
    simp only [encB] at hdb
    simp only [go_sem, Nat.reduceAdd, Nat.reduceSub, Nat.reduceMul, Nat.reduceEqDiff, Nat.reduceLT, Nat.reduceLeDiff, Nat.reduceBEq, Nat.reduceBNe, Int.reduceToNat, Int.reduceLE, Int.reduceLT, Int.reduceNe, Int.reduceNeg, reduceCtorEq, Int.reduceBEq, Int.reduceBNe, @callV_spec E18 57 s57 rfl, @callV_specT E18 57 s57 rfl, @stepV_spec E18 57 s57 rfl, @effV_spec E18 57 s57 rfl, s57, @callV_spec E18 58 s58 rfl, @callV_specT E18 58 s58 rfl, @stepV_spec E18 58 s58 rfl, @effV_spec E18 58 s58 rfl, s58, encB, encQ, callSpec, hdb, h4, hq, ha, hf]
  | true =>
    have hG := book_good hb
    cases hp : parcOk b ⟨kd, l⟩ with
    | false =>
      have ha : askedM b false = 61 := by unfold askedM; rw [hb]; rfl
      have hf : fitsM b ⟨kd, l⟩ = (false, 61) := by unfold fitsM; rw [hb, hp]; rfl
      obtain ⟨ps, ks, gr, fr, un, fe, st⟩ := b
      simp only [encB] at hdb
      simp only [go_sem, Nat.reduceAdd, Nat.reduceSub, Nat.reduceMul, Nat.reduceEqDiff, Nat.reduceLT, Nat.reduceLeDiff, Nat.reduceBEq, Nat.reduceBNe, Int.reduceToNat, Int.reduceLE, Int.reduceLT, Int.reduceNe, Int.reduceNeg, reduceCtorEq, Int.reduceBEq, Int.reduceBNe, @callV_spec E18 57 s57 rfl, @callV_specT E18 57 s57 rfl, @stepV_spec E18 57 s57 rfl, @effV_spec E18 57 s57 rfl, s57, @callV_spec E18 58 s58 rfl, @callV_specT E18 58 s58 rfl, @stepV_spec E18 58 s58 rfl, @effV_spec E18 58 s58 rfl, s58, encB, encQ, callSpec, hdb, h4, hq, ha, hf, hp]
    | true =>
      have ha : askedM b true = 0 := by unfold askedM; rw [hb]; rfl
      have hf : fitsM b ⟨kd, l⟩ = (takesM b kd l, 0) := by unfold fitsM; rw [hb, hp, takes_is hG hp]; rfl
      have ho := eq_true (okRef_is hG hp)
      obtain ⟨ps, ks, gr, fr, un, fe, st⟩ := b
      simp only [encB] at hdb
      simp only [go_sem, Nat.reduceAdd, Nat.reduceSub, Nat.reduceMul, Nat.reduceEqDiff, Nat.reduceLT, Nat.reduceLeDiff, Nat.reduceBEq, Nat.reduceBNe, Int.reduceToNat, Int.reduceLE, Int.reduceLT, Int.reduceNe, Int.reduceNeg, reduceCtorEq, Int.reduceBEq, Int.reduceBNe, @callV_spec E18 57 s57 rfl, @callV_specT E18 57 s57 rfl, @stepV_spec E18 57 s57 rfl, @effV_spec E18 57 s57 rfl, s57, @callV_spec E18 58 s58 rfl, @callV_specT E18 58 s58 rfl, @stepV_spec E18 58 s58 rfl, @effV_spec E18 58 s58 rfl, s58, @callV_spec E18 59 s59 rfl, @callV_specT E18 59 s59 rfl, @stepV_spec E18 59 s59 rfl, @effV_spec E18 59 s59 rfl, s59, encB, encQ, callSpec, hdb, h4, hq, ha, hf, hp, ho]
def s15 : Spec := spec2 (fun (b : PBook) (q : Parc) => Big4 b ∧ big q.pieces.length) (fun b q => .tup [.bool (fitsM b q).1, .int .i64 (fitsM b q).2])
theorem s15_ok : SpecOK Tryd.prog glB 15 s15 := spec2_ok E18_ok Tryd.func15 rfl (by kernel_rfl) fun b q h => rFits_fn b h.1 q h.2
theorem rPostage_fn (b : PBook) (h4 : Big4 b) (q : Parc) (hq : big q.pieces.length) (z : Int) : Fn E18 0 19 Tryd.f19 (Tryd.f19.body.getD .skip) [.agg (encB b), .agg (encQ q), .int .i64 z] (.tup [.int .i64 (postM b q z).1, .int .i64 (postM b q z).2]) := by
  have hdb : (dec (.agg (encB b)) : Option PBook) = some b := dec_book b
  obtain ⟨kd, l⟩ := q
  simp only at hq
  unfold Fn Tryd.f19
  cases hb : bookOk b with
  | false =>
    have ha : ∀ x, askedM b x = 60 := fun x => by unfold askedM; rw [hb]; rfl
    have hf : postM b ⟨kd, l⟩ z = (0, 60) := by unfold postM; rw [hb]; rfl
    obtain ⟨ps, ks, gr, fr, un, fe, st⟩ := b
    simp only [encB] at hdb
    cases hp : parcOk ⟨ps, ks, gr, fr, un, fe, st⟩ ⟨kd, l⟩ <;>
    simp only [go_sem, Nat.reduceAdd, Nat.reduceSub, Nat.reduceMul, Nat.reduceEqDiff, Nat.reduceLT, Nat.reduceLeDiff, Nat.reduceBEq, Nat.reduceBNe, Int.reduceToNat, Int.reduceLE, Int.reduceLT, Int.reduceNe, Int.reduceNeg, reduceCtorEq, Int.reduceBEq, Int.reduceBNe, @callV_spec E18 57 s57 rfl, @callV_specT E18 57 s57 rfl, @stepV_spec E18 57 s57 rfl, @effV_spec E18 57 s57 rfl, s57, @callV_spec E18 58 s58 rfl, @callV_specT E18 58 s58 rfl, @stepV_spec E18 58 s58 rfl, @effV_spec E18 58 s58 rfl, s58, @callV_spec E18 41 sTween rfl, @callV_specT E18 41 sTween rfl, @stepV_spec E18 41 sTween rfl, @effV_spec E18 41 sTween rfl, sTween, encB, encQ, callSpec, hdb, h4, hq, ha, hf, hp]
  | true =>
    have hG := book_good hb
    have ha0 : askedM b false = 61 := by unfold askedM; rw [hb]; rfl
    have ha : askedM b true = 0 := by unfold askedM; rw [hb]; rfl
    cases hp : parcOk b ⟨kd, l⟩ with
    | false =>
      have hf : postM b ⟨kd, l⟩ z = (0, 61) := by unfold postM; rw [hb, hp]; rfl
      obtain ⟨ps, ks, gr, fr, un, fe, st⟩ := b
      simp only [encB] at hdb
      simp only [go_sem, Nat.reduceAdd, Nat.reduceSub, Nat.reduceMul, Nat.reduceEqDiff, Nat.reduceLT, Nat.reduceLeDiff, Nat.reduceBEq, Nat.reduceBNe, Int.reduceToNat, Int.reduceLE, Int.reduceLT, Int.reduceNe, Int.reduceNeg, reduceCtorEq, Int.reduceBEq, Int.reduceBNe, @callV_spec E18 57 s57 rfl, @callV_specT E18 57 s57 rfl, @stepV_spec E18 57 s57 rfl, @effV_spec E18 57 s57 rfl, s57, @callV_spec E18 58 s58 rfl, @callV_specT E18 58 s58 rfl, @stepV_spec E18 58 s58 rfl, @effV_spec E18 58 s58 rfl, s58, @callV_spec E18 41 sTween rfl, @callV_specT E18 41 sTween rfl, @stepV_spec E18 41 sTween rfl, @effV_spec E18 41 sTween rfl, sTween, encB, encQ, callSpec, hdb, h4, hq, ha0, hf, hp]
    | true =>
      cases hz : (decide (0 ≤ z) && decide (z ≤ 4)) with
      | false =>
        have hf : postM b ⟨kd, l⟩ z = (0, 61) := by unfold postM; rw [hb, hp, hz]; rfl
        obtain ⟨ps, ks, gr, fr, un, fe, st⟩ := b
        simp only [encB] at hdb
        simp only [go_sem, Nat.reduceAdd, Nat.reduceSub, Nat.reduceMul, Nat.reduceEqDiff, Nat.reduceLT, Nat.reduceLeDiff, Nat.reduceBEq, Nat.reduceBNe, Int.reduceToNat, Int.reduceLE, Int.reduceLT, Int.reduceNe, Int.reduceNeg, reduceCtorEq, Int.reduceBEq, Int.reduceBNe, @callV_spec E18 57 s57 rfl, @callV_specT E18 57 s57 rfl, @stepV_spec E18 57 s57 rfl, @effV_spec E18 57 s57 rfl, s57, @callV_spec E18 58 s58 rfl, @callV_specT E18 58 s58 rfl, @stepV_spec E18 58 s58 rfl, @effV_spec E18 58 s58 rfl, s58, @callV_spec E18 41 sTween rfl, @callV_specT E18 41 sTween rfl, @stepV_spec E18 41 sTween rfl, @effV_spec E18 41 sTween rfl, sTween, encB, encQ, callSpec, hdb, h4, hq, ha0, hf, hp, hz]
      | true =>
        have hz' : 0 ≤ z ∧ z ≤ 4 := by simpa using hz
        have hf := post_is hb hp hz'
        have ho := eq_true (okRef_is hG hp)
        have hw := eq_true (weight_is hG hp)
        obtain ⟨ps, ks, gr, fr, un, fe, st⟩ := b
        simp only [encB] at hdb
        cases ht : takesM ⟨ps, ks, gr, fr, un, fe, st⟩ kd l with
        | false =>
          rw [ht, if_neg (by simp)] at hf
          simp only [go_sem, Nat.reduceAdd, Nat.reduceSub, Nat.reduceMul, Nat.reduceEqDiff, Nat.reduceLT, Nat.reduceLeDiff, Nat.reduceBEq, Nat.reduceBNe, Int.reduceToNat, Int.reduceLE, Int.reduceLT, Int.reduceNe, Int.reduceNeg, reduceCtorEq, Int.reduceBEq, Int.reduceBNe, @callV_spec E18 57 s57 rfl, @callV_specT E18 57 s57 rfl, @stepV_spec E18 57 s57 rfl, @effV_spec E18 57 s57 rfl, s57, @callV_spec E18 58 s58 rfl, @callV_specT E18 58 s58 rfl, @stepV_spec E18 58 s58 rfl, @effV_spec E18 58 s58 rfl, s58, @callV_spec E18 41 sTween rfl, @callV_specT E18 41 sTween rfl, @stepV_spec E18 41 sTween rfl, @effV_spec E18 41 sTween rfl, sTween, @callV_spec E18 59 s59 rfl, @callV_specT E18 59 s59 rfl, @stepV_spec E18 59 s59 rfl, @effV_spec E18 59 s59 rfl, s59, encB, encQ, callSpec, hdb, h4, hq, ha, hf, hp, hz, ho, ht]
        | true =>
          rw [ht, if_pos rfl] at hf
          simp only [go_sem, Nat.reduceAdd, Nat.reduceSub, Nat.reduceMul, Nat.reduceEqDiff, Nat.reduceLT, Nat.reduceLeDiff, Nat.reduceBEq, Nat.reduceBNe, Int.reduceToNat, Int.reduceLE, Int.reduceLT, Int.reduceNe, Int.reduceNeg, reduceCtorEq, Int.reduceBEq, Int.reduceBNe, @callV_spec E18 57 s57 rfl, @callV_specT E18 57 s57 rfl, @stepV_spec E18 57 s57 rfl, @effV_spec E18 57 s57 rfl, s57, @callV_spec E18 58 s58 rfl, @callV_specT E18 58 s58 rfl, @stepV_spec E18 58 s58 rfl, @effV_spec E18 58 s58 rfl, s58, @callV_spec E18 41 sTween rfl, @callV_specT E18 41 sTween rfl, @stepV_spec E18 41 sTween rfl, @effV_spec E18 41 sTween rfl, sTween, @callV_spec E18 59 s59 rfl, @callV_specT E18 59 s59 rfl, @stepV_spec E18 59 s59 rfl, @effV_spec E18 59 s59 rfl, s59, @callV_spec E18 63 s63 rfl, @callV_specT E18 63 s63 rfl, @stepV_spec E18 63 s63 rfl, @effV_spec E18 63 s63 rfl, s63, encB, encQ, callSpec, hdb, h4, hq, ha, hf, hp, hz, hz', ho, hw, ht]
def s19 : Spec := spec3 (fun (b : PBook) (q : Parc) (_ : Int) => Big4 b ∧ big q.pieces.length) (fun b q z => .tup [.int .i64 (postM b q z).1, .int .i64 (postM b q z).2])
theorem s19_ok : SpecOK Tryd.prog glB 19 s19 := spec3_ok E18_ok Tryd.func19 rfl (by kernel_rfl) fun b q z h => rPostage_fn b h.1 q h.2 z
end Wb
/- The reference's Big. -/
namespace Wb
open Go Go.Proofs Enc Row
set_option linter.unusedSimpArgs false
set_option linter.unusedVariables false
set_option maxRecDepth 20000
set_option maxHeartbeats 4000000
theorem dec_parc1 (k a : Int) (ex : Bool) : (dec (.agg [.int .i64 k, .sl [[.int .i64 a]] ex]) : Option Parc) = some ⟨k, [a]⟩ := rfl
theorem rBig_fn (b : PBook) (h4 : Big4 b) : Fn E18 0 21 Tryd.f21 (Tryd.f21.body.getD .skip) [.agg (encB b)] (.tup [.sl (il (bigM b).1) false, .int .i64 (bigM b).2]) := by
  have hdb : (dec (.agg (encB b)) : Option PBook) = some b := dec_book b
  unfold Fn Tryd.f21
  cases hb : bookOk b with
  | false =>
    have hbm : bigM b = ([], 60) := by unfold bigM; rw [hb]; rfl
    obtain ⟨ps, ks, gr, fr, un, fe, st⟩ := b
    simp only [encB] at hdb
    simp only [go_sem, Nat.reduceAdd, Nat.reduceSub, Nat.reduceMul, Nat.reduceEqDiff, Nat.reduceLT, Nat.reduceLeDiff, Nat.reduceBEq, Nat.reduceBNe, Int.reduceToNat, Int.reduceLE, Int.reduceLT, Int.reduceNe, Int.reduceNeg, reduceCtorEq, Int.reduceBEq, Int.reduceBNe, @callV_spec E18 17 s17 rfl, @callV_specT E18 17 s17 rfl, @stepV_spec E18 17 s17 rfl, @effV_spec E18 17 s17 rfl, s17, encB, callSpec, hdb, h4, hb, hbm, il_nil0]
  | true =>
    have hG := book_good hb
    have p1 := hG.p1
    have p7 := hG.p7
    have k1 := hG.k1
    have k4 := hG.k4
    have hbm : bigM b = (bigL b b.pieces.length, 0) := by unfold bigM; rw [hb]; rfl
    have hLl := bigL_len b
    have hLs := bigL_succ b
    have hT : ∀ k i : Nat, i < b.pieces.length → takesM b (k : Int) [(i : Int)] = fitsB b k (2 ^ i) := fun k i hi => by
      have hlt : 2 ^ i < 2 ^ b.pieces.length := (Nat.pow_lt_pow_iff_right (a := 2) (by decide)).2 hi
      rw [← of_one_all i (by omega)]; exact takes_fits hG hlt
    have okT : ∀ k i : Nat, k < b.kinds.length → i < b.pieces.length → okRef b ⟨(k : Int), [(i : Int)]⟩ = True := fun k i hk hi => by
      have hlt : 2 ^ i < 2 ^ b.pieces.length := (Nat.pow_lt_pow_iff_right (a := 2) (by decide)).2 hi
      rw [← of_one_all i (by omega)]
      exact eq_true (okRef_of hG hk (Nat.two_pow_pos i) hlt)
    have hone : ∀ i : Nat, i < b.pieces.length → ((dvOf false b 0 (2 ^ i)).2 < 0 ↔ (List.range b.kinds.length).any (fun k => fitsB b k (2 ^ i)) = false) := fun i hi => by
      have h := one_some (c := false) hG (z := 0) (by decide) hi
      rw [← Bool.not_eq_true, List.any_eq_true]
      constructor
      · rintro h1 ⟨k, hk, hf⟩
        have := h.2 ⟨k, List.mem_range.1 hk, hf⟩; omega
      · intro h1
        by_cases h2 : 0 ≤ (dvOf false b 0 (2 ^ i)).2
        · obtain ⟨k, hk, hf⟩ := h.1 h2
          exact absurd ⟨k, List.mem_range.2 hk, hf⟩ h1
        · omega
    obtain ⟨ps, ks, gr, fr, un, fe, st⟩ := b
    simp only [encB] at hdb
    simp only at p1 p7 k1 k4 hbm hT okT hone
    have hLl2 := hLl ps.length
    simp only [go_sem, Nat.reduceAdd, Nat.reduceSub, Nat.reduceMul, Nat.reduceEqDiff, Nat.reduceLT, Nat.reduceLeDiff, Nat.reduceBEq, Nat.reduceBNe, Int.reduceToNat, Int.reduceLE, Int.reduceLT, Int.reduceNe, Int.reduceNeg, reduceCtorEq, Int.reduceBEq, Int.reduceBNe, @callV_spec E18 17 s17 rfl, @callV_specT E18 17 s17 rfl, @stepV_spec E18 17 s17 rfl, @effV_spec E18 17 s17 rfl, s17, encB, callSpec, hdb, h4, hb, hbm, List.length_map]
    refine ev_loopS [1] (fun x : Nat × PV => [(5, x.2), (6, .int .i64 x.1)])
      (fun x H => x.1 ≤ ps.length ∧ H (([], 21000000) : Key) = some (.cells (encB ⟨ps, ks, gr, fr, un, fe, st⟩) 1 false) ∧ Own H (fun K => K = ([], 21014003)) x.2 1 (il (bigL ⟨ps, ks, gr, fr, un, fe, st⟩ x.1)))
      (fun x => ps.length - x.1) (0, .sl [] true) ?_ ⟨Nat.zero_le _, ?_, .nil⟩ ?_
    · simp only [go_sem, Nat.reduceAdd, Nat.reduceSub, Nat.reduceMul, Nat.reduceEqDiff, Nat.reduceLT, Nat.reduceLeDiff, Nat.reduceBEq, Nat.reduceBNe, Int.reduceToNat, Int.reduceLE, Int.reduceLT, Int.reduceNe, Int.reduceNeg, reduceCtorEq, Int.reduceBEq, Int.reduceBNe]
      trace_state
    · simp only [go_sem, Nat.reduceAdd, Nat.reduceSub, Nat.reduceMul, Nat.reduceEqDiff, Nat.reduceLT, Nat.reduceLeDiff, Nat.reduceBEq, Nat.reduceBNe, Int.reduceToNat, Int.reduceLE, Int.reduceLT, Int.reduceNe, Int.reduceNeg, reduceCtorEq, Int.reduceBEq, Int.reduceBNe, encB]
    · simp only [go_sem, Nat.reduceAdd, Nat.reduceSub, Nat.reduceMul, Nat.reduceEqDiff, Nat.reduceLT, Nat.reduceLeDiff, Nat.reduceBEq, Nat.reduceBNe, Int.reduceToNat, Int.reduceLE, Int.reduceLT, Int.reduceNe, Int.reduceNeg, reduceCtorEq, Int.reduceBEq, Int.reduceBNe]
      intro K x H ⟨hi, h1, h3⟩ hK hE
      obtain ⟨i, p⟩ := x
      simp only at hi h3
      dsimp only
      obtain ⟨hT1, hC1, hP1, hV1, hU1⟩ := OwnTaint h3
      have h1' := h1
      simp only [encB] at h1'
      simp only [go_sem, Nat.reduceAdd, Nat.reduceSub, Nat.reduceMul, Nat.reduceEqDiff, Nat.reduceLT, Nat.reduceLeDiff, Nat.reduceBEq, Nat.reduceBNe, Int.reduceToNat, Int.reduceLE, Int.reduceLT, Int.reduceNe, Int.reduceNeg, reduceCtorEq, Int.reduceBEq, Int.reduceBNe, h1', List.length_map]
      rw [condK_bool]
      refine ⟨fun h => ?_, fun h => ?_⟩
      · have h' : i < ps.length := by simpa using h
        have w2 : IntKind.i64.wrap ((i : Int) + 1) = ((i + 1 : Nat) : Int) := by rw [Int.natCast_add, Int.natCast_one]; exact wrap_id (by omega)
        have hsu := hLs i
        have hln := hLl i
        have hon := hone i h'
        generalize hfit : (fun k : Nat => fitsB ⟨ps, ks, gr, fr, un, fe, st⟩ k (2 ^ i)) = fit at *
        have hT : ∀ k : Nat, takesM ⟨ps, ks, gr, fr, un, fe, st⟩ (k : Int) [(i : Int)] = fit k := fun k => by rw [← hfit]; exact hT k i h'
        simp only [go_sem, Nat.reduceAdd, Nat.reduceSub, Nat.reduceMul, Nat.reduceEqDiff, Nat.reduceLT, Nat.reduceLeDiff, Nat.reduceBEq, Nat.reduceBNe, Int.reduceToNat, Int.reduceLE, Int.reduceLT, Int.reduceNe, Int.reduceNeg, reduceCtorEq, Int.reduceBEq, Int.reduceBNe]
        refine ev_loopS [1, 5, 6] (fun j : Nat => [(7, .bool (!(List.range j).any fit)), (8, .int .i64 j)])
          (fun j H => j ≤ ks.length ∧ H (([], 21000000) : Key) = some (.cells (encB ⟨ps, ks, gr, fr, un, fe, st⟩) 1 false) ∧ Own H (fun K => K = ([], 21014003)) p 1 (il (bigL ⟨ps, ks, gr, fr, un, fe, st⟩ i)))
          (fun j => ks.length - j) 0 ?_ ⟨Nat.zero_le _, ?_, ?_⟩ ?_
        · simp only [go_sem, Nat.reduceAdd, Nat.reduceSub, Nat.reduceMul, Nat.reduceEqDiff, Nat.reduceLT, Nat.reduceLeDiff, Nat.reduceBEq, Nat.reduceBNe, Int.reduceToNat, Int.reduceLE, Int.reduceLT, Int.reduceNe, Int.reduceNeg, reduceCtorEq, Int.reduceBEq, Int.reduceBNe, List.range_zero, List.any_nil, Int.natCast_zero]
          trace_state
        · simp only [go_sem, Nat.reduceAdd, Nat.reduceSub, Nat.reduceMul, Nat.reduceEqDiff, Nat.reduceLT, Nat.reduceLeDiff, Nat.reduceBEq, Nat.reduceBNe, Int.reduceToNat, Int.reduceLE, Int.reduceLT, Int.reduceNe, Int.reduceNeg, reduceCtorEq, Int.reduceBEq, Int.reduceBNe, h1]
        · exact h3.frame fun K hK => by subst hK; simp only [go_sem, Nat.reduceAdd, Nat.reduceSub, Nat.reduceMul, Nat.reduceEqDiff, Nat.reduceLT, Nat.reduceLeDiff, Nat.reduceBEq, Nat.reduceBNe, Int.reduceToNat, Int.reduceLE, Int.reduceLT, Int.reduceNe, Int.reduceNeg, reduceCtorEq, Int.reduceBEq, Int.reduceBNe]
        · simp only [go_sem, Nat.reduceAdd, Nat.reduceSub, Nat.reduceMul, Nat.reduceEqDiff, Nat.reduceLT, Nat.reduceLeDiff, Nat.reduceBEq, Nat.reduceBNe, Int.reduceToNat, Int.reduceLE, Int.reduceLT, Int.reduceNe, Int.reduceNeg, reduceCtorEq, Int.reduceBEq, Int.reduceBNe]
          intro K2 j H2 ⟨hj, g1, g3⟩ hK2 hE2
          have g1' := g1
          simp only [encB] at g1'
          simp only [go_sem, Nat.reduceAdd, Nat.reduceSub, Nat.reduceMul, Nat.reduceEqDiff, Nat.reduceLT, Nat.reduceLeDiff, Nat.reduceBEq, Nat.reduceBNe, Int.reduceToNat, Int.reduceLE, Int.reduceLT, Int.reduceNe, Int.reduceNeg, reduceCtorEq, Int.reduceBEq, Int.reduceBNe, g1', List.length_map]
          rw [condK_bool]
          refine ⟨fun hc => ?_, fun hc => ?_⟩
          · have hj' : j < ks.length := by simpa using hc
            have w8 : IntKind.i64.wrap ((j : Int) + 1) = ((j + 1 : Nat) : Int) := by rw [Int.natCast_add, Int.natCast_one]; exact wrap_id (by omega)
            have hTj := hT j
            have okTj := okT j i hj' h'
            have hany : (!(List.range (j + 1)).any fit) = (!(List.range j).any fit && !fit j) := by rw [List.range_succ, List.any_append]; simp
            generalize hgj : fit j = fj at *
            simp only [go_sem, Nat.reduceAdd, Nat.reduceSub, Nat.reduceMul, Nat.reduceEqDiff, Nat.reduceLT, Nat.reduceLeDiff, Nat.reduceBEq, Nat.reduceBNe, Int.reduceToNat, Int.reduceLE, Int.reduceLT, Int.reduceNe, Int.reduceNeg, reduceCtorEq, Int.reduceBEq, Int.reduceBNe, @callV_spec E18 59 s59 rfl, @callV_specT E18 59 s59 rfl, @stepV_spec E18 59 s59 rfl, @effV_spec E18 59 s59 rfl, s59, callSpec, g1', hdb, dec_parc1, hTj, okTj, big_1]
            refine hK2 (j + 1) _ _ ?_ ⟨hj', ?_, ?_⟩ (by omega)
            · rw [List.range_succ] at hany
              simp only [go_sem, Nat.reduceAdd, Nat.reduceSub, Nat.reduceMul, Nat.reduceEqDiff, Nat.reduceLT, Nat.reduceLeDiff, Nat.reduceBEq, Nat.reduceBNe, Int.reduceToNat, Int.reduceLE, Int.reduceLT, Int.reduceNe, Int.reduceNeg, reduceCtorEq, Int.reduceBEq, Int.reduceBNe, w8, hany]
            · simp only [go_sem, Nat.reduceAdd, Nat.reduceSub, Nat.reduceMul, Nat.reduceEqDiff, Nat.reduceLT, Nat.reduceLeDiff, Nat.reduceBEq, Nat.reduceBNe, Int.reduceToNat, Int.reduceLE, Int.reduceLT, Int.reduceNe, Int.reduceNeg, reduceCtorEq, Int.reduceBEq, Int.reduceBNe, g1]
            · exact g3.frame fun K hK => by subst hK; simp only [go_sem, Nat.reduceAdd, Nat.reduceSub, Nat.reduceMul, Nat.reduceEqDiff, Nat.reduceLT, Nat.reduceLeDiff, Nat.reduceBEq, Nat.reduceBNe, Int.reduceToNat, Int.reduceLE, Int.reduceLT, Int.reduceNe, Int.reduceNeg, reduceCtorEq, Int.reduceBEq, Int.reduceBNe]
          · have hjl : j = ks.length := by simp only [decide_eq_false_iff_not] at hc; omega
            subst hjl
            refine hE2 _ _ _ (by simp) ?_
            simp only [go_sem, Nat.reduceAdd, Nat.reduceSub, Nat.reduceMul, Nat.reduceEqDiff, Nat.reduceLT, Nat.reduceLeDiff, Nat.reduceBEq, Nat.reduceBNe, Int.reduceToNat, Int.reduceLE, Int.reduceLT, Int.reduceNe, Int.reduceNeg, reduceCtorEq, Int.reduceBEq, Int.reduceBNe]
            rw [condK_bool]
            refine ⟨fun hc2 => ?_, fun hc2 => ?_⟩
            · have hc3 : (List.range ks.length).any fit = false := by simpa using hc2
              rw [if_pos (hon.2 hc3)] at hsu
              simp only [go_sem, Nat.reduceAdd, Nat.reduceSub, Nat.reduceMul, Nat.reduceEqDiff, Nat.reduceLT, Nat.reduceLeDiff, Nat.reduceBEq, Nat.reduceBNe, Int.reduceToNat, Int.reduceLE, Int.reduceLT, Int.reduceNe, Int.reduceNeg, reduceCtorEq, Int.reduceBEq, Int.reduceBNe, hT1, hC1, hP1, hV1, hU1]
              refine app_one trivial rfl rfl (by decide) (by decide) (set_at_eq _ _ _) (g3.frame fun K hK => ?_) rfl (by rw [il_length]; show (_ + 1) * 8 ≤ _; omega) (il_row _) ⟨rfl, rfl⟩ fun p' H3 hO hF3 => ?_
              · subst hK; simp only [go_sem, Nat.reduceAdd, Nat.reduceSub, Nat.reduceMul, Nat.reduceEqDiff, Nat.reduceLT, Nat.reduceLeDiff, Nat.reduceBEq, Nat.reduceBNe, Int.reduceToNat, Int.reduceLE, Int.reduceLT, Int.reduceNe, Int.reduceNeg, reduceCtorEq, Int.reduceBEq, Int.reduceBNe]
              · obtain ⟨hT', hC', hP', hV', hU'⟩ := OwnTaint hO
                simp only [go_sem, Nat.reduceAdd, Nat.reduceSub, Nat.reduceMul, Nat.reduceEqDiff, Nat.reduceLT, Nat.reduceLeDiff, Nat.reduceBEq, Nat.reduceBNe, Int.reduceToNat, Int.reduceLE, Int.reduceLT, Int.reduceNe, Int.reduceNeg, reduceCtorEq, Int.reduceBEq, Int.reduceBNe, hT', hC', hP', hV', hU']
                refine hK (i + 1, p') _ _ ?_ ⟨h', ?_, by rw [hsu, il_append']; exact hO⟩ (by simp only; omega)
                · simp only [go_sem, Nat.reduceAdd, Nat.reduceSub, Nat.reduceMul, Nat.reduceEqDiff, Nat.reduceLT, Nat.reduceLeDiff, Nat.reduceBEq, Nat.reduceBNe, Int.reduceToNat, Int.reduceLE, Int.reduceLT, Int.reduceNe, Int.reduceNeg, reduceCtorEq, Int.reduceBEq, Int.reduceBNe, w2]
                · rw [hF3 _ (by simp)]; simp only [go_sem, Nat.reduceAdd, Nat.reduceSub, Nat.reduceMul, Nat.reduceEqDiff, Nat.reduceLT, Nat.reduceLeDiff, Nat.reduceBEq, Nat.reduceBNe, Int.reduceToNat, Int.reduceLE, Int.reduceLT, Int.reduceNe, Int.reduceNeg, reduceCtorEq, Int.reduceBEq, Int.reduceBNe, g1]
            · have hc3 : ¬ (List.range ks.length).any fit = false := by simpa using hc2
              rw [if_neg (fun h => hc3 (hon.1 h)), List.append_nil] at hsu
              simp only [go_sem, Nat.reduceAdd, Nat.reduceSub, Nat.reduceMul, Nat.reduceEqDiff, Nat.reduceLT, Nat.reduceLeDiff, Nat.reduceBEq, Nat.reduceBNe, Int.reduceToNat, Int.reduceLE, Int.reduceLT, Int.reduceNe, Int.reduceNeg, reduceCtorEq, Int.reduceBEq, Int.reduceBNe]
              refine hK (i + 1, p) _ _ ?_ ⟨h', ?_, by rw [hsu]; exact g3.frame fun K hK => by subst hK; simp only [go_sem, Nat.reduceAdd, Nat.reduceSub, Nat.reduceMul, Nat.reduceEqDiff, Nat.reduceLT, Nat.reduceLeDiff, Nat.reduceBEq, Nat.reduceBNe, Int.reduceToNat, Int.reduceLE, Int.reduceLT, Int.reduceNe, Int.reduceNeg, reduceCtorEq, Int.reduceBEq, Int.reduceBNe]⟩ (by simp only; omega)
              · simp only [go_sem, Nat.reduceAdd, Nat.reduceSub, Nat.reduceMul, Nat.reduceEqDiff, Nat.reduceLT, Nat.reduceLeDiff, Nat.reduceBEq, Nat.reduceBNe, Int.reduceToNat, Int.reduceLE, Int.reduceLT, Int.reduceNe, Int.reduceNeg, reduceCtorEq, Int.reduceBEq, Int.reduceBNe, w2]
              · simp only [go_sem, Nat.reduceAdd, Nat.reduceSub, Nat.reduceMul, Nat.reduceEqDiff, Nat.reduceLT, Nat.reduceLeDiff, Nat.reduceBEq, Nat.reduceBNe, Int.reduceToNat, Int.reduceLE, Int.reduceLT, Int.reduceNe, Int.reduceNeg, reduceCtorEq, Int.reduceBEq, Int.reduceBNe, g1]
      · have hil : i = ps.length := by simp only [decide_eq_false_iff_not] at h; omega
        subst hil
        refine hE _ _ _ (by simp) ?_
        rcases h3 with ⟨e1, rfl⟩ | ⟨K', v', rfl, rfl, h5⟩
        · simp only [go_sem, Nat.reduceAdd, Nat.reduceSub, Nat.reduceMul, Nat.reduceEqDiff, Nat.reduceLT, Nat.reduceLeDiff, Nat.reduceBEq, Nat.reduceBNe, Int.reduceToNat, Int.reduceLE, Int.reduceLT, Int.reduceNe, Int.reduceNeg, reduceCtorEq, Int.reduceBEq, Int.reduceBNe, e1]
        · simp only [go_sem, Nat.reduceAdd, Nat.reduceSub, Nat.reduceMul, Nat.reduceEqDiff, Nat.reduceLT, Nat.reduceLeDiff, Nat.reduceBEq, Nat.reduceBNe, Int.reduceToNat, Int.reduceLE, Int.reduceLT, Int.reduceNe, Int.reduceNeg, reduceCtorEq, Int.reduceBEq, Int.reduceBNe, h5, il_length]
def s21 : Spec := spec1 (fun (b : PBook) => Big4 b) (fun b => .tup [.sl (il (bigM b).1) false, .int .i64 (bigM b).2])
theorem s21_ok : SpecOK Tryd.prog glB 21 s21 := spec1_ok E18_ok Tryd.func21 rfl (by kernel_rfl) fun b h => rBig_fn b h
end Wb
