import Derived.Test.YtjdljckgphbkmaaDoorAB
set_option linter.unusedVariables false
set_option linter.unusedSimpArgs false
/- ParcelEasier. -/
namespace Wb
open Go Go.Proofs Enc Row
set_option linter.unusedSimpArgs false
set_option linter.unusedVariables false
set_option maxRecDepth 20000
set_option maxHeartbeats 4000000
theorem drows_set {α : Type} [Row α] : ∀ (rs : List (List PV)) (l : List α) (row : List PV) (a : α) (k : Nat), drows rs = some l → drow row = some a → drows (rs.set k row) = some (l.set k a)
  | [], l, _, _, _, h, _ => by simp only [drows] at h; cases h; rfl
  | r :: rs, l, row, a, k, h, hr => by
    rw [drows] at h
    split at h
    · rename_i b m hb hm
      cases h
      cases k with
      | zero => rw [List.set_cons_zero, List.set_cons_zero, drows, hr, hm]
      | succ k => rw [List.set_cons_succ, List.set_cons_succ, drows, hb, drows_set rs m row a k hm hr]
    · cases h
theorem drows_app {α : Type} [Row α] : ∀ (rs rs' : List (List PV)) (l l' : List α), drows rs = some l → drows rs' = some l' → drows (rs ++ rs') = some (l ++ l')
  | [], rs', l, l', h, h' => by simp only [drows] at h; cases h; exact h'
  | r :: rs, rs', l, l', h, h' => by
    rw [drows] at h
    split at h
    · rename_i b m hb hm
      cases h
      rw [List.cons_append, List.cons_append, drows, hb, drows_app rs rs' m l' hm h']
    · cases h
theorem dec_bookX {ps' kr : List (List PV)} {P : List Piece} {K : List Kind} (h1 : drows ps' = some P) (h2 : drows kr = some K) (a b c d : Int) (st : List Int) (e1 e2 e3 : Bool) :
    (dec (.agg [.sl ps' e1, .sl kr e2, .int .i64 a, .int .i64 b, .int .i64 c, .int .i64 d, .sl (il st) e3]) : Option PBook) = some ⟨P, K, a, b, c, d, st⟩ := by
  show dB7 _ _ _ _ _ _ _ = _
  have h3 := drows_rows st
  unfold dB7
  rw [show il st = rows st from rfl, h1, h2, h3]
theorem drow_kind (a b d : Int) (zs : List Int) (e : Bool) : (drow [.int .i64 a, .int .i64 b, .sl (il zs) e, .int .i64 d] : Option Kind) = some ⟨a, b, zs, d⟩ := by
  show (drows (il zs)).map _ = _
  rw [show il zs = rows zs from rfl, drows_rows]; rfl
theorem drows_kinds (ks : List Kind) : drows (ks.map encK) = some ks := drows_rows ks
theorem drows_pieces (ps : List Piece) : drows (ps.map encP) = some ps := drows_rows ps
theorem good_big4 {b : PBook} (hG : GBook b) : Big4 b :=
  ⟨by have := hG.p7; unfold big; omega, by have := hG.k4; unfold big; omega, fun k hk => by have := (hG.ks k hk).2.2.1; unfold big; omega, by have := hG.s5; unfold big; omega⟩
theorem kind_of {y : Kind} (h : (1 ≤ y.room ∧ y.room ≤ 500) ∧ (1 ≤ y.most ∧ y.most ≤ 5000) ∧ y.zones.length = 5 ∧ (0 ≤ y.step ∧ y.step ≤ 1000) ∧ ∀ n ∈ y.zones, 1 ≤ n ∧ n ≤ 1000) : kindOk y = true := by
  unfold kindOk btw
  simp only [Bool.and_eq_true, decide_eq_true_eq, List.all_eq_true]
  exact ⟨⟨⟨⟨h.1, h.2.1⟩, h.2.2.1⟩, h.2.2.2.1⟩, h.2.2.2.2⟩
theorem easier_walk (b : PBook) (h4 : Big4 b) (n0 n1 n2 n3 : Int) : Fn E24 0 10 Tryd.f10 (Tryd.f10.body.getD .skip) [.agg (encB b), .agg [.int .i64 n0, .int .i64 n1, .int .i64 n2, .int .i64 n3]] (.bool true) := by
  have hdb : (dec (.agg (encB b)) : Option PBook) = some b := dec_book b
  unfold Fn Tryd.f10
  cases hb : bookOk b with
  | false =>
    obtain ⟨ps, ks, gr, fr, un, fe, st⟩ := b
    simp only [encB] at hdb
    simp only [go_sem, Nat.reduceAdd, Nat.reduceSub, Nat.reduceMul, Nat.reduceEqDiff, Nat.reduceLT, Nat.reduceLeDiff, Nat.reduceBEq, Nat.reduceBNe, Int.reduceToNat, Int.reduceLE, Int.reduceLT, Int.reduceNe, Int.reduceNeg, reduceCtorEq, Int.reduceBEq, Int.reduceBNe, @callV_spec E24 36 s36 rfl, @callV_specT E24 36 s36 rfl, @stepV_spec E24 36 s36 rfl, @effV_spec E24 36 s36 rfl, s36, @callV_spec E24 23 s23 rfl, @callV_specT E24 23 s23 rfl, @stepV_spec E24 23 s23 rfl, @effV_spec E24 23 s23 rfl, s23, encB, callSpec, hdb, h4, hb]
  | true =>
    have hG := book_good hb
    have p7 := hG.p7
    have p1 := hG.p1
    have k1 := hG.k1
    have k4 := hG.k4
    obtain ⟨z1, z2⟩ := spin_range (n := n3) (m := 5) (by omega)
    generalize hz : spinF n3 5 = z at *
    have hzz : 0 ≤ z ∧ z ≤ 4 := by omega
    obtain ⟨B1, B2⟩ := spin_range (n := n2) (m := 50) (by omega)
    generalize hB : spinF n2 50 = B at *
    obtain ⟨m1, m2⟩ := spin_range (n := n0) (m := 5) (by omega)
    generalize hm : spinF n0 5 = m at *
    obtain ⟨k, hk, hkl⟩ := spin_nat (n := n1) (m := b.kinds.length) (by omega)
    obtain ⟨i, hi, hil⟩ := spin_nat (n := n1) (m := b.pieces.length) (by omega)
    have hki : (k : Int) < (b.kinds.length : Int) := by omega
    have hpw : ((b.pieces.length : Int) ≤ 9223372036854775807) = True := eq_true (by omega)
    have hkw : ((b.kinds.length : Int) ≤ 9223372036854775807) = True := eq_true (by omega)
    have hkall := kinds_ok hb
    have hbk := hb
    have hwb := @withK_better b hb
    have hels := easier_less hb (i := i)
    have hlp := less_pieces (b := b) p7 hil
    have hyG := hG.ks (b.kinds.getD k default) (by simp [List.getD_eq_getElem?_getD, hkl])
    have hkrow : (∀ row ∈ b.kinds.map encK, row.length = 4 ∧ cells1 row = true) = True := eq_true fun row h => by
      obtain ⟨q, _, rfl⟩ := List.mem_map.1 h; exact ⟨rfl, rfl⟩
    have hk48 : (b.kinds.length * 48 ≤ 35184372088832) = True := eq_true (by omega)
    have hsetd : ∀ (y' : Kind) j, j < b.kinds.length → (b.kinds.set k y').getD j default = if j = k then y' else b.kinds.getD j default := fun y' j hj => by
      rw [List.getD_eq_getElem?_getD, List.getElem?_set]
      by_cases e : k = j
      · subst e; simp [hj]
      · rw [if_neg e, if_neg (fun h => e h.symm), List.getD_eq_getElem?_getD]
    have hsetk : ∀ (y' : Kind), kindOk y' = true → BetterK (b.kinds.getD k default) y' → bookOk (withK b (b.kinds.set k y')) = true ∧ ∀ z, 0 ≤ z ∧ z ≤ 4 → Easier b (withK b (b.kinds.set k y')) z := fun y' h1 h2 => hwb (ks := b.kinds.set k y') (by rw [List.length_set]; omega) (fun q hq => by
        rcases List.mem_or_eq_of_mem_set hq with h | h
        · exact hkall q h
        · rw [h]; exact h1) fun j hj => by
        rw [hsetd y' j hj]
        split
        · rename_i e; subst e; exact h2
        · exact BetterK.refl _
    obtain ⟨ps, ks, gr, fr, un, fe, st⟩ := b
    simp only [encB] at hdb
    simp only at p7 p1 k1 k4 hk hkl hi hil hki hpw hkw hyG hkrow hk48 hsetk hwb hkall hlp hels
    have hks : ks ≠ [] := fun e => by rw [e] at k1; simp at k1
    have hksm : ks.map encK ≠ [] := by simpa using hks
    generalize hyy : ks.getD k default = y at *
    obtain ⟨yr, ym, yz, ys⟩ := y
    obtain ⟨G1, G2, G3, G4, G5⟩ := hyG
    simp only at G1 G2 G3 G4 G5
    rcases (show m = 0 ∨ m = 1 ∨ m = 2 ∨ m = 3 ∨ m = 4 by omega) with rfl | rfl | rfl | rfl | rfl
    · obtain ⟨hx0, hE0⟩ := hsetk ⟨yr, ym, yz, ys⟩ (kind_of ⟨G1, G2, G3, G4, G5⟩) (BetterK.refl _)
      have hii : (i : Int) < (ps.length : Int) := by omega
      by_cases h2p : (ps.length : Int) > 1
      · obtain ⟨hx, hE⟩ := hels (by omega) hil
        have hset : ks.set k ⟨yr, ym, yz, ys⟩ = ks := by
          rw [← hyy, List.getD_eq_getElem?_getD, List.getElem?_eq_getElem hkl, Option.getD_some, List.set_getElem_self]
        have hXe : (⟨ps.take i ++ ps.drop (i + 1), ks.set k ⟨yr, ym, yz, ys⟩, gr, fr, un, fe, st⟩ : PBook) = partB ⟨ps, ks, gr, fr, un, fe, st⟩ (ofS (lessS ps.length i) 7) := by
          rw [hset, ← hlp]; rfl
        have wi : IntKind.i64.wrap ((i : Int) + 1) = ((i + 1 : Nat) : Int) := by rw [Int.natCast_add, Int.natCast_one]; exact wrap_id (by omega)
        have hprow : ∀ row ∈ ps.map encP, row.length = 4 ∧ cells1 row = true := fun row h => by
          obtain ⟨q, _, rfl⟩ := List.mem_map.1 h; exact ⟨rfl, rfl⟩
        have dP : drows (List.take i (List.map encP ps) ++ List.drop (i + 1) (List.map encP ps)) = some (ps.take i ++ ps.drop (i + 1)) := by
          rw [← List.map_take, ← List.map_drop]
          exact drows_app _ _ _ _ (drows_pieces _) (drows_pieces _)
        obtain ⟨was, e, is, f, few, now, a1, a2, a3, a4, hcase⟩ := easier_law hbk hx hE hzz
        have h4X := good_big4 (book_good hx)
        have hdX : ∀ e1 e2 e3, (dec (.agg [.sl (List.take i (List.map encP ps) ++ List.drop (i + 1) (List.map encP ps)) e1, .sl ((List.map encK ks).set k [.int .i64 yr, .int .i64 ym, .sl (il yz) false, .int .i64 ys]) e2, .int .i64 gr, .int .i64 fr, .int .i64 un, .int .i64 fe, .sl (il st) e3]) : Option PBook) = some (partB ⟨ps, ks, gr, fr, un, fe, st⟩ (ofS (lessS ps.length i) 7)) := fun e1 e2 e3 => (dec_bookX (dP) (drows_set _ _ _ _ k (drows_kinds ks) (drow_kind yr ym ys yz false)) gr fr un fe st e1 e2 e3).trans (congrArg some hXe)
        generalize hX : partB ⟨ps, ks, gr, fr, un, fe, st⟩ (ofS (lessS ps.length i) 7) = X at *
        simp only [go_sem, Nat.reduceAdd, Nat.reduceSub, Nat.reduceMul, Nat.reduceEqDiff, Nat.reduceLT, Nat.reduceLeDiff, Nat.reduceBEq, Nat.reduceBNe, Int.reduceToNat, Int.reduceLE, Int.reduceLT, Int.reduceNe, Int.reduceNeg, reduceCtorEq, Int.reduceBEq, Int.reduceBNe, @callV_spec E24 36 s36 rfl, @callV_specT E24 36 s36 rfl, @stepV_spec E24 36 s36 rfl, @effV_spec E24 36 s36 rfl, s36, @callV_spec E24 35 sSpin rfl, @callV_specT E24 35 sSpin rfl, @stepV_spec E24 35 sSpin rfl, @effV_spec E24 35 sSpin rfl, sSpin, @callV_spec E24 28 s28 rfl, @callV_specT E24 28 s28 rfl, @stepV_spec E24 28 s28 rfl, @effV_spec E24 28 s28 rfl, s28, @callV_spec E24 26 s26 rfl, @callV_specT E24 26 s26 rfl, @stepV_spec E24 26 s26 rfl, @effV_spec E24 26 s26 rfl, s26, encB, callSpec, hdb, h4, hb, hz, hm, hB, hk, hpw, hkw, hki, hkl, getD_mapN encK ks k _ hkl, hyy, encK, app, rowsOf, hksm, hkrow, hk48, h4X, hdX, a1, a2, a3, a4, bne_self_eq_false, List.length_map, List.length_set, h2p, hi, hii, wi, List.length_append]
        refine ⟨by omega, fun row h => hprow row (List.mem_of_mem_take h), by have := List.length_take_le' i (List.map encP ps); rw [List.length_map] at this; omega, ⟨by omega, fun row h => (hprow row h).1⟩, fun row h => hprow row (List.mem_of_mem_drop h), by have := List.length_take_le' i (List.map encP ps); rw [List.length_map] at this; rw [List.length_drop, List.length_map]; omega, ?_⟩
        rcases hcase with ⟨rfl, rfl, rfl | rfl⟩ | ⟨rfl, rfl, h1, h2⟩
        · simp only [go_sem, Nat.reduceAdd, Nat.reduceSub, Nat.reduceMul, Nat.reduceEqDiff, Nat.reduceLT, Nat.reduceLeDiff, Nat.reduceBEq, Nat.reduceBNe, Int.reduceToNat, Int.reduceLE, Int.reduceLT, Int.reduceNe, Int.reduceNeg, reduceCtorEq, Int.reduceBEq, Int.reduceBNe, @callV_spec E24 23 s23 rfl, @callV_specT E24 23 s23 rfl, @stepV_spec E24 23 s23 rfl, @effV_spec E24 23 s23 rfl, s23, callSpec]
        · simp only [go_sem, Nat.reduceAdd, Nat.reduceSub, Nat.reduceMul, Nat.reduceEqDiff, Nat.reduceLT, Nat.reduceLeDiff, Nat.reduceBEq, Nat.reduceBNe, Int.reduceToNat, Int.reduceLE, Int.reduceLT, Int.reduceNe, Int.reduceNeg, reduceCtorEq, Int.reduceBEq, Int.reduceBNe, @callV_spec E24 23 s23 rfl, @callV_specT E24 23 s23 rfl, @stepV_spec E24 23 s23 rfl, @effV_spec E24 23 s23 rfl, s23, callSpec]
        · simp only [go_sem, Nat.reduceAdd, Nat.reduceSub, Nat.reduceMul, Nat.reduceEqDiff, Nat.reduceLT, Nat.reduceLeDiff, Nat.reduceBEq, Nat.reduceBNe, Int.reduceToNat, Int.reduceLE, Int.reduceLT, Int.reduceNe, Int.reduceNeg, reduceCtorEq, Int.reduceBEq, Int.reduceBNe, @callV_spec E24 23 s23 rfl, @callV_specT E24 23 s23 rfl, @stepV_spec E24 23 s23 rfl, @effV_spec E24 23 s23 rfl, s23, callSpec, h1, h2]
      · have hx := hx0
        have hE := hE0
        obtain ⟨was, e, is, f, few, now, a1, a2, a3, a4, hcase⟩ := easier_law hbk hx hE hzz
        have h4X := good_big4 (book_good hx)
        have hdX : ∀ e1 e2 e3, (dec (.agg [.sl (ps.map encP) e1, .sl ((List.map encK ks).set k [.int .i64 yr, .int .i64 ym, .sl (il yz) false, .int .i64 ys]) e2, .int .i64 gr, .int .i64 fr, .int .i64 un, .int .i64 fe, .sl (il st) e3]) : Option PBook) = some (withK ⟨ps, ks, gr, fr, un, fe, st⟩ (ks.set k ⟨yr, ym, yz, ys⟩)) := fun e1 e2 e3 => dec_bookX (drows_pieces ps) (drows_set _ _ _ _ k (drows_kinds ks) (drow_kind yr ym ys yz false)) gr fr un fe st e1 e2 e3
        generalize hX : withK ⟨ps, ks, gr, fr, un, fe, st⟩ (ks.set k ⟨yr, ym, yz, ys⟩) = X at *
        simp only [go_sem, Nat.reduceAdd, Nat.reduceSub, Nat.reduceMul, Nat.reduceEqDiff, Nat.reduceLT, Nat.reduceLeDiff, Nat.reduceBEq, Nat.reduceBNe, Int.reduceToNat, Int.reduceLE, Int.reduceLT, Int.reduceNe, Int.reduceNeg, reduceCtorEq, Int.reduceBEq, Int.reduceBNe, @callV_spec E24 36 s36 rfl, @callV_specT E24 36 s36 rfl, @stepV_spec E24 36 s36 rfl, @effV_spec E24 36 s36 rfl, s36, @callV_spec E24 35 sSpin rfl, @callV_specT E24 35 sSpin rfl, @stepV_spec E24 35 sSpin rfl, @effV_spec E24 35 sSpin rfl, sSpin, @callV_spec E24 28 s28 rfl, @callV_specT E24 28 s28 rfl, @stepV_spec E24 28 s28 rfl, @effV_spec E24 28 s28 rfl, s28, @callV_spec E24 26 s26 rfl, @callV_specT E24 26 s26 rfl, @stepV_spec E24 26 s26 rfl, @effV_spec E24 26 s26 rfl, s26, encB, callSpec, hdb, h4, hb, hz, hm, hB, hk, hpw, hkw, hki, hkl, getD_mapN encK ks k _ hkl, hyy, encK, app, rowsOf, hksm, hkrow, hk48, h4X, hdX, a1, a2, a3, a4, bne_self_eq_false, List.length_map, List.length_set, h2p, hi]
        rcases hcase with ⟨rfl, rfl, rfl | rfl⟩ | ⟨rfl, rfl, h1, h2⟩
        · simp only [go_sem, Nat.reduceAdd, Nat.reduceSub, Nat.reduceMul, Nat.reduceEqDiff, Nat.reduceLT, Nat.reduceLeDiff, Nat.reduceBEq, Nat.reduceBNe, Int.reduceToNat, Int.reduceLE, Int.reduceLT, Int.reduceNe, Int.reduceNeg, reduceCtorEq, Int.reduceBEq, Int.reduceBNe, @callV_spec E24 23 s23 rfl, @callV_specT E24 23 s23 rfl, @stepV_spec E24 23 s23 rfl, @effV_spec E24 23 s23 rfl, s23, callSpec]
        · simp only [go_sem, Nat.reduceAdd, Nat.reduceSub, Nat.reduceMul, Nat.reduceEqDiff, Nat.reduceLT, Nat.reduceLeDiff, Nat.reduceBEq, Nat.reduceBNe, Int.reduceToNat, Int.reduceLE, Int.reduceLT, Int.reduceNe, Int.reduceNeg, reduceCtorEq, Int.reduceBEq, Int.reduceBNe, @callV_spec E24 23 s23 rfl, @callV_specT E24 23 s23 rfl, @stepV_spec E24 23 s23 rfl, @effV_spec E24 23 s23 rfl, s23, callSpec]
        · simp only [go_sem, Nat.reduceAdd, Nat.reduceSub, Nat.reduceMul, Nat.reduceEqDiff, Nat.reduceLT, Nat.reduceLeDiff, Nat.reduceBEq, Nat.reduceBNe, Int.reduceToNat, Int.reduceLE, Int.reduceLT, Int.reduceNe, Int.reduceNeg, reduceCtorEq, Int.reduceBEq, Int.reduceBNe, @callV_spec E24 23 s23 rfl, @callV_specT E24 23 s23 rfl, @stepV_spec E24 23 s23 rfl, @effV_spec E24 23 s23 rfl, s23, callSpec, h1, h2]
    · obtain ⟨low, hlow⟩ : ∃ low : Int → Int, low = fun a => if a - B > 1 then a - B else 1 := ⟨_, rfl⟩
      have hlowb : ∀ a, 1 ≤ a ∧ a ≤ 1000 → (1 ≤ low a ∧ low a ≤ 1000) ∧ low a ≤ a := fun a ha => by rw [hlow]; simp only; split <;> omega
      have wr : IntKind.i64.wrap (ys - B) = ys - B := wrap_id (by omega)
      obtain ⟨s', hs'⟩ : ∃ s', (if ys - B > 0 then ys - B else 0) = s' := ⟨_, rfl⟩
      have hsb : (0 ≤ s' ∧ s' ≤ 1000) ∧ s' ≤ ys := by split at hs' <;> omega
      have hzz1 : ∀ row ∈ il yz, row.length = 1 ∧ cells1 row = true := fun row h => by
        obtain ⟨a, _, rfl⟩ := List.mem_map.1 h; exact ⟨rfl, rfl⟩
      have hz5 : (yz.length * 8 ≤ 35184372088832) = True := eq_true (by omega)
      have hzne : il yz ≠ [] := fun e => by have := congrArg List.length e; rw [il_length, G3] at this; cases this
      obtain ⟨hx, hE2⟩ := hsetk ⟨yr, ym, yz.map low, s'⟩ (kind_of ⟨G1, G2, by simp only [List.length_map]; exact G3, hsb.1, fun n hn => by
        obtain ⟨a, ha, rfl⟩ := List.mem_map.1 hn
        exact (hlowb a (G5 a ha)).1⟩) ⟨Int.le_refl _, Int.le_refl _, hsb.2, fun j hj => by
        have hjl : j < yz.length := by omega
        have hja : yz.getD j 0 ∈ yz := by simp [List.getD_eq_getElem?_getD, hjl]
        have : (yz.map low).getD j 0 = low (yz.getD j 0) := by simp [List.getD_eq_getElem?_getD, hjl]
        simp only
        rw [this]; exact (hlowb _ (G5 _ hja)).2⟩
      have mixS : ∀ j, j < yz.length → (il ((yz.map low).take j ++ yz.drop j)).set j [.int .i64 (low (yz.getD j 0))] = il ((yz.map low).take (j + 1) ++ yz.drop (j + 1)) := fun j hj => by
        unfold il
        rw [← List.map_set]
        congr 1
        rw [List.set_append_right _ _ (by simp; omega), List.drop_eq_getElem_cons hj, List.take_succ_eq_append_getElem (by rw [List.length_map]; exact hj), List.append_assoc]
        congr 1
        have : j - ((yz.map low).take j).length = 0 := by rw [List.length_take, List.length_map]; omega
        rw [this, List.set_cons_zero, List.singleton_append]
        congr 1
        simp [List.getD_eq_getElem?_getD, hj]
      have mixG : ∀ j, j < yz.length → ((yz.map low).take j ++ yz.drop j).getD j 0 = yz.getD j 0 := fun j hj => by
        rw [List.getD_eq_getElem?_getD, List.getElem?_append_right (by simp; omega)]
        have : j - ((yz.map low).take j).length = 0 := by rw [List.length_take, List.length_map]; omega
        rw [this, List.getElem?_drop, List.getD_eq_getElem?_getD, Nat.add_zero]
      have mixL : ∀ j, j ≤ yz.length → ((yz.map low).take j ++ yz.drop j).length = yz.length := fun j hj => by
        rw [List.length_append, List.length_take, List.length_drop, List.length_map]; omega
      simp only [go_sem, Nat.reduceAdd, Nat.reduceSub, Nat.reduceMul, Nat.reduceEqDiff, Nat.reduceLT, Nat.reduceLeDiff, Nat.reduceBEq, Nat.reduceBNe, Int.reduceToNat, Int.reduceLE, Int.reduceLT, Int.reduceNe, Int.reduceNeg, reduceCtorEq, Int.reduceBEq, Int.reduceBNe, @callV_spec E24 36 s36 rfl, @callV_specT E24 36 s36 rfl, @stepV_spec E24 36 s36 rfl, @effV_spec E24 36 s36 rfl, s36, @callV_spec E24 35 sSpin rfl, @callV_specT E24 35 sSpin rfl, @stepV_spec E24 35 sSpin rfl, @effV_spec E24 35 sSpin rfl, sSpin, encB, callSpec, hdb, h4, hb, hm, hB, hk, hpw, hkw, hki, hkl, getD_mapN encK ks k _ hkl, hyy, encK, app, rowsOf, hksm, hkrow, hk48, hzz1, hz5, hzne, il_length, List.length_map]
      refine ⟨hzz1, ?_⟩
      refine ev_loopS [2, 3, 5, 6, 7, 8] (fun j : Nat => [(10, .int .i64 j)])
        (fun j H => j ≤ yz.length ∧ H (([], 10000000) : Key) = some (.cells (encB ⟨ps, ks, gr, fr, un, fe, st⟩) 1 false) ∧ H (([], 10000001) : Key) = some (.cells [.int .i64 n0, .int .i64 n1, .int .i64 n2, .int .i64 n3] 1 false) ∧
          H (([], 10003001) : Key) = some (.cells [.sl (ps.map encP) false, .sref ([], 10005003) 1 4 ks.length false, .int .i64 gr, .int .i64 fr, .int .i64 un, .int .i64 fe, .sl (il st) false] 1 false) ∧
          H (([], 10005003) : Key) = some (.rows 4 (ks.map encK) 1 false) ∧ H (([], 10006005) : Key) = some (.cells [.int .i64 yr, .int .i64 ym, .sref ([], 10015003) 1 1 yz.length false, .int .i64 ys] 1 false) ∧
          H (([], 10015003) : Key) = some (.rows 1 (il ((yz.map low).take j ++ yz.drop j)) 1 false))
        (fun j => yz.length - j) 0 ?_ ⟨Nat.zero_le _, ?_, ?_, ?_, ?_, ?_, ?_⟩ ?_
      · simp only [go_sem, Nat.reduceAdd, Nat.reduceSub, Nat.reduceMul, Nat.reduceEqDiff, Nat.reduceLT, Nat.reduceLeDiff, Nat.reduceBEq, Nat.reduceBNe, Int.reduceToNat, Int.reduceLE, Int.reduceLT, Int.reduceNe, Int.reduceNeg, reduceCtorEq, Int.reduceBEq, Int.reduceBNe, Int.natCast_zero]
      · simp only [go_sem, Nat.reduceAdd, Nat.reduceSub, Nat.reduceMul, Nat.reduceEqDiff, Nat.reduceLT, Nat.reduceLeDiff, Nat.reduceBEq, Nat.reduceBNe, Int.reduceToNat, Int.reduceLE, Int.reduceLT, Int.reduceNe, Int.reduceNeg, reduceCtorEq, Int.reduceBEq, Int.reduceBNe, encB]
      · simp only [go_sem, Nat.reduceAdd, Nat.reduceSub, Nat.reduceMul, Nat.reduceEqDiff, Nat.reduceLT, Nat.reduceLeDiff, Nat.reduceBEq, Nat.reduceBNe, Int.reduceToNat, Int.reduceLE, Int.reduceLT, Int.reduceNe, Int.reduceNeg, reduceCtorEq, Int.reduceBEq, Int.reduceBNe]
      · simp only [go_sem, Nat.reduceAdd, Nat.reduceSub, Nat.reduceMul, Nat.reduceEqDiff, Nat.reduceLT, Nat.reduceLeDiff, Nat.reduceBEq, Nat.reduceBNe, Int.reduceToNat, Int.reduceLE, Int.reduceLT, Int.reduceNe, Int.reduceNeg, reduceCtorEq, Int.reduceBEq, Int.reduceBNe]
      · simp only [go_sem, Nat.reduceAdd, Nat.reduceSub, Nat.reduceMul, Nat.reduceEqDiff, Nat.reduceLT, Nat.reduceLeDiff, Nat.reduceBEq, Nat.reduceBNe, Int.reduceToNat, Int.reduceLE, Int.reduceLT, Int.reduceNe, Int.reduceNeg, reduceCtorEq, Int.reduceBEq, Int.reduceBNe]
      · simp only [go_sem, Nat.reduceAdd, Nat.reduceSub, Nat.reduceMul, Nat.reduceEqDiff, Nat.reduceLT, Nat.reduceLeDiff, Nat.reduceBEq, Nat.reduceBNe, Int.reduceToNat, Int.reduceLE, Int.reduceLT, Int.reduceNe, Int.reduceNeg, reduceCtorEq, Int.reduceBEq, Int.reduceBNe]
      · simp only [go_sem, Nat.reduceAdd, Nat.reduceSub, Nat.reduceMul, Nat.reduceEqDiff, Nat.reduceLT, Nat.reduceLeDiff, Nat.reduceBEq, Nat.reduceBNe, Int.reduceToNat, Int.reduceLE, Int.reduceLT, Int.reduceNe, Int.reduceNeg, reduceCtorEq, Int.reduceBEq, Int.reduceBNe, List.take_zero, List.drop_zero, List.nil_append]
      · simp only [go_sem, Nat.reduceAdd, Nat.reduceSub, Nat.reduceMul, Nat.reduceEqDiff, Nat.reduceLT, Nat.reduceLeDiff, Nat.reduceBEq, Nat.reduceBNe, Int.reduceToNat, Int.reduceLE, Int.reduceLT, Int.reduceNe, Int.reduceNeg, reduceCtorEq, Int.reduceBEq, Int.reduceBNe]
        intro K j H ⟨hj, r1, r2, r3, r4, r5, r6⟩ hK hE
        have r1' := r1
        simp only [encB] at r1'
        simp only [go_sem, Nat.reduceAdd, Nat.reduceSub, Nat.reduceMul, Nat.reduceEqDiff, Nat.reduceLT, Nat.reduceLeDiff, Nat.reduceBEq, Nat.reduceBNe, Int.reduceToNat, Int.reduceLE, Int.reduceLT, Int.reduceNe, Int.reduceNeg, reduceCtorEq, Int.reduceBEq, Int.reduceBNe, r5]
        rw [condK_bool]
        refine ⟨fun hc => ?_, fun hc => ?_⟩
        · have hj' : j < yz.length := by simp only [decide_eq_true_eq] at hc; omega
          have hji : (j : Int) < (yz.length : Int) := by omega
          have w8 : IntKind.i64.wrap ((j : Int) + 1) = ((j + 1 : Nat) : Int) := by rw [Int.natCast_add, Int.natCast_one]; exact wrap_id (by omega)
          have hja : yz.getD j 0 ∈ yz := by simp [List.getD_eq_getElem?_getD, hj']
          have ha := G5 _ hja
          have hS := mixS j hj'
          have hG2 := mixG j hj'
          have hL2 := mixL j hj
          have hla : low (yz.getD j 0) = if yz.getD j 0 - B > 1 then yz.getD j 0 - B else 1 := by rw [hlow]
          generalize (yz.map low).take j ++ yz.drop j = mx at *
          generalize hyj : yz.getD j 0 = a at *
          have wa : IntKind.i64.wrap (a - B) = a - B := wrap_id (by omega)
          simp only [go_sem, Nat.reduceAdd, Nat.reduceSub, Nat.reduceMul, Nat.reduceEqDiff, Nat.reduceLT, Nat.reduceLeDiff, Nat.reduceBEq, Nat.reduceBNe, Int.reduceToNat, Int.reduceLE, Int.reduceLT, Int.reduceNe, Int.reduceNeg, reduceCtorEq, Int.reduceBEq, Int.reduceBNe, r5, r6, hj', hji, il_getD, il_length, hG2, hL2, wa, ← hla]
          rw [hS]
          refine hK (j + 1) _ _ ?_ ⟨hj', ?_, ?_, ?_, ?_, ?_, ?_⟩ (by omega)
          · simp only [go_sem, Nat.reduceAdd, Nat.reduceSub, Nat.reduceMul, Nat.reduceEqDiff, Nat.reduceLT, Nat.reduceLeDiff, Nat.reduceBEq, Nat.reduceBNe, Int.reduceToNat, Int.reduceLE, Int.reduceLT, Int.reduceNe, Int.reduceNeg, reduceCtorEq, Int.reduceBEq, Int.reduceBNe, w8]
          · simp only [go_sem, Nat.reduceAdd, Nat.reduceSub, Nat.reduceMul, Nat.reduceEqDiff, Nat.reduceLT, Nat.reduceLeDiff, Nat.reduceBEq, Nat.reduceBNe, Int.reduceToNat, Int.reduceLE, Int.reduceLT, Int.reduceNe, Int.reduceNeg, reduceCtorEq, Int.reduceBEq, Int.reduceBNe, r1]
          · simp only [go_sem, Nat.reduceAdd, Nat.reduceSub, Nat.reduceMul, Nat.reduceEqDiff, Nat.reduceLT, Nat.reduceLeDiff, Nat.reduceBEq, Nat.reduceBNe, Int.reduceToNat, Int.reduceLE, Int.reduceLT, Int.reduceNe, Int.reduceNeg, reduceCtorEq, Int.reduceBEq, Int.reduceBNe, r2]
          · simp only [go_sem, Nat.reduceAdd, Nat.reduceSub, Nat.reduceMul, Nat.reduceEqDiff, Nat.reduceLT, Nat.reduceLeDiff, Nat.reduceBEq, Nat.reduceBNe, Int.reduceToNat, Int.reduceLE, Int.reduceLT, Int.reduceNe, Int.reduceNeg, reduceCtorEq, Int.reduceBEq, Int.reduceBNe, r3]
          · simp only [go_sem, Nat.reduceAdd, Nat.reduceSub, Nat.reduceMul, Nat.reduceEqDiff, Nat.reduceLT, Nat.reduceLeDiff, Nat.reduceBEq, Nat.reduceBNe, Int.reduceToNat, Int.reduceLE, Int.reduceLT, Int.reduceNe, Int.reduceNeg, reduceCtorEq, Int.reduceBEq, Int.reduceBNe, r4]
          · simp only [go_sem, Nat.reduceAdd, Nat.reduceSub, Nat.reduceMul, Nat.reduceEqDiff, Nat.reduceLT, Nat.reduceLeDiff, Nat.reduceBEq, Nat.reduceBNe, Int.reduceToNat, Int.reduceLE, Int.reduceLT, Int.reduceNe, Int.reduceNeg, reduceCtorEq, Int.reduceBEq, Int.reduceBNe, r5]
          · simp only [go_sem, Nat.reduceAdd, Nat.reduceSub, Nat.reduceMul, Nat.reduceEqDiff, Nat.reduceLT, Nat.reduceLeDiff, Nat.reduceBEq, Nat.reduceBNe, Int.reduceToNat, Int.reduceLE, Int.reduceLT, Int.reduceNe, Int.reduceNeg, reduceCtorEq, Int.reduceBEq, Int.reduceBNe]
        · have hjl : j = yz.length := by simp only [decide_eq_false_iff_not] at hc; omega
          subst hjl
          rw [List.drop_length, List.append_nil, List.take_of_length_le (by rw [List.length_map]; exact Nat.le_refl _)] at r6
          refine hE _ _ _ (by simp) ?_
          obtain ⟨was, e, is, f, few, now, a1, a2, a3, a4, hcase⟩ := easier_law hbk hx hE2 hzz
          have h4X := good_big4 (book_good hx)
          have hdX : ∀ e1 e2 e3, (dec (.agg [.sl (ps.map encP) e1, .sl ((List.map encK ks).set k [.int .i64 yr, .int .i64 ym, .sl (il (yz.map low)) false, .int .i64 s']) e2, .int .i64 gr, .int .i64 fr, .int .i64 un, .int .i64 fe, .sl (il st) e3]) : Option PBook) = some (withK ⟨ps, ks, gr, fr, un, fe, st⟩ (ks.set k ⟨yr, ym, yz.map low, s'⟩)) := fun e1 e2 e3 => dec_bookX (drows_pieces ps) (drows_set _ _ _ _ k (drows_kinds ks) (drow_kind yr ym s' (yz.map low) false)) gr fr un fe st e1 e2 e3
          generalize hX : withK ⟨ps, ks, gr, fr, un, fe, st⟩ (ks.set k ⟨yr, ym, yz.map low, s'⟩) = X at *
          have hz5' : (yz.map low).length = yz.length := List.length_map ..
          rw [blkK_exit, if_pos rfl, seqK_normal, ev_region, evOps_c]
          refine ⟨rfl, ?_⟩
          simp only [go_sem, Nat.reduceAdd, Nat.reduceSub, Nat.reduceMul, Nat.reduceEqDiff, Nat.reduceLT, Nat.reduceLeDiff, Nat.reduceBEq, Nat.reduceBNe, Int.reduceToNat, Int.reduceLE, Int.reduceLT, Int.reduceNe, Int.reduceNeg, reduceCtorEq, Int.reduceBEq, Int.reduceBNe, @callV_spec E24 35 sSpin rfl, @callV_specT E24 35 sSpin rfl, @stepV_spec E24 35 sSpin rfl, @effV_spec E24 35 sSpin rfl, sSpin, @callV_spec E24 28 s28 rfl, @callV_specT E24 28 s28 rfl, @stepV_spec E24 28 s28 rfl, @effV_spec E24 28 s28 rfl, s28, @callV_spec E24 26 s26 rfl, @callV_specT E24 26 s26 rfl, @stepV_spec E24 26 s26 rfl, @effV_spec E24 26 s26 rfl, s26, callSpec, hdb, h4, hz, r1', r2, r3, r4, r5, r6, wr, hs', hki, hkl, getD_mapN encK ks k _ hkl, hyy, encK, il_length, hz5', h4X, hdX, a1, a2, a3, a4, bne_self_eq_false, List.length_map, List.length_set]
          rcases hcase with ⟨rfl, rfl, rfl | rfl⟩ | ⟨rfl, rfl, h1, h2⟩
          · simp only [go_sem, Nat.reduceAdd, Nat.reduceSub, Nat.reduceMul, Nat.reduceEqDiff, Nat.reduceLT, Nat.reduceLeDiff, Nat.reduceBEq, Nat.reduceBNe, Int.reduceToNat, Int.reduceLE, Int.reduceLT, Int.reduceNe, Int.reduceNeg, reduceCtorEq, Int.reduceBEq, Int.reduceBNe, @callV_spec E24 23 s23 rfl, @callV_specT E24 23 s23 rfl, @stepV_spec E24 23 s23 rfl, @effV_spec E24 23 s23 rfl, s23, callSpec]
          · simp only [go_sem, Nat.reduceAdd, Nat.reduceSub, Nat.reduceMul, Nat.reduceEqDiff, Nat.reduceLT, Nat.reduceLeDiff, Nat.reduceBEq, Nat.reduceBNe, Int.reduceToNat, Int.reduceLE, Int.reduceLT, Int.reduceNe, Int.reduceNeg, reduceCtorEq, Int.reduceBEq, Int.reduceBNe, @callV_spec E24 23 s23 rfl, @callV_specT E24 23 s23 rfl, @stepV_spec E24 23 s23 rfl, @effV_spec E24 23 s23 rfl, s23, callSpec]
          · simp only [go_sem, Nat.reduceAdd, Nat.reduceSub, Nat.reduceMul, Nat.reduceEqDiff, Nat.reduceLT, Nat.reduceLeDiff, Nat.reduceBEq, Nat.reduceBNe, Int.reduceToNat, Int.reduceLE, Int.reduceLT, Int.reduceNe, Int.reduceNeg, reduceCtorEq, Int.reduceBEq, Int.reduceBNe, @callV_spec E24 23 s23 rfl, @callV_specT E24 23 s23 rfl, @stepV_spec E24 23 s23 rfl, @effV_spec E24 23 s23 rfl, s23, callSpec, h1, h2]
    · have wr : IntKind.i64.wrap (yr + B) = yr + B := wrap_id (by omega)
      obtain ⟨r', hr'⟩ : ∃ r', (if yr + B < 500 then yr + B else 500) = r' := ⟨_, rfl⟩
      have hrb : yr ≤ r' ∧ r' ≤ 500 := by split at hr' <;> omega
      obtain ⟨hx, hE⟩ := hsetk ⟨r', ym, yz, ys⟩ (kind_of ⟨by simp only; omega, G2, G3, G4, G5⟩) ⟨hrb.1, Int.le_refl _, Int.le_refl _, fun _ _ => Int.le_refl _⟩
      obtain ⟨was, e, is, f, few, now, a1, a2, a3, a4, hcase⟩ := easier_law hbk hx hE hzz
      have h4X := good_big4 (book_good hx)
      have hdX : ∀ e1 e2 e3, (dec (.agg [.sl (ps.map encP) e1, .sl ((List.map encK ks).set k [.int .i64 r', .int .i64 ym, .sl (il yz) false, .int .i64 ys]) e2, .int .i64 gr, .int .i64 fr, .int .i64 un, .int .i64 fe, .sl (il st) e3]) : Option PBook) = some (withK ⟨ps, ks, gr, fr, un, fe, st⟩ (ks.set k ⟨r', ym, yz, ys⟩)) := fun e1 e2 e3 => dec_bookX (drows_pieces ps) (drows_set _ _ _ _ k (drows_kinds ks) (drow_kind r' ym ys yz false)) gr fr un fe st e1 e2 e3
      generalize hX : withK ⟨ps, ks, gr, fr, un, fe, st⟩ (ks.set k ⟨r', ym, yz, ys⟩) = X at *
      simp only [go_sem, Nat.reduceAdd, Nat.reduceSub, Nat.reduceMul, Nat.reduceEqDiff, Nat.reduceLT, Nat.reduceLeDiff, Nat.reduceBEq, Nat.reduceBNe, Int.reduceToNat, Int.reduceLE, Int.reduceLT, Int.reduceNe, Int.reduceNeg, reduceCtorEq, Int.reduceBEq, Int.reduceBNe, @callV_spec E24 36 s36 rfl, @callV_specT E24 36 s36 rfl, @stepV_spec E24 36 s36 rfl, @effV_spec E24 36 s36 rfl, s36, @callV_spec E24 35 sSpin rfl, @callV_specT E24 35 sSpin rfl, @stepV_spec E24 35 sSpin rfl, @effV_spec E24 35 sSpin rfl, sSpin, @callV_spec E24 28 s28 rfl, @callV_specT E24 28 s28 rfl, @stepV_spec E24 28 s28 rfl, @effV_spec E24 28 s28 rfl, s28, @callV_spec E24 26 s26 rfl, @callV_specT E24 26 s26 rfl, @stepV_spec E24 26 s26 rfl, @effV_spec E24 26 s26 rfl, s26, encB, callSpec, hdb, h4, hb, hz, hm, hB, hk, hpw, hkw, hki, hkl, getD_mapN encK ks k _ hkl, hyy, encK, app, rowsOf, hksm, hkrow, hk48, h4X, hdX, a1, a2, a3, a4, bne_self_eq_false, List.length_map, List.length_set, wr, hr']
      rcases hcase with ⟨rfl, rfl, rfl | rfl⟩ | ⟨rfl, rfl, h1, h2⟩
      · simp only [go_sem, Nat.reduceAdd, Nat.reduceSub, Nat.reduceMul, Nat.reduceEqDiff, Nat.reduceLT, Nat.reduceLeDiff, Nat.reduceBEq, Nat.reduceBNe, Int.reduceToNat, Int.reduceLE, Int.reduceLT, Int.reduceNe, Int.reduceNeg, reduceCtorEq, Int.reduceBEq, Int.reduceBNe, @callV_spec E24 23 s23 rfl, @callV_specT E24 23 s23 rfl, @stepV_spec E24 23 s23 rfl, @effV_spec E24 23 s23 rfl, s23, callSpec]
      · simp only [go_sem, Nat.reduceAdd, Nat.reduceSub, Nat.reduceMul, Nat.reduceEqDiff, Nat.reduceLT, Nat.reduceLeDiff, Nat.reduceBEq, Nat.reduceBNe, Int.reduceToNat, Int.reduceLE, Int.reduceLT, Int.reduceNe, Int.reduceNeg, reduceCtorEq, Int.reduceBEq, Int.reduceBNe, @callV_spec E24 23 s23 rfl, @callV_specT E24 23 s23 rfl, @stepV_spec E24 23 s23 rfl, @effV_spec E24 23 s23 rfl, s23, callSpec]
      · simp only [go_sem, Nat.reduceAdd, Nat.reduceSub, Nat.reduceMul, Nat.reduceEqDiff, Nat.reduceLT, Nat.reduceLeDiff, Nat.reduceBEq, Nat.reduceBNe, Int.reduceToNat, Int.reduceLE, Int.reduceLT, Int.reduceNe, Int.reduceNeg, reduceCtorEq, Int.reduceBEq, Int.reduceBNe, @callV_spec E24 23 s23 rfl, @callV_specT E24 23 s23 rfl, @stepV_spec E24 23 s23 rfl, @effV_spec E24 23 s23 rfl, s23, callSpec, h1, h2]
    · have w20 : IntKind.i64.wrap (20 * B) = 20 * B := wrap_id (by omega)
      have wr : IntKind.i64.wrap (ym + 20 * B) = ym + 20 * B := wrap_id (by omega)
      obtain ⟨r', hr'⟩ : ∃ r', (if ym + 20 * B < 5000 then ym + 20 * B else 5000) = r' := ⟨_, rfl⟩
      have hrb : ym ≤ r' ∧ r' ≤ 5000 := by split at hr' <;> omega
      obtain ⟨hx, hE⟩ := hsetk ⟨yr, r', yz, ys⟩ (kind_of ⟨G1, by simp only; omega, G3, G4, G5⟩) ⟨Int.le_refl _, hrb.1, Int.le_refl _, fun _ _ => Int.le_refl _⟩
      obtain ⟨was, e, is, f, few, now, a1, a2, a3, a4, hcase⟩ := easier_law hbk hx hE hzz
      have h4X := good_big4 (book_good hx)
      have hdX : ∀ e1 e2 e3, (dec (.agg [.sl (ps.map encP) e1, .sl ((List.map encK ks).set k [.int .i64 yr, .int .i64 r', .sl (il yz) false, .int .i64 ys]) e2, .int .i64 gr, .int .i64 fr, .int .i64 un, .int .i64 fe, .sl (il st) e3]) : Option PBook) = some (withK ⟨ps, ks, gr, fr, un, fe, st⟩ (ks.set k ⟨yr, r', yz, ys⟩)) := fun e1 e2 e3 => dec_bookX (drows_pieces ps) (drows_set _ _ _ _ k (drows_kinds ks) (drow_kind yr r' ys yz false)) gr fr un fe st e1 e2 e3
      generalize hX : withK ⟨ps, ks, gr, fr, un, fe, st⟩ (ks.set k ⟨yr, r', yz, ys⟩) = X at *
      simp only [go_sem, Nat.reduceAdd, Nat.reduceSub, Nat.reduceMul, Nat.reduceEqDiff, Nat.reduceLT, Nat.reduceLeDiff, Nat.reduceBEq, Nat.reduceBNe, Int.reduceToNat, Int.reduceLE, Int.reduceLT, Int.reduceNe, Int.reduceNeg, reduceCtorEq, Int.reduceBEq, Int.reduceBNe, @callV_spec E24 36 s36 rfl, @callV_specT E24 36 s36 rfl, @stepV_spec E24 36 s36 rfl, @effV_spec E24 36 s36 rfl, s36, @callV_spec E24 35 sSpin rfl, @callV_specT E24 35 sSpin rfl, @stepV_spec E24 35 sSpin rfl, @effV_spec E24 35 sSpin rfl, sSpin, @callV_spec E24 28 s28 rfl, @callV_specT E24 28 s28 rfl, @stepV_spec E24 28 s28 rfl, @effV_spec E24 28 s28 rfl, s28, @callV_spec E24 26 s26 rfl, @callV_specT E24 26 s26 rfl, @stepV_spec E24 26 s26 rfl, @effV_spec E24 26 s26 rfl, s26, encB, callSpec, hdb, h4, hb, hz, hm, hB, hk, hpw, hkw, hki, hkl, getD_mapN encK ks k _ hkl, hyy, encK, app, rowsOf, hksm, hkrow, hk48, h4X, hdX, a1, a2, a3, a4, bne_self_eq_false, List.length_map, List.length_set, w20, wr, hr']
      rcases hcase with ⟨rfl, rfl, rfl | rfl⟩ | ⟨rfl, rfl, h1, h2⟩
      · simp only [go_sem, Nat.reduceAdd, Nat.reduceSub, Nat.reduceMul, Nat.reduceEqDiff, Nat.reduceLT, Nat.reduceLeDiff, Nat.reduceBEq, Nat.reduceBNe, Int.reduceToNat, Int.reduceLE, Int.reduceLT, Int.reduceNe, Int.reduceNeg, reduceCtorEq, Int.reduceBEq, Int.reduceBNe, @callV_spec E24 23 s23 rfl, @callV_specT E24 23 s23 rfl, @stepV_spec E24 23 s23 rfl, @effV_spec E24 23 s23 rfl, s23, callSpec]
      · simp only [go_sem, Nat.reduceAdd, Nat.reduceSub, Nat.reduceMul, Nat.reduceEqDiff, Nat.reduceLT, Nat.reduceLeDiff, Nat.reduceBEq, Nat.reduceBNe, Int.reduceToNat, Int.reduceLE, Int.reduceLT, Int.reduceNe, Int.reduceNeg, reduceCtorEq, Int.reduceBEq, Int.reduceBNe, @callV_spec E24 23 s23 rfl, @callV_specT E24 23 s23 rfl, @stepV_spec E24 23 s23 rfl, @effV_spec E24 23 s23 rfl, s23, callSpec]
      · simp only [go_sem, Nat.reduceAdd, Nat.reduceSub, Nat.reduceMul, Nat.reduceEqDiff, Nat.reduceLT, Nat.reduceLeDiff, Nat.reduceBEq, Nat.reduceBNe, Int.reduceToNat, Int.reduceLE, Int.reduceLT, Int.reduceNe, Int.reduceNeg, reduceCtorEq, Int.reduceBEq, Int.reduceBNe, @callV_spec E24 23 s23 rfl, @callV_specT E24 23 s23 rfl, @stepV_spec E24 23 s23 rfl, @effV_spec E24 23 s23 rfl, s23, callSpec, h1, h2]
    · obtain ⟨hx0, hE0⟩ := hsetk ⟨yr, ym, yz, ys⟩ (kind_of ⟨G1, G2, G3, G4, G5⟩) (BetterK.refl _)
      by_cases h4k : (ks.length : Int) < 4
      · have w20 : IntKind.i64.wrap (20 * B) = 20 * B := wrap_id (by omega)
        have w21 : IntKind.i64.wrap (1 + 20 * B) = 1 + 20 * B := wrap_id (by omega)
        have w22 : IntKind.i64.wrap (1 + B) = 1 + B := wrap_id (by omega)
        have hk49 : ((ks.length + 1) * 48 ≤ 35184372088832) = True := eq_true (by omega)
        have hset : (ks ++ [(⟨1 + B, 1 + 20 * B, yz, ys⟩ : Kind)]).set k ⟨yr, ym, yz, ys⟩ = ks ++ [(⟨1 + B, 1 + 20 * B, yz, ys⟩ : Kind)] := by
          rw [List.set_append_left _ _ hkl]
          congr 1
          rw [← hyy, List.getD_eq_getElem?_getD, List.getElem?_eq_getElem hkl, Option.getD_some, List.set_getElem_self]
        obtain ⟨hx, hE⟩ := hwb (ks := (ks ++ [(⟨1 + B, 1 + 20 * B, yz, ys⟩ : Kind)]).set k ⟨yr, ym, yz, ys⟩) (by rw [hset, List.length_append]; simp only [List.length_cons, List.length_nil]; omega) (fun q hq => by
          rw [hset] at hq
          rcases List.mem_append.1 hq with h | h
          · exact hkall q h
          · rw [List.mem_singleton.1 h]; exact kind_of ⟨by simp only; omega, by simp only; omega, G3, G4, G5⟩) fun j hj => by
          rw [hset]
          have : (ks ++ [(⟨1 + B, 1 + 20 * B, yz, ys⟩ : Kind)]).getD j default = ks.getD j default := by
            rw [List.getD_eq_getElem?_getD, List.getElem?_append_left hj, List.getD_eq_getElem?_getD]
          rw [this]; exact BetterK.refl _
        have dr1 : drows [[PV.int .i64 (1 + B), .int .i64 (1 + 20 * B), .sl (il yz) false, .int .i64 ys]] = some [(⟨1 + B, 1 + 20 * B, yz, ys⟩ : Kind)] := by simp only [drows, drow_kind]
        have hk1 : k < ks.length + 1 := by omega
        have hk2 : (k : Int) < ((ks.length + 1 : Nat) : Int) := by omega
        have hgk : ∀ row d, (List.map encK ks ++ [row]).getD k d = [.int .i64 yr, .int .i64 ym, .sl (il yz) false, .int .i64 ys] := fun row d => by
          have := getD_mapN encK ks k d hkl
          rw [List.getD_eq_getElem?_getD, List.getElem?_append_left (by rw [List.length_map]; exact hkl), ← List.getD_eq_getElem?_getD, this, hyy]; rfl
        have hrow1 : (∀ row, row = [PV.int .i64 (1 + B), .int .i64 (1 + 20 * B), .sl (il yz) false, .int .i64 ys] → row.length = 4 ∧ cells1 row = true) = True := eq_true fun row h => by rw [h]; exact ⟨rfl, rfl⟩
        obtain ⟨was, e, is, f, few, now, a1, a2, a3, a4, hcase⟩ := easier_law hbk hx hE hzz
        have h4X := good_big4 (book_good hx)
        have hdX : ∀ e1 e2 e3, (dec (.agg [.sl (ps.map encP) e1, .sl ((List.map encK ks ++ [[PV.int .i64 (1 + B), .int .i64 (1 + 20 * B), .sl (il yz) false, .int .i64 ys]]).set k [.int .i64 yr, .int .i64 ym, .sl (il yz) false, .int .i64 ys]) e2, .int .i64 gr, .int .i64 fr, .int .i64 un, .int .i64 fe, .sl (il st) e3]) : Option PBook) = some (withK ⟨ps, ks, gr, fr, un, fe, st⟩ ((ks ++ [(⟨1 + B, 1 + 20 * B, yz, ys⟩ : Kind)]).set k ⟨yr, ym, yz, ys⟩)) := fun e1 e2 e3 => dec_bookX (drows_pieces ps) (drows_set _ _ _ _ k (drows_app _ _ _ _ (drows_kinds ks) dr1) (drow_kind yr ym ys yz false)) gr fr un fe st e1 e2 e3
        generalize hX : withK ⟨ps, ks, gr, fr, un, fe, st⟩ ((ks ++ [(⟨1 + B, 1 + 20 * B, yz, ys⟩ : Kind)]).set k ⟨yr, ym, yz, ys⟩) = X at *
        simp only [go_sem, Nat.reduceAdd, Nat.reduceSub, Nat.reduceMul, Nat.reduceEqDiff, Nat.reduceLT, Nat.reduceLeDiff, Nat.reduceBEq, Nat.reduceBNe, Int.reduceToNat, Int.reduceLE, Int.reduceLT, Int.reduceNe, Int.reduceNeg, reduceCtorEq, Int.reduceBEq, Int.reduceBNe, @callV_spec E24 36 s36 rfl, @callV_specT E24 36 s36 rfl, @stepV_spec E24 36 s36 rfl, @effV_spec E24 36 s36 rfl, s36, @callV_spec E24 35 sSpin rfl, @callV_specT E24 35 sSpin rfl, @stepV_spec E24 35 sSpin rfl, @effV_spec E24 35 sSpin rfl, sSpin, @callV_spec E24 28 s28 rfl, @callV_specT E24 28 s28 rfl, @stepV_spec E24 28 s28 rfl, @effV_spec E24 28 s28 rfl, s28, @callV_spec E24 26 s26 rfl, @callV_specT E24 26 s26 rfl, @stepV_spec E24 26 s26 rfl, @effV_spec E24 26 s26 rfl, s26, encB, callSpec, hdb, h4, hb, hz, hm, hB, hk, hpw, hkw, hki, hkl, getD_mapN encK ks k _ hkl, hyy, encK, app, rowsOf, hksm, hkrow, hk48, h4X, hdX, a1, a2, a3, a4, bne_self_eq_false, List.length_map, List.length_set, h4k, w20, w21, w22, hk49, hk1, hk2, hgk, hrow1, List.length_append, List.length_cons, List.length_nil, Nat.zero_add]
        rcases hcase with ⟨rfl, rfl, rfl | rfl⟩ | ⟨rfl, rfl, h1, h2⟩
        · simp only [go_sem, Nat.reduceAdd, Nat.reduceSub, Nat.reduceMul, Nat.reduceEqDiff, Nat.reduceLT, Nat.reduceLeDiff, Nat.reduceBEq, Nat.reduceBNe, Int.reduceToNat, Int.reduceLE, Int.reduceLT, Int.reduceNe, Int.reduceNeg, reduceCtorEq, Int.reduceBEq, Int.reduceBNe, @callV_spec E24 23 s23 rfl, @callV_specT E24 23 s23 rfl, @stepV_spec E24 23 s23 rfl, @effV_spec E24 23 s23 rfl, s23, callSpec]
        · simp only [go_sem, Nat.reduceAdd, Nat.reduceSub, Nat.reduceMul, Nat.reduceEqDiff, Nat.reduceLT, Nat.reduceLeDiff, Nat.reduceBEq, Nat.reduceBNe, Int.reduceToNat, Int.reduceLE, Int.reduceLT, Int.reduceNe, Int.reduceNeg, reduceCtorEq, Int.reduceBEq, Int.reduceBNe, @callV_spec E24 23 s23 rfl, @callV_specT E24 23 s23 rfl, @stepV_spec E24 23 s23 rfl, @effV_spec E24 23 s23 rfl, s23, callSpec]
        · simp only [go_sem, Nat.reduceAdd, Nat.reduceSub, Nat.reduceMul, Nat.reduceEqDiff, Nat.reduceLT, Nat.reduceLeDiff, Nat.reduceBEq, Nat.reduceBNe, Int.reduceToNat, Int.reduceLE, Int.reduceLT, Int.reduceNe, Int.reduceNeg, reduceCtorEq, Int.reduceBEq, Int.reduceBNe, @callV_spec E24 23 s23 rfl, @callV_specT E24 23 s23 rfl, @stepV_spec E24 23 s23 rfl, @effV_spec E24 23 s23 rfl, s23, callSpec, h1, h2]
      · have hx := hx0
        have hE := hE0
        obtain ⟨was, e, is, f, few, now, a1, a2, a3, a4, hcase⟩ := easier_law hbk hx hE hzz
        have h4X := good_big4 (book_good hx)
        have hdX : ∀ e1 e2 e3, (dec (.agg [.sl (ps.map encP) e1, .sl ((List.map encK ks).set k [.int .i64 yr, .int .i64 ym, .sl (il yz) false, .int .i64 ys]) e2, .int .i64 gr, .int .i64 fr, .int .i64 un, .int .i64 fe, .sl (il st) e3]) : Option PBook) = some (withK ⟨ps, ks, gr, fr, un, fe, st⟩ (ks.set k ⟨yr, ym, yz, ys⟩)) := fun e1 e2 e3 => dec_bookX (drows_pieces ps) (drows_set _ _ _ _ k (drows_kinds ks) (drow_kind yr ym ys yz false)) gr fr un fe st e1 e2 e3
        generalize hX : withK ⟨ps, ks, gr, fr, un, fe, st⟩ (ks.set k ⟨yr, ym, yz, ys⟩) = X at *
        simp only [go_sem, Nat.reduceAdd, Nat.reduceSub, Nat.reduceMul, Nat.reduceEqDiff, Nat.reduceLT, Nat.reduceLeDiff, Nat.reduceBEq, Nat.reduceBNe, Int.reduceToNat, Int.reduceLE, Int.reduceLT, Int.reduceNe, Int.reduceNeg, reduceCtorEq, Int.reduceBEq, Int.reduceBNe, @callV_spec E24 36 s36 rfl, @callV_specT E24 36 s36 rfl, @stepV_spec E24 36 s36 rfl, @effV_spec E24 36 s36 rfl, s36, @callV_spec E24 35 sSpin rfl, @callV_specT E24 35 sSpin rfl, @stepV_spec E24 35 sSpin rfl, @effV_spec E24 35 sSpin rfl, sSpin, @callV_spec E24 28 s28 rfl, @callV_specT E24 28 s28 rfl, @stepV_spec E24 28 s28 rfl, @effV_spec E24 28 s28 rfl, s28, @callV_spec E24 26 s26 rfl, @callV_specT E24 26 s26 rfl, @stepV_spec E24 26 s26 rfl, @effV_spec E24 26 s26 rfl, s26, encB, callSpec, hdb, h4, hb, hz, hm, hB, hk, hpw, hkw, hki, hkl, getD_mapN encK ks k _ hkl, hyy, encK, app, rowsOf, hksm, hkrow, hk48, h4X, hdX, a1, a2, a3, a4, bne_self_eq_false, List.length_map, List.length_set, h4k]
        rcases hcase with ⟨rfl, rfl, rfl | rfl⟩ | ⟨rfl, rfl, h1, h2⟩
        · simp only [go_sem, Nat.reduceAdd, Nat.reduceSub, Nat.reduceMul, Nat.reduceEqDiff, Nat.reduceLT, Nat.reduceLeDiff, Nat.reduceBEq, Nat.reduceBNe, Int.reduceToNat, Int.reduceLE, Int.reduceLT, Int.reduceNe, Int.reduceNeg, reduceCtorEq, Int.reduceBEq, Int.reduceBNe, @callV_spec E24 23 s23 rfl, @callV_specT E24 23 s23 rfl, @stepV_spec E24 23 s23 rfl, @effV_spec E24 23 s23 rfl, s23, callSpec]
        · simp only [go_sem, Nat.reduceAdd, Nat.reduceSub, Nat.reduceMul, Nat.reduceEqDiff, Nat.reduceLT, Nat.reduceLeDiff, Nat.reduceBEq, Nat.reduceBNe, Int.reduceToNat, Int.reduceLE, Int.reduceLT, Int.reduceNe, Int.reduceNeg, reduceCtorEq, Int.reduceBEq, Int.reduceBNe, @callV_spec E24 23 s23 rfl, @callV_specT E24 23 s23 rfl, @stepV_spec E24 23 s23 rfl, @effV_spec E24 23 s23 rfl, s23, callSpec]
        · simp only [go_sem, Nat.reduceAdd, Nat.reduceSub, Nat.reduceMul, Nat.reduceEqDiff, Nat.reduceLT, Nat.reduceLeDiff, Nat.reduceBEq, Nat.reduceBNe, Int.reduceToNat, Int.reduceLE, Int.reduceLT, Int.reduceNe, Int.reduceNeg, reduceCtorEq, Int.reduceBEq, Int.reduceBNe, @callV_spec E24 23 s23 rfl, @callV_specT E24 23 s23 rfl, @stepV_spec E24 23 s23 rfl, @effV_spec E24 23 s23 rfl, s23, callSpec, h1, h2]
end Wb
