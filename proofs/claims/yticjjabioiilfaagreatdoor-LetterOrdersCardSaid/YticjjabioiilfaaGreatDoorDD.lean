import Derived.Test.YticjjabioiilfaaGreatDoorCC
set_option linter.unusedVariables false
set_option linter.unusedSimpArgs false
namespace Wb
open Go Go.Proofs Enc Row
set_option linter.unusedSimpArgs false
set_option linter.unusedVariables false
set_option maxRecDepth 20000
set_option maxHeartbeats 8000000
noncomputable def E69t : List (Nat × Spec) := [(33, t33)] ++ E68t
theorem E69t_ok : AllOK E69t := ⟨⟨t33_ok, Tryz.call33⟩, E68t_ok⟩
noncomputable def E69 : Env := mkE E69t []
theorem E69_ok : EnvOK Tryz.prog E69 := envOK E69t_ok trivial
theorem E69_ti {t : Nat} : E69.ti t = ti t := rfl
theorem E69_e {t : Nat} : E69.eqt t = eqB t := rfl
theorem E69_k {t : Nat} : E69.keyt t = keyB t := rfl
theorem E69_g {t : Nat} : E69.glob t = glB t := rfl
attribute [go_sem] E69_ti E69_e E69_k E69_g
def rowOP (x : Lett) (o : Ord2) : List PV := lsRow (linesO x o)
theorem dec_rowP (x : Lett) (S : List Ord2) (ex : Bool) : (dec (.sl (S.map (rowOP x)) ex) : Option (List (List Line))) = some (S.map (linesO x)) := by
  have e : S.map (rowOP x) = (S.map (linesO x)).map lsRow := by rw [List.map_map]; rfl
  rw [e]; exact dec_lss2 _ _
theorem dec_rowR (x : Lett) (S : List Ord2) (ex : Bool) : (dec (.sl (S.map (rowOR x)) ex) : Option (List (List Line))) = some (S.map (linesO x)) := by
  have e : S.map (rowOR x) = (S.map (linesO x)).map fun l => [.sl (l.map encL) false] := by rw [List.map_map]; rfl
  rw [e]
  exact drows_rows (α := List Line) _
theorem lss_big {x : Lett} (hX : GL x) (S : List Ord2) : ∀ l ∈ S.map (linesO x), big l.length := fun l hl => by
  obtain ⟨o, _, rfl⟩ := List.mem_map.1 hl
  rw [linesO_len2 hX.n]
  have := hX.n
  unfold big; omega
theorem ordersL_walk (x : Lett) (hx : LOk x) (ls : List Line) (hl : big ls.length) : Fn E69 0 5 Tryz.f5 (Tryz.f5.body.getD .skip) [.agg (encLt x), .sl (ls.map encL) false] (.bool true) := by
  unfold Fn Tryz.f5
  have hxl := eq_true hx
  have hx0 := encLt_lit x
  have hbl := eq_true hl
  have hn : (dec (.sl [] true) : Option (List (List Line))) = some [] := rfl
  have hb0 : big 0 = True := eq_true (by unfold big; omega)
  have hb1 : (∀ l ∈ ([] : List (List Line)), big l.length) = True := eq_true (by simp)
  cases hk : lettOk x with
  | false =>
    have h1 : isOrdM x ls = .tup [.bool false, .int .i64 20] := by unfold isOrdM; rw [if_neg (by rw [hk]; simp)]
    have h2 : manyPV x = .tup [.int .i64 0, .int .i64 20] := by unfold manyPV; rw [if_neg (by rw [hk]; simp)]
    have h3 : ordersPV x = .tup [.sl [] true, .int .i64 20] := by unfold ordersPV; rw [hk]; rfl
    have h4 : ordersRPV x = .tup [.sl [] true, .int .i64 20] := by unfold ordersRPV; rw [hk]; rfl
    have e0 : ((false : Bool) != false) = false := rfl
    simp only [go_sem, @ct E69 18 t18 rfl, t18, @ct E69 30 t30 rfl, t30, @ct E69 26 t26 rfl, t26, @ct E69 31 t31 rfl, t31, @ct E69 21 t21 rfl, t21, @ct E69 32 t32 rfl, t32, @ct E69 15 t15 rfl, t15, @ct E69 33 t33 rfl, t33, @ct E69 34 t34 rfl, t34, @ct E69 14 t14 rfl, t14, hx0, lett_eta, callSpec, hxl, dec_lines, hbl, hk, h1, h2, h3, h4, hn, hb0, hb1, e0]
  | true =>
    have hG := lett_good hk
    have h1 : isOrdM x ls = .tup [.bool (whenM x ls).isSome, .int .i64 0] := by unfold isOrdM; rw [if_pos hk]
    have h2 : manyPV x = .tup [.int .i64 (allM x).length, .int .i64 0] := by unfold manyPV; rw [if_pos hk]
    have e1 : ((whenM x ls).isSome != (whenM x ls).isSome) = false := by simp
    have e2 : (((allM x).length : Int) != ((allM x).length : Int)) = false := by simp
    by_cases h0 : sortedM x = []
    · have h3 : ordersPV x = .tup [.sl [] true, .int .i64 4] := by unfold ordersPV; rw [if_pos hk, if_pos h0]
      have h4 : ordersRPV x = .tup [.sl [] true, .int .i64 4] := by unfold ordersRPV; rw [if_pos hk, if_pos h0]
      simp only [go_sem, @ct E69 18 t18 rfl, t18, @ct E69 30 t30 rfl, t30, @ct E69 26 t26 rfl, t26, @ct E69 31 t31 rfl, t31, @ct E69 21 t21 rfl, t21, @ct E69 32 t32 rfl, t32, @ct E69 15 t15 rfl, t15, @ct E69 33 t33 rfl, t33, @ct E69 34 t34 rfl, t34, @ct E69 14 t14 rfl, t14, hx0, lett_eta, callSpec, hxl, dec_lines, hbl, hk, h1, h2, h3, h4, hn, hb0, hb1, e1, e2]
    · by_cases h64 : 64 < (sortedM x).length
      · have h3 : ordersPV x = .tup [.sl [] true, .int .i64 6] := by unfold ordersPV; rw [if_pos hk, if_neg h0, if_pos h64]
        have h4 : ordersRPV x = .tup [.sl [] true, .int .i64 6] := by unfold ordersRPV; rw [if_pos hk, if_neg h0, if_pos h64]
        simp only [go_sem, @ct E69 18 t18 rfl, t18, @ct E69 30 t30 rfl, t30, @ct E69 26 t26 rfl, t26, @ct E69 31 t31 rfl, t31, @ct E69 21 t21 rfl, t21, @ct E69 32 t32 rfl, t32, @ct E69 15 t15 rfl, t15, @ct E69 33 t33 rfl, t33, @ct E69 34 t34 rfl, t34, @ct E69 14 t14 rfl, t14, hx0, lett_eta, callSpec, hxl, dec_lines, hbl, hk, h1, h2, h3, h4, hn, hb0, hb1, e1, e2]
      · have h3 : ordersPV x = .tup [.sl ((sortedM x).map (rowOP x)) true, .int .i64 0] := by unfold ordersPV; rw [if_pos hk, if_neg h0, if_neg h64]; rfl
        have h4 : ordersRPV x = .tup [.sl ((sortedM x).map (rowOR x)) false, .int .i64 0] := by unfold ordersRPV; rw [if_pos hk, if_neg h0, if_neg h64]
        have k1 := eq_true (lss_big hG (sortedM x))
        have k2 : big (sortedM x).length = True := eq_true (by unfold big; omega)
        simp only [go_sem, @ct E69 18 t18 rfl, t18, @ct E69 30 t30 rfl, t30, @ct E69 26 t26 rfl, t26, @ct E69 31 t31 rfl, t31, @ct E69 21 t21 rfl, t21, @ct E69 32 t32 rfl, t32, @ct E69 15 t15 rfl, t15, @ct E69 33 t33 rfl, t33, @ct E69 34 t34 rfl, t34, @ct E69 14 t14 rfl, t14, hx0, lett_eta, callSpec, hxl, dec_lines, hbl, hk, h1, h2, h3, h4, dec_rowP, dec_rowR, k1, k2, List.length_map, e1, e2]
end Wb
