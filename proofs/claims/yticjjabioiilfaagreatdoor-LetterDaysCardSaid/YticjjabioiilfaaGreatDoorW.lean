import Derived.Test.YticjjabioiilfaaGreatDoorP
set_option linter.unusedVariables false
set_option linter.unusedSimpArgs false
namespace Wb
open Go Go.Proofs Enc Row
set_option linter.unusedSimpArgs false
set_option linter.unusedVariables false
set_option maxRecDepth 20000
set_option maxHeartbeats 16000000
noncomputable def E63t : List (Nat × Spec) := [(140, t140), (85, t85), (141, s34)] ++ E62t
theorem E63t_ok : AllOK E63t := ⟨⟨t140_ok, Tryz.call140⟩, ⟨t85_ok, Tryz.call85⟩, ⟨s35_ok, Tryz.call141⟩, E62t_ok⟩
noncomputable def E63 : Env := mkE E63t []
theorem E63_ok : EnvOK Tryz.prog E63 := envOK E63t_ok trivial
theorem E63_ti {t : Nat} : E63.ti t = ti t := rfl
theorem E63_e {t : Nat} : E63.eqt t = eqB t := rfl
theorem E63_k {t : Nat} : E63.keyt t = keyB t := rfl
theorem E63_g {t : Nat} : E63.glob t = glB t := rfl
attribute [go_sem] E63_ti E63_e E63_k E63_g
theorem bnd113 {k n : Nat} (h1 : k ≤ n) (h2 : n ≤ 6144) : (k + 1) * 64 ≤ 35184372088832 ∧ (k + 1) * 8 ≤ 35184372088832 ∧ (k ≤ 1000000) := by omega
theorem options_fn (X : Lett) (hX : GL X) (t : Nat) (ht : t < X.lines.length) (ps : List (Int × Int)) (hps : 1 ≤ ps.length ∧ ps.length ≤ 100) : Fn E63 0 113 Tryz.f113 (Tryz.f113.body.getD .skip) [.agg (encLt X), .int .i64 t, .sl (ps.map encS) false] (.sl ((optsR X t ps).map encOp) false) := by
 unfold Fn Tryz.f113
 have hx0 := encLt_lit X
 have hN := hX.n
 have hR4 := hX.rack.len
 have hgx := eq_true hX
 have htt : ((t : Int) < (X.lines.length : Int)) = True := eq_true (by omega)
 have ht0 : (0 ≤ (t : Int)) = True := eq_true (by omega)
 have gl := hX.line _ (getD_mem default ht)
 have hPl := allR_len hX ht
 obtain ⟨L, hL⟩ : ∃ L, L = X.rack.issues.length := ⟨_, rfl⟩
 have hcall : ∀ i : Nat, i < L → meantR (X.lines.getD t default) (X.rack.issues.getD i default) = mR X t i := fun i _ => rfl
 have hmlen : ∀ i : Nat, i < L → (mR X t i).length ≤ 1536 := fun i hi => meantR_len gl.many.2.2.2 (hX.rack.issues _ (getD_mem default (by omega)))
 simp only [go_sem, hx0]
 refine ev_loopS [1, 2, 3] (fun z : Nat × Bool => [(7, .sl ((putAll [] ((X.rack.issues.take z.1).flatMap (meantR (X.lines.getD t default)))).map encL) z.2), (8, .int .i64 z.1)]) (fun z H => z.1 ≤ L ∧ H ([], 113000000) = some (.cells (encLt X) 1 false)) (fun z => L - z.1) (0, true) ?_ ⟨Nat.zero_le _, ?_⟩ ?_
 ·simp only [go_sem, Int.natCast_zero, List.take_zero, List.flatMap_nil, putAll, List.foldl_nil, List.map_nil]
 ·simp only [go_sem, hx0]
 ·simp only [go_sem]
  rintro K ⟨i, ex⟩ H ⟨hi, h1⟩ hK hE
  simp only at hi
  simp only [go_sem, h1, hx0, List.length_map, ← hL]
  rw [condK_bool]
  refine ⟨fun h => ?_, fun h => ?_⟩
  ·have hi' : i < L := by have := of_decide_eq_true h; omega
   have hii : ((i : Int) < (X.rack.issues.length : Int)) = True := eq_true (by omega)
   have hi0 : (0 ≤ (i : Int)) = True := eq_true (by omega)
   have w2 : IntKind.i64.wrap ((i : Int) + 1) = (i : Int) + 1 := wrap_id (by omega)
   have hfm := flatMap_take (meantR (X.lines.getD t default)) (hL ▸ hi' : i < X.rack.issues.length)
   rw [hcall i hi'] at hfm
   have hPi := hPl i
   have hMl := hmlen i hi'
   have hc := hcall i hi'
   generalize hPP : (X.rack.issues.take i).flatMap (meantR (X.lines.getD t default)) = P at hfm hPi
   simp only [go_sem, @ct E63 140 t140 rfl, t140, callSpec, h1, hx0, lett_eta, hgx, hii, hi0, htt, ht0, Int.toNat_natCast, hc]
   generalize hMM : mR X t i = M at hfm hMl
   refine ev_loopS [1, 2, 3, 8, 9] (fun z : Nat × Bool => [(7, .sl ((putAll [] (P ++ M.take z.1)).map encL) z.2), (10, .int .i64 z.1)]) (fun z H => z.1 ≤ M.length ∧ H ([], 113000000) = some (.cells (encLt X) 1 false)) (fun z => M.length - z.1) (0, ex) ?_ ⟨Nat.zero_le _, ?_⟩ ?_
   ·simp only [go_sem, Int.natCast_zero, List.take_zero, List.append_nil, hPP]
   ·simp only [go_sem, h1, hx0]
   ·simp only [go_sem, List.length_map]
    rintro K2 ⟨k, ex2⟩ H2 ⟨hk, k1⟩ hK2 hE2
    simp only at hk
    dsimp only
    rw [condK_bool]
    refine ⟨fun h => ?_, fun h => ?_⟩
    ·have hk' : k < M.length := by have := of_decide_eq_true h; omega
     have hkk : ((k : Int) < (M.length : Int)) = True := eq_true (by omega)
     have hk0 : (0 ≤ (k : Int)) = True := eq_true (by omega)
     have w3 : IntKind.i64.wrap ((k : Int) + 1) = (k : Int) + 1 := wrap_id (by omega)
     have hst : putAll [] (P ++ M.take (k + 1)) = putL (putAll [] (P ++ M.take k)) (M.getD k default) := by
      rw [List.take_succ_eq_append_getElem hk', ← List.append_assoc, putAll_append, show M[k] = M.getD k default by simp [hk']]; rfl
     have hol := putAll_len (P ++ M.take k) []
     rw [List.length_append, List.length_take] at hol
     have hO9 : ((putAll [] (P ++ M.take k)).length ≤ 1000000) = True := eq_true (by simp only [List.length_nil] at hol; omega)
     generalize hO : putAll [] (P ++ M.take k) = O at hst hO9
     generalize hxx : M.getD k default = x at hst
     have hdx := dec_line2 x
     obtain ⟨⟨x0, x1, x2⟩, x3⟩ := x
     simp only [encL] at hdx
     simp only [go_sem, @ct E63 82 t82 rfl, t82, callSpec, hkk, hk0, Int.toNat_natCast, List.length_map, getD_mapN encL M k _ hk', hxx, encL, hdx, dec_lines, hO9]
     refine hK2 (k + 1, false) _ _ ?_ ⟨hk', k1⟩ (by simp only; omega)
     simp only [go_sem, w3, Int.natCast_add, Int.natCast_one, hst]
    ·have hk' : k = M.length := by have : ¬ ((k : Int) < (M.length : Int)) := by simpa using h
                                   omega
     subst hk'
     rw [List.take_length, ← hfm]
     refine hE2 _ _ _ (by simp) ?_
     simp only [go_sem]
     refine hK (i + 1, ex2) _ _ ?_ ⟨hi', k1⟩ (by simp only; omega)
     simp only [go_sem, w2, Int.natCast_add, Int.natCast_one]
  ·have hi' : i = L := by have : ¬ ((i : Int) < (L : Int)) := by simpa using h
                          omega
   have hall : putAll [] ((X.rack.issues.take i).flatMap (meantR (X.lines.getD t default))) = allR X t := by rw [hi', hL, List.take_length]; rfl
   have hAl : (allR X t).length ≤ 6144 := by
    have h1 := putAll_len (X.rack.issues.flatMap (meantR (X.lines.getD t default))) []
    have h2 := hPl X.rack.issues.length
    rw [List.take_length] at h2
    simp only [List.length_nil] at h1
    exact Nat.le_trans h1 (by omega)
   rw [hall]
   have hres : optsR X t ps = (allR X t).map fun l => (⟨l, issF X t l L, ps.map fun p => costM X.rack p.1 l⟩ : OptR) := by unfold optsR; rw [hL]
   rw [hres] at hE
   generalize allR X t = A at hAl hE ⊢
   refine hE _ _ _ (by simp) ?_
   simp only [go_sem]
   refine ev_loopS [1, 2, 3, 7] (fun z : Nat × PV => [(11, z.2), (12, .int .i64 z.1)]) (fun z H => z.1 ≤ A.length ∧ H ([], 113000000) = some (.cells (encLt X) 1 false) ∧ Own H (fun K => K = ([], 113014007)) z.2 6 ((A.take z.1).map fun l => optRow l 0 (.sl [] true))) (fun z => A.length - z.1) (0, .sl [] true) ?_ ⟨Nat.zero_le _, h1, .nil⟩ ?_
   ·simp only [go_sem, Int.natCast_zero]
   ·simp only [go_sem, List.length_map]
    rintro K2 ⟨k, p⟩ H2 ⟨hk, k1, k2⟩ hK2 hE2
    simp only at hk k2
    obtain ⟨hT, hC, hP, hV, hU⟩ := OwnTaint k2
    dsimp only
    rw [condK_bool]
    refine ⟨fun h => ?_, fun h => ?_⟩
    ·have hk' : k < A.length := by have := of_decide_eq_true h; omega
     have hkk : ((k : Int) < (A.length : Int)) = True := eq_true (by omega)
     have hk0 : (0 ≤ (k : Int)) = True := eq_true (by omega)
     have w3 : IntKind.i64.wrap ((k : Int) + 1) = (k : Int) + 1 := wrap_id (by omega)
     have htk : (A.take (k + 1)).map (fun l => optRow l 0 (.sl [] true)) = (A.take k).map (fun l => optRow l 0 (.sl [] true)) ++ [optRow (A.getD k default) 0 (.sl [] true)] := by
      rw [List.take_succ_eq_append_getElem hk', List.map_append, show A[k] = A.getD k default by simp [hk']]; rfl
     have hbn := (bnd113 hk hAl).1
     generalize hxx : A.getD k default = x at htk
     obtain ⟨⟨x0, x1, x2⟩, x3⟩ := x
     simp only [go_sem, hkk, hk0, Int.toNat_natCast, List.length_map, getD_mapN encL A k _ hk', hxx, encL, hT, hC, hP, hV, hU]
     refine app_one trivial rfl rfl (by decide) (by decide) (set_at_eq _ _ _) (k2.frame fun K hK => set_at_ne _ _ (by rw [hK]; simp)) rfl (by rw [List.length_map, List.length_take, Nat.min_eq_left hk]; exact hbn) (fun row hr => by obtain ⟨a, _, rfl⟩ := List.mem_map.1 hr; rfl) ⟨rfl, rfl⟩ fun p' H' hO hF => ?_
     obtain ⟨hT', hC', hP', hV', hU'⟩ := OwnTaint hO
     simp only [go_sem, hT', hC', hP', hV', hU']
     refine hK2 (k + 1, p') _ _ ?_ ⟨hk', (hF _ (by simp)).trans ((set_at_ne _ _ (by simp)).trans k1), by show Own _ _ _ _ ((A.take (k + 1)).map _); rw [htk]; exact hO⟩ (by simp only; omega)
     simp only [go_sem, w3, Int.natCast_add, Int.natCast_one]
    ·have hk' : k = A.length := by have : ¬ ((k : Int) < (A.length : Int)) := by simpa using h
                                   omega
     subst hk'
     rw [List.take_length] at k2
     refine hE2 _ _ _ (by simp) ?_
     simp only [go_sem, hT, hC, hP, hV, hU]
     rcases k2 with ⟨q1, rfl⟩ | ⟨K', v, rfl, rfl, q3⟩
     ·obtain rfl : A = [] := List.map_eq_nil_iff.1 q1
      refine ev_loopS [1, 2, 3, 7, 11] (fun i : Nat => [(13, .int .i64 i)]) (fun i H => i ≤ L ∧ H ([], 113000000) = some (.cells (encLt X) 1 false)) (fun i => L - i) 0 ?_ ⟨Nat.zero_le _, k1⟩ ?_
      ·simp only [go_sem, Int.natCast_zero]
      ·simp only [go_sem]
       rintro K3 i H3 ⟨hi, c1⟩ hK3 hE3
       simp only [go_sem, c1, hx0, List.length_map, ← hL]
       rw [condK_bool]
       refine ⟨fun h => ?_, fun h => ?_⟩
       ·have hi' : i < L := by have := of_decide_eq_true h; omega
        have hii : ((i : Int) < (X.rack.issues.length : Int)) = True := eq_true (by omega)
        have hi0 : (0 ≤ (i : Int)) = True := eq_true (by omega)
        have w2 : IntKind.i64.wrap ((i : Int) + 1) = (i : Int) + 1 := wrap_id (by omega)
        have hc := hcall i hi'
        simp only [go_sem, @ct E63 140 t140 rfl, t140, callSpec, c1, hx0, lett_eta, hgx, hii, hi0, htt, ht0, Int.toNat_natCast, hc]
        refine ev_loopS [1, 2, 3, 7, 11, 13] (fun k : Nat => [(15, .int .i64 k)]) (fun k H => k ≤ 0 ∧ H ([], 113000000) = some (.cells (encLt X) 1 false)) (fun _ => 0) 0 ?_ ⟨Nat.le_refl _, ?_⟩ ?_
        ·simp only [go_sem, Int.natCast_zero]
        ·simp only [go_sem, c1, hx0]
        ·simp only [go_sem]
         rintro K4 k H4 ⟨hk, d1⟩ hE4
         obtain rfl : k = 0 := by omega
         simp only [go_sem, Int.natCast_zero]
         refine hE4 _ _ _ (by simp) ?_
         simp only [go_sem]
         refine hK3 (i + 1) _ _ ?_ ⟨hi', d1⟩ (by omega)
         simp only [go_sem, w2, Int.natCast_add, Int.natCast_one]
       ·refine hE3 _ _ _ (by simp) ?_
        simp only [go_sem]
        refine ev_loopS [1, 2, 3, 7, 11] (fun k : Nat => [(17, .int .i64 k)]) (fun k H => k ≤ 0) (fun _ => 0) 0 ?_ (Nat.le_refl _) ?_
        ·simp only [go_sem, Int.natCast_zero]
        ·simp only [go_sem]
         rintro K4 k H4 hk hE4
         obtain rfl : k = 0 := by omega
         simp only [go_sem, Int.natCast_zero]
         refine hE4 _ _ _ (by simp) ?_
         simp only [go_sem]
     ·rw [rows2_zero] at q3
      simp only [List.length_map]
      obtain ⟨C0, hC0⟩ : ∃ C0 : List PV, C0 = List.replicate A.length (.sl [] true) := ⟨_, rfl⟩
      have hC0l : C0.length = A.length := by rw [hC0, List.length_replicate]
      have hC0g : ∀ q, q < A.length → C0.getD q (.sl [] true) = .sl [] true := fun q hq => by rw [hC0]; simp [hq]
      rw [← hC0] at q3
      refine ev_loopS [1, 2, 3, 7, 11] (fun z : Nat × List Int => [(13, .int .i64 z.1)]) (fun z H => z.1 ≤ L ∧ H ([], 113000000) = some (.cells (encLt X) 1 false) ∧ H ([], 113014007) = some (.rows 6 (rows2 A z.2 C0) v false) ∧ z.2.length = A.length ∧ ∀ q, q < A.length → z.2.getD q 0 = issF X t (A.getD q default) z.1) (fun z => L - z.1) (0, List.replicate A.length 0) ?_ ⟨Nat.zero_le _, k1, q3, by simp, fun q hq => by simp [hq, issF]⟩ ?_
      ·simp only [go_sem, Int.natCast_zero]
      ·simp only [go_sem]
       rintro K3 ⟨i, S⟩ H3 ⟨hi, c1, c2, c3, c4⟩ hK3 hE3
       simp only at hi c2 c3 c4
       simp only [go_sem, c1, hx0, List.length_map, ← hL]
       rw [condK_bool]
       refine ⟨fun h => ?_, fun h => ?_⟩
       ·have hi' : i < L := by have := of_decide_eq_true h; omega
        have hii : ((i : Int) < (X.rack.issues.length : Int)) = True := eq_true (by omega)
        have hi0 : (0 ≤ (i : Int)) = True := eq_true (by omega)
        have w2 : IntKind.i64.wrap ((i : Int) + 1) = (i : Int) + 1 := wrap_id (by omega)
        have hc := hcall i hi'
        have hMl := hmlen i hi'
        have hMn : (mR X t i).Nodup := nodup_of_lt (meantR_sort _ _)
        have hstep : ∀ l, issF X t l (i + 1) = if l ∈ mR X t i then bits .or .i64 (issF X t l i) (shft true .i64 1 (i : Int)) else issF X t l i := fun l => rfl
        simp only [go_sem, @ct E63 140 t140 rfl, t140, callSpec, c1, hx0, lett_eta, hgx, hii, hi0, htt, ht0, Int.toNat_natCast, hc]
        generalize mR X t i = M at hMl hMn hstep
        refine ev_loopS [1, 2, 3, 7, 11, 13, 14] (fun z : Nat × List Int => [(15, .int .i64 z.1)]) (fun z H => z.1 ≤ A.length ∧ H ([], 113000000) = some (.cells (encLt X) 1 false) ∧ H ([], 113014007) = some (.rows 6 (rows2 A z.2 C0) v false) ∧ z.2.length = A.length ∧ ∀ q, q < A.length → z.2.getD q 0 = issF X t (A.getD q default) (if q < z.1 then i + 1 else i)) (fun z => A.length - z.1) (0, S) ?_ ⟨Nat.zero_le _, ?_, ?_, c3, fun q hq => by simpa using c4 q hq⟩ ?_
        ·simp only [go_sem, Int.natCast_zero]
        ·simp only [go_sem, c1, hx0]
        ·simp only [go_sem, c2]
        ·simp only [go_sem]
         rintro K4 ⟨k, S2⟩ H4 ⟨hk, d1, d2, d3, d4⟩ hK4 hE4
         simp only at hk d2 d3 d4
         dsimp only
         rw [condK_bool]
         refine ⟨fun h => ?_, fun h => ?_⟩
         ·have hk' : k < A.length := by have := of_decide_eq_true h; omega
          have hkk : ((k : Int) < (A.length : Int)) = True := eq_true (by omega)
          have hkn : (k < A.length) = True := eq_true hk'
          have hk0 : (0 ≤ (k : Int)) = True := eq_true (by omega)
          have w3 : IntKind.i64.wrap ((k : Int) + 1) = (k : Int) + 1 := wrap_id (by omega)
          have hstk := hstep (A.getD k default)
          have hsk : ∀ (S2 : List Int) (v : Int), S2.length = A.length → (rows2 A S2 C0).set k (optRow (A.getD k default) v (.sl [] true)) = rows2 A (S2.set k v) C0 := fun S2 v hS => by rw [← hC0g k hk']; exact rows2_setS hk' hS v
          have hgk : ∀ (S2 : List Int) (z : List PV), (rows2 A S2 C0).getD k z = optRow (A.getD k default) (S2.getD k 0) (.sl [] true) := fun S2 z => by rw [rows2_get hk', hC0g k hk']
          generalize hxx : A.getD k default = x at hstk hsk hgk
          simp only [go_sem]
          refine ev_loopS [1, 2, 3, 7, 11, 13, 14, 15] (fun z : Nat × List Int => [(16, .int .i64 z.1)]) (fun z H => z.1 ≤ M.length ∧ H ([], 113000000) = some (.cells (encLt X) 1 false) ∧ H ([], 113014007) = some (.rows 6 (rows2 A z.2 C0) v false) ∧ z.2.length = A.length ∧ (∀ q, q < A.length → q ≠ k → z.2.getD q 0 = issF X t (A.getD q default) (if q < k then i + 1 else i)) ∧ z.2.getD k 0 = if x ∈ M.take z.1 then bits .or .i64 (issF X t x i) (shft true .i64 1 (i : Int)) else issF X t x i) (fun z => M.length - z.1) (0, S2) ?_ ⟨Nat.zero_le _, d1, d2, d3, fun q hq _ => d4 q hq, by rw [d4 k hk', hxx]; simp⟩ ?_
          ·simp only [go_sem, Int.natCast_zero]
          ·simp only [go_sem, List.length_map]
           rintro K5 ⟨j, S3⟩ H5 ⟨hj, e1, e2, e3, e4, e5⟩ hK5 hE5
           simp only at hj e2 e3 e4 e5
           dsimp only
           rw [condK_bool]
           refine ⟨fun h => ?_, fun h => ?_⟩
           ·have hj' : j < M.length := by have := of_decide_eq_true h; omega
            have hjj : ((j : Int) < (M.length : Int)) = True := eq_true (by omega)
            have hj0 : (0 ≤ (j : Int)) = True := eq_true (by omega)
            have w4 : IntKind.i64.wrap ((j : Int) + 1) = (j : Int) + 1 := wrap_id (by omega)
            have hg3 := hgk S3
            have hs3 := hsk S3
            have hrl := rows2_len A S3 C0
            have htj : M.take (j + 1) = M.take j ++ [M.getD j default] := by rw [List.take_succ_eq_append_getElem hj', show M[j] = M.getD j default by simp [hj']]
            have hnj : M.getD j default ∉ M.take j := fun hm => by
             have e : M.getD j default = M[j] := by simp [hj']
             rw [e] at hm
             obtain ⟨a, ha, ea⟩ := List.getElem_of_mem hm
             rw [List.length_take] at ha
             rw [List.getElem_take] at ea
             exact List.pairwise_iff_getElem.1 hMn a j (by omega) hj' (by omega) ea
            generalize hyy : M.getD j default = y at htj hnj
            have hq := same29_eq y x
            by_cases hyx : y = x
            ·rw [decide_eq_true hyx] at hq
             subst hyx
             rw [if_neg hnj] at e5
             generalize hw : bits .or .i64 (issF X t y i) (shft true .i64 1 (i : Int)) = w at *
             have hs4 := hs3 w e3
             obtain ⟨⟨y0, y1, y2⟩, y3⟩ := y
             simp only [go_sem, encL] at hq
             simp only [optRow] at hg3 hs4
             simp only [go_sem, e2, hkk, hkn, hk0, hjj, hj0, Int.toNat_natCast, List.length_map, getD_mapN encL M j _ hj', hyy, encL, hg3, hrl, e5, hq, hi0, hw]
             rw [hs4]
             refine hK5 (j + 1, S3.set k w) _ _ ?_ ⟨hj', ?_, ?_, by simp only [List.length_set]; exact e3, fun q hq hqk => ?_, ?_⟩ (by simp only; omega)
             ·simp only [go_sem, w4, Int.natCast_add, Int.natCast_one]
             ·simp only [go_sem, e1]
             ·simp only [go_sem]
             ·rw [← e4 q hq hqk]
              simp only [List.getD_eq_getElem?_getD, List.getElem?_set]
              rw [if_neg fun e => hqk e.symm]
             ·simp only
              rw [htj, if_pos (by simp)]
              simp [e3, hk']
            ·rw [decide_eq_false hyx] at hq
             have hmm : (x ∈ M.take (j + 1)) = (x ∈ M.take j) := by
              rw [htj]
              simp only [List.mem_append, List.mem_singleton, eq_iff_iff]
              exact ⟨fun q => q.elim id fun e => absurd e.symm hyx, .inl⟩
             obtain ⟨⟨y0, y1, y2⟩, y3⟩ := y
             obtain ⟨⟨x0, x1, x2⟩, x3⟩ := x
             simp only [go_sem, encL] at hq
             simp only [optRow] at hg3
             simp only [go_sem, e2, hkk, hkn, hk0, hjj, hj0, Int.toNat_natCast, List.length_map, getD_mapN encL M j _ hj', hyy, encL, hg3, hrl, hq]
             refine hK5 (j + 1, S3) _ _ ?_ ⟨hj', e1, e2, e3, e4, by simp only [hmm]; exact e5⟩ (by simp only; omega)
             simp only [go_sem, w4, Int.natCast_add, Int.natCast_one]
           ·have hj' : j = M.length := by have : ¬ ((j : Int) < (M.length : Int)) := by simpa using h
                                          omega
            subst hj'
            rw [List.take_length, ← hstk] at e5
            refine hE5 _ _ _ (by simp) ?_
            simp only [go_sem]
            refine hK4 (k + 1, S3) _ _ ?_ ⟨hk', e1, e2, e3, fun q hq => ?_⟩ (by simp only; omega)
            ·simp only [go_sem, w3, Int.natCast_add, Int.natCast_one]
            ·by_cases hqk : q = k
             ·subst hqk
              simp only
              rw [e5, if_pos (by omega), hxx]
             ·simp only
              rw [e4 q hq hqk]
              congr 1
              by_cases h1 : q < k
              ·rw [if_pos h1, if_pos (by omega)]
              ·rw [if_neg h1, if_neg (by omega)]
         ·have hk' : k = A.length := by have : ¬ ((k : Int) < (A.length : Int)) := by simpa using h
                                        omega
          subst hk'
          refine hE4 _ _ _ (by simp) ?_
          simp only [go_sem]
          refine hK3 (i + 1, S2) _ _ ?_ ⟨hi', d1, d2, d3, fun q hq => by rw [d4 q hq, if_pos hq]⟩ (by simp only; omega)
          simp only [go_sem, w2, Int.natCast_add, Int.natCast_one]
       ·have hi' : i = L := by have : ¬ ((i : Int) < (L : Int)) := by simpa using h
                               omega
        subst hi'
        refine hE3 _ _ _ (by simp) ?_
        simp only [go_sem]
        obtain ⟨cs, hcs⟩ : ∃ cs : Line → List Int, cs = fun l => ps.map fun p => costM X.rack p.1 l := ⟨_, rfl⟩
        have hfin : ∀ C, C = A.map (fun l => PV.sl (il (cs l)) false) → rows2 A S C = (A.map fun l => (⟨l, issF X t l i, ps.map fun p => costM X.rack p.1 l⟩ : OptR)).map encOp := fun C hC => by
         have := rows2_fin (f := fun l => issF X t l i) (g := cs) c4 hC
         rw [this, hcs]
        rw [hC0, ← cK_zero A cs] at c2
        have hxr := eq_true hX.rack.okRack
        have eR : (⟨X.rack.goods, X.rack.issues⟩ : Rack) = X.rack := rfl
        have hb1 : big 1 = True := eq_true (by unfold big; omega)
        refine ev_loopS [1, 2, 3, 7, 11] (fun k : Nat => [(17, .int .i64 k)]) (fun k H => k ≤ A.length ∧ H ([], 113000000) = some (.cells (encLt X) 1 false) ∧ H ([], 113014007) = some (.rows 6 (rows2 A S (cK A cs k)) v false)) (fun k => A.length - k) 0 ?_ ⟨Nat.zero_le _, c1, c2⟩ ?_
        ·simp only [go_sem, Int.natCast_zero]
        ·simp only [go_sem]
         rintro K4 k H4 ⟨hk, d1, d2⟩ hK4 hE4
         rw [condK_bool]
         refine ⟨fun h => ?_, fun h => ?_⟩
         ·have hk' : k < A.length := by have := of_decide_eq_true h; omega
          have hkk : ((k : Int) < (A.length : Int)) = True := eq_true (by omega)
          have hkn : (k < A.length) = True := eq_true hk'
          have hk0 : (0 ≤ (k : Int)) = True := eq_true (by omega)
          have w3 : IntKind.i64.wrap ((k : Int) + 1) = (k : Int) + 1 := wrap_id (by omega)
          have hrl := rows2_len A S (cK A cs k)
          have hgk : ∀ z, (rows2 A S (cK A cs k)).getD k z = optRow (A.getD k default) (S.getD k 0) (.sl [] true) := fun z => by rw [rows2_get hk', cK_get cs hk']
          have hset := rows2_setC (S := S) hk' (cK_len cs hk) (.sl (il (cs (A.getD k default))) false)
          rw [cK_set cs hk'] at hset
          have hcx : cs (A.getD k default) = ps.map fun p => costM X.rack p.1 (A.getD k default) := by rw [hcs]
          generalize hxx : A.getD k default = x at hgk hset hcx
          generalize S.getD k 0 = s at hgk hset
          have hdec := dec_lines [x]
          simp only [go_sem]
          refine ev_loopS [1, 2, 3, 7, 11, 17] (fun z : Nat × PV => [(18, z.2), (19, .int .i64 z.1)]) (fun z H => z.1 ≤ ps.length ∧ H ([], 113000000) = some (.cells (encLt X) 1 false) ∧ H ([], 113014007) = some (.rows 6 (rows2 A S (cK A cs k)) v false) ∧ Own H (fun K => K = ([], 113037003)) z.2 1 (il ((ps.take z.1).map fun p => costM X.rack p.1 x))) (fun z => ps.length - z.1) (0, .sl [] true) ?_ ⟨Nat.zero_le _, d1, d2, .nil⟩ ?_
          ·simp only [go_sem, Int.natCast_zero]
          ·simp only [go_sem, List.length_map]
           rintro K5 ⟨q, pc⟩ H5 ⟨hq, e1, e2, e3⟩ hK5 hE5
           simp only at hq e3
           dsimp only
           rw [condK_bool]
           refine ⟨fun h => ?_, fun h => ?_⟩
           ·have hq' : q < ps.length := by have := of_decide_eq_true h; omega
            have hqq : ((q : Int) < (ps.length : Int)) = True := eq_true (by omega)
            have hq0 : (0 ≤ (q : Int)) = True := eq_true (by omega)
            have w4 : IntKind.i64.wrap ((q : Int) + 1) = (q : Int) + 1 := wrap_id (by omega)
            have htk : (ps.take (q + 1)).map (fun p => costM X.rack p.1 x) = (ps.take q).map (fun p => costM X.rack p.1 x) ++ [costM X.rack (ps.getD q default).1 x] := by
             rw [List.take_succ_eq_append_getElem hq', List.map_append, show ps[q] = ps.getD q default by simp [hq']]; rfl
            have hlq : ((ps.take q).map fun p => costM X.rack p.1 x).length = q := by rw [List.length_map, List.length_take]; omega
            have hbq : (q + 1) * 8 ≤ 35184372088832 := (bnd113 hq (by omega)).2.1
            obtain ⟨hT, hC, hP, hV, hU⟩ := OwnTaint e3
            generalize hpp : ps.getD q default = pr at htk
            obtain ⟨p0, p1⟩ := pr
            obtain ⟨⟨x0, x1, x2⟩, x3⟩ := x
            simp only [List.map_cons, List.map_nil, encL] at hdec
            simp only [optRow] at hgk
            simp only [go_sem, @ct E63 141 s34 rfl, s34, callSpec, e1, e2, hx0, eR, hxr, hqq, hq0, hkk, hkn, hk0, Int.toNat_natCast, List.length_map, getD_mapN encS ps q _ hq', hpp, encS, hgk, hrl, hdec, hb1, List.length_singleton]
            have hcd : costM X.rack (p0, p1).1 ⟨⟨x0, x1, x2⟩, x3⟩ = if (sumM X.rack p0 [⟨⟨x0, x1, x2⟩, x3⟩]).2 = 0 then (sumM X.rack p0 [⟨⟨x0, x1, x2⟩, x3⟩]).1 else -1 := rfl
            rw [condK_bool]
            refine ⟨fun hne => ?_, fun hne => ?_⟩
            ·have hz : (sumM X.rack p0 [⟨⟨x0, x1, x2⟩, x3⟩]).2 ≠ 0 := by simpa using hne
             have hcm : costM X.rack (p0, p1).1 ⟨⟨x0, x1, x2⟩, x3⟩ = -1 := by rw [hcd, if_neg hz]
             simp only [go_sem, hT, hC, hP, hV, hU]
             refine app_one trivial rfl rfl (by decide) (by decide) (set_at_eq _ _ _) (e3.frame fun K hK => (set_at_ne _ _ (by rw [hK]; simp)).trans (set_at_ne _ _ (by rw [hK]; simp))) rfl (by rw [il_length, hlq]; exact hbq) (il_row _) ⟨rfl, rfl⟩ fun p' H' hO hF => ?_
             obtain ⟨hT', hC', hP', hV', hU'⟩ := OwnTaint hO
             simp only [go_sem, hT', hC', hP', hV', hU']
             refine hK5 (q + 1, p') _ _ ?_ ⟨hq', (hF _ (by simp)).trans ((set_at_ne _ _ (by simp)).trans ((set_at_ne _ _ (by simp)).trans e1)), (hF _ (by simp)).trans ((set_at_ne _ _ (by simp)).trans ((set_at_ne _ _ (by simp)).trans e2)), by show Own _ _ _ _ (il ((ps.take (q + 1)).map _)); rw [htk, hcm, il_append]; exact hO⟩ (by simp only; omega)
             simp only [go_sem, w4, Int.natCast_add, Int.natCast_one]
            ·have hz : (sumM X.rack p0 [⟨⟨x0, x1, x2⟩, x3⟩]).2 = 0 := by simpa using hne
             have hcm : costM X.rack (p0, p1).1 ⟨⟨x0, x1, x2⟩, x3⟩ = (sumM X.rack p0 [⟨⟨x0, x1, x2⟩, x3⟩]).1 := by rw [hcd, if_pos hz]
             simp only [go_sem, hT, hC, hP, hV, hU]
             refine app_one trivial rfl rfl (by decide) (by decide) (set_at_eq _ _ _) (e3.frame fun K hK => (set_at_ne _ _ (by rw [hK]; simp)).trans (set_at_ne _ _ (by rw [hK]; simp))) rfl (by rw [il_length, hlq]; exact hbq) (il_row _) ⟨rfl, rfl⟩ fun p' H' hO hF => ?_
             obtain ⟨hT', hC', hP', hV', hU'⟩ := OwnTaint hO
             simp only [go_sem, hT', hC', hP', hV', hU']
             refine hK5 (q + 1, p') _ _ ?_ ⟨hq', (hF _ (by simp)).trans ((set_at_ne _ _ (by simp)).trans ((set_at_ne _ _ (by simp)).trans e1)), (hF _ (by simp)).trans ((set_at_ne _ _ (by simp)).trans ((set_at_ne _ _ (by simp)).trans e2)), by show Own _ _ _ _ (il ((ps.take (q + 1)).map _)); rw [htk, hcm, il_append]; exact hO⟩ (by simp only; omega)
             simp only [go_sem, w4, Int.natCast_add, Int.natCast_one]
           ·have hq' : q = ps.length := by have : ¬ ((q : Int) < (ps.length : Int)) := by simpa using h
                                           omega
            subst hq'
            rw [List.take_length, ← hcx] at e3
            refine hE5 _ _ _ (by simp) ?_
            rcases e3 with ⟨q1, rfl⟩ | ⟨K', v', rfl, rfl, q3⟩
            ·exfalso
             have : (il (cs x)).length = 0 := by rw [q1]; rfl
             rw [il_length, hcx, List.length_map] at this
             omega
            ·simp only [optRow] at hgk hset
             simp only [go_sem, e2, q3, hkk, hkn, hk0, Int.toNat_natCast, hgk, hrl]
             rw [hset]
             refine hK4 (k + 1) _ _ ?_ ⟨hk', ?_, ?_⟩ (by omega)
             ·simp only [go_sem, w3, Int.natCast_add, Int.natCast_one]
             ·simp only [go_sem, e1]
             ·simp only [go_sem]
         ·have hk' : k = A.length := by have : ¬ ((k : Int) < (A.length : Int)) := by simpa using h
                                        omega
          subst hk'
          rw [hfin _ (cK_all A cs)] at d2
          refine hE4 _ _ _ (by simp) ?_
          simp only [go_sem, d2, List.length_map]
def t113 : Spec := spec3 (fun (X : Lett) (t : Int) (ps : List (Int × Int)) => GL X ∧ (0 ≤ t ∧ t < X.lines.length) ∧ (1 ≤ ps.length ∧ ps.length ≤ 100)) fun X t ps => .sl ((optsR X t.toNat ps).map encOp) false
theorem t113_ok : SpecOK Tryz.prog glB 113 t113 := spec3_ok E63_ok Tryz.func113 rfl (by kernel_rfl) fun X t ps h => by
 obtain ⟨m, rfl⟩ := Int.eq_ofNat_of_zero_le h.2.1.1
 exact options_fn X h.1 m (by have := h.2.1.2; omega) ps h.2.2
end Wb
