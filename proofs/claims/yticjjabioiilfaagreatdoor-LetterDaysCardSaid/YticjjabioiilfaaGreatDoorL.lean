import Derived.Test.YticjjabioiilfaaGreatDoorJ
set_option linter.unusedVariables false
set_option linter.unusedSimpArgs false
namespace Wb
open Go Go.Proofs Enc Row
set_option linter.unusedSimpArgs false
set_option linter.unusedVariables false
set_option maxRecDepth 20000
set_option maxHeartbeats 8000000
def sureF (k : Nat) (i : Int) (f0 : Int) (S : List Ord2) : Int := S.foldl (fun a o => if fldL k (lineO o i) = f0 then a else -1) f0
def sureK (k : Nat) (i : Int) (S : List Ord2) : Int := sureF k i (fldL k (lineO (S.getD 0 default) i)) S
def sureL (S : List Ord2) (i : Int) : Line := ⟨⟨sureK 0 i S, sureK 1 i S, sureK 2 i S⟩, sureK 3 i S⟩
def sureM (x : Lett) : List Line := (List.range x.lines.length).map fun (i : Nat) => sureL (sortedM x) (i : Int)
def surePV (x : Lett) : PV :=
 if lettOk x = true then (if sortedM x = [] then .tup [.sl [] true, .int .i64 4] else .tup [.sl ((sureM x).map encL) true, .int .i64 0]) else .tup [.sl [] true, .int .i64 20]
theorem sureF_take (k : Nat) (i f0 : Int) {S : List Ord2} {m : Nat} (h : m < S.length) : sureF k i f0 (S.take (m + 1)) = if fldL k (lineO (S.getD m default) i) = f0 then sureF k i f0 (S.take m) else -1 := by
 have e : S.getD m default = S[m] := by simp [h]
 unfold sureF
 rw [e, List.take_succ_eq_append_getElem h, List.foldl_append]; rfl
theorem sure_fn (x : Lett) (hx : LOk x) : Fn E40 1 23 Tryz.f23 (Tryz.f23.body.getD .skip) [.agg (encLt x)] (surePV x) := by
 unfold Fn Tryz.f23 surePV
 have hxl := eq_true hx
 cases hk : lettOk x with
 | false =>
  have ha : askPV x true = .tup [zeroLC, .sl [] true, .int .i64 20] := by unfold askPV; rw [hk]; rfl
  simp only [go_sem, @ct E40 61 t61 rfl, t61, encLt, lett_eta, callSpec, hk, if_false, hxl, ha, zeroLC]
 | true =>
  have hg := lett_good hk
  by_cases hs : sortedM x = []
  ·have ha : askPV x true = .tup [.agg (encLC (lcOf x)), .sl [] true, .int .i64 4] := by unfold askPV; rw [hk, if_pos rfl, if_pos rfl, if_pos hs]
   simp only [go_sem, @ct E40 61 t61 rfl, t61, encLt, lett_eta, callSpec, hk, if_true, hxl, ha, encLC_lit, if_pos hs]
  ·have ha : askPV x true = .tup [.agg (encLC (lcOf x)), .sl ((sortedM x).map encO) false, .int .i64 0] := by unfold askPV; rw [hk, if_pos rfl, if_pos rfl, if_neg hs]
   have hSl := sortedM_len hg
   have hsm : sureM x = (List.range x.lines.length).map fun (i : Nat) => sureL (sortedM x) (i : Int) := rfl
   simp only [go_sem, @ct E40 61 t61 rfl, t61, encLt, lett_eta, callSpec, hk, if_true, hxl, ha, encLC_lit, if_neg hs, List.length_map, hsm]
   generalize sortedM x = S at hs hSl ⊢
   have hS0 : 0 < S.length := List.length_pos_iff.2 hs
   have hSI : (0 : Int) < (S.length : Int) := by omega
   have hn := hg.n
   generalize x.lines.length = N at hn ⊢
   refine ev_loopS [5, 26] (fun y : Nat × PV => [(7, y.2), (27, .int .i64 y.1)]) (fun y H => y.1 ≤ N ∧ Own H (fun K => K = ([], 23020012)) y.2 4 (((List.range y.1).map fun (i : Nat) => sureL S (i : Int)).map encL)) (fun y => N - y.1) (0, .sl [] true) ?_ ⟨by simp, .inl ⟨rfl, rfl⟩⟩ ?_
   ·simp only [go_sem, Int.natCast_zero]
   ·simp only [go_sem]
    rintro K ⟨i, p⟩ H ⟨hi, h2⟩ hK hE
    simp only at hi h2
    have hOT := OwnTaint h2
    simp only [go_sem]
    rw [condK_bool]
    refine ⟨fun hc => ?_, fun hc => ?_⟩
    ·have hi' : i < N := by have := of_decide_eq_true hc; omega
     have hi01 : ((i : Int) = 0 ∨ (i : Int) = 1) = True := eq_true (by omega)
     have w2 : IntKind.i64.wrap ((i : Int) + 1) = (i : Int) + 1 := wrap_id (by omega)
     generalize hO0 : S.getD 0 default = O0
     simp only [go_sem]
     generalize hvn : verOf H ([], 23008000) + 1 = vn
     refine ev_loopS [5, 7, 8, 9, 26, 27, 30] (fun j : Nat => [(31, .int .i64 j)]) (fun j H => j ≤ 4 ∧ Own H (fun K => K = ([], 23020012)) p 4 (((List.range i).map fun (i : Nat) => sureL S (i : Int)).map encL) ∧ H ([], 23008000) = some (.cells [.int .i64 (if 0 < j then sureK 0 i S else 0), .int .i64 (if 1 < j then sureK 1 i S else 0), .int .i64 (if 2 < j then sureK 2 i S else 0), .int .i64 (if 3 < j then sureK 3 i S else 0)] vn false)) (fun j => 4 - j) 0 ?_ ⟨by omega, ?_, ?_⟩ ?_
     ·simp only [go_sem, Int.natCast_zero, glB]
     ·exact h2.frame fun K hK => by subst hK; simp only [go_sem]
     ·simp only [go_sem]
     ·simp only [go_sem]
      intro K2 j H ⟨hj, h2, h3⟩ hK2 hE2
      have hc : j = 0 ∨ j = 1 ∨ j = 2 ∨ j = 3 ∨ j = 4 := by omega
      rcases hc with rfl | rfl | rfl | rfl | rfl
      ·simp only [go_sem, Nat.not_lt_zero, Nat.lt_irrefl] at h3
       have h3 : H ([], 23008000) = some (.cells [.int .i64 0, .int .i64 0, .int .i64 0, .int .i64 0] vn false) := h3
       have hkd : sureF 0 i (fldL 0 (lineO O0 i)) S = sureK 0 i S := by unfold sureK; rw [hO0]
       obtain ⟨⟨⟨b0, b1, b2⟩, b3⟩, ⟨⟨b4, b5, b6⟩, b7⟩⟩ := O0
       simp only [go_sem, @ct E40 219 t219 rfl, t219, @ct E40 220 t220 rfl, t220, @ct E40 216 t216 rfl, t216, @ct E40 221 t221 rfl, t221, fldS, h3, hSI, hi01, Int.cast_ofNat_Int, List.length_map, Int.toNat_zero, getD_mapN encO S 0 _ hS0, hO0, encO, encL, List.cons_append, List.nil_append, callSpec]
       generalize hf0 : fldL 0 (lineO ⟨⟨⟨b0, b1, b2⟩, b3⟩, ⟨⟨b4, b5, b6⟩, b7⟩⟩ i) = f0 at hkd ⊢
       refine ev_loopS [5, 7, 8, 9, 10, 11, 26, 27, 30, 31, 43, 44] (fun m : Nat => [(45, .int .i64 m)]) (fun m H => m ≤ S.length ∧ Own H (fun K => K = ([], 23020012)) p 4 (((List.range i).map fun (i : Nat) => sureL S (i : Int)).map encL) ∧ H ([], 23008000) = some (.cells [.int .i64 (sureF 0 i f0 (S.take m)), .int .i64 0, .int .i64 0, .int .i64 0] vn false)) (fun m => S.length - m) 0 ?_ ⟨by omega, ?_, ?_⟩ ?_
       ·simp only [go_sem, Int.natCast_zero, List.length_map]
       ·exact h2.frame fun K hK => by subst hK; simp only [go_sem]
       ·simp only [go_sem, h3, List.take_zero, sureF, List.foldl_nil]
       ·simp only [go_sem]
        intro K3 m H ⟨hm, h2, h3⟩ hK3 hE3
        rw [condK_bool]
        refine ⟨fun hc => ?_, fun hc => ?_⟩
        ·have hm' : m < S.length := by have := of_decide_eq_true hc; omega
         have hmm : ((m : Int) < (S.length : Int)) = True := eq_true (by omega)
         have hm0 : (0 ≤ (m : Int)) = True := eq_true (by omega)
         have w3 : IntKind.i64.wrap ((m : Int) + 1) = (m : Int) + 1 := wrap_id (by omega)
         have htk := sureF_take 0 i f0 hm'
         generalize hO : S.getD m default = O at htk
         obtain ⟨⟨⟨a0, a1, a2⟩, a3⟩, ⟨⟨a4, a5, a6⟩, a7⟩⟩ := O
         simp only [go_sem, @ct E40 219 t219 rfl, t219, @ct E40 220 t220 rfl, t220, @ct E40 216 t216 rfl, t216, @ct E40 221 t221 rfl, t221, fldS, h3, hSI, hi01, hmm, hm0, Int.toNat_natCast, Int.cast_ofNat_Int, List.length_map, Int.toNat_zero, getD_mapN encO S 0 _ hS0, getD_mapN encO S m _ hm', hO, hO0, encO, encL, List.cons_append, List.nil_append, callSpec, hf0]
         rw [condK_bool]
         refine ⟨fun hb => ?_, fun hb => ?_⟩
         ·have hb' : ¬ fldL 0 (lineO ⟨⟨⟨a0, a1, a2⟩, a3⟩, ⟨⟨a4, a5, a6⟩, a7⟩⟩ i) = f0 := by simpa using hb
          rw [if_neg hb'] at htk
          simp only [go_sem, h3, Int.cast_ofNat_Int]
          refine hK3 (m + 1) _ _ ?_ ⟨by omega, ?_, ?_⟩ (by omega)
          ·simp only [go_sem, w3, Int.natCast_add, Int.natCast_one]
          ·exact h2.frame fun K hK => by subst hK; simp only [go_sem]
          ·simp only [go_sem, h3, htk]
         ·have hb' : fldL 0 (lineO ⟨⟨⟨a0, a1, a2⟩, a3⟩, ⟨⟨a4, a5, a6⟩, a7⟩⟩ i) = f0 := by simpa using hb
          rw [if_pos hb'] at htk
          simp only [go_sem, h3, Int.cast_ofNat_Int]
          refine hK3 (m + 1) _ _ ?_ ⟨by omega, ?_, ?_⟩ (by omega)
          ·simp only [go_sem, w3, Int.natCast_add, Int.natCast_one]
          ·exact h2.frame fun K hK => by subst hK; simp only [go_sem]
          ·simp only [go_sem, h3, htk]
        ·have hm' : m = S.length := by have : ¬ ((m : Int) < (S.length : Int)) := by simpa using hc
                                       omega
         subst hm'
         rw [List.take_length, hkd] at h3
         simp only [go_sem]
         refine hE3 _ _ _ (by simp) ?_
         simp only [go_sem, Int.cast_ofNat_Int]
         refine hK2 1 _ _ ?_ ⟨by omega, h2, ?_⟩ (by omega)
         ·simp only [go_sem]; rfl
         ·rw [h3]; rfl
      ·simp only [go_sem, Nat.not_lt_zero, Nat.lt_irrefl] at h3
       have h3 : H ([], 23008000) = some (.cells [.int .i64 (sureK 0 i S), .int .i64 0, .int .i64 0, .int .i64 0] vn false) := h3
       have hkd : sureF 1 i (fldL 1 (lineO O0 i)) S = sureK 1 i S := by unfold sureK; rw [hO0]
       obtain ⟨⟨⟨b0, b1, b2⟩, b3⟩, ⟨⟨b4, b5, b6⟩, b7⟩⟩ := O0
       simp only [go_sem, @ct E40 219 t219 rfl, t219, @ct E40 220 t220 rfl, t220, @ct E40 216 t216 rfl, t216, @ct E40 221 t221 rfl, t221, fldS, h3, hSI, hi01, Int.cast_ofNat_Int, List.length_map, Int.toNat_zero, getD_mapN encO S 0 _ hS0, hO0, encO, encL, List.cons_append, List.nil_append, callSpec]
       generalize hf0 : fldL 1 (lineO ⟨⟨⟨b0, b1, b2⟩, b3⟩, ⟨⟨b4, b5, b6⟩, b7⟩⟩ i) = f0 at hkd ⊢
       refine ev_loopS [5, 7, 8, 9, 10, 11, 26, 27, 30, 31, 43, 44] (fun m : Nat => [(45, .int .i64 m)]) (fun m H => m ≤ S.length ∧ Own H (fun K => K = ([], 23020012)) p 4 (((List.range i).map fun (i : Nat) => sureL S (i : Int)).map encL) ∧ H ([], 23008000) = some (.cells [.int .i64 (sureK 0 i S), .int .i64 (sureF 1 i f0 (S.take m)), .int .i64 0, .int .i64 0] vn false)) (fun m => S.length - m) 0 ?_ ⟨by omega, ?_, ?_⟩ ?_
       ·simp only [go_sem, Int.natCast_zero, List.length_map]
       ·exact h2.frame fun K hK => by subst hK; simp only [go_sem]
       ·simp only [go_sem, h3, List.take_zero, sureF, List.foldl_nil]
       ·simp only [go_sem]
        intro K3 m H ⟨hm, h2, h3⟩ hK3 hE3
        rw [condK_bool]
        refine ⟨fun hc => ?_, fun hc => ?_⟩
        ·have hm' : m < S.length := by have := of_decide_eq_true hc; omega
         have hmm : ((m : Int) < (S.length : Int)) = True := eq_true (by omega)
         have hm0 : (0 ≤ (m : Int)) = True := eq_true (by omega)
         have w3 : IntKind.i64.wrap ((m : Int) + 1) = (m : Int) + 1 := wrap_id (by omega)
         have htk := sureF_take 1 i f0 hm'
         generalize hO : S.getD m default = O at htk
         obtain ⟨⟨⟨a0, a1, a2⟩, a3⟩, ⟨⟨a4, a5, a6⟩, a7⟩⟩ := O
         simp only [go_sem, @ct E40 219 t219 rfl, t219, @ct E40 220 t220 rfl, t220, @ct E40 216 t216 rfl, t216, @ct E40 221 t221 rfl, t221, fldS, h3, hSI, hi01, hmm, hm0, Int.toNat_natCast, Int.cast_ofNat_Int, List.length_map, Int.toNat_zero, getD_mapN encO S 0 _ hS0, getD_mapN encO S m _ hm', hO, hO0, encO, encL, List.cons_append, List.nil_append, callSpec, hf0]
         rw [condK_bool]
         refine ⟨fun hb => ?_, fun hb => ?_⟩
         ·have hb' : ¬ fldL 1 (lineO ⟨⟨⟨a0, a1, a2⟩, a3⟩, ⟨⟨a4, a5, a6⟩, a7⟩⟩ i) = f0 := by simpa using hb
          rw [if_neg hb'] at htk
          simp only [go_sem, h3, Int.cast_ofNat_Int]
          refine hK3 (m + 1) _ _ ?_ ⟨by omega, ?_, ?_⟩ (by omega)
          ·simp only [go_sem, w3, Int.natCast_add, Int.natCast_one]
          ·exact h2.frame fun K hK => by subst hK; simp only [go_sem]
          ·simp only [go_sem, h3, htk]
         ·have hb' : fldL 1 (lineO ⟨⟨⟨a0, a1, a2⟩, a3⟩, ⟨⟨a4, a5, a6⟩, a7⟩⟩ i) = f0 := by simpa using hb
          rw [if_pos hb'] at htk
          simp only [go_sem, h3, Int.cast_ofNat_Int]
          refine hK3 (m + 1) _ _ ?_ ⟨by omega, ?_, ?_⟩ (by omega)
          ·simp only [go_sem, w3, Int.natCast_add, Int.natCast_one]
          ·exact h2.frame fun K hK => by subst hK; simp only [go_sem]
          ·simp only [go_sem, h3, htk]
        ·have hm' : m = S.length := by have : ¬ ((m : Int) < (S.length : Int)) := by simpa using hc
                                       omega
         subst hm'
         rw [List.take_length, hkd] at h3
         simp only [go_sem]
         refine hE3 _ _ _ (by simp) ?_
         simp only [go_sem, Int.cast_ofNat_Int]
         refine hK2 2 _ _ ?_ ⟨by omega, h2, ?_⟩ (by omega)
         ·simp only [go_sem]; rfl
         ·rw [h3]; rfl
      ·simp only [go_sem, Nat.not_lt_zero, Nat.lt_irrefl] at h3
       have h3 : H ([], 23008000) = some (.cells [.int .i64 (sureK 0 i S), .int .i64 (sureK 1 i S), .int .i64 0, .int .i64 0] vn false) := h3
       have hkd : sureF 2 i (fldL 2 (lineO O0 i)) S = sureK 2 i S := by unfold sureK; rw [hO0]
       obtain ⟨⟨⟨b0, b1, b2⟩, b3⟩, ⟨⟨b4, b5, b6⟩, b7⟩⟩ := O0
       simp only [go_sem, @ct E40 219 t219 rfl, t219, @ct E40 220 t220 rfl, t220, @ct E40 216 t216 rfl, t216, @ct E40 221 t221 rfl, t221, fldS, h3, hSI, hi01, Int.cast_ofNat_Int, List.length_map, Int.toNat_zero, getD_mapN encO S 0 _ hS0, hO0, encO, encL, List.cons_append, List.nil_append, callSpec]
       generalize hf0 : fldL 2 (lineO ⟨⟨⟨b0, b1, b2⟩, b3⟩, ⟨⟨b4, b5, b6⟩, b7⟩⟩ i) = f0 at hkd ⊢
       refine ev_loopS [5, 7, 8, 9, 10, 11, 26, 27, 30, 31, 43, 44] (fun m : Nat => [(45, .int .i64 m)]) (fun m H => m ≤ S.length ∧ Own H (fun K => K = ([], 23020012)) p 4 (((List.range i).map fun (i : Nat) => sureL S (i : Int)).map encL) ∧ H ([], 23008000) = some (.cells [.int .i64 (sureK 0 i S), .int .i64 (sureK 1 i S), .int .i64 (sureF 2 i f0 (S.take m)), .int .i64 0] vn false)) (fun m => S.length - m) 0 ?_ ⟨by omega, ?_, ?_⟩ ?_
       ·simp only [go_sem, Int.natCast_zero, List.length_map]
       ·exact h2.frame fun K hK => by subst hK; simp only [go_sem]
       ·simp only [go_sem, h3, List.take_zero, sureF, List.foldl_nil]
       ·simp only [go_sem]
        intro K3 m H ⟨hm, h2, h3⟩ hK3 hE3
        rw [condK_bool]
        refine ⟨fun hc => ?_, fun hc => ?_⟩
        ·have hm' : m < S.length := by have := of_decide_eq_true hc; omega
         have hmm : ((m : Int) < (S.length : Int)) = True := eq_true (by omega)
         have hm0 : (0 ≤ (m : Int)) = True := eq_true (by omega)
         have w3 : IntKind.i64.wrap ((m : Int) + 1) = (m : Int) + 1 := wrap_id (by omega)
         have htk := sureF_take 2 i f0 hm'
         generalize hO : S.getD m default = O at htk
         obtain ⟨⟨⟨a0, a1, a2⟩, a3⟩, ⟨⟨a4, a5, a6⟩, a7⟩⟩ := O
         simp only [go_sem, @ct E40 219 t219 rfl, t219, @ct E40 220 t220 rfl, t220, @ct E40 216 t216 rfl, t216, @ct E40 221 t221 rfl, t221, fldS, h3, hSI, hi01, hmm, hm0, Int.toNat_natCast, Int.cast_ofNat_Int, List.length_map, Int.toNat_zero, getD_mapN encO S 0 _ hS0, getD_mapN encO S m _ hm', hO, hO0, encO, encL, List.cons_append, List.nil_append, callSpec, hf0]
         rw [condK_bool]
         refine ⟨fun hb => ?_, fun hb => ?_⟩
         ·have hb' : ¬ fldL 2 (lineO ⟨⟨⟨a0, a1, a2⟩, a3⟩, ⟨⟨a4, a5, a6⟩, a7⟩⟩ i) = f0 := by simpa using hb
          rw [if_neg hb'] at htk
          simp only [go_sem, h3, Int.cast_ofNat_Int]
          refine hK3 (m + 1) _ _ ?_ ⟨by omega, ?_, ?_⟩ (by omega)
          ·simp only [go_sem, w3, Int.natCast_add, Int.natCast_one]
          ·exact h2.frame fun K hK => by subst hK; simp only [go_sem]
          ·simp only [go_sem, h3, htk]
         ·have hb' : fldL 2 (lineO ⟨⟨⟨a0, a1, a2⟩, a3⟩, ⟨⟨a4, a5, a6⟩, a7⟩⟩ i) = f0 := by simpa using hb
          rw [if_pos hb'] at htk
          simp only [go_sem, h3, Int.cast_ofNat_Int]
          refine hK3 (m + 1) _ _ ?_ ⟨by omega, ?_, ?_⟩ (by omega)
          ·simp only [go_sem, w3, Int.natCast_add, Int.natCast_one]
          ·exact h2.frame fun K hK => by subst hK; simp only [go_sem]
          ·simp only [go_sem, h3, htk]
        ·have hm' : m = S.length := by have : ¬ ((m : Int) < (S.length : Int)) := by simpa using hc
                                       omega
         subst hm'
         rw [List.take_length, hkd] at h3
         simp only [go_sem]
         refine hE3 _ _ _ (by simp) ?_
         simp only [go_sem, Int.cast_ofNat_Int]
         refine hK2 3 _ _ ?_ ⟨by omega, h2, ?_⟩ (by omega)
         ·simp only [go_sem]; rfl
         ·rw [h3]; rfl
      ·simp only [go_sem, Nat.not_lt_zero, Nat.lt_irrefl] at h3
       have h3 : H ([], 23008000) = some (.cells [.int .i64 (sureK 0 i S), .int .i64 (sureK 1 i S), .int .i64 (sureK 2 i S), .int .i64 0] vn false) := h3
       have hkd : sureF 3 i (fldL 3 (lineO O0 i)) S = sureK 3 i S := by unfold sureK; rw [hO0]
       obtain ⟨⟨⟨b0, b1, b2⟩, b3⟩, ⟨⟨b4, b5, b6⟩, b7⟩⟩ := O0
       simp only [go_sem, @ct E40 219 t219 rfl, t219, @ct E40 220 t220 rfl, t220, @ct E40 216 t216 rfl, t216, @ct E40 221 t221 rfl, t221, fldS, h3, hSI, hi01, Int.cast_ofNat_Int, List.length_map, Int.toNat_zero, getD_mapN encO S 0 _ hS0, hO0, encO, encL, List.cons_append, List.nil_append, callSpec]
       generalize hf0 : fldL 3 (lineO ⟨⟨⟨b0, b1, b2⟩, b3⟩, ⟨⟨b4, b5, b6⟩, b7⟩⟩ i) = f0 at hkd ⊢
       refine ev_loopS [5, 7, 8, 9, 10, 11, 26, 27, 30, 31, 43, 44] (fun m : Nat => [(45, .int .i64 m)]) (fun m H => m ≤ S.length ∧ Own H (fun K => K = ([], 23020012)) p 4 (((List.range i).map fun (i : Nat) => sureL S (i : Int)).map encL) ∧ H ([], 23008000) = some (.cells [.int .i64 (sureK 0 i S), .int .i64 (sureK 1 i S), .int .i64 (sureK 2 i S), .int .i64 (sureF 3 i f0 (S.take m))] vn false)) (fun m => S.length - m) 0 ?_ ⟨by omega, ?_, ?_⟩ ?_
       ·simp only [go_sem, Int.natCast_zero, List.length_map]
       ·exact h2.frame fun K hK => by subst hK; simp only [go_sem]
       ·simp only [go_sem, h3, List.take_zero, sureF, List.foldl_nil]
       ·simp only [go_sem]
        intro K3 m H ⟨hm, h2, h3⟩ hK3 hE3
        rw [condK_bool]
        refine ⟨fun hc => ?_, fun hc => ?_⟩
        ·have hm' : m < S.length := by have := of_decide_eq_true hc; omega
         have hmm : ((m : Int) < (S.length : Int)) = True := eq_true (by omega)
         have hm0 : (0 ≤ (m : Int)) = True := eq_true (by omega)
         have w3 : IntKind.i64.wrap ((m : Int) + 1) = (m : Int) + 1 := wrap_id (by omega)
         have htk := sureF_take 3 i f0 hm'
         generalize hO : S.getD m default = O at htk
         obtain ⟨⟨⟨a0, a1, a2⟩, a3⟩, ⟨⟨a4, a5, a6⟩, a7⟩⟩ := O
         simp only [go_sem, @ct E40 219 t219 rfl, t219, @ct E40 220 t220 rfl, t220, @ct E40 216 t216 rfl, t216, @ct E40 221 t221 rfl, t221, fldS, h3, hSI, hi01, hmm, hm0, Int.toNat_natCast, Int.cast_ofNat_Int, List.length_map, Int.toNat_zero, getD_mapN encO S 0 _ hS0, getD_mapN encO S m _ hm', hO, hO0, encO, encL, List.cons_append, List.nil_append, callSpec, hf0]
         rw [condK_bool]
         refine ⟨fun hb => ?_, fun hb => ?_⟩
         ·have hb' : ¬ fldL 3 (lineO ⟨⟨⟨a0, a1, a2⟩, a3⟩, ⟨⟨a4, a5, a6⟩, a7⟩⟩ i) = f0 := by simpa using hb
          rw [if_neg hb'] at htk
          simp only [go_sem, h3, Int.cast_ofNat_Int]
          refine hK3 (m + 1) _ _ ?_ ⟨by omega, ?_, ?_⟩ (by omega)
          ·simp only [go_sem, w3, Int.natCast_add, Int.natCast_one]
          ·exact h2.frame fun K hK => by subst hK; simp only [go_sem]
          ·simp only [go_sem, h3, htk]
         ·have hb' : fldL 3 (lineO ⟨⟨⟨a0, a1, a2⟩, a3⟩, ⟨⟨a4, a5, a6⟩, a7⟩⟩ i) = f0 := by simpa using hb
          rw [if_pos hb'] at htk
          simp only [go_sem, h3, Int.cast_ofNat_Int]
          refine hK3 (m + 1) _ _ ?_ ⟨by omega, ?_, ?_⟩ (by omega)
          ·simp only [go_sem, w3, Int.natCast_add, Int.natCast_one]
          ·exact h2.frame fun K hK => by subst hK; simp only [go_sem]
          ·simp only [go_sem, h3, htk]
        ·have hm' : m = S.length := by have : ¬ ((m : Int) < (S.length : Int)) := by simpa using hc
                                       omega
         subst hm'
         rw [List.take_length, hkd] at h3
         simp only [go_sem]
         refine hE3 _ _ _ (by simp) ?_
         simp only [go_sem, Int.cast_ofNat_Int]
         refine hK2 4 _ _ ?_ ⟨by omega, h2, ?_⟩ (by omega)
         ·simp only [go_sem]; rfl
         ·rw [h3]; rfl
      ·have h3 : H ([], 23008000) = some (.cells [.int .i64 (sureK 0 i S), .int .i64 (sureK 1 i S), .int .i64 (sureK 2 i S), .int .i64 (sureK 3 i S)] vn false) := h3
       simp only [go_sem, Int.cast_ofNat_Int]
       refine hE2 _ _ _ (by simp) ?_
       have hOT := OwnTaint h2
       have hlr : (((List.range i).map fun (i : Nat) => sureL S (i : Int)).map encL).length = i := by simp
       simp only [go_sem, h3, hOT, Int.cast_ofNat_Int]
       refine app_one trivial rfl rfl (by decide) (by decide) (set_at_eq _ _ _) (h2.frame fun K hK => ?_) rfl ?_ (fun row hr => ?_) ⟨rfl, rfl⟩ fun p5 H5 hO5 hF5 => ?_
       ·subst hK; simp only [go_sem]
       ·show (_ + 1) * 32 ≤ _
        rw [hlr]
        omega
       ·obtain ⟨a, _, rfl⟩ := List.mem_map.1 hr; rfl
       ·have hOT5 := OwnTaint hO5
        simp only [go_sem, hOT5]
        refine hK (i + 1, p5) _ _ ?_ ⟨by simp only; omega, ?_⟩ (by simp only; omega)
        ·simp only [go_sem, w2, Int.natCast_add, Int.natCast_one]
        ·simp only [List.range_succ, List.map_append]
         exact hO5
    ·have hi' : i = N := by have : ¬ ((i : Int) < (N : Int)) := by simpa using hc
                            omega
     subst hi'
     refine hE _ _ _ (by simp) ?_
     rcases h2 with ⟨q1, rfl⟩ | ⟨K2, v, rfl, rfl, q3⟩
     ·have := congrArg List.length q1
      simp at this
      omega
     ·simp only [go_sem, q3, List.length_map, List.length_range]
def t23 : Spec := spec1 LOk surePV
theorem t23_ok : SpecOK Tryz.prog glB 23 t23 := spec1_ok E40_ok Tryz.func23 rfl (by kernel_rfl) fun x h => sure_fn x h
structure Pr where
 line : Int
 field : Int
 deriving Inhabited, DecidableEq
def encA (a : Pr) : List PV := [.int .i64 a.line, .int .i64 a.field]
def dA : List PV → Option Pr
 | [.int .i64 a, .int .i64 b] => some ⟨a, b⟩
 | _ => none
instance : Row Pr where
 row := encA
 drow := dA
 wk_drow r a h := by unfold dA at h; split at h <;> cases h; exact wkL_refl _
 drow_row _ := rfl
instance : Enc Pr := encOfRow Pr
theorem dec_prs (l : List Pr) (ex : Bool) : (dec (.sl (l.map encA) ex) : Option (List Pr)) = some l := drows_rows (α := Pr) l
theorem dec_ords (l : List Ord2) (ex : Bool) : (dec (.sl (l.map encO) ex) : Option (List Ord2)) = some l := drows_rows (α := Ord2) l
attribute [go_sem] dec_prs dec_ords
def PrOk (a : Pr) : Prop := (a.line = 0 ∨ a.line = 1) ∧ 0 ≤ a.field ∧ a.field ≤ 3
def ansV (o : Ord2) (a : Pr) : Int := fldL a.field.toNat (lineO o a.line)
def ansI (q : List Pr) (o : Ord2) (i : Nat) : List Int := (List.range 8).map fun j => if j < i then ansV o (q.getD j default) else 0
def ansO (q : List Pr) (o : Ord2) : List Int := ansI q o q.length
theorem ansI_len (q : List Pr) (o : Ord2) (i : Nat) : (ansI q o i).length = 8 := by simp [ansI]
theorem ansI_set (q : List Pr) (o : Ord2) (i : Nat) : (ansI q o i).set i (ansV o (q.getD i default)) = ansI q o (i + 1) := by
 refine List.ext_getElem? fun j => ?_
 rw [List.getElem?_set]
 by_cases hij : i = j
 ·subst hij
  by_cases h8 : i < 8
  ·simp [ansI, h8]
  ·rw [if_pos rfl, if_neg (by rw [ansI_len]; exact h8)]
   rw [List.getElem?_eq_none (by rw [ansI_len]; omega)]
 ·rw [if_neg hij]
  by_cases h8 : j < 8
  ·simp only [ansI, List.getElem?_map, List.getElem?_range h8, Option.map_some]
   by_cases h : j < i
   ·rw [if_pos h, if_pos (by omega)]
   ·rw [if_neg h, if_neg (by omega)]
  ·rw [List.getElem?_eq_none (by rw [ansI_len]; omega), List.getElem?_eq_none (by rw [ansI_len]; omega)]
def ipv (l : List Int) : List PV := l.map fun n => PV.int .i64 n
theorem ipv_len (l : List Int) : (ipv l).length = l.length := by simp [ipv]
theorem ipv_set (l : List Int) (i : Nat) (n : Int) : (ipv l).set i (.int .i64 n) = ipv (l.set i n) := by simp [ipv, List.map_set]
theorem ipv_ints : ∀ l : List Int, ints (ipv l) = some l
 | [] => rfl
 | a :: l => by rw [ipv, List.map_cons, ints]; have := ipv_ints l; rw [ipv] at this; rw [this]; rfl
theorem ipv_cells : ∀ l : List Int, cells1 (ipv l) = true
 | [] => rfl
 | a :: l => by rw [ipv, List.map_cons, cells1]; have := ipv_cells l; rw [ipv] at this; rw [this]; rfl
def MapH (es : List (List Int × PV)) (ks : List (List Int)) : Prop := ∀ k, mget es k = if k ∈ ks then some (.bool true) else none
theorem MapH.add {es : List (List Int × PV)} {ks : List (List Int)} (h : MapH es ks) (m : List Int) : MapH (mset es m (.bool true)) (ks ++ [m]) := fun n => by
 rw [mget_mset, h n]
 by_cases e : m = n
 ·simp [e]
 ·simp [e, Ne.symm e]
theorem MapH.found {es : List (List Int × PV)} {ks : List (List Int)} (h : MapH es ks) (k : List Int) : Wb.found { kind := .boolk, size := 1, bytes := 1, zero := [.bool false] } false (mget es k) = .bool (decide (k ∈ ks)) := by
 rw [h k]
 by_cases e : k ∈ ks <;> simp [Wb.found, e, loadAt, TK.isAgg]
def apartB (S : List Ord2) (q : List Pr) : Bool := decide (S.map (ansO q)).Nodup
theorem apart_fn (S : List Ord2) (q : List Pr) (hS : S.length ≤ 1000) (hq : q.length ≤ 8) (hp : ∀ a ∈ q, PrOk a) : Fn E40 0 74 Tryz.f74 (Tryz.f74.body.getD .skip) [.sl (S.map encO) false, .sl (q.map encA) false] (.bool (apartB S q)) := by
 unfold Fn Tryz.f74
 simp only [go_sem, List.length_map]
 refine ev_loopS [1, 5, 12, 13] (fun i : Nat => [(14, .int .i64 i)]) (fun i H => i ≤ S.length ∧ ((S.take i).map (ansO q)).Nodup ∧ ∃ es, H ([], 74001000) = some (.map true 8 es 1 false) ∧ MapH es ((S.take i).map (ansO q))) (fun i => S.length - i) 0 ?_ ⟨by omega, by simp, [], ?_, fun k => by simp [mget]⟩ ?_
 ·simp only [go_sem, Int.natCast_zero, List.length_map]
 ·simp only [go_sem]
 ·simp only [go_sem]
  intro K i H ⟨hi, hn, es, h1, h2⟩ hK hE
  rw [condK_bool]
  refine ⟨fun h => ?_, fun h => ?_⟩
  ·have hi' : i < S.length := by have := of_decide_eq_true h; omega
   have hii : ((i : Int) < (S.length : Int)) = True := eq_true (by omega)
   have hi0 : (0 ≤ (i : Int)) = True := eq_true (by omega)
   have w2 : IntKind.i64.wrap ((i : Int) + 1) = (i : Int) + 1 := wrap_id (by omega)
   have htk : (S.take (i + 1)).map (ansO q) = (S.take i).map (ansO q) ++ [ansO q (S.getD i default)] := by
    have e : S.getD i default = S[i] := by simp [hi']
    rw [List.take_succ_eq_append_getElem hi', List.map_append, e]; rfl
   generalize hO : S.getD i default = O at htk
   obtain ⟨o0, o1, o2, o3, o4, o5, o6, o7, hOd⟩ : ∃ o0 o1 o2 o3 o4 o5 o6 o7, O = ⟨⟨⟨o0, o1, o2⟩, o3⟩, ⟨⟨o4, o5, o6⟩, o7⟩⟩ := ⟨_, _, _, _, _, _, _, _, rfl⟩
   have hOe : encO O = [.int .i64 o0, .int .i64 o1, .int .i64 o2, .int .i64 o3, .int .i64 o4, .int .i64 o5, .int .i64 o6, .int .i64 o7] := by rw [hOd]; rfl
   have hz : ipv (ansI q O 0) = [.int .i64 0, .int .i64 0, .int .i64 0, .int .i64 0, .int .i64 0, .int .i64 0, .int .i64 0, .int .i64 0] := rfl
   simp only [go_sem, hii, hi0, Int.toNat_natCast, List.length_map, getD_mapN encO S i _ hi', hO, hOe]
   generalize hva : verOf H ([], 74005000) + 1 = va
   generalize hvo : verOf H ([], 74004002) + 1 = vo
   refine ev_loopS [1, 5, 7, 8, 12, 13, 14, 18, 19] (fun j : Nat => [(20, .int .i64 j)]) (fun j H => j ≤ q.length ∧ H ([], 74001000) = some (.map true 8 es 1 false) ∧ H ([], 74004002) = some (.cells [.int .i64 o0, .int .i64 o1, .int .i64 o2, .int .i64 o3, .int .i64 o4, .int .i64 o5, .int .i64 o6, .int .i64 o7] vo false) ∧ H ([], 74005000) = some (.cells (ipv (ansI q O j)) va false)) (fun j => q.length - j) 0 ?_ ⟨by omega, ?_, ?_, ?_⟩ ?_
   ·simp only [go_sem, Int.natCast_zero, List.length_map]
   ·simp only [go_sem, h1]
   ·simp only [go_sem]
   ·simp only [go_sem, hz]
   ·simp only [go_sem]
    intro K2 j H ⟨hj, h1, h3, h4⟩ hK2 hE2
    rw [condK_bool]
    refine ⟨fun h => ?_, fun h => ?_⟩
    ·have hj' : j < q.length := by have := of_decide_eq_true h; omega
     have hjj : ((j : Int) < (q.length : Int)) = True := eq_true (by omega)
     have hj0 : (0 ≤ (j : Int)) = True := eq_true (by omega)
     have hj8 : ((j : Int) < 8) = True := eq_true (by omega)
     have hj9 : (j + 1 ≤ 8) = True := eq_true (by omega)
     have w3 : IntKind.i64.wrap ((j : Int) + 1) = (j : Int) + 1 := wrap_id (by omega)
     have hset := ansI_set q O j
     have hpo := hp _ (getD_mem default hj')
     generalize hA : q.getD j default = A at hset hpo
     obtain ⟨al, af⟩ := A
     have hal : (al = 0 ∨ al = 1) = True := eq_true hpo.1
     have hlen8 : (ipv (ansI q O j)).length = 8 := by rw [ipv_len, ansI_len]
     have hf4 : af = 0 ∨ af = 1 ∨ af = 2 ∨ af = 3 := by have := hpo.2; simp only at this; omega
     rcases hf4 with rfl | rfl | rfl | rfl
     all_goals
      simp only [go_sem, @ct E40 219 t219 rfl, t219, @ct E40 220 t220 rfl, t220, @ct E40 216 t216 rfl, t216, @ct E40 221 t221 rfl, t221, fldS, glB, hjj, hj0, hj8, hj9, hal, hlen8, Int.toNat_natCast, List.length_map, getD_mapN encA q j _ hj', hA, encA, h1, h3, h4, callSpec, Int.cast_ofNat_Int, Int.toNat_zero, Int.toNat_one, Nat.mul_one, ipv_set]
     all_goals
      refine hK2 (j + 1) _ _ ?_ ⟨by omega, ?_, ?_, ?_⟩ (by omega)
      ·simp only [go_sem, w3, Int.natCast_add, Int.natCast_one]
      ·simp only [go_sem, h1]
      ·simp only [go_sem, h3]
      ·rw [← hset, hOd]
       simp only [go_sem]
       rfl
    ·have hj' : j = q.length := by have : ¬ ((j : Int) < (q.length : Int)) := by simpa using h
                                   omega
     subst hj'
     have hao : ansI q O q.length = ansO q O := rfl
     rw [hao] at h4
     have hlen8 : (ipv (ansO q O)).length = 8 := by rw [ipv_len]; exact ansI_len _ _ _
     have hcel := ipv_cells (ansO q O)
     have htak : (ipv (ansO q O)).take 8 = ipv (ansO q O) := List.take_of_length_le (by omega)
     have hint := ipv_ints (ansO q O)
     have hal : (ansO q O).length = 8 := ansI_len _ _ _
     have hfd := h2.found (ansO q O)
     have hadd := h2.add (ansO q O)
     simp only [go_sem]
     refine hE2 _ _ _ (by simp) ?_
     simp only [go_sem, h1, h4, hlen8, hcel, htak, List.drop_zero, look, keyOf, hint, hal, hfd]
     rw [condK_bool]
     refine ⟨fun hb => ?_, fun hb => ?_⟩
     ·have hb' : ansO q O ∈ (S.take i).map (ansO q) := of_decide_eq_true hb
      have hno : apartB S q = false := by
       unfold apartB
       rw [decide_eq_false_iff_not]
       intro hnd
       have : ((S.take (i + 1)).map (ansO q)).Nodup := List.Nodup.sublist ((List.take_sublist _ _).map _) hnd
       rw [htk, List.nodup_append] at this
       exact this.2.2 _ hb' _ (List.mem_singleton.2 rfl) rfl
      simp only [go_sem]
      refine hE _ _ _ (by simp) ?_
      simp only [go_sem, hno]
     ·have hb' : ¬ ansO q O ∈ (S.take i).map (ansO q) := of_decide_eq_false hb
      simp only [go_sem, h1, h4, hlen8, hcel, htak, List.drop_zero, mapPut, keyOf, hint, hal]
      refine hK (i + 1) _ _ ?_ ⟨by omega, ?_, mset es (ansO q O) (.bool true), ?_, ?_⟩ (by omega)
      ·simp only [go_sem, w2, Int.natCast_add, Int.natCast_one]
      ·rw [htk, List.nodup_append]
       exact ⟨hn, by simp, fun a ha b hb => by rw [List.mem_singleton] at hb; subst hb; exact fun e => hb' (e ▸ ha)⟩
      ·simp only [go_sem]
      ·rw [htk]; exact hadd
  ·have hi' : i = S.length := by have : ¬ ((i : Int) < (S.length : Int)) := by simpa using h
                                 omega
   subst hi'
   rw [List.take_length] at hn
   have hyes : apartB S q = true := decide_eq_true hn
   simp only [go_sem]
   refine hE _ _ _ (by simp) ?_
   simp only [go_sem, hyes]
def t74 : Spec := spec2 (fun (S : List Ord2) (q : List Pr) => S.length ≤ 1000 ∧ q.length ≤ 8 ∧ ∀ a ∈ q, PrOk a) fun S q => .bool (apartB S q)
theorem t74_ok : SpecOK Tryz.prog glB 74 t74 := spec2_ok E40_ok Tryz.func74 rfl (by kernel_rfl) fun S q h => apart_fn S q h.1 h.2.1 h.2.2
def prN (k : Nat) : Pr := ⟨((k / 4 : Nat) : Int), ((k % 4 : Nat) : Int)⟩
def chooseM (S : List Ord2) (most : Nat) : Nat → List Pr → Nat → Option (List Pr)
 | 0, q, _ => if apartB S q = true then some q else none
 | n + 1, q, f => (List.range' f (most - f)).findSome? fun k => chooseM S most n (q ++ [prN k]) (k + 1)
theorem prN_ok {k : Nat} (h : k < 8) : PrOk (prN k) := by
 unfold PrOk prN
 simp only
 omega
def qOf : PV → Option (Nat × (Key → Prop))
 | .sl [] true => some (0, fun _ => False)
 | .sref K v 2 n false => some (n, fun K' => K' = K)
 | _ => none
structure ChP (path : List Nat) (Ka : Key) (va : Nat) (Km : Key) (vm : Nat) (Kc : Key) (vc : Nat) (qv : PV) (n : Nat) (Dq : Key → Prop) (f many : Nat) (H : Heap) (S : List Ord2) (q : List Pr) (most : Nat) : Prop where
 s : S.length ≤ 1000
 l : q.length = n
 p : ∀ a ∈ q, PrOk a
 o : Own H Dq qv 2 (q.map encA)
 a : H Ka = some (.cells [.sl (S.map encO) false] va false)
 m : H Km = some (.cells [.int .i64 most] vm false)
 c : H Kc = some (.cells [.fn 73 [] [.ref Ka va 0, .ref Km vm 0, .ref Kc vc 0]] vc false)
 b : f ≤ most ∧ most ≤ 8
 n1 : n ≤ many ∧ many ≤ 8
 off : (¬ path <:+ Ka.1 ∧ ¬ path <:+ Km.1 ∧ ¬ path <:+ Kc.1) ∧ ∀ K, Dq K → ¬ path <:+ K.1
def RowsS (H : Heap) (S : Key → Prop) (x : PV) (sz : Nat) (xs : List (List PV)) : Prop :=
 (∃ ex, x = .sl xs ex) ∨ ∃ K v ex ro, S K ∧ x = .sref K v sz xs.length ex ∧ H K = some (.rows sz xs v ro)
def SlShape (p : PV) : Prop := (∃ rows ex, p = .sl rows ex) ∨ ∃ K v sz n ex, p = .sref K v sz n ex
def ChR (path : List Nat) (qv : PV) (q : List Pr) (o : Option (List Pr)) (p : PV) (b : Bool) (H' : Heap) : Prop :=
 b = o.isSome ∧ ∀ l, o = some l → (∀ a ∈ l, PrOk a) ∧ (p = qv ∧ l = q ∨ RowsS H' (fun K => path <:+ K.1) p 2 (l.map encA))
def ChPost (path : List Nat) (Ka : Key) (va : Nat) (Km : Key) (vm : Nat) (Kc : Key) (vc : Nat) (qv : PV) (n : Nat) (Dq : Key → Prop) (f many : Nat) (H : Heap) (v : PV) (H' : Heap) : Prop :=
 ∃ p b, v = .tup [p, .bool b] ∧ SlShape p ∧ ∀ S q most, ChP path Ka va Km vm Kc vc qv n Dq f many H S q most → ChR path qv q (chooseM S most (many - n) q f) p b H'
def e73 (N : Nat) : ESpec := fun path args => match args with
 | [qv, .int .i64 f, .int .i64 many, .ref Ka va 0, .ref Km vm 0, .ref Kc vc 0] => match qOf qv with
  | some (n, Dq) => if 0 ≤ f ∧ 0 ≤ many ∧ many - (n : Int) < (N : Int) then some {
      pre := fun H => ∃ S q most, ChP path Ka va Km vm Kc vc qv n Dq f.toNat many.toNat H S q most
      D := fun K => K = Ka ∨ K = Km ∨ K = Kc ∨ Dq K
      S := fun K => path <:+ K.1
      post := ChPost path Ka va Km vm Kc vc qv n Dq f.toNat many.toNat } else none
  | none => none
 | _ => none
theorem ChP.frame {path : List Nat} {Ka : Key} {va : Nat} {Km : Key} {vm : Nat} {Kc : Key} {vc : Nat} {qv : PV} {n : Nat} {Dq : Key → Prop} {f many : Nat} {H H' : Heap} {S : List Ord2} {q : List Pr} {most : Nat}
    (h : ChP path Ka va Km vm Kc vc qv n Dq f many H S q most) (e : ∀ K, K = Ka ∨ K = Km ∨ K = Kc ∨ Dq K → H' K = H K) : ChP path Ka va Km vm Kc vc qv n Dq f many H' S q most :=
 { h with o := h.o.frame fun K hK => e K (.inr (.inr (.inr hK))), a := (e _ (.inl rfl)).trans h.a, m := (e _ (.inr (.inl rfl))).trans h.m, c := (e _ (.inr (.inr (.inl rfl)))).trans h.c }
theorem encO_inj {a b : Ord2} (h : encO a = encO b) : a = b := by
 have := congrArg dO h
 rw [show dO (encO a) = some a from rfl, show dO (encO b) = some b from rfl] at this
 exact Option.some.inj this
theorem encA_inj {a b : Pr} (h : encA a = encA b) : a = b := by
 have := congrArg dA h
 rw [show dA (encA a) = some a from rfl, show dA (encA b) = some b from rfl] at this
 exact Option.some.inj this
theorem map_inj' {α β : Type} {f : α → β} (hf : ∀ a b, f a = f b → a = b) : ∀ {l m : List α}, l.map f = m.map f → l = m
 | [], [], _ => rfl
 | [], _ :: _, h => by simp at h
 | _ :: _, [], h => by simp at h
 | a :: l, b :: m, h => by
  simp only [List.map_cons, List.cons.injEq] at h
  rw [hf _ _ h.1, map_inj' hf h.2]
theorem ChP.unique {path : List Nat} {Ka : Key} {va : Nat} {Km : Key} {vm : Nat} {Kc : Key} {vc : Nat} {qv : PV} {n : Nat} {Dq : Key → Prop} {f many : Nat} {H : Heap} {S S' : List Ord2} {q q' : List Pr} {most most' : Nat}
    (h : ChP path Ka va Km vm Kc vc qv n Dq f many H S q most) (k : ChP path Ka va Km vm Kc vc qv n Dq f many H S' q' most') : S = S' ∧ q = q' ∧ most = most' := by
 refine ⟨?_, ?_, ?_⟩
 ·have := h.a.symm.trans k.a
  simp only [Option.some.injEq, PB.cells.injEq, List.cons.injEq, PV.sl.injEq] at this
  exact map_inj' (fun _ _ => encO_inj) this.1.1.1
 ·rcases h.o with ⟨h1, h2⟩ | ⟨K, v, h1, h2, h3⟩
  ·rcases k.o with ⟨k1, k2⟩ | ⟨K', v', k1, k2, k3⟩
   ·rw [List.map_eq_nil_iff.1 h1, List.map_eq_nil_iff.1 k1]
   ·rw [h2] at k2; cases k2
  ·rcases k.o with ⟨k1, k2⟩ | ⟨K', v', k1, k2, k3⟩
   ·rw [h2] at k2; cases k2
   ·rw [h2] at k2
    simp only [PV.sref.injEq] at k2
    obtain ⟨rfl, rfl, _⟩ := k2
    have := h3.symm.trans k3
    simp only [Option.some.injEq, PB.rows.injEq, true_and] at this
    exact map_inj' (fun _ _ => encA_inj) this.1
 ·have := h.m.symm.trans k.m
  simp only [Option.some.injEq, PB.cells.injEq, List.cons.injEq, PV.int.injEq, true_and, and_true] at this
  omega
theorem chooseM_ok (S : List Ord2) (most : Nat) (hm : most ≤ 8) : ∀ (n : Nat) (q : List Pr) (f : Nat) (l : List Pr), (∀ a ∈ q, PrOk a) → chooseM S most n q f = some l → ∀ a ∈ l, PrOk a
 | 0, q, f, l, hq, h => by
  simp only [chooseM] at h
  split at h
  ·cases h; exact hq
  ·cases h
 | n + 1, q, f, l, hq, h => by
  simp only [chooseM] at h
  obtain ⟨k, hk, h2⟩ := List.exists_of_findSome?_eq_some h
  have hk8 : k < 8 := by
   have := List.mem_range'.1 hk
   omega
  refine chooseM_ok S most hm n _ _ l (fun a ha => ?_) h2
  rcases List.mem_append.1 ha with e | e
  ·exact hq a e
  ·rw [List.mem_singleton.1 e]; exact prN_ok hk8
theorem ch_sat {path : List Nat} {Ka : Key} {va : Nat} {Km : Key} {vm : Nat} {Kc : Key} {vc : Nat} {qv : PV} {n : Nat} {Dq : Key → Prop} {f many : Nat} {H : Heap}
    (h : ∃ S q most, ChP path Ka va Km vm Kc vc qv n Dq f many H S q most) : ∃ v H', (∀ K : Key, ¬ path <:+ K.1 → H' K = H K) ∧ ChPost path Ka va Km vm Kc vc qv n Dq f many H v H' := by
 obtain ⟨S, q, most, hp⟩ := h
 refine ⟨.tup [.sl (((chooseM S most (many - n) q f).getD []).map encA) true, .bool (chooseM S most (many - n) q f).isSome], H, fun _ _ => rfl, _, _, rfl, .inl ⟨_, _, rfl⟩, fun S' q' most' hp' => ?_⟩
 obtain ⟨rfl, rfl, rfl⟩ := hp.unique hp'
 exact ⟨rfl, fun l hl => ⟨chooseM_ok S most hp.b.2 _ _ _ _ hp.p hl, .inr (.inl ⟨true, by rw [hl]; rfl⟩)⟩⟩
theorem e73_dep (N : Nat) : ∀ path args e, e73 N path args = some e → EffDep e := fun path args e h => by
 unfold e73 at h
 split at h
 ·split at h
  ·split at h
   ·cases h
    refine ⟨?_, ?_, ?_, ?_⟩
    ·rintro H H' hD ⟨S, q, most, hp⟩
     exact ⟨S, q, most, hp.frame hD⟩
    ·rintro H H1 v H' hD ⟨p, b, h1, h2, h3⟩
     exact ⟨p, b, h1, h2, fun S q most hp => h3 S q most (hp.frame fun K hK => (hD K hK).symm)⟩
    ·rintro H v H1 H2 hS ⟨p, b, h1, h2, h3⟩
     refine ⟨p, b, h1, h2, fun S q most hp => ?_⟩
     obtain ⟨r1, r2⟩ := h3 S q most hp
     refine ⟨r1, fun l hl => ?_⟩
     obtain ⟨r3, r4⟩ := r2 l hl
     refine ⟨r3, r4.imp id fun r => r.imp id fun ⟨K, v, ex, ro, g1, g2, g3⟩ => ⟨K, v, ex, ro, g1, g2, (hS K g1).trans g3⟩⟩
    ·exact fun H hp => ch_sat hp
   ·cases h
  ·cases h
 ·cases h
noncomputable def E41t : List (Nat × Spec) := [(74, t74)] ++ E40t
theorem E41t_ok : AllOK E41t := ⟨⟨t74_ok, Tryz.call74⟩, E40t_ok⟩
noncomputable def EC (N : Nat) : Env := mkF E41t [(73, Tryz.f73)] [] [(73, e73 N)]
theorem EC_ti {N t : Nat} : (EC N).ti t = ti t := rfl
attribute [go_sem] EC_ti
theorem range'_cons {k m : Nat} (h : k < m) : List.range' k (m - k) = k :: List.range' (k + 1) (m - (k + 1)) := by
 rw [show m - k = (m - (k + 1)) + 1 by omega, List.range'_succ]
theorem key_ns {K : Key} {path : List Nat} {s : Nat} (h : ¬ path <:+ K.1) : (K = (path, s)) = False := eq_false fun e => h (by rw [e]; exact List.suffix_refl _)
theorem suf_cons {a : Nat} {l : List Nat} {K : Key} (h : ¬ l <:+ K.1) : ¬ (a :: l) <:+ K.1 := fun q => h ((List.suffix_cons a l).trans q)
theorem not_longer (a : Nat) (l : List Nat) : ¬ (a :: l) <:+ l := fun h => by have := h.length_le; simp at this; omega
theorem ex3 {A B C : Type} {P : A → B → C → Prop} {b : Prop} (x : A) (y : B) (z : C) (h : P x y z) (k : P x y z → b) : (∃ x y z, P x y z) ∧ b := ⟨⟨x, y, z, h⟩, k h⟩
theorem choose_in (N : Nat) {path : List Nat} {Ka : Key} {va : Nat} {Km : Key} {vm : Nat} {Kc : Key} {vc : Nat} {qv : PV} {n : Nat} {Dq : Key → Prop} {f many : Nat} (hq : qOf qv = some (n, Dq)) (hN : many - n < N + 1) (m : Nat) {H : Heap} {Q : PV → Heap → Prop}
    (hp : ∃ S q most, ChP path Ka va Km vm Kc vc qv n Dq f many H S q most) (hQ : ∀ v H', (∀ K : Key, ¬ path <:+ K.1 → H' K = H K) → ChPost path Ka va Km vm Kc vc qv n Dq f many H v H' → Q v H') :
    callN (EC N) (m + 1) path (.fn 73 [] []) [qv, .int .i64 f, .int .i64 many, .ref Ka va 0, .ref Km vm 0, .ref Kc vc 0] H Q := by
 obtain ⟨S, q, most, hp⟩ := hp
 have hti : ∀ {t : Nat}, (EC N).ti t = ti t := rfl
 have h74 : (EC N).spec 74 = some t74 := rfl
 have hs73 : (EC N).spec 73 = none := rfl
 have he73 : (EC N).eff 73 = some (e73 N) := rfl
 have hi73 : (EC N).inl 73 = some Tryz.f73 := rfl
 generalize EC N = E at *
 rw [callN_in (E := E) (g := 73) hi73 (show Tryz.f73.body = some (Tryz.f73.body.getD .skip) from rfl)]
 have hp0 := hp
 obtain ⟨c1, c2, c3, c4, c5, c6, c7, c8, c9, c10⟩ := hp
 have hfin : ∀ p b H', (∀ K : Key, ¬ path <:+ K.1 → H' K = H K) → SlShape p → ChR path qv q (chooseM S most (many - n) q f) p b H' → Q (.tup [p, .bool b]) H' := fun p b H' h1 h2 h3 =>
  hQ _ H' h1 ⟨p, b, rfl, h2, fun S' q' most' hp' => by obtain ⟨rfl, rfl, rfl⟩ := hp0.unique hp'; exact h3⟩
 have hshape : SlShape qv := by
  rcases c4 with ⟨_, rfl⟩ | ⟨K, v, _, rfl, _⟩
  ·exact .inl ⟨_, _, rfl⟩
  ·exact .inr ⟨_, _, _, _, _, rfl⟩
 have hS1 := eq_true c1
 have hq8 : (q.length ≤ 8) = True := eq_true (by omega)
 have hpp := eq_true c3
 simp only [Tryz.f73]
 have c4' := c4
 rcases c4' with ⟨d1, rfl⟩ | ⟨K, v, d1, rfl, d3⟩
 case' inl => have hqn : q = [] := List.map_eq_nil_iff.1 d1
 case' inl => have hn0 : n = 0 := by rw [← c2, hqn]; rfl
 case' inl => have hlenI : ((0 : Int) == (many : Int)) = decide (n = many) := by rw [hn0, Bool.eq_iff_iff]; simp only [beq_iff_eq, decide_eq_true_eq]; omega
 case' inl => have d3 : True := trivial
 case' inr => have hlen : (q.map encA).length = n := by rw [List.length_map]; exact c2
 case' inr => rw [hlen] at hshape hfin hp0 c4 hq ⊢
 case' inr => have hlenI : ((n : Int) == (many : Int)) = decide (n = many) := by rw [Bool.eq_iff_iff]; simp only [beq_iff_eq, decide_eq_true_eq]; omega
 all_goals
  simp only [go_sem, hti, hlenI]
  rw [condK_bool]
  refine ⟨fun h => ?_, fun h => ?_⟩
  ·have hnm : n = many := of_decide_eq_true h
   have hch : chooseM S most (many - n) q f = if apartB S q = true then some q else none := by rw [show many - n = 0 by omega]; rfl
   rw [hch] at hfin
   have hR : ∀ QV : PV, ChR path QV q (if apartB S q = true then some q else none) QV (apartB S q) H := fun QV => by
    refine ⟨by cases apartB S q <;> rfl, fun l hl => ?_⟩
    split at hl
    ·cases hl; exact ⟨c3, .inl ⟨rfl, rfl⟩⟩
    ·cases hl
   have hgo := hfin _ _ H (fun _ _ => rfl) hshape (hR _)
   simp only [go_sem, hti, @ct E 74 t74 h74, t74, c5, d3, callSpec, dec_ords, dec_prs, hS1]
   first
    | exact ⟨c2.symm, ⟨by omega, c3⟩, hgo⟩
    | (rw [hqn] at hgo; exact hgo)
  ·have hnm : n ≠ many := of_decide_eq_false h
   obtain ⟨d, hd⟩ : ∃ d, many - n = d + 1 := ⟨many - n - 1, by omega⟩
   have hcd : chooseM S most (many - n) q f = (List.range' f (most - f)).findSome? fun k => chooseM S most d (q ++ [prN k]) (k + 1) := by rw [hd]; rfl
   simp only [go_sem, hti]
   refine ev_loopS [0, 2, 3, 4, 5] (fun k : Nat => [(11, .int .i64 k)]) (fun k H' => (f ≤ k ∧ k ≤ most) ∧ (∀ K : Key, ¬ path <:+ K.1 → H' K = H K) ∧ chooseM S most (many - n) q f = (List.range' k (most - k)).findSome? fun k => chooseM S most d (q ++ [prN k]) (k + 1)) (fun k => most - k) f ?_ ⟨⟨Nat.le_refl _, c8.1⟩, fun _ _ => rfl, hcd⟩ ?_
   ·simp only [go_sem, hti]
   ·simp only [go_sem, hti]
    intro K5 k H5 ⟨⟨hk1, hk2⟩, hfr, hck⟩ hK hE
    have a5 := (hfr _ c10.1.1).trans c5
    have m5 := (hfr _ c10.1.2.1).trans c6
    have k5 := (hfr _ c10.1.2.2).trans c7
    simp only [go_sem, hti, m5]
    rw [condK_bool]
    refine ⟨fun h => ?_, fun h => ?_⟩
    ·have hkm : k < most := by have := of_decide_eq_true h; omega
     have hk8 : k < 8 := by omega
     have hcons := range'_cons hkm
     have w1 : IntKind.i64.wrap ((k : Int).tdiv 4) = ((k / 4 : Nat) : Int) := by
      rw [Int.tdiv_eq_ediv_of_nonneg (by omega), wrap_id (by omega)]; omega
     have w2 : (k : Int).tmod 4 = ((k % 4 : Nat) : Int) := by
      rw [Int.tmod_eq_emod_of_nonneg (by omega)]; omega
     have w3 : IntKind.i64.wrap ((k : Int) + 1) = (k : Int) + 1 := wrap_id (by omega)
     have nA : ∀ s, (Ka = (path, s)) = False := fun s => key_ns c10.1.1
     have nM : ∀ s, (Km = (path, s)) = False := fun s => key_ns c10.1.2.1
     have nC : ∀ s, (Kc = (path, s)) = False := fun s => key_ns c10.1.2.2
     have h40 : ((4 : Int) ≠ 0) = True := by decide
     have nA' : ∀ s, ((path, s) = Ka) = False := fun s => eq_false fun e => (nA s).mp e.symm
     have nM' : ∀ s, ((path, s) = Km) = False := fun s => eq_false fun e => (nM s).mp e.symm
     have nC' : ∀ s, ((path, s) = Kc) = False := fun s => eq_false fun e => (nC s).mp e.symm
     have hrw : ∀ a b : Int, (∀ row : List PV, row = [.int .i64 a, .int .i64 b] → row.length = 2 ∧ cells1 row = true) = True := fun a b => eq_true fun row h => by rw [h]; exact ⟨rfl, rfl⟩
     have hby : ((n + 1) * 16 ≤ 35184372088832) = True := eq_true (by omega)
     have hf0 : (0 ≤ (k : Int) + 1) = True := eq_true (by omega)
     have hm0 : (0 ≤ (many : Int)) = True := eq_true (by omega)
     have hcN : ((many : Int) - ((n + 1 : Nat) : Int) < (N : Int)) = True := eq_true (by omega)
     have hsl : ∀ a, ((a :: path) <:+ path) = False := fun a => eq_false (not_longer a path)
     have htn : ((k : Int) + 1).toNat = k + 1 := by omega
     first
      | have hcN1 : ((many : Int) - 1 < (N : Int)) = True := eq_true (by omega)
      | have hcN1 : True := trivial
     first
      | have nK : ∀ s, (K = (path, s)) = False := fun s => key_ns (c10.2 K d1)
      | have nK : True := trivial
     first
      | have nK' : ∀ s, ((path, s) = K) = False := fun s => eq_false fun e => (nK s).mp e.symm
      | have nK' : True := trivial
     first
      | have d5 := (hfr K (c10.2 K d1)).trans d3
      | have d5 : True := trivial
     first
      | have hlen5 := hlen
      | have hlen5 : True := trivial
     simp only [go_sem, hti, m5, k5, a5, d5, nA, nM, nC, nA', nM', nC', nK, nK', w1, w2, w3, h40, hrw, hby, hlen5, hf0, hm0, hcN, hcN1, hsl, htn, app, rowsOf, @effV_eff E 73 (e73 N) hs73 he73, e73, qOf]
     refine ex3 S (q ++ [prN k]) most { s := c1, l := ?_, p := ?_, o := ?_, a := ?_, m := ?_, c := ?_, b := ⟨by omega, c8.2⟩, n1 := ⟨by omega, c9.2⟩, off := ⟨⟨suf_cons c10.1.1, suf_cons c10.1.2.1, suf_cons c10.1.2.2⟩, ?_⟩ } fun hchp v1 H6 hf6 hp6 => ?_
     ·first
       | (rw [List.length_append, c2]; rfl)
       | (rw [hqn]; rfl)
     ·intro a ha
      rcases List.mem_append.1 ha with e | e
      ·exact c3 a e
      ·rw [List.mem_singleton.1 e]; exact prN_ok hk8
     ·refine .inr ⟨(path, 73006013), verOf H5 (path, 73006013) + 1, rfl, ?_, ?_⟩
      ·first
        | (rw [List.length_map, List.length_append, c2]; rfl)
        | (rw [hqn]; rfl)
      ·first
        | (rw [List.map_append]; simp only [go_sem, hti]; rfl)
        | (rw [hqn]; simp only [go_sem, hti]; rfl)
     ·simp only [go_sem, hti, nA, a5]
     ·simp only [go_sem, hti, nM, m5]
     ·simp only [go_sem, hti, nC, k5]
     ·rintro K' rfl; exact not_longer _ _
     ·obtain ⟨p1, b1, rfl, hsh, hres⟩ := hp6
      have hres := hres S (q ++ [prN k]) most hchp
      obtain ⟨hb1, hrl⟩ := hres
      first
       | rw [show many - (n + 1) = d by omega] at hb1 hrl
       | rw [show many - 1 = d by omega] at hb1 hrl
      rw [hcons, List.findSome?_cons] at hck
      have hfr6 : ∀ K : Key, ¬ path <:+ K.1 → H6 K = H K := fun K hK => by
       rw [hf6 K (suf_cons hK)]
       simp only [key_ns hK, if_false]
       exact hfr K hK
      cases hgk : chooseM S most d (q ++ [prN k]) (k + 1) with
      | some l =>
       rw [hgk] at hb1 hrl hck
       simp only at hck
       rw [show b1 = true from hb1] at *
       have hgo := hfin p1 true H6 hfr6 hsh (by
        rw [hck]
        refine ⟨rfl, fun l' hl' => ?_⟩
        cases hl'
        obtain ⟨r1, r2⟩ := hrl l rfl
        refine ⟨r1, .inr ?_⟩
        rcases r2 with ⟨r2, r3⟩ | r2 | ⟨K', v', ex, ro, r2, r3, r4⟩
        ·refine .inr ⟨(path, 73006013), verOf H5 (path, 73006013) + 1, false, false, List.suffix_refl _, ?_, ?_⟩
         ·rw [r2, r3]
          first
           | (rw [List.length_map, List.length_append, c2]; rfl)
           | (rw [hqn]; rfl)
         ·rw [hf6 _ (not_longer _ _), r3]
          first
           | (rw [List.map_append]; simp only [go_sem, hti]; rfl)
           | (rw [hqn]; simp only [go_sem, hti]; rfl)
        ·exact .inl r2
        ·exact .inr ⟨K', v', ex, ro, (List.suffix_cons _ _).trans r2, r3, r4⟩)
       rcases hsh with ⟨rows, ex, rfl⟩ | ⟨K', v', sz', n', ex', rfl⟩
       all_goals
        simp only [go_sem, hti]
        refine hE _ _ _ (by simp) ?_
        simp only [go_sem, hti]
        exact hgo
      | none =>
       rw [hgk] at hb1 hck
       simp only at hck
       rw [show b1 = false from hb1] at *
       rcases hsh with ⟨rows, ex, rfl⟩ | ⟨K', v', sz', n', ex', rfl⟩
       all_goals
        simp only [go_sem, hti]
        refine hK (k + 1) _ _ ?_ ⟨⟨by omega, by omega⟩, hfr6, hck⟩ (by omega)
        simp only [go_sem, hti, w3, Int.natCast_add, Int.natCast_one]
    ·have hkm : k = most := by have : ¬ ((k : Int) < (most : Int)) := of_decide_eq_false h
                               omega
     subst hkm
     rw [Nat.sub_self] at hck
     have hcn : chooseM S k (many - n) q f = none := hck
     have hgo := hfin (.sl [] true) false H5 hfr (.inl ⟨_, _, rfl⟩) (by rw [hcn]; exact ⟨rfl, fun l hl => by cases hl⟩)
     simp only [go_sem, hti]
     refine hE _ _ _ (by simp) ?_
     simp only [go_sem, hti]
     exact hgo
theorem e73_ok : ∀ N, EffOK Tryz.prog glB 73 (e73 N)
 | 0 => ⟨e73_dep 0, fun w0 hgl path args e h μ H w xs hp _ _ => by
     unfold e73 at h
     split at h
     · split at h
       · split at h
         · rename_i hc
           cases h
           obtain ⟨S, q, most, hp⟩ := hp
           exfalso
           have := hp.n1.1
           omega
         · cases h
       · cases h
     · cases h⟩
 | N + 1 => by
  have ih := e73_ok N
  have hE : EnvOK Tryz.prog (EC N) := envFOK E41t_ok ⟨⟨Tryz.func73, Tryz.call73, by kernel_rfl⟩, trivial⟩ trivial ⟨⟨ih, Tryz.call73⟩, trivial⟩
  refine effOK_of (n := 1) hE (e73_dep (N + 1)) fun path args e h => ?_
  unfold e73 at h
  split at h
  ·split at h
   ·split at h
    ·rename_i hq hc
     cases h
     refine ⟨_, wkL_refl _, fun H Q hp hQ => ?_⟩
     obtain ⟨f, hf⟩ := Int.eq_ofNat_of_zero_le hc.1
     obtain ⟨many, hm⟩ := Int.eq_ofNat_of_zero_le hc.2.1
     subst hf; subst hm
     exact choose_in N hq (by omega) 0 hp hQ
    ·cases h
   ·cases h
  ·cases h
noncomputable def E43 : Env := EC 9
theorem E43_ok : EnvOK Tryz.prog E43 := envFOK E41t_ok ⟨⟨Tryz.func73, Tryz.call73, by kernel_rfl⟩, trivial⟩ trivial ⟨⟨e73_ok 9, Tryz.call73⟩, trivial⟩
theorem E43_ti {t : Nat} : E43.ti t = ti t := rfl
theorem E43_e {t : Nat} : E43.eqt t = eqB t := rfl
theorem E43_k {t : Nat} : E43.keyt t = keyB t := rfl
theorem E43_g {t : Nat} : E43.glob t = glB t := rfl
attribute [go_sem] E43_ti E43_e E43_k E43_g
def askO (S : List Ord2) (most k : Nat) : Option (List Pr) := (List.range' k (most + 1 - k)).findSome? fun many => chooseM S most many [] 0
def askL (S : List Ord2) (most : Nat) : List Pr := (askO S most 0).getD []
def askPV2 (x : Lett) : PV :=
 if lettOk x = true then (if sortedM x = [] then .tup [.sl [] true, .int .i64 4] else if 64 < (sortedM x).length then .tup [.sl [] true, .int .i64 6] else .tup [.sl ((askL (sortedM x) (x.lines.length * 4)).map encA) true, .int .i64 0])
 else .tup [.sl [] true, .int .i64 20]
theorem ask_fn (x : Lett) (hx : LOk x) : Fn E43 1 24 Tryz.f24 (Tryz.f24.body.getD .skip) [.agg (encLt x)] (askPV2 x) := by
 unfold Fn Tryz.f24 askPV2
 have hxl := eq_true hx
 cases hk : lettOk x with
 | false =>
  have ha : askPV x true = .tup [zeroLC, .sl [] true, .int .i64 20] := by unfold askPV; rw [hk]; rfl
  simp only [go_sem, @ct E43 61 t61 rfl, t61, encLt, lett_eta, callSpec, hk, if_false, hxl, ha, zeroLC]
 | true =>
  have hg := lett_good hk
  by_cases hs : sortedM x = []
  ·have ha : askPV x true = .tup [.agg (encLC (lcOf x)), .sl [] true, .int .i64 4] := by unfold askPV; rw [hk, if_pos rfl, if_pos rfl, if_pos hs]
   simp only [go_sem, @ct E43 61 t61 rfl, t61, encLt, lett_eta, callSpec, hk, if_true, hxl, ha, encLC_lit, if_pos hs]
  ·have ha : askPV x true = .tup [.agg (encLC (lcOf x)), .sl ((sortedM x).map encO) false, .int .i64 0] := by unfold askPV; rw [hk, if_pos rfl, if_pos rfl, if_neg hs]
   simp only [go_sem, @ct E43 61 t61 rfl, t61, encLt, lett_eta, callSpec, hk, if_true, hxl, ha, encLC_lit, if_neg hs, List.length_map]
   generalize sortedM x = S
   rw [condK_bool]
   refine ⟨fun h => ?_, fun h => ?_⟩
   ·have h' : 64 < S.length := by have : (64 : Int) < (S.length : Int) := by simpa using h
                                  omega
    simp only [go_sem, if_pos h']
   ·have h' : ¬ 64 < S.length := by have : ¬ (64 : Int) < (S.length : Int) := by simpa using h
                                    omega
    have hn := hg.n
    generalize hN : x.lines.length = N at hn
    have w1 : IntKind.i64.wrap ((N : Int) * 4) = ((N * 4 : Nat) : Int) := by rw [wrap_id (by omega)]; omega
    have w2 : IntKind.i64.wrap (((N * 4 : Nat) : Int) + 1) = ((N * 4 + 1 : Nat) : Int) := by rw [wrap_id (by omega)]; omega
    simp only [go_sem, if_neg h', List.length_map, hN, w1, w2]
    generalize hM : N * 4 = M
    have hM8 : M ≤ 8 := by omega
    refine ev_loopS [5, 7, 8, 30] (fun k : Nat => [(31, .int .i64 k)]) (fun k H => k ≤ M + 1 ∧ askO S M 0 = askO S M k ∧ H ([], 24001007) = some (.cells [.sl (S.map encO) false] 1 false) ∧ H ([], 24006004) = some (.cells [.int .i64 M] 1 false) ∧ H ([], 24007000) = some (.cells [.fn 73 [] [.ref ([], 24001007) 1 0, .ref ([], 24006004) 1 0, .ref ([], 24007000) 1 0]] 1 false)) (fun k => M + 1 - k) 0 ?_ ⟨by omega, rfl, ?_, ?_, ?_⟩ ?_
    ·simp only [go_sem, Int.natCast_zero]
    ·simp only [go_sem]
    ·simp only [go_sem]
    ·simp only [go_sem]
    ·simp only [go_sem]
     intro K k H ⟨hk1, hk2, h1, h2, h3⟩ hK hE
     rw [condK_bool]
     refine ⟨fun hc => ?_, fun hc => ?_⟩
     ·have hk3 : k < M + 1 := by have := of_decide_eq_true hc; omega
      have w3 : IntKind.i64.wrap ((k : Int) + 1) = (k : Int) + 1 := wrap_id (by omega)
      have hstep : askO S M k = match chooseM S M k [] 0 with | some b => some b | none => askO S M (k + 1) := by
       unfold askO
       rw [range'_cons hk3, List.findSome?_cons]
       cases chooseM S M k [] 0 <;> rfl
      have hs73 : E43.spec 73 = none := rfl
      simp only [go_sem, h1, h2, h3, @callV_in E43 73 hs73, heavy_none]
      have hchp : ChP [24012002] ([], 24001007) 1 ([], 24006004) 1 ([], 24007000) 1 (.sl [] true) 0 (fun _ => False) 0 k H S [] M := ⟨by omega, rfl, fun a ha => (by cases ha), .inl ⟨rfl, rfl⟩, h1, h2, h3, ⟨by omega, hM8⟩, ⟨by omega, by omega⟩, ⟨⟨by simp, by simp, by simp⟩, fun K hK => hK.elim⟩⟩
      refine choose_in 9 (f := 0) (many := k) (n := 0) (Dq := fun _ => False) rfl (by omega) 0 ⟨S, [], M, hchp⟩ fun v H' hfr hpost => ?_
      obtain ⟨p1, b1, rfl, hsh, hres⟩ := hpost
      obtain ⟨hb1, hrl⟩ := hres S [] M hchp
      rw [Nat.sub_zero] at hb1 hrl
      have h1' := (hfr ([], 24001007) (by simp)).trans h1
      have h2' := (hfr ([], 24006004) (by simp)).trans h2
      have h3' := (hfr ([], 24007000) (by simp)).trans h3
      cases hgk : chooseM S M k [] 0 with
      | some l =>
       rw [hgk] at hb1 hrl hstep
       simp only at hstep
       rw [show b1 = true from hb1] at *
       have hal : askL S M = l := by unfold askL; rw [hk2, hstep]; rfl
       obtain ⟨r1, r2⟩ := hrl l rfl
       have hll : (l.map encA).length = l.length := List.length_map ..
       rcases r2 with ⟨rfl, rfl⟩ | ⟨ex, rfl⟩ | ⟨K', v', ex, ro, r2, rfl, r4⟩
       ·simp only [go_sem]
        refine hE _ _ _ (by simp) ?_
        simp only [go_sem, hal]
       ·simp only [go_sem, List.length_map]
        refine ⟨Int.le_refl _, hE _ _ _ ?_ ?_⟩
        ·simp
        have htk : (l.map encA).take l.length = l.map encA := List.take_of_length_le (by simp)
        simp only [go_sem, hal, Int.toNat_natCast, htk, List.length_map]
       ·simp only [go_sem, List.length_map]
        refine hE _ _ _ ?_ ?_
        ·simp
        simp only [go_sem, hal, r4, List.length_map]
      | none =>
       rw [hgk] at hb1 hstep
       simp only at hstep
       rw [show b1 = false from hb1] at *
       rcases hsh with ⟨rows, ex, rfl⟩ | ⟨K', v', sz', n', ex', rfl⟩
       all_goals
        simp only [go_sem]
        refine hK (k + 1) _ _ ?_ ⟨by omega, hk2.trans hstep, h1', h2', h3'⟩ (by omega)
        simp only [go_sem, w3, Int.natCast_add, Int.natCast_one]
     ·have hkM : k = M + 1 := by have : ¬ ((k : Int) < ((M + 1 : Nat) : Int)) := of_decide_eq_false hc
                                 omega
      subst hkM
      have hal : askL S M = [] := by unfold askL; rw [hk2]; unfold askO; rw [Nat.sub_self]; rfl
      simp only [go_sem]
      refine hE _ _ _ (by simp) ?_
      simp only [go_sem, hal]
def t24 : Spec := spec1 LOk askPV2
theorem t24_ok : SpecOK Tryz.prog glB 24 t24 := spec1_ok E43_ok Tryz.func24 rfl (by kernel_rfl) fun x h => ask_fn x h
def sameLB {α : Type} [DecidableEq α] (a b : List α) (i : Nat) : Bool := decide (a.length = b.length ∧ a.take i = b.take i)
theorem sameLB_zero {α : Type} [DecidableEq α] {a b : List α} : sameLB a b 0 = decide (a.length = b.length) := by simp [sameLB]
theorem sameLB_len {α : Type} [DecidableEq α] {a b : List α} {i : Nat} (h : sameLB a b i = true) : a.length = b.length := (of_decide_eq_true h).1
theorem sameLB_succ {α : Type} [DecidableEq α] [Inhabited α] {a b : List α} {i : Nat} (h : sameLB a b i = true) (hi : i < a.length) : sameLB a b (i + 1) = decide (a.getD i default = b.getD i default) := by
 obtain ⟨h1, h2⟩ := of_decide_eq_true h
 have hb : i < b.length := by omega
 have e1 : a.getD i default = a[i] := by simp [hi]
 have e2 : b.getD i default = b[i] := by simp [hb]
 unfold sameLB
 rw [e1, e2, decide_eq_decide]
 have f1 := List.take_succ_eq_append_getElem hi
 have f2 := List.take_succ_eq_append_getElem hb
 rw [f1, f2, h2]
 constructor
 ·rintro ⟨-, h⟩
  simpa using List.append_cancel_left h
 ·intro h; exact ⟨h1, by rw [h]⟩
theorem sameLB_all {α : Type} [DecidableEq α] {a b : List α} {i : Nat} (hi : i = a.length) : sameLB a b i = decide (a = b) := by
 subst hi
 unfold sameLB
 rw [decide_eq_decide, List.take_length]
 constructor
 ·rintro ⟨h1, h2⟩; rw [h1, List.take_length] at h2; exact h2
 ·rintro rfl; simp
theorem sameLB_no {α : Type} [DecidableEq α] {a b : List α} {i : Nat} (h : sameLB a b i = false) : decide (a = b) = false := by
 refine decide_eq_false fun e => ?_
 subst e
 have := of_decide_eq_false h
 exact this ⟨rfl, rfl⟩
theorem same29_eq (a b : Line) : eqL (encL a) (encL b) = decide (a = b) := by
 rw [Bool.eq_iff_iff, decide_eq_true_iff]
 rcases a with ⟨⟨a0, a1, a2⟩, a3⟩
 rcases b with ⟨⟨b0, b1, b2⟩, b3⟩
 simp [encL, eqL, and_assoc]
theorem same29_fn (a b : List Line) (ha : big a.length) (hb : big b.length) : Fn E0 0 29 Tryz.f29 (Tryz.f29.body.getD .skip) [.sl (a.map encL) false, .sl (b.map encL) false] (.bool (decide (a = b))) := by
 unfold big at ha hb
 unfold Fn Tryz.f29
 have hz : decide ((a.length : Int) = (b.length : Int)) = sameLB a b 0 := by rw [sameLB_zero, decide_eq_decide]; omega
 simp only [go_sem, List.length_map]
 refine ev_loopS [0, 1, 4] (fun i : Nat => [(5, .bool (sameLB a b i)), (6, .int .i64 i)]) (fun i H => i ≤ a.length) (fun i => a.length - i) 0 ?_ (Nat.zero_le _) ?_
 ·simp only [go_sem, Int.natCast_zero, ← hz]; rfl
 ·simp only [go_sem]
  intro K i H hi hK hE
  cases hs : sameLB a b i with
  | false =>
   simp only [go_sem, List.length_map]
   refine hE _ _ _ (by simp) ?_
   simp only [go_sem, sameLB_no hs]
  | true =>
   simp only [go_sem, List.length_map]
   rw [condK_bool]
   refine ⟨fun h => ?_, fun h => ?_⟩
   ·have hi' : i < a.length := by have := of_decide_eq_true h; omega
    have hl := sameLB_len hs
    have hii : ((i : Int) < (a.length : Int)) = True := eq_true (by omega)
    have hij : ((i : Int) < (b.length : Int)) = True := eq_true (by omega)
    have hi0 : (0 ≤ (i : Int)) = True := eq_true (by omega)
    have w2 : IntKind.i64.wrap ((i : Int) + 1) = (i : Int) + 1 := wrap_id (by omega)
    have hst := sameLB_succ hs hi'
    rw [← same29_eq] at hst
    generalize hO : a.getD i default = O at hst
    generalize hP : b.getD i default = P at hst
    rcases O with ⟨⟨o0, o1, o2⟩, o3⟩
    rcases P with ⟨⟨p0, p1, p2⟩, p3⟩
    simp only [go_sem, hii, hij, hi0, Int.toNat_natCast, List.length_map, getD_mapN encL a i _ hi', getD_mapN encL b i _ (by omega : i < b.length), hO, hP, encL]
    refine hK (i + 1) _ _ ?_ (by omega) (by omega)
    ·rw [hst]
     simp only [go_sem, encL, w2, Int.natCast_add, Int.natCast_one]
   ·have hi' : i = a.length := by have : ¬ ((i : Int) < (a.length : Int)) := by simpa using h
                                  omega
    simp only [go_sem]
    refine hE _ _ _ (by simp) ?_
    simp only [go_sem, ← sameLB_all hi', hs]
theorem same36_eq (a b : Item) : eqL (encT a) (encT b) = decide (a = b) := by
 rw [Bool.eq_iff_iff, decide_eq_true_iff]
 rcases a with ⟨a0, a1, a2⟩
 rcases b with ⟨b0, b1, b2⟩
 simp [encT, eqL, and_assoc]
theorem same36_fn (a b : List Item) (ha : big a.length) (hb : big b.length) : Fn E0 0 36 Tryz.f36 (Tryz.f36.body.getD .skip) [.sl (a.map encT) false, .sl (b.map encT) false] (.bool (decide (a = b))) := by
 unfold big at ha hb
 unfold Fn Tryz.f36
 have hz : decide ((a.length : Int) = (b.length : Int)) = sameLB a b 0 := by rw [sameLB_zero, decide_eq_decide]; omega
 simp only [go_sem, List.length_map]
 refine ev_loopS [0, 1, 4] (fun i : Nat => [(5, .bool (sameLB a b i)), (6, .int .i64 i)]) (fun i H => i ≤ a.length) (fun i => a.length - i) 0 ?_ (Nat.zero_le _) ?_
 ·simp only [go_sem, Int.natCast_zero, ← hz]; rfl
 ·simp only [go_sem]
  intro K i H hi hK hE
  cases hs : sameLB a b i with
  | false =>
   simp only [go_sem, List.length_map]
   refine hE _ _ _ (by simp) ?_
   simp only [go_sem, sameLB_no hs]
  | true =>
   simp only [go_sem, List.length_map]
   rw [condK_bool]
   refine ⟨fun h => ?_, fun h => ?_⟩
   ·have hi' : i < a.length := by have := of_decide_eq_true h; omega
    have hl := sameLB_len hs
    have hii : ((i : Int) < (a.length : Int)) = True := eq_true (by omega)
    have hij : ((i : Int) < (b.length : Int)) = True := eq_true (by omega)
    have hi0 : (0 ≤ (i : Int)) = True := eq_true (by omega)
    have w2 : IntKind.i64.wrap ((i : Int) + 1) = (i : Int) + 1 := wrap_id (by omega)
    have hst := sameLB_succ hs hi'
    rw [← same36_eq] at hst
    generalize hO : a.getD i default = O at hst
    generalize hP : b.getD i default = P at hst
    rcases O with ⟨o0, o1, o2⟩
    rcases P with ⟨p0, p1, p2⟩
    simp only [go_sem, hii, hij, hi0, Int.toNat_natCast, List.length_map, getD_mapN encT a i _ hi', getD_mapN encT b i _ (by omega : i < b.length), hO, hP, encT]
    refine hK (i + 1) _ _ ?_ (by omega) (by omega)
    ·rw [hst]
     simp only [go_sem, encT, w2, Int.natCast_add, Int.natCast_one]
   ·have hi' : i = a.length := by have : ¬ ((i : Int) < (a.length : Int)) := by simpa using h
                                  omega
    simp only [go_sem]
    refine hE _ _ _ (by simp) ?_
    simp only [go_sem, ← sameLB_all hi', hs]
theorem same28_eq (a b : Pr) : eqL (encA a) (encA b) = decide (a = b) := by
 rw [Bool.eq_iff_iff, decide_eq_true_iff]
 rcases a with ⟨a0, a1⟩
 rcases b with ⟨b0, b1⟩
 simp [encA, eqL, and_assoc]
theorem same28_fn (a b : List Pr) (ha : big a.length) (hb : big b.length) : Fn E0 0 28 Tryz.f28 (Tryz.f28.body.getD .skip) [.sl (a.map encA) false, .sl (b.map encA) false] (.bool (decide (a = b))) := by
 unfold big at ha hb
 unfold Fn Tryz.f28
 have hz : decide ((a.length : Int) = (b.length : Int)) = sameLB a b 0 := by rw [sameLB_zero, decide_eq_decide]; omega
 simp only [go_sem, List.length_map]
 refine ev_loopS [0, 1, 4] (fun i : Nat => [(5, .bool (sameLB a b i)), (6, .int .i64 i)]) (fun i H => i ≤ a.length) (fun i => a.length - i) 0 ?_ (Nat.zero_le _) ?_
 ·simp only [go_sem, Int.natCast_zero, ← hz]; rfl
 ·simp only [go_sem]
  intro K i H hi hK hE
  cases hs : sameLB a b i with
  | false =>
   simp only [go_sem, List.length_map]
   refine hE _ _ _ (by simp) ?_
   simp only [go_sem, sameLB_no hs]
  | true =>
   simp only [go_sem, List.length_map]
   rw [condK_bool]
   refine ⟨fun h => ?_, fun h => ?_⟩
   ·have hi' : i < a.length := by have := of_decide_eq_true h; omega
    have hl := sameLB_len hs
    have hii : ((i : Int) < (a.length : Int)) = True := eq_true (by omega)
    have hij : ((i : Int) < (b.length : Int)) = True := eq_true (by omega)
    have hi0 : (0 ≤ (i : Int)) = True := eq_true (by omega)
    have w2 : IntKind.i64.wrap ((i : Int) + 1) = (i : Int) + 1 := wrap_id (by omega)
    have hst := sameLB_succ hs hi'
    rw [← same28_eq] at hst
    generalize hO : a.getD i default = O at hst
    generalize hP : b.getD i default = P at hst
    rcases O with ⟨o0, o1⟩
    rcases P with ⟨p0, p1⟩
    simp only [go_sem, hii, hij, hi0, Int.toNat_natCast, List.length_map, getD_mapN encA a i _ hi', getD_mapN encA b i _ (by omega : i < b.length), hO, hP, encA]
    refine hK (i + 1) _ _ ?_ (by omega) (by omega)
    ·rw [hst]
     simp only [go_sem, encA, w2, Int.natCast_add, Int.natCast_one]
   ·have hi' : i = a.length := by have : ¬ ((i : Int) < (a.length : Int)) := by simpa using h
                                  omega
    simp only [go_sem]
    refine hE _ _ _ (by simp) ?_
    simp only [go_sem, ← sameLB_all hi', hs]
def t29 : Spec := spec2 (fun (a b : List Line) => big a.length ∧ big b.length) fun a b => .bool (decide (a = b))
theorem t29_ok : SpecOK Tryz.prog glB 29 t29 := spec2_ok E0_ok Tryz.func29 rfl (by kernel_rfl) fun a b h => same29_fn a b h.1 h.2
def t36 : Spec := spec2 (fun (a b : List Item) => big a.length ∧ big b.length) fun a b => .bool (decide (a = b))
theorem t36_ok : SpecOK Tryz.prog glB 36 t36 := spec2_ok E0_ok Tryz.func36 rfl (by kernel_rfl) fun a b h => same36_fn a b h.1 h.2
def t28 : Spec := spec2 (fun (a b : List Pr) => big a.length ∧ big b.length) fun a b => .bool (decide (a = b))
theorem t28_ok : SpecOK Tryz.prog glB 28 t28 := spec2_ok E0_ok Tryz.func28 rfl (by kernel_rfl) fun a b h => same28_fn a b h.1 h.2
noncomputable def E44t : List (Nat × Spec) := [(29, t29), (36, t36), (28, t28), (24, t24)] ++ E41t
theorem E44t_ok : AllOK E44t := ⟨⟨t29_ok, Tryz.call29⟩, ⟨t36_ok, Tryz.call36⟩, ⟨t28_ok, Tryz.call28⟩, ⟨t24_ok, Tryz.call24⟩, E41t_ok⟩
noncomputable def E44 : Env := mkE E44t []
theorem E44_ok : EnvOK Tryz.prog E44 := envOK E44t_ok trivial
theorem E44_ti {t : Nat} : E44.ti t = ti t := rfl
theorem E44_e {t : Nat} : E44.eqt t = eqB t := rfl
theorem E44_k {t : Nat} : E44.keyt t = keyB t := rfl
theorem E44_g {t : Nat} : E44.glob t = glB t := rfl
attribute [go_sem] E44_ti E44_e E44_k E44_g
def rowLs (l : List Line) : List PV := [.sl (l.map encL) false]
theorem dec_lss (l : List (List Line)) (ex : Bool) : (dec (.sl (l.map rowLs) ex) : Option (List (List Line))) = some l := drows_rows (α := List Line) l
attribute [go_sem] dec_lss dec_lines
theorem same34_fn (a b : List (List Line)) (ha : big a.length) (hb : big b.length) (ha2 : ∀ x ∈ a, big x.length) (hb2 : ∀ x ∈ b, big x.length) : Fn E44 0 34 Tryz.f34 (Tryz.f34.body.getD .skip) [.sl (a.map rowLs) false, .sl (b.map rowLs) false] (.bool (decide (a = b))) := by
 unfold big at ha hb
 unfold Fn Tryz.f34
 have hz : decide ((a.length : Int) = (b.length : Int)) = sameLB a b 0 := by rw [sameLB_zero, decide_eq_decide]; omega
 simp only [go_sem, List.length_map]
 refine ev_loopS [0, 1, 4] (fun i : Nat => [(5, .bool (sameLB a b i)), (6, .int .i64 i)]) (fun i H => i ≤ a.length) (fun i => a.length - i) 0 ?_ (Nat.zero_le _) ?_
 ·simp only [go_sem, Int.natCast_zero, ← hz]; rfl
 ·simp only [go_sem]
  intro K i H hi hK hE
  cases hs : sameLB a b i with
  | false =>
   simp only [go_sem, List.length_map]
   refine hE _ _ _ (by simp) ?_
   simp only [go_sem, sameLB_no hs]
  | true =>
   simp only [go_sem, List.length_map]
   rw [condK_bool]
   refine ⟨fun h => ?_, fun h => ?_⟩
   ·have hi' : i < a.length := by have := of_decide_eq_true h; omega
    have hl := sameLB_len hs
    have hii : ((i : Int) < (a.length : Int)) = True := eq_true (by omega)
    have hij : ((i : Int) < (b.length : Int)) = True := eq_true (by omega)
    have hi0 : (0 ≤ (i : Int)) = True := eq_true (by omega)
    have w2 : IntKind.i64.wrap ((i : Int) + 1) = (i : Int) + 1 := wrap_id (by omega)
    have hst := sameLB_succ hs hi'
    have hla := ha2 (a.getD i default) (getD_mem _ hi')
    have hlb := hb2 (b.getD i default) (getD_mem _ (by omega : i < b.length))
    generalize hO : a.getD i default = O at hst hla
    generalize hP : b.getD i default = P at hst hlb
    simp only [go_sem, @ct E44 29 t29 rfl, t29, callSpec, hii, hij, hi0, Int.toNat_natCast, List.length_map, getD_mapN rowLs a i _ hi', getD_mapN rowLs b i _ (by omega : i < b.length), hO, hP, rowLs]
    refine ⟨⟨hla, hlb⟩, hK (i + 1) _ _ ?_ (by omega) (by omega)⟩
    ·rw [hst]
     simp only [go_sem, w2, Int.natCast_add, Int.natCast_one]
   ·have hi' : i = a.length := by have : ¬ ((i : Int) < (a.length : Int)) := by simpa using h
                                  omega
    simp only [go_sem]
    refine hE _ _ _ (by simp) ?_
    simp only [go_sem, ← sameLB_all hi', hs]
def t34 : Spec := spec2 (fun (a b : List (List Line)) => (big a.length ∧ big b.length) ∧ (∀ x ∈ a, big x.length) ∧ ∀ x ∈ b, big x.length) fun a b => .bool (decide (a = b))
theorem t34_ok : SpecOK Tryz.prog glB 34 t34 := spec2_ok E44_ok Tryz.func34 rfl (by kernel_rfl) fun a b h => same34_fn a b h.1.1 h.1.2 h.2.1 h.2.2
def rackC : Rack := ⟨3, [⟨100, 280, 300, [⟨11, 0, 3, [⟨40, 250, 258, 900⟩, ⟨41, 256, 264, 950⟩]⟩, ⟨12, 1, 1, [⟨7, 1, 400, 300⟩]⟩]⟩,
 ⟨260, 450, 450, [⟨12, 0, 1, [⟨40, 250, 258, 980⟩, ⟨42, 262, 270, 990⟩]⟩, ⟨13, 2, 4, [⟨1, 1, 400, 50⟩]⟩]⟩]⟩
def lineC : LLine := ⟨[2, 6], [], 255, 257, 3, 1, 2⟩
def letC (lo hi : Int) : Lett := ⟨rackC, 250, 290, [lineC], lo, hi⟩
def oneC (g s c m : Int) : List Line := [⟨⟨g, s, c⟩, m⟩]
def allC : List (List Line) := [oneC 0 40 0 1, oneC 0 40 1 1, oneC 0 41 0 1, oneC 0 41 1 1, oneC 1 7 0 1, oneC 1 7 0 2]
def E145t : List (Nat × Spec) := [(17, sTo)]
theorem E145t_ok : AllOK E145t := ⟨⟨s44_ok, Tryz.call17⟩, trivial⟩
noncomputable def E145 : Env := mkE E145t []
theorem E145_ok : EnvOK Tryz.prog E145 := envOK E145t_ok trivial
theorem E145_ti {t : Nat} : E145.ti t = ti t := rfl
theorem E145_e {t : Nat} : E145.eqt t = eqB t := rfl
theorem E145_k {t : Nat} : E145.keyt t = keyB t := rfl
theorem E145_g {t : Nat} : E145.glob t = glB t := rfl
attribute [go_sem] E145_ti E145_e E145_k E145_g
theorem fit_fn (a b c d : Int) : Fn E145 0 106 Tryz.f106 (Tryz.f106.body.getD .skip) [.int .i64 a, .int .i64 b, .int .i64 c, .int .i64 d] (.agg (encF ⟨a, b, c, d⟩)) := by
 unfold Fn Tryz.f106
 simp only [go_sem, @ct E145 17 sTo rfl, sTo, encF]
def t106 : Spec := spec4 (fun (_ _ _ _ : Int) => True) fun a b c d => .agg (encF ⟨a, b, c, d⟩)
theorem t106_ok : SpecOK Tryz.prog glB 106 t106 := spec4_ok E145_ok Tryz.func106 rfl (by kernel_rfl) fun a b c d _ => fit_fn a b c d
theorem one_fn (a b c d : Int) : Fn E0 0 27 Tryz.f27 (Tryz.f27.body.getD .skip) [.int .i64 a, .int .i64 b, .int .i64 c, .int .i64 d] (.sl ((oneC a b c d).map encL) false) := by
 unfold Fn Tryz.f27
 simp only [go_sem, oneC, encL]
def t27 : Spec := spec4 (fun (_ _ _ _ : Int) => True) fun a b c d => .sl ((oneC a b c d).map encL) false
theorem t27_ok : SpecOK Tryz.prog glB 27 t27 := spec4_ok E0_ok Tryz.func27 rfl (by kernel_rfl) fun a b c d _ => one_fn a b c d
noncomputable def E45t : List (Nat × Spec) := [(106, t106), (27, t27), (17, sTo), (34, t34)] ++ E44t
theorem E45t_ok : AllOK E45t := ⟨⟨t106_ok, Tryz.call106⟩, ⟨t27_ok, Tryz.call27⟩, ⟨s44_ok, Tryz.call17⟩, ⟨t34_ok, Tryz.call34⟩, E44t_ok⟩
noncomputable def E45 : Env := mkE E45t []
theorem E45_ok : EnvOK Tryz.prog E45 := envOK E45t_ok trivial
theorem E45_ti {t : Nat} : E45.ti t = ti t := rfl
theorem E45_e {t : Nat} : E45.eqt t = eqB t := rfl
theorem E45_k {t : Nat} : E45.keyt t = keyB t := rfl
theorem E45_g {t : Nat} : E45.glob t = glB t := rfl
attribute [go_sem] E45_ti E45_e E45_k E45_g
theorem rack_fn : Fn E45 0 66 Tryz.f66 (Tryz.f66.body.getD .skip) [] (.agg (encR rackC)) := by
 unfold Fn Tryz.f66
 simp only [go_sem, @ct E45 17 sTo rfl, sTo, @ct E45 106 t106 rfl, t106, encR, rackC, encI, encE, encF, wk.wkR]
def t66 : Spec := spec0 True (.agg (encR rackC))
theorem t66_ok : SpecOK Tryz.prog glB 66 t66 := spec0_ok E45_ok Tryz.func66 rfl (by kernel_rfl) fun _ => rack_fn
theorem all_fn' : Fn E45 0 60 Tryz.f60 (Tryz.f60.body.getD .skip) [] (.sl (allC.map rowLs) false) := by
 unfold Fn Tryz.f60
 simp only [go_sem, @ct E45 27 t27 rfl, t27, allC, oneC, rowLs, encL, wk.wkR]
def t60 : Spec := spec0 True (.sl (allC.map rowLs) false)
theorem t60_ok : SpecOK Tryz.prog glB 60 t60 := spec0_ok E45_ok Tryz.func60 rfl (by kernel_rfl) fun _ => all_fn'
theorem turnsC (lo hi : Int) : turnsM (letC lo hi) = [250, 260, 281] := by
 unfold turnsM
 refine strict_ext (compact_sort _).1 (by decide) fun x => ?_
 rw [(compact_sort _).2, show rawT (letC lo hi).dlo (letC lo hi).dhi (letC lo hi).rack.issues = [250, 281, 260] from (by decide +kernel : rawT 250 290 rackC.issues = [250, 281, 260])]
 simp only [List.mem_cons, List.not_mem_nil, or_false]; omega
theorem lokC (lo hi : Int) : LOk (letC lo hi) := by
 unfold LOk
 simp [letC, rackC, lineC, okRack, okIssue, okEntry, okFit, okInt, big]
theorem lettOkC : lettOk (letC 300 1000) = true := by decide +kernel
theorem lettOkD : lettOk (letC 900 1000) = true := by decide +kernel
def ordC (g s c m : Int) : Ord2 := ⟨⟨⟨g, s, c⟩, m⟩, zLine⟩
def fndA : OL := [(ordC 0 40 0 1, ⟨250, 290, 900, 900⟩), (ordC 0 40 1 1, ⟨250, 280, 900, 900⟩), (ordC 0 41 0 1, ⟨250, 280, 950, 950⟩), (ordC 0 41 1 1, ⟨250, 280, 950, 950⟩), (ordC 1 7 0 1, ⟨250, 280, 300, 300⟩), (ordC 1 7 0 2, ⟨250, 280, 600, 600⟩)]
theorem allM_C : allM (letC 300 1000) = fndA := by
 unfold allM
 rw [turnsC]
 decide +kernel
theorem allM_D : allM (letC 900 1000) = fndA.take 4 := by
 unfold allM
 rw [turnsC]
 decide +kernel
theorem sortB_of {α : Type} {cf : α → α → Int} {l : List α} (h : l.Pairwise fun a b => (!(ltOf cf) b a) = true) : sortB cf l = l := List.mergeSort_of_pairwise h
def sortA : List Ord2 := [ordC 0 40 0 1, ordC 0 40 1 1, ordC 0 41 0 1, ordC 0 41 1 1, ordC 1 7 0 1, ordC 1 7 0 2]
theorem sorted_C : sortedM (letC 300 1000) = sortA := by
 unfold sortedM keysM
 rw [allM_C, show fndA.map (·.1) = sortA from rfl]
 exact sortB_of (by decide +kernel)
theorem sorted_D : sortedM (letC 900 1000) = sortA.take 4 := by
 unfold sortedM keysM
 rw [allM_D, show (fndA.take 4).map (·.1) = sortA.take 4 from rfl]
 exact sortB_of (by decide +kernel)
theorem ask_C : askL sortA 4 = [⟨0, 1⟩, ⟨0, 2⟩, ⟨0, 3⟩] := by decide +kernel
theorem sure_D : sureM (letC 900 1000) = [⟨⟨0, -1, -1⟩, 1⟩] := by
 unfold sureM
 rw [sorted_D]
 decide +kernel
theorem items_C : (itemsM (letC 300 1000) 0).length = 5 := by
 unfold itemsM sortB
 rw [List.length_mergeSort, sorted_C]
 decide +kernel
theorem manyPV_C : manyPV (letC 300 1000) = .tup [.int .i64 6, .int .i64 0] := by
 unfold manyPV; rw [if_pos lettOkC, allM_C]; rfl
theorem ordersPV_C : ordersPV (letC 300 1000) = .tup [.sl (allC.map lsRow) true, .int .i64 0] := by
 unfold ordersPV; rw [if_pos lettOkC, sorted_C]; rfl
theorem when_C (g s c m : Int) : whenM (letC 300 1000) (oneC g s c m) = getA fndA (ordC g s c m) := by
 unfold whenM; rw [allM_C]; rfl
theorem isOrd_C : isOrdM (letC 300 1000) (oneC 0 40 1 1) = .tup [.bool true, .int .i64 0] := by
 unfold isOrdM; rw [if_pos lettOkC, when_C, show (getA fndA (ordC 0 40 1 1)).isSome = true by decide +kernel]
theorem whenPV_C : whenPV (letC 300 1000) (oneC 1 7 0 1) = .tup [.agg [.int .i64 250, .int .i64 280], .int .i64 0] := by
 unfold whenPV; rw [if_pos lettOkC, when_C, show getA fndA (ordC 1 7 0 1) = some ⟨250, 280, 300, 300⟩ by decide +kernel]
theorem costPV_C : costPV (letC 300 1000) = .tup [.agg [.int .i64 300, .int .i64 950], .int .i64 0] := by
 unfold costPV; rw [if_pos lettOkC, allM_C, if_neg (by decide)]
 rw [show costSpan fndA = (300, 950) by decide +kernel]
theorem canPV_C : ∃ l : List Item, l.length = 5 ∧ canPV (letC 300 1000) 0 = .tup [.sl (l.map encT) true, .int .i64 0] := by
 refine ⟨itemsM (letC 300 1000) 0, items_C, ?_⟩
 unfold canPV; rw [if_pos lettOkC, if_pos (by decide), sorted_C, if_neg (by decide)]
theorem surePV_D : surePV (letC 900 1000) = .tup [.sl ((oneC 0 (-1) (-1) 1).map encL) true, .int .i64 0] := by
 unfold surePV; rw [if_pos lettOkD, sorted_D, if_neg (by decide), sure_D]; rfl
theorem askPV_C : askPV2 (letC 300 1000) = .tup [.sl (([⟨0, 1⟩, ⟨0, 2⟩, ⟨0, 3⟩] : List Pr).map encA) true, .int .i64 0] := by
 unfold askPV2; rw [if_pos lettOkC, sorted_C, if_neg (by decide), if_neg (by decide), show (letC 300 1000).lines.length * 4 = 4 from rfl, ask_C]
noncomputable def E46t : List (Nat × Spec) := [(66, t66), (60, t60)] ++ E45t
theorem E46t_ok : AllOK E46t := ⟨⟨t66_ok, Tryz.call66⟩, ⟨t60_ok, Tryz.call60⟩, E45t_ok⟩
noncomputable def E46 : Env := mkE E46t []
theorem E46_ok : EnvOK Tryz.prog E46 := envOK E46t_ok trivial
theorem E46_ti {t : Nat} : E46.ti t = ti t := rfl
theorem E46_e {t : Nat} : E46.eqt t = eqB t := rfl
theorem E46_k {t : Nat} : E46.keyt t = keyB t := rfl
theorem E46_g {t : Nat} : E46.glob t = glB t := rfl
attribute [go_sem] E46_ti E46_e E46_k E46_g
theorem written_fn (m : Int × Int) : Fn E46 0 20 Tryz.f20 (Tryz.f20.body.getD .skip) [.agg [.int .i64 m.1, .int .i64 m.2]] (.agg (encLt (letC m.1 m.2))) := by
 unfold Fn Tryz.f20
 simp only [go_sem, @ct E46 66 t66 rfl, t66, @ct E46 17 sTo rfl, sTo, encR]
 refine ⟨rfl, ?_⟩
 simp only [go_sem, encLt, letC, lineC, encLL, il, wk.wkR, List.map_cons, List.map_nil, wk_refl, wkL_refl]
def t20 : Spec := spec1 (fun (_ : Int × Int) => True) fun m => .agg (encLt (letC m.1 m.2))
theorem t20_ok : SpecOK Tryz.prog glB 20 t20 := spec1_ok E46_ok Tryz.func20 rfl (by kernel_rfl) fun m _ => written_fn m
noncomputable def E47t : List (Nat × Spec) := [(20, t20), (21, t21), (15, t15), (18, t18), (22, t22), (23, t23), (24, t24), (19, t19), (25, t25)] ++ E46t
theorem E47t_ok : AllOK E47t := ⟨⟨t20_ok, Tryz.call20⟩, ⟨t21_ok, Tryz.call21⟩, ⟨t15_ok, Tryz.call15⟩, ⟨t18_ok, Tryz.call18⟩, ⟨t22_ok, Tryz.call22⟩, ⟨t23_ok, Tryz.call23⟩, ⟨t24_ok, Tryz.call24⟩, ⟨t19_ok, Tryz.call19⟩, ⟨t25_ok, Tryz.call25⟩, E46t_ok⟩
noncomputable def E47 : Env := mkE E47t []
theorem E47_ok : EnvOK Tryz.prog E47 := envOK E47t_ok trivial
theorem E47_ti {t : Nat} : E47.ti t = ti t := rfl
theorem E47_e {t : Nat} : E47.eqt t = eqB t := rfl
theorem E47_k {t : Nat} : E47.keyt t = keyB t := rfl
theorem E47_g {t : Nat} : E47.glob t = glB t := rfl
attribute [go_sem] E47_ti E47_e E47_k E47_g
theorem encLt_lit (x : Lett) : encLt x = [.int .i64 x.rack.goods, .sl (x.rack.issues.map encI) false, .int .i64 x.dlo, .int .i64 x.dhi, .sl (x.lines.map encLL) false, .int .i64 x.clo, .int .i64 x.chi] := rfl
theorem dec_lss2 (l : List (List Line)) (ex : Bool) : (dec (.sl (l.map lsRow) ex) : Option (List (List Line))) = some l := by
 have key : ∀ l : List (List Line), drows (l.map lsRow) = some l := fun l => by
  induction l with
  | nil => rfl
  | cons a l ih =>
   have h1 : (Row.drow (lsRow a) : Option (List Line)) = some a := dLn_map a
   simp only [List.map_cons, drows, h1, ih]
 exact key l
theorem dec_pr3 (a b c d e f : Int) (ex : Bool) : (dec (.sl [[.int .i64 a, .int .i64 b], [.int .i64 c, .int .i64 d], [.int .i64 e, .int .i64 f]] ex) : Option (List Pr)) = some [⟨a, b⟩, ⟨c, d⟩, ⟨e, f⟩] := rfl
attribute [go_sem] dec_lss2 dec_pr3
theorem openedC_fn : Fn E47 0 14 Tryz.f14 (Tryz.f14.body.getD .skip) [] (.bool true) := by
 unfold Fn Tryz.f14
 obtain ⟨cl, hcl, hcan⟩ := canPV_C
 have hx := eq_true (lokC 300 1000)
 have hy := eq_true (lokC 900 1000)
 have b1 : ∀ g s c m, big (oneC g s c m).length = True := fun _ _ _ _ => eq_true (by unfold big oneC; simp)
 generalize hX : letC 300 1000 = X at *
 generalize hY : letC 900 1000 = Y at *
 have e1 := manyPV_C
 have e2 := ordersPV_C
 have e3 := isOrd_C
 have e4 := whenPV_C
 have e5 := costPV_C
 have e6 := surePV_D
 have e7 := askPV_C
 rw [hX] at e1 e2 e3 e4 e5 e7
 rw [hY] at e6
 have hc2 := congrArg (fun n : Nat => (n : Int)) hcl
 have b2 : big allC.length = True := eq_true (by unfold big; decide)
 have b3 : (∀ x ∈ allC, big x.length) = True := eq_true (by unfold big; decide)
 have b4 : big ([⟨0, 1⟩, ⟨0, 2⟩, ⟨0, 3⟩] : List Pr).length = True := eq_true (by unfold big; decide)
 have b5 : big cl.length = True := eq_true (by unfold big; omega)
 simp only [go_sem, @ct E47 17 sTo rfl, sTo, @ct E47 20 t20 rfl, t20, @ct E47 27 t27 rfl, t27, @ct E47 21 t21 rfl, t21, @ct E47 15 t15 rfl, t15, @ct E47 18 t18 rfl, t18, @ct E47 22 t22 rfl, t22, @ct E47 60 t60 rfl, t60, @ct E47 34 t34 rfl, t34, @ct E47 23 t23 rfl, t23, @ct E47 24 t24 rfl, t24, @ct E47 19 t19 rfl, t19, @ct E47 25 t25 rfl, t25, @ct E47 29 t29 rfl, t29, @ct E47 28 t28 rfl, t28, callSpec, hX, hY, encLt_lit, lett_eta, hx, hy, b1, e1, e2, e3, e4, e5, e6, e7, b4, b5, hcan, List.length_map, hcl, b2, b3, encA, List.map_cons, List.map_nil]
 exact (by unfold big; decide : big 3)
def t14 : Spec := spec0 True (.bool true)
theorem t14_ok : SpecOK Tryz.prog glB 14 t14 := spec0_ok E47_ok Tryz.func14 rfl (by kernel_rfl) fun _ => openedC_fn
end Wb
