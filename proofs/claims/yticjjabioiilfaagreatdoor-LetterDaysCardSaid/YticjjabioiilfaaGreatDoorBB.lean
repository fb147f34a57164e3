import Derived.Test.YticjjabioiilfaaGreatDoorAA
set_option linter.unusedVariables false
set_option linter.unusedSimpArgs false
namespace Wb
open Go Go.Proofs Enc Row
set_option linter.unusedSimpArgs false
set_option linter.unusedVariables false
set_option maxRecDepth 20000
set_option maxHeartbeats 16000000
noncomputable def E65t : List (Nat × Spec) := [(114, t114)] ++ E64t
theorem E65t_ok : AllOK E65t := ⟨⟨t114_ok, Tryz.call114⟩, E64t_ok⟩
noncomputable def E65 : Env := mkE E65t []
theorem E65_ok : EnvOK Tryz.prog E65 := envOK E65t_ok trivial
theorem E65_ti {t : Nat} : E65.ti t = ti t := rfl
theorem E65_e {t : Nat} : E65.eqt t = eqB t := rfl
theorem E65_k {t : Nat} : E65.keyt t = keyB t := rfl
theorem E65_g {t : Nat} : E65.glob t = glB t := rfl
attribute [go_sem] E65_ti E65_e E65_k E65_g
def optsX (X : Lett) (t : Nat) : List OptR := optsR X t (partsR X)
def nextR (o : List OptR) (r : List OptR) : List (List OptR) := o.map fun a => r ++ [a]
def rowsR (X : Lett) : Nat → List (List OptR)
 | 0 => [[]]
 | i + 1 => (rowsR X i).flatMap (nextR (optsX X i))
def ordersR (X : Lett) : List FndR := ((rowsR X X.lines.length).map (trR X (partsR X))).filter fun f => decide (0 < f.parts.length)
def encRow (r : List OptR) : List PV := [.sl (r.map encOp) r.isEmpty]
theorem cost_le (r : Rack) (d : Int) (l : Line) : -1 ≤ costM r d l ∧ costM r d l ≤ 100000000 := by
 unfold costM sumM asked3
 by_cases h1 : rackOk r = true
 ·rw [if_pos h1]
  by_cases h2 : qSum d [l] r = true
  ·rw [if_pos h2]
   cases hp : priceP r d l.item with
   | none => simp [sumF, hp]
   | some n =>
    have hn := (rack_good h1).cents d l.item n hp
    have hl := (lines_ok (g := r.goods) (ls := [l]) (by unfold qSum at h2; simp only [Bool.and_eq_true] at h2; exact h2.2)).2 l (by simp)
    have hm1 : n * (l.many - l.many / 12) ≤ 100000 * 1000 := Int.mul_le_mul hn.2 (by omega) (by omega) (by omega)
    have hm0 : 0 ≤ n * (l.many - l.many / 12) := Int.mul_nonneg (by omega) (by omega)
    simp [sumF, hp]
    omega
  ·rw [if_neg h2]; simp
 ·rw [if_neg h1]; simp
theorem opts_costs {X : Lett} {t : Nat} {ps : List (Int × Int)} {o : OptR} (h : o ∈ optsR X t ps) : o.costs.length = ps.length ∧ ∀ c ∈ o.costs, -1 ≤ c ∧ c ≤ 100000000 := by
 obtain ⟨l, _, rfl⟩ := List.mem_map.1 h
 refine ⟨List.length_map .., fun c hc => ?_⟩
 obtain ⟨p, _, rfl⟩ := List.mem_map.1 hc
 exact cost_le _ _ _
theorem rowsR_mem {X : Lett} : ∀ {n : Nat} {r : List OptR}, r ∈ rowsR X n → r.length = n ∧ ∀ o ∈ r, ∃ t, t < n ∧ o ∈ optsX X t
 | 0, r, h => by
  have := List.mem_singleton.1 h
  subst this
  exact ⟨rfl, fun o ho => by cases ho⟩
 | n + 1, r, h => by
  unfold rowsR nextR at h
  obtain ⟨q, hq, h2⟩ := List.mem_flatMap.1 h
  obtain ⟨a, ha, rfl⟩ := List.mem_map.1 h2
  obtain ⟨h3, h4⟩ := rowsR_mem hq
  refine ⟨by simp [h3], fun o ho => ?_⟩
  rcases List.mem_append.1 ho with h5 | h5
  ·obtain ⟨t, h6, h7⟩ := h4 o h5
   exact ⟨t, by omega, h7⟩
  ·rw [List.mem_singleton.1 h5]; exact ⟨n, by omega, ha⟩
theorem optsX_len {X : Lett} (hX : GL X) {t : Nat} (ht : t < X.lines.length) : (optsX X t).length ≤ 6144 := by
 unfold optsX optsR
 rw [List.length_map]
 have h1 := putAll_len (X.rack.issues.flatMap (meantR (X.lines.getD t default))) []
 have h2 := allR_len hX ht X.rack.issues.length
 rw [List.take_length] at h2
 simp only [List.length_nil] at h1
 exact Nat.le_trans h1 (by omega)
theorem partsR_len {X : Lett} (hX : GL X) : 1 ≤ (partsR X).length ∧ (partsR X).length ≤ 100 := by
 have h1 := turns_len hX.aok.t
 have h2 := List.length_pos_of_mem (turns_lo X)
 unfold partsR
 rw [List.length_map, List.length_range]
 omega
theorem nextR_len (o : List OptR) (R : List (List OptR)) : (R.flatMap (nextR o)).length ≤ R.length * o.length := flatMap_le (nextR o) o.length R fun r _ => by unfold nextR; rw [List.length_map]; exact Nat.le_refl _
theorem rowsR_len {X : Lett} (hX : GL X) : (rowsR X 0).length = 1 ∧ (rowsR X 1).length ≤ 6144 ∧ (X.lines.length = 2 → (rowsR X 2).length ≤ 37748736) := by
 have hN := hX.n
 have h0 : (rowsR X 0).length = 1 := rfl
 have h1 : (rowsR X 1).length ≤ 6144 := by
  have := nextR_len (optsX X 0) (rowsR X 0)
  rw [h0, Nat.one_mul] at this
  exact Nat.le_trans this (optsX_len hX (by omega))
 refine ⟨h0, h1, fun h2 => ?_⟩
 have h3 := nextR_len (optsX X 1) (rowsR X 1)
 have h4 := optsX_len hX (t := 1) (by omega)
 exact Nat.le_trans h3 (Nat.le_trans (Nat.mul_le_mul h1 h4) (by omega))
theorem encOp_rows (r : List OptR) : ∀ row ∈ r.map encOp, row.length = 6 ∧ cells1 row = true := fun row h => by
 obtain ⟨a, _, rfl⟩ := List.mem_map.1 h; exact ⟨rfl, rfl⟩
theorem bnd78 {n : Nat} (h : n ≤ 37748736) : (n + 1) * 24 ≤ 35184372088832 ∧ (n + 1) * 72 ≤ 35184372088832 := by omega
theorem ordersR_fn (X : Lett) (hX : GL X) : Fn E65 0 78 Tryz.f78 (Tryz.f78.body.getD .skip) [.agg (encLt X)] (.sl ((ordersR X).map encFn) false) := by
 unfold Fn Tryz.f78
 have hx0 := encLt_lit X
 have hN := hX.n
 have hgx := eq_true hX
 have hpl := partsR_len hX
 obtain ⟨PS, hPS⟩ : ∃ PS, PS = partsR X := ⟨_, rfl⟩
 rw [← hPS] at hpl
 have hp1 := eq_true hpl.1
 have hp2 := eq_true hpl.2
 have hrl : ∀ i, i ≤ X.lines.length → (rowsR X i).length ≤ 37748736 := fun i hi => by
  obtain ⟨h1, h2, h3⟩ := rowsR_len hX
  obtain h | h | h : i = 0 ∨ i = 1 ∨ i = 2 := by omega
  ·subst h; omega
  ·subst h; omega
  ·subst h; exact h3 (by omega)
 simp only [go_sem, @ct E65 85 t85 rfl, t85, callSpec, hx0, lett_eta, hgx, ← hPS]
 refine ev_loopT (fun z : Nat × Bool => [.undef, .ref ([], 78000000) 1 0, .undef, (.sl (PS.map encS) false), .sl ((rowsR X z.1).map encRow) z.2, .int .i64 z.1] ++ List.replicate 71 .undef)
  (fun z H => z.1 ≤ X.lines.length ∧ H ([], 78000000) = some (.cells (encLt X) 1 false)) (fun z => X.lines.length - z.1)
  (0, true) (thaw_slot2 (i := 4) (rs := [[.sl [] true]]) rfl (set_at_eq _ _ _) rfl ?_) ⟨Nat.zero_le _, ?_⟩ ?_
 ·simp only [go_sem, Int.natCast_zero, rowsR, encRow, List.map_cons, List.map_nil, List.isEmpty]
 ·simp only [go_sem, hx0]
 ·rintro K ⟨i, ex⟩ H ⟨hi, h1⟩ hK hE
  simp only at hi
  simp only [go_sem, h1, hx0, List.length_map]
  rw [condK_bool]
  refine ⟨fun h => ?_, fun h => ?_⟩
  ·have hi' : i < X.lines.length := by have := of_decide_eq_true h; omega
   have hii : ((i : Int) < (X.lines.length : Int)) = True := eq_true (by omega)
   have hi0 : (0 ≤ (i : Int)) = True := eq_true (by omega)
   have w2 : IntKind.i64.wrap ((i : Int) + 1) = (i : Int) + 1 := wrap_id (by omega)
   have hox : optsR X i PS = optsX X i := by rw [hPS]; rfl
   have hRl := hrl i hi
   have hRn := hrl (i + 1) hi'
   have hRe : rowsR X (i + 1) = (rowsR X i).flatMap (nextR (optsX X i)) := rfl
   have hrm : ∀ r ∈ rowsR X i, r.length = i := fun r hr => (rowsR_mem hr).1
   have key : ∀ (τ : List PV) (H : Heap) (p : PV), H ([], 78000000) = some (.cells (encLt X) 1 false) → τ[4]? = some p → Own H (fun K => K = ([], 78014014)) p 1 ((rowsR X (i + 1)).map encRow) → (∀ ex, fg ([.undef, .ref ([], 78000000) 1 0, .undef, (.sl (PS.map encS) false), .sl ((rowsR X (i + 1)).map encRow) ex, .int .i64 ((i + 1 : Nat) : Int)] ++ List.replicate 71 .undef) (τ.set 4 (.sl ((rowsR X (i + 1)).map encRow) ex))) → K .normal τ H := fun τ H p h1 hp hO hf => by
    obtain ⟨ex, H', hth, hfr⟩ := thaw_own hp hO
    exact hK (i + 1, ex) τ H H' (hth _ (hf ex)) ⟨by simp only; omega, by rw [hfr _ (by simp)]; exact h1⟩ (by simp only; omega)
   simp only [go_sem, @ct E65 113 t113 rfl, t113, callSpec, h1, hx0, lett_eta, hgx, hii, hi0, hp1, hp2, Int.toNat_natCast, hox]
   generalize rowsR X (i + 1) = R' at hRn hRe key
   generalize rowsR X i = R at hRl hRe hrm ⊢
   have hOl := optsX_len hX hi'
   generalize optsX X i = O at hRe hOl ⊢
   refine ev_loopS [1, 3, 4, 5, 6] (fun z : Nat × PV => [(7, z.2), (8, .int .i64 z.1)]) (fun z H => z.1 ≤ R.length ∧ H ([], 78000000) = some (.cells (encLt X) 1 false) ∧ Own H (fun K => K = ([], 78014014)) z.2 1 (((R.take z.1).flatMap (nextR O)).map encRow)) (fun z => R.length - z.1) (0, .sl [] true) ?_ ⟨Nat.zero_le _, ?_, .nil⟩ ?_
   ·simp only [go_sem, Int.natCast_zero]
   ·simp only [go_sem, h1, hx0]
   ·simp only [go_sem, List.length_map]
    rintro K2 ⟨k, p⟩ H2 ⟨hk, k1, k2⟩ hK2 hE2
    simp only at hk k2
    dsimp only
    rw [condK_bool]
    refine ⟨fun h => ?_, fun h => ?_⟩
    ·have hk' : k < R.length := by have := of_decide_eq_true h; omega
     have hkk : ((k : Int) < (R.length : Int)) = True := eq_true (by omega)
     have hk0 : (0 ≤ (k : Int)) = True := eq_true (by omega)
     have w3 : IntKind.i64.wrap ((k : Int) + 1) = (k : Int) + 1 := wrap_id (by omega)
     have hfm := flatMap_take (nextR O) hk'
     have hrk := hrm _ (getD_mem default hk')
     have hPn : ∀ j, ((R.take k).flatMap (nextR O) ++ (O.take j).map fun a => R.getD k default ++ [a]).length ≤ R'.length := fun j => by
      have e1 : R' = (R.take k).flatMap (nextR O) ++ (nextR O (R.getD k default) ++ (R.drop (k + 1)).flatMap (nextR O)) := by
       rw [hRe, ← List.append_assoc, ← hfm, ← List.flatMap_append, List.take_append_drop]
      rw [e1]
      simp only [List.length_append]
      have : ((O.take j).map fun a => R.getD k default ++ [a]).length ≤ (nextR O (R.getD k default)).length := by
       unfold nextR; rw [List.length_map, List.length_map, List.length_take]; exact Nat.min_le_right ..
      omega
     generalize hrr : R.getD k default = r at hfm hrk hPn
     generalize hPP : (R.take k).flatMap (nextR O) = P at hfm hPn k2
     simp only [go_sem]
     refine ev_loopS [1, 3, 4, 5, 6, 8] (fun z : Nat × PV => [(7, z.2), (9, .int .i64 z.1)]) (fun z H => z.1 ≤ O.length ∧ H ([], 78000000) = some (.cells (encLt X) 1 false) ∧ Own H (fun K => K = ([], 78014014)) z.2 1 ((P ++ (O.take z.1).map fun a => r ++ [a]).map encRow)) (fun z => O.length - z.1) (0, p) ?_ ⟨Nat.zero_le _, k1, by simpa using k2⟩ ?_
     ·simp only [go_sem, Int.natCast_zero]
     ·simp only [go_sem, List.length_map]
      rintro K3 ⟨j, p3⟩ H3 ⟨hj, j1, j2⟩ hK3 hE3
      simp only at hj j2
      dsimp only
      rw [condK_bool]
      refine ⟨fun h => ?_, fun h => ?_⟩
      ·have hj' : j < O.length := by have := of_decide_eq_true h; omega
       have hjj : ((j : Int) < (O.length : Int)) = True := eq_true (by omega)
       have hj0 : (0 ≤ (j : Int)) = True := eq_true (by omega)
       have w4 : IntKind.i64.wrap ((j : Int) + 1) = (j : Int) + 1 := wrap_id (by omega)
       have htk : (P ++ (O.take (j + 1)).map fun a => r ++ [a]).map encRow = ((P ++ (O.take j).map fun a => r ++ [a]).map encRow) ++ [encRow (r ++ [O.getD j default])] := by
        have e3 : (O.take (j + 1)).map (fun a => r ++ [a]) = (O.take j).map (fun a => r ++ [a]) ++ [r ++ [O.getD j default]] := by
         rw [List.take_succ_eq_append_getElem hj', List.map_append, show O[j] = O.getD j default by simp [hj']]; rfl
        rw [e3, ← List.append_assoc, List.map_append]; rfl
       have hPj := hPn j
       have hbb := bnd78 (Nat.le_trans hPj hRn)
       generalize hoo : O.getD j default = o at htk
       generalize hQ : P ++ (O.take j).map (fun a => r ++ [a]) = Q at htk hbb j2
       have her : encRow (r ++ [o]) = [.sl (r.map encOp ++ [encOp o]) false] := by unfold encRow; rw [List.map_append]; cases r <;> rfl
       have hrr2 := eq_true (encOp_rows r)
       have hb1 : (r.length * 64 ≤ 35184372088832) = True := eq_true (by omega)
       have hb2 : ((r.length + 1) * 64 ≤ 35184372088832) = True := eq_true (by omega)
       have hb3 : ((Q.length + 1) * 24 ≤ 35184372088832) = True := eq_true hbb.1
       have hrow : encRow r = [.sl (r.map encOp) r.isEmpty] := rfl
       obtain ⟨⟨⟨o0, o1, o2⟩, o3⟩, o4, o5⟩ := o
       simp only [encOp] at her
       rcases j2 with ⟨q1, rfl⟩ | ⟨K', v', rfl, rfl, q3⟩
       ·simp only [go_sem, app, rowsOf, hkk, hk0, hjj, hj0, Int.toNat_natCast, List.length_map, getD_mapN encRow R k _ hk', hrr, hrow, hrr2, hb1, hb2, hb3, getD_mapN encOp O j _ hj', hoo, encOp]
        refine ⟨fun row hrow => by subst hrow; exact ⟨rfl, rfl⟩, by simp, rfl, fun row hrow => by subst hrow; exact ⟨rfl, rfl⟩, ?_⟩
        refine hK3 (j + 1, .sref ([], 78014014) (verOf H3 ([], 78014014) + 1) 1 1 false) _ _ ?_ ⟨hj', ?_, ?_⟩ (by simp only; omega)
        ·simp only [go_sem, w4, Int.natCast_add, Int.natCast_one]
        ·simp only [go_sem, j1]
        ·show Own _ _ _ _ ((P ++ (O.take (j + 1)).map fun a => r ++ [a]).map encRow)
         rw [htk, q1, her]
         exact .inr ⟨_, _, rfl, by simp, set_at_eq _ _ _⟩
       ·simp only [go_sem, app, rowsOf, hkk, hk0, hjj, hj0, Int.toNat_natCast, List.length_map, getD_mapN encRow R k _ hk', hrr, hrow, hrr2, hb1, hb2, hb3, getD_mapN encOp O j _ hj', hoo, encOp, q3]
        refine ⟨fun row hrow => by subst hrow; exact ⟨rfl, rfl⟩, by simp, rfl, fun row hrow => by subst hrow; exact ⟨rfl, rfl⟩, ?_⟩
        refine hK3 (j + 1, .sref ([], 78014014) (v' + 1) 1 (Q.length + 1) false) _ _ ?_ ⟨hj', ?_, ?_⟩ (by simp only; omega)
        ·simp only [go_sem, w4, Int.natCast_add, Int.natCast_one]
        ·simp only [go_sem, j1]
        ·show Own _ _ _ _ ((P ++ (O.take (j + 1)).map fun a => r ++ [a]).map encRow)
         rw [htk, her]
         exact .inr ⟨_, _, rfl, by simp, set_at_eq _ _ _⟩
      ·have hj' : j = O.length := by have : ¬ ((j : Int) < (O.length : Int)) := by simpa using h
                                     omega
       subst hj'
       have e2 : (P ++ (O.take O.length).map fun a => r ++ [a]) = (R.take (k + 1)).flatMap (nextR O) := by rw [List.take_length, hfm]; rfl
       rw [e2] at j2
       refine hE3 _ _ _ (by simp) ?_
       simp only [go_sem]
       refine hK2 (k + 1, p3) _ _ ?_ ⟨hk', j1, j2⟩ (by simp only; omega)
       simp only [go_sem, w3, Int.natCast_add, Int.natCast_one]
    ·have hk' : k = R.length := by have : ¬ ((k : Int) < (R.length : Int)) := by simpa using h
                                   omega
     subst hk'
     rw [List.take_length, ← hRe] at k2
     obtain ⟨hT, hC, hP, hV, hU⟩ := OwnTaint k2
     refine hE2 _ _ _ (by simp) ?_
     simp only [go_sem, hT, hC, hP, hV, hU]
     refine key _ _ p k1 rfl k2 fun ex => ?_
     simp only [go_sem, w2, Int.natCast_add, Int.natCast_one]
  ·have hi' : i = X.lines.length := by have : ¬ ((i : Int) < (X.lines.length : Int)) := by simpa using h
                                       omega
   subst hi'
   have hRl := hrl _ (Nat.le_refl _)
   refine hE _ _ _ (by simp) ?_
   simp only [go_sem, h1, hx0]
   have hres : ordersR X = ((rowsR X X.lines.length).map (trR X PS)).filter fun f => decide (0 < f.parts.length) := by rw [hPS]; rfl
   rw [hres]
   have hrm : ∀ r ∈ rowsR X X.lines.length, r.length ≤ 2 ∧ ∀ o ∈ r, o.costs.length = PS.length ∧ ∀ c ∈ o.costs, -1 ≤ c ∧ c ≤ 100000000 := fun r hr => by
    obtain ⟨h1, h2⟩ := rowsR_mem hr
    refine ⟨by omega, fun o ho => ?_⟩
    obtain ⟨t, _, h3⟩ := h2 o ho
    rw [hPS]; exact opts_costs h3
   generalize rowsR X X.lines.length = R at hRl hrm
   refine ev_loopS [1, 3, 4] (fun z : Nat × PV => [(10, z.2), (11, .int .i64 z.1)]) (fun z H => z.1 ≤ R.length ∧ H ([], 78000000) = some (.cells (encLt X) 1 false) ∧ Own H (fun K => K = ([], 78022003)) z.2 3 ((((R.take z.1).map (trR X PS)).filter fun f => decide (0 < f.parts.length)).map encFn)) (fun z => R.length - z.1) (0, .sl [] true) ?_ ⟨Nat.zero_le _, ?_, .nil⟩ ?_
   ·simp only [go_sem, Int.natCast_zero]
   ·simp only [go_sem, h1, hx0]
   ·simp only [go_sem, List.length_map]
    rintro K2 ⟨k, p⟩ H2 ⟨hk, k1, k2⟩ hK2 hE2
    simp only at hk k2
    obtain ⟨hT, hC, hP, hV, hU⟩ := OwnTaint k2
    dsimp only
    rw [condK_bool]
    refine ⟨fun h => ?_, fun h => ?_⟩
    ·have hk' : k < R.length := by have := of_decide_eq_true h; omega
     have hkk : ((k : Int) < (R.length : Int)) = True := eq_true (by omega)
     have hk0 : (0 ≤ (k : Int)) = True := eq_true (by omega)
     have w3 : IntKind.i64.wrap ((k : Int) + 1) = (k : Int) + 1 := wrap_id (by omega)
     have hr2 := hrm _ (getD_mem default hk')
     have htk : ((R.take (k + 1)).map (trR X PS)).filter (fun f => decide (0 < f.parts.length)) = ((R.take k).map (trR X PS)).filter (fun f => decide (0 < f.parts.length)) ++ if 0 < (trR X PS (R.getD k default)).parts.length then [trR X PS (R.getD k default)] else [] := by
      rw [List.take_succ_eq_append_getElem hk', List.map_append, List.filter_append, show R[k] = R.getD k default by simp [hk']]
      congr 1
      by_cases hq : 0 < (trR X PS (R.getD k default)).parts.length
      ·rw [if_pos hq, List.map_cons, List.map_nil, List.filter_cons_of_pos (p := fun f : FndR => decide (0 < f.parts.length)) (decide_eq_true hq), List.filter_nil]
      ·rw [if_neg hq, List.map_cons, List.map_nil, List.filter_cons_of_neg (by rw [decide_eq_false hq]; simp), List.filter_nil]
     have hln : (((R.take k).map (trR X PS)).filter fun f => decide (0 < f.parts.length)).length ≤ R.length := by
      refine Nat.le_trans (List.length_filter_le _ _) ?_
      rw [List.length_map, List.length_take]; exact Nat.min_le_right ..
     have hbb := (bnd78 (Nat.le_trans hln hRl)).2
     generalize hrr : R.getD k default = r at hr2 htk
     have hr3 := eq_true hr2.1
     have hr4 := eq_true hr2.2
     have hrow : encRow r = [.sl (r.map encOp) r.isEmpty] := rfl
     generalize hF : ((R.take k).map (trR X PS)).filter (fun f => decide (0 < f.parts.length)) = F at htk hbb k2
     obtain ⟨f, hf⟩ : ∃ f, trR X PS r = f := ⟨_, rfl⟩
     rw [hf] at htk
     obtain ⟨fl, fp, fc⟩ := f
     simp only at htk
     simp only [go_sem, @ct E65 114 t114 rfl, t114, callSpec, k1, hx0, lett_eta, hgx, hkk, hk0, Int.toNat_natCast, List.length_map, getD_mapN encRow R k _ hk', hrr, hrow, hp2, hr3, hr4, hf, encFn, il_length]
     rw [condK_bool]
     refine ⟨fun hc => ?_, fun hc => ?_⟩
     ·have hc' : 0 < fp.length := by have := of_decide_eq_true hc; omega
      rw [if_pos hc'] at htk
      simp only [go_sem, hT, hC, hP, hV, hU]
      refine app_one trivial rfl rfl (by decide) (by decide) (set_at_eq _ _ _) (k2.frame fun K hK => (set_at_ne _ _ (by rw [hK]; simp)).trans ((set_at_ne _ _ (by rw [hK]; simp)).trans (set_at_ne _ _ (by rw [hK]; simp)))) rfl (by rw [List.length_map]; exact hbb) (fun row hr => by obtain ⟨a, _, rfl⟩ := List.mem_map.1 hr; rfl) ⟨rfl, rfl⟩ fun p' H' hO hF' => ?_
      obtain ⟨hT', hC', hP', hV', hU'⟩ := OwnTaint hO
      simp only [go_sem, hT', hC', hP', hV', hU']
      refine hK2 (k + 1, p') _ _ ?_ ⟨hk', (hF' _ (by simp)).trans ((set_at_ne _ _ (by simp)).trans ((set_at_ne _ _ (by simp)).trans ((set_at_ne _ _ (by simp)).trans k1))), by show Own _ _ _ _ ((((R.take (k + 1)).map (trR X PS)).filter _).map encFn); rw [htk, List.map_append]; exact hO⟩ (by simp only; omega)
      simp only [go_sem, w3, Int.natCast_add, Int.natCast_one]
     ·have hc' : ¬ 0 < fp.length := by have := of_decide_eq_false hc; omega
      rw [if_neg hc', List.append_nil] at htk
      simp only [go_sem]
      refine hK2 (k + 1, p) _ _ ?_ ⟨hk', (set_at_ne _ _ (by simp)).trans ((set_at_ne _ _ (by simp)).trans k1), by show Own _ _ _ _ ((((R.take (k + 1)).map (trR X PS)).filter _).map encFn); rw [htk]; exact k2.frame fun K hK => (set_at_ne _ _ (by rw [hK]; simp)).trans (set_at_ne _ _ (by rw [hK]; simp))⟩ (by simp only; omega)
      simp only [go_sem, w3, Int.natCast_add, Int.natCast_one]
    ·have hk' : k = R.length := by have : ¬ ((k : Int) < (R.length : Int)) := by simpa using h
                                   omega
     subst hk'
     rw [List.take_length] at k2
     refine hE2 _ _ _ (by simp) ?_
     simp only [go_sem, hT, hC, hP, hV, hU]
     exact k2.fin
def t78 : Spec := spec1 GL fun X => .sl ((ordersR X).map encFn) false
end Wb
