import Derived.Test.YticjjabioiilfaaGreatDoorW
set_option linter.unusedVariables false
set_option linter.unusedSimpArgs false
namespace Wb
open Go Go.Proofs Enc Row
set_option linter.unusedSimpArgs false
set_option linter.unusedVariables false
set_option maxRecDepth 20000
set_option maxHeartbeats 16000000
structure FndR where
 lines : List Line
 parts : List Int
 costs : List Int
 deriving Inhabited, DecidableEq
def encFn (f : FndR) : List PV := [.sl (f.lines.map encL) false, .sl (il f.parts) false, .sl (il f.costs) false]
def dFnd : List PV → Option FndR
 | [.sl a _, .sl b _, .sl c _] => match (drows a : Option (List Line)), dL dZ b, dL dZ c with
  | some x, some y, some z => some ⟨x, y, z⟩
  | _, _, _ => none
 | _ => none
theorem dFnd_enc (f : FndR) : dFnd (encFn f) = some f := by
 have h : (drows (f.lines.map encL) : Option (List Line)) = some f.lines := drows_rows (α := Line) f.lines
 simp [dFnd, encFn, dZ_il, h]
theorem dFnd_wk (r : List PV) (f : FndR) (h : dFnd r = some f) : wk.wkL r (encFn f) := by
 unfold dFnd at h
 split at h
 ·split at h
  ·rename_i h1 h2 h3
   cases h
   exact ⟨⟨wk_drows (α := Line) _ _ h1, fun h => by cases h⟩, ⟨dZ_wk h2, fun h => by cases h⟩, ⟨dZ_wk h3, fun h => by cases h⟩, trivial⟩
  ·cases h
 ·cases h
instance : Row FndR where
 row := encFn
 drow := dFnd
 wk_drow := dFnd_wk
 drow_row := dFnd_enc
instance : Enc FndR := encOfRow FndR
theorem dec_fnds (l : List FndR) (ex : Bool) : (dec (.sl (l.map encFn) ex) : Option (List FndR)) = some l := drows_rows (α := FndR) l
attribute [go_sem] dec_fnds
noncomputable def E64t : List (Nat × Spec) := [(113, t113)] ++ E63t
theorem E64t_ok : AllOK E64t := ⟨⟨t113_ok, Tryz.call113⟩, E63t_ok⟩
noncomputable def E64 : Env := mkE E64t []
theorem E64_ok : EnvOK Tryz.prog E64 := envOK E64t_ok trivial
theorem E64_ti {t : Nat} : E64.ti t = ti t := rfl
theorem E64_e {t : Nat} : E64.eqt t = eqB t := rfl
theorem E64_k {t : Nat} : E64.keyt t = keyB t := rfl
theorem E64_g {t : Nat} : E64.glob t = glB t := rfl
attribute [go_sem] E64_ti E64_e E64_k E64_g
def issL (s : Int) (opts : List OptR) : Int := opts.foldl (fun a o => bits .and .i64 a o.iss) s
def useR (X : Lett) (d : Int) (i : Nat) : Bool := decide ((X.rack.issues.getD i default).lo ≤ d) && decide (d ≤ (X.rack.issues.getD i default).hi)
def okI (X : Lett) (s d : Int) (n : Nat) : Bool := (List.range n).any fun i => inF s i && useR X d i
def cstF (p : Nat) (a : Int) (o : OptR) : Int := a + o.costs.getD p 0
def cst (opts : List OptR) (p : Nat) : Int := opts.foldl (cstF p) 0
def costOk (opts : List OptR) (p : Nat) : Bool := opts.all fun o => decide (o.costs.getD p 0 ≥ 0)
def fullR (X : Lett) : Int := IntKind.i64.wrap (shft true .i64 1 (X.rack.issues.length : Int) - 1)
def okP (X : Lett) (ps : List (Int × Int)) (opts : List OptR) (p : Nat) : Bool := (okI X (issL (fullR X) opts) (ps.getD p default).1 X.rack.issues.length && costOk opts p) && (decide (X.clo ≤ cst opts p) && decide (cst opts p ≤ X.chi))
def trR (X : Lett) (ps : List (Int × Int)) (opts : List OptR) : FndR := ⟨opts.map (·.line), ((List.range ps.length).filter (okP X ps opts)).map fun (p : Nat) => (p : Int), ((List.range ps.length).filter (okP X ps opts)).map (cst opts)⟩
theorem foldl_takeM {α β : Type} [Inhabited α] (f : β → α → β) (a : β) {l : List α} {i : Nat} (h : i < l.length) : (l.take (i + 1)).foldl f a = f ((l.take i).foldl f a) (l.getD i default) := by
 have e : l.getD i default = l[i] := by simp [h]
 rw [e, List.take_succ_eq_append_getElem h, List.foldl_append]
 rfl
theorem cst_bound {opts : List OptR} (h : ∀ o ∈ opts, ∀ c ∈ o.costs, -1 ≤ c ∧ c ≤ 100000000) (p : Nat) : ∀ i : Nat, -(i : Int) ≤ cst (opts.take i) p ∧ cst (opts.take i) p ≤ 100000000 * (i : Int)
 | 0 => by simp [cst]
 | i + 1 => by
  have ih := cst_bound h p i
  by_cases hi : i < opts.length
  ·have e : cst (opts.take (i + 1)) p = cstF p (cst (opts.take i) p) (opts.getD i default) := foldl_takeM _ _ hi
   rw [e]
   have ho := h _ (getD_mem default hi)
   generalize opts.getD i default = o at ho
   have : -1 ≤ o.costs.getD p 0 ∧ o.costs.getD p 0 ≤ 100000000 := by
    by_cases hp : p < o.costs.length
    ·have e : o.costs.getD p 0 = o.costs[p] := by simp [hp]
     rw [e]; exact ho _ (List.getElem_mem hp)
    ·have e : o.costs.getD p 0 = 0 := by simp [hp]
     rw [e]; omega
   unfold cstF
   omega
  ·rw [List.take_of_length_le (by omega)] at ih ⊢
   omega
theorem rng_filt {p : Nat → Bool} (n : Nat) : (List.range n ++ [n]).filter p = (List.range n).filter p ++ if p n = true then [n] else [] := by
 rw [List.filter_append]
 congr 1
 cases h : p n <;> simp [h]
theorem tried_fn (X : Lett) (hX : GL X) (ps : List (Int × Int)) (hps : ps.length ≤ 100) (opts : List OptR) (ho2 : opts.length ≤ 2) (hoc : ∀ o ∈ opts, o.costs.length = ps.length ∧ ∀ c ∈ o.costs, -1 ≤ c ∧ c ≤ 100000000) :
    Fn E64 0 114 Tryz.f114 (Tryz.f114.body.getD .skip) [.agg (encLt X), .sl (ps.map encS) false, .sl (opts.map encOp) false] (.agg (encFn (trR X ps opts))) := by
 unfold Fn Tryz.f114
 have hx0 := encLt_lit X
 have hR4 := hX.rack.len
 have hLn : (0 ≤ (X.rack.issues.length : Int)) = True := eq_true (by omega)
 have hfull : IntKind.i64.wrap (shft true .i64 1 (X.rack.issues.length : Int) - 1) = fullR X := rfl
 simp only [go_sem, hx0, List.length_map, hLn, hfull]
 refine ev_loopS [1, 2, 3, 6, 7] (fun z : Nat × PV => [(8, .int .i64 (issL (fullR X) (opts.take z.1))), (9, .int .i64 z.1)]) (fun z H => z.1 ≤ opts.length ∧ H ([], 114000000) = some (.cells (encLt X) 1 false) ∧ H ([], 114000001) = some (.cells [.sl [] true, .sl [] true, .sl [] true] 1 false) ∧ H ([], 114001000) = some (.cells [z.2, .sl [] true, .sl [] true] 1 false) ∧ Own H (fun K => K = ([], 114006008)) z.2 4 (((opts.take z.1).map (·.line)).map encL)) (fun z => opts.length - z.1) (0, .sl [] true) ?_ ⟨Nat.zero_le _, ?_, ?_, ?_, .nil⟩ ?_
 ·simp only [go_sem, Int.natCast_zero, List.take_zero, issL, List.foldl_nil]
 ·simp only [go_sem, hx0]
 ·simp only [go_sem]
 ·simp only [go_sem]
 ·simp only [go_sem, List.length_map]
  rintro K ⟨i, p0⟩ H ⟨hi, h1, h2, h3, h4⟩ hK hE
  simp only at hi h3 h4
  obtain ⟨hT, hC, hP, hV, hU⟩ := OwnTaint h4
  dsimp only
  rw [condK_bool]
  refine ⟨fun h => ?_, fun h => ?_⟩
  ·have hi' : i < opts.length := by have := of_decide_eq_true h; omega
   have hii : ((i : Int) < (opts.length : Int)) = True := eq_true (by omega)
   have hi0 : (0 ≤ (i : Int)) = True := eq_true (by omega)
   have w2 : IntKind.i64.wrap ((i : Int) + 1) = (i : Int) + 1 := wrap_id (by omega)
   have hft : issL (fullR X) (opts.take (i + 1)) = bits .and .i64 (issL (fullR X) (opts.take i)) (opts.getD i default).iss := foldl_takeM _ _ hi'
   have htk : ((opts.take (i + 1)).map (·.line)).map encL = ((opts.take i).map (·.line)).map encL ++ [encL (opts.getD i default).line] := by
    rw [List.take_succ_eq_append_getElem hi', List.map_append, List.map_append, show opts[i] = opts.getD i default by simp [hi']]; rfl
   generalize hoo : opts.getD i default = o at hft htk
   obtain ⟨⟨⟨o0, o1, o2⟩, o3⟩, o4, o5⟩ := o
   have hrl : ∀ row ∈ ((opts.take i).map (·.line)).map encL, row.length = 4 := map_row4 _
   simp only [go_sem, h3, hii, hi0, Int.toNat_natCast, List.length_map, getD_mapN encOp opts i _ hi', hoo, encOp, hT, hC, hP, hV, hU]
   refine app_oneF' trivial rfl rfl (by decide) (by decide) (set_at_eq _ _ _) (h4.frame fun K hK => set_at_ne _ _ (by rw [hK]; simp)) (by rw [List.length_map, List.length_map, List.length_take]; show (_ + 1) * 32 ≤ _; omega) ⟨rfl, rfl⟩ fun p' H' R' hR hO hF => ?_
   obtain ⟨hT', hC', hP', hV', hU'⟩ := OwnTaint hO
   have f3 := (hF ([], 114001000) (by simp)).trans ((set_at_ne _ _ (by simp)).trans h3)
   rcases hR with rfl | rfl
   all_goals
    simp only [go_sem, hT', hC', hP', hV', hU', binds_data, f3, hii, hi0, Int.toNat_natCast, List.length_map, getD_mapN encOp opts i _ hi', hoo, encOp]
    refine hK (i + 1, p') _ _ ?_ ⟨hi', ?_, ?_, ?_, ?_⟩ (by simp only; omega)
    ·simp only [go_sem, w2, Int.natCast_add, Int.natCast_one, hft]
    ·exact (set_at_ne _ _ (by simp)).trans ((hF _ (by simp)).trans ((set_at_ne _ _ (by simp)).trans h1))
    ·exact (set_at_ne _ _ (by simp)).trans ((hF _ (by simp)).trans ((set_at_ne _ _ (by simp)).trans h2))
    ·simp only [go_sem]
    ·show Own _ _ _ _ (((opts.take (i + 1)).map (·.line)).map encL)
     rw [htk]
     exact hO.frame fun K hK => set_at_ne _ _ (by rw [hK]; simp)
  ·have hi' : i = opts.length := by have : ¬ ((i : Int) < (opts.length : Int)) := by simpa using h
                                    omega
   subst hi'
   rw [List.take_length] at h4 ⊢
   generalize hS : issL (fullR X) opts = S
   have hok : ∀ p, okP X ps opts p = ((okI X S (ps.getD p default).1 X.rack.issues.length && costOk opts p) && (decide (X.clo ≤ cst opts p) && decide (cst opts p ≤ X.chi))) := fun p => by unfold okP; rw [hS]
   have hcb := cst_bound (fun o ho => (hoc o ho).2)
   generalize hLL : X.rack.issues.length = L at hok hR4
   refine hE _ _ _ (by simp) ?_
   simp only [go_sem]
   refine ev_loopS [1, 2, 3, 6, 7, 8] (fun z : Nat × PV × PV => [(10, .int .i64 z.1)]) (fun z H => z.1 ≤ ps.length ∧ H ([], 114000000) = some (.cells (encLt X) 1 false) ∧ H ([], 114000001) = some (.cells [.sl [] true, .sl [] true, .sl [] true] 1 false) ∧ H ([], 114001000) = some (.cells [p0, z.2.1, z.2.2] 1 false) ∧ Own H (fun K => K = ([], 114006008)) p0 4 ((opts.map (·.line)).map encL)
    ∧ Own H (fun K => K = ([], 114023004)) z.2.1 1 (il (((List.range z.1).filter (okP X ps opts)).map fun (p : Nat) => (p : Int))) ∧ Own H (fun K => K = ([], 114023009)) z.2.2 1 (il (((List.range z.1).filter (okP X ps opts)).map (cst opts)))) (fun z => ps.length - z.1) (0, .sl [] true, .sl [] true) ?_ ⟨Nat.zero_le _, h1, h2, h3, h4, .nil, .nil⟩ ?_
   ·simp only [go_sem, Int.natCast_zero]
   ·simp only [go_sem, List.length_map]
    rintro K2 ⟨p, pp, pc⟩ H2 ⟨hp, d1, d2, d3, d4, d5, d6⟩ hK2 hE2
    simp only at hp d3 d5 d6
    dsimp only
    rw [condK_bool]
    refine ⟨fun h => ?_, fun h => ?_⟩
    ·have hp' : p < ps.length := by have := of_decide_eq_true h; omega
     have hpp : ((p : Int) < (ps.length : Int)) = True := eq_true (by omega)
     have hp0 : (0 ≤ (p : Int)) = True := eq_true (by omega)
     have w3 : IntKind.i64.wrap ((p : Int) + 1) = (p : Int) + 1 := wrap_id (by omega)
     have hokp := hok p
     generalize hpr : ps.getD p default = pr at hokp
     obtain ⟨d, d'⟩ := pr
     simp only at hokp
     simp only [go_sem]
     refine ev_loopS [1, 2, 3, 6, 7, 8, 10] (fun i : Nat => [(11, .bool (okI X S d i)), (12, .int .i64 i)]) (fun i H => i ≤ L ∧ (∀ K, H K = H2 K)) (fun i => L - i) 0 ?_ ⟨Nat.zero_le _, fun _ => rfl⟩ ?_
     ·simp only [go_sem, Int.natCast_zero, okI, List.range_zero, List.any_nil]
     ·simp only [go_sem]
      rintro K3 i H3 ⟨hi, hH⟩ hK3 hE3
      simp only [go_sem, hH, d1, hx0, List.length_map, hLL]
      rw [condK_bool]
      refine ⟨fun h => ?_, fun h => ?_⟩
      ·have hi' : i < L := by have := of_decide_eq_true h; omega
       have hii : ((i : Int) < (X.rack.issues.length : Int)) = True := eq_true (by omega)
       have hi0 : (0 ≤ (i : Int)) = True := eq_true (by omega)
       have w4 : IntKind.i64.wrap ((i : Int) + 1) = (i : Int) + 1 := wrap_id (by omega)
       have hst : okI X S d (i + 1) = (okI X S d i || (inF S i && useR X d i)) := by unfold okI; rw [List.range_succ, List.any_append]; simp
       obtain ⟨yi, hyi⟩ : ∃ yi, X.rack.issues.getD i default = yi := ⟨_, rfl⟩
       have hu : useR X d i = (decide (yi.lo ≤ d) && decide (d ≤ yi.hi)) := by unfold useR; rw [hyi]
       cases hb : okI X S d i with
       | true =>
        rw [hb, Bool.true_or] at hst
        simp only [go_sem, @ct E64 43 sHas rfl, sHas, @ct E64 87 sIn rfl, sIn, callSpec, hH, d1, hx0, hii, hi0, hpp, hp0, Int.toNat_natCast, List.length_map, getD_mapN encI X.rack.issues i _ (hLL ▸ hi'), hyi, encI, getD_mapN encS ps p _ hp', hpr, encS]
        refine hK3 (i + 1) _ _ ?_ ⟨hi', hH⟩ (by omega)
        simp only [go_sem, w4, Int.natCast_add, Int.natCast_one, hst]
       | false =>
        rw [hb, Bool.false_or] at hst
        cases hf : inF S i with
        | false =>
         rw [hf, Bool.false_and] at hst
         simp only [go_sem, @ct E64 43 sHas rfl, sHas, @ct E64 87 sIn rfl, sIn, callSpec, hH, d1, hx0, hii, hi0, hpp, hp0, Int.toNat_natCast, List.length_map, getD_mapN encI X.rack.issues i _ (hLL ▸ hi'), hyi, encI, getD_mapN encS ps p _ hp', hpr, encS, hf]
         refine hK3 (i + 1) _ _ ?_ ⟨hi', hH⟩ (by omega)
         simp only [go_sem, w4, Int.natCast_add, Int.natCast_one, hst]
        | true =>
         rw [hf, Bool.true_and, hu] at hst
         simp only [go_sem, @ct E64 43 sHas rfl, sHas, @ct E64 87 sIn rfl, sIn, callSpec, hH, d1, hx0, hii, hi0, hpp, hp0, Int.toNat_natCast, List.length_map, getD_mapN encI X.rack.issues i _ (hLL ▸ hi'), hyi, encI, getD_mapN encS ps p _ hp', hpr, encS, hf]
         refine hK3 (i + 1) _ _ ?_ ⟨hi', hH⟩ (by omega)
         simp only [go_sem, w4, Int.natCast_add, Int.natCast_one, hst]
      ·have hi' : i = L := by have : ¬ ((i : Int) < (L : Int)) := by simpa using h
                              omega
       subst hi'
       refine hE3 _ _ _ (by simp) ?_
       simp only [go_sem]
       generalize hB : okI X S d i = B at hokp
       refine ev_loopS [1, 2, 3, 6, 7, 8, 10] (fun q : Nat => [(11, .bool (B && costOk (opts.take q) p)), (13, .int .i64 (cst (opts.take q) p)), (14, .int .i64 q)]) (fun q H => q ≤ opts.length ∧ (∀ K, H K = H2 K)) (fun q => opts.length - q) 0 ?_ ⟨Nat.zero_le _, hH⟩ ?_
       ·simp only [go_sem, Int.natCast_zero, List.take_zero, costOk, cst, List.all_nil, List.foldl_nil]
       ·simp only [go_sem, List.length_map]
        rintro K4 q H4 ⟨hq, hH4⟩ hK4 hE4
        rw [condK_bool]
        refine ⟨fun h => ?_, fun h => ?_⟩
        ·have hq' : q < opts.length := by have := of_decide_eq_true h; omega
         have hqq : ((q : Int) < (opts.length : Int)) = True := eq_true (by omega)
         have hq0 : (0 ≤ (q : Int)) = True := eq_true (by omega)
         have w5 : IntKind.i64.wrap ((q : Int) + 1) = (q : Int) + 1 := wrap_id (by omega)
         have hca : costOk (opts.take (q + 1)) p = (costOk (opts.take q) p && decide ((opts.getD q default).costs.getD p 0 ≥ 0)) := all_take _ hq'
         have hcs : cst (opts.take (q + 1)) p = cst (opts.take q) p + (opts.getD q default).costs.getD p 0 := foldl_takeM (cstF p) 0 hq'
         have hcl := (hoc _ (getD_mem default hq')).1
         have hb1 := hcb p (q + 1)
         rw [hcs] at hb1
         generalize hoo : opts.getD q default = o at hca hcs hcl hb1
         obtain ⟨⟨⟨o0, o1, o2⟩, o3⟩, o4, o5⟩ := o
         simp only at hca hcs hcl hb1
         have hpl : ((p : Int) < (o5.length : Int)) = True := eq_true (by omega)
         generalize hcc : o5.getD p 0 = c at hca hcs hb1
         have w6 : IntKind.i64.wrap (cst (opts.take q) p + c) = cst (opts.take q) p + c := wrap_id (by omega)
         cases hbc : (B && costOk (opts.take q) p) with
         | false =>
          have hca2 : (B && costOk (opts.take (q + 1)) p) = false := by rw [hca, ← Bool.and_assoc, hbc]; rfl
          simp only [go_sem, hqq, hq0, hp0, hpl, Int.toNat_natCast, List.length_map, getD_mapN encOp opts q _ hq', hoo, encOp, il_length, il_getD, hcc, w6]
          refine hK4 (q + 1) _ _ ?_ ⟨hq', hH4⟩ (by omega)
          simp only [go_sem, w5, Int.natCast_add, Int.natCast_one, hca2, hcs]
         | true =>
          have hca2 : (B && costOk (opts.take (q + 1)) p) = decide (c ≥ 0) := by rw [hca, ← Bool.and_assoc, hbc]; rfl
          simp only [go_sem, hqq, hq0, hp0, hpl, Int.toNat_natCast, List.length_map, getD_mapN encOp opts q _ hq', hoo, encOp, il_length, il_getD, hcc, w6]
          refine hK4 (q + 1) _ _ ?_ ⟨hq', hH4⟩ (by omega)
          simp only [go_sem, w5, Int.natCast_add, Int.natCast_one, hca2, hcs]
        ·have hq' : q = opts.length := by have : ¬ ((q : Int) < (opts.length : Int)) := by simpa using h
                                          omega
         subst hq'
         rw [List.take_length]
         refine hE4 _ _ _ (by simp) ?_
         generalize hcst : cst opts p = c at hokp
         have hr1 := rng_filt (p := okP X ps opts) p
         have hlr : ((List.range p).filter (okP X ps opts)).length ≤ 100 := by
          refine Nat.le_trans (List.length_filter_le _ _) ?_
          rw [List.length_range]; omega
         have h4' := (funext hH4 : H4 = H2)
         subst h4'
         have hskip : okP X ps opts p = false → (List.range p ++ [p]).filter (okP X ps opts) = (List.range p).filter (okP X ps opts) := fun hq => by rw [hr1, hq]; simp
         cases hbc : (B && costOk opts p) with
         | false =>
          rw [hbc, Bool.false_and] at hokp
          have hs := hskip hokp
          simp only [go_sem, @ct E64 43 sHas rfl, sHas, callSpec, d1, hx0]
          refine hK2 (p + 1, pp, pc) _ _ ?_ ⟨hp', d1, d2, d3, d4, by simp only [List.range_succ, hs]; exact d5, by simp only [List.range_succ, hs]; exact d6⟩ (by simp only; omega)
          simp only [go_sem, w3, Int.natCast_add, Int.natCast_one]
         | true =>
          rw [hbc, Bool.true_and] at hokp
          simp only [go_sem, @ct E64 43 sHas rfl, sHas, callSpec, d1, hx0]
          rw [condK_bool]
          refine ⟨fun hc => ?_, fun hc => ?_⟩
          ·rw [hc] at hokp
           obtain ⟨hT5, hC5, hP5, hV5, hU5⟩ := OwnTaint d5
           obtain ⟨hT6, hC6, hP6, hV6, hU6⟩ := OwnTaint d6
           simp only [go_sem, d3, hT5, hC5, hP5, hV5, hU5, hT6, hC6, hP6, hV6, hU6]
           refine app_oneF' trivial rfl rfl (by decide) (by decide) (set_at_eq _ _ _) (d5.frame fun K hK => set_at_ne _ _ (by rw [hK]; simp)) (by rw [il_length, List.length_map]; show (_ + 1) * 8 ≤ _; omega) ⟨rfl, rfl⟩ fun p5 H5 R5 hR5 hO5 hF5 => ?_
           obtain ⟨hT7, hC7, hP7, hV7, hU7⟩ := OwnTaint hO5
           have g3 := (hF5 ([], 114001000) (by simp)).trans ((set_at_ne _ _ (by simp)).trans d3)
           have g6 : Own H5 (fun K => K = ([], 114023009)) pc 1 _ := d6.frame fun K hK => (hF5 K (by rw [hK]; simp)).trans (set_at_ne _ _ (by rw [hK]; simp))
           have hr2 : (List.range p ++ [p]).filter (okP X ps opts) = (List.range p).filter (okP X ps opts) ++ [p] := by rw [hr1, hokp]; simp
           rcases hR5 with rfl | rfl
           all_goals
            simp only [go_sem, hT7, hC7, hP7, hV7, hU7, hT6, hC6, hP6, hV6, hU6, binds_data, g3]
            refine app_oneF' trivial rfl rfl (by decide) (by decide) (set_at_eq _ _ _) (g6.frame fun K hK => set_at_ne _ _ (by rw [hK]; simp)) (by rw [il_length, List.length_map]; show (_ + 1) * 8 ≤ _; omega) ⟨rfl, rfl⟩ fun p6 H6 R6 hR6 hO6 hF6 => ?_
            obtain ⟨hT8, hC8, hP8, hV8, hU8⟩ := OwnTaint hO6
            have k3 := (hF6 ([], 114001000) (by simp)).trans ((set_at_ne _ _ (by simp)).trans g3)
            rcases hR6 with rfl | rfl
            all_goals
             simp only [go_sem, hT7, hC7, hP7, hV7, hU7, hT8, hC8, hP8, hV8, hU8, binds_data, k3]
             have fr : ∀ K : Key, K ≠ ([], 114023008) → K ≠ ([], 114023009) → K ≠ ([], 114023003) → K ≠ ([], 114023004) → H6 K = H4 K := fun K a b c d => (hF6 K b).trans ((set_at_ne _ _ a).trans ((hF5 K d).trans (set_at_ne _ _ c)))
             refine hK2 (p + 1, p5, p6) _ _ ?_ ⟨hp', ?_, ?_, set_at_eq _ _ _, ?_, ?_, ?_⟩ (by simp only; omega)
             ·simp only [go_sem, w3, Int.natCast_add, Int.natCast_one]
             ·exact (set_at_ne _ _ (by simp)).trans ((set_at_ne _ _ (by simp)).trans ((fr _ (by simp) (by simp) (by simp) (by simp)).trans d1))
             ·exact (set_at_ne _ _ (by simp)).trans ((set_at_ne _ _ (by simp)).trans ((fr _ (by simp) (by simp) (by simp) (by simp)).trans d2))
             ·exact d4.frame fun K hK => by
               subst hK
               exact (set_at_ne _ _ (by simp)).trans ((set_at_ne _ _ (by simp)).trans (fr _ (by simp) (by simp) (by simp) (by simp)))
             ·simp only [List.range_succ, hr2, List.map_append, il_append]
              exact hO5.frame fun K hK => by
               subst hK
               exact (set_at_ne _ _ (by simp)).trans ((set_at_ne _ _ (by simp)).trans ((hF6 _ (by simp)).trans (set_at_ne _ _ (by simp))))
             ·simp only [List.range_succ, hr2, List.map_append, il_append, List.map_cons, List.map_nil, hcst]
              exact hO6.frame fun K hK => by
               subst hK
               exact (set_at_ne _ _ (by simp)).trans (set_at_ne _ _ (by simp))
          ·rw [hc] at hokp
           have hs := hskip hokp
           simp only [go_sem]
           refine hK2 (p + 1, pp, pc) _ _ ?_ ⟨hp', d1, d2, d3, d4, by simp only [List.range_succ, hs]; exact d5, by simp only [List.range_succ, hs]; exact d6⟩ (by simp only; omega)
           simp only [go_sem, w3, Int.natCast_add, Int.natCast_one]
    ·have hp' : p = ps.length := by have : ¬ ((p : Int) < (ps.length : Int)) := by simpa using h
                                    omega
     subst hp'
     refine hE2 _ _ _ (by simp) ?_
     have hres : encFn (trR X ps opts) = [.sl ((opts.map (·.line)).map encL) false, .sl (il (((List.range ps.length).filter (okP X ps opts)).map fun (p : Nat) => (p : Int))) false, .sl (il (((List.range ps.length).filter (okP X ps opts)).map (cst opts))) false] := rfl
     rw [hres]
     generalize ((opts.map (·.line)).map encL) = r1 at d4 ⊢
     generalize il (((List.range ps.length).filter (okP X ps opts)).map fun (p : Nat) => (p : Int)) = r2 at d5 ⊢
     generalize il (((List.range ps.length).filter (okP X ps opts)).map (cst opts)) = r3 at d6 ⊢
     rcases d4 with ⟨rfl, rfl⟩ | ⟨K', v, rfl, rfl, q3⟩ <;> rcases d5 with ⟨rfl, rfl⟩ | ⟨K', v5, rfl, rfl, q5⟩ <;> rcases d6 with ⟨rfl, rfl⟩ | ⟨K', v6, rfl, rfl, q6⟩
     all_goals
      first
      | simp only [go_sem, d2, d3, q3, q5, q6]
      | simp only [go_sem, d2, d3, q3, q5]
      | simp only [go_sem, d2, d3, q3, q6]
      | simp only [go_sem, d2, d3, q5, q6]
      | simp only [go_sem, d2, d3, q3]
      | simp only [go_sem, d2, d3, q5]
      | simp only [go_sem, d2, d3, q6]
      | simp only [go_sem, d2, d3]
def t114 : Spec := spec3 (fun (X : Lett) (ps : List (Int × Int)) (opts : List OptR) => GL X ∧ ps.length ≤ 100 ∧ opts.length ≤ 2 ∧ ∀ o ∈ opts, o.costs.length = ps.length ∧ ∀ c ∈ o.costs, -1 ≤ c ∧ c ≤ 100000000) fun X ps opts => .agg (encFn (trR X ps opts))
theorem t114_ok : SpecOK Tryz.prog glB 114 t114 := spec3_ok E64_ok Tryz.func114 rfl (by kernel_rfl) fun X ps opts h => tried_fn X h.1 ps h.2.1 opts h.2.2.1 h.2.2.2
end Wb
