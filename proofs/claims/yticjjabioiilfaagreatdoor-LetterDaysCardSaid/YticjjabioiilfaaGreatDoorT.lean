import Derived.Test.YticjjabioiilfaaGreatDoorY
set_option linter.unusedVariables false
set_option linter.unusedSimpArgs false
namespace Wb
open Go Go.Proofs Enc Row
set_option linter.unusedSimpArgs false
set_option linter.unusedVariables false
set_option maxRecDepth 20000
set_option maxHeartbeats 16000000
noncomputable def E62t : List (Nat × Spec) := [(80, t80), (158, t158), (82, t82)] ++ E61t
theorem E62t_ok : AllOK E62t := ⟨⟨t80_ok, Tryz.call80⟩, ⟨t158_ok, Tryz.call158⟩, ⟨t82_ok, Tryz.call82⟩, E61t_ok⟩
noncomputable def E62 : Env := mkE E62t []
theorem E62_ok : EnvOK Tryz.prog E62 := envOK E62t_ok trivial
theorem E62_ti {t : Nat} : E62.ti t = ti t := rfl
theorem E62_e {t : Nat} : E62.eqt t = eqB t := rfl
theorem E62_k {t : Nat} : E62.keyt t = keyB t := rfl
theorem E62_g {t : Nat} : E62.glob t = glB t := rfl
attribute [go_sem] E62_ti E62_e E62_k E62_g
def manyR (g s c lo hi : Int) : List Line := (List.range (hi - lo + 1).toNat).map fun (q : Nat) => ⟨⟨g, s, c⟩, lo + (q : Int)⟩
def sizeR (y : LLine) (f : Fit) : Bool := if y.sizes.length = 0 then decide ((if y.flo > f.lo then y.flo else f.lo) ≤ (if y.fhi < f.hi then y.fhi else f.hi)) else y.sizes.any fun a => a == f.size
def candF (y : LLine) (e : Entry) (f : Fit) : List Line := if sizeR y f = true then (ofI (bits BinOp.and .i64 e.colours y.colours) 4).flatMap fun c => manyR e.good f.size c y.mlo y.mhi else []
def candE (y : LLine) (e : Entry) : List Line := if (numR false y.digits [0]).any (fun a => a == e.number) = true then e.sizes.flatMap (candF y e) else []
def candR (y : LLine) (is : Issue) : List Line := is.entries.flatMap (candE y)
def meantR (y : LLine) (is : Issue) : List Line := putAll [] (candR y is)
theorem manyR_len {g s c lo hi : Int} (h : hi - lo ≤ 1) : (manyR g s c lo hi).length ≤ 2 := by unfold manyR; rw [List.length_map, List.length_range]; omega
theorem candF_len {y : LLine} (h : y.mhi - y.mlo ≤ 1) (e : Entry) (f : Fit) : (candF y e f).length ≤ 8 := by
 unfold candF
 split
 ·have h1 := flatMap_le (fun c => manyR e.good f.size c y.mlo y.mhi) 2 (ofI (bits BinOp.and .i64 e.colours y.colours) 4) fun c _ => manyR_len h
  have h2 := ofI_len (bits BinOp.and .i64 e.colours y.colours) 4
  omega
 ·simp
theorem candE_len {y : LLine} (h : y.mhi - y.mlo ≤ 1) {e : Entry} (he : e.sizes.length ≤ 8) : (candE y e).length ≤ 64 := by
 unfold candE
 split
 ·have h1 := flatMap_le (candF y e) 8 e.sizes fun f _ => candF_len h e f
  omega
 ·simp
theorem take_flat {α β : Type} (g : α → List β) {n : Nat} (l : List α) (h : ∀ a ∈ l, (g a).length ≤ n) (k : Nat) : ((l.take k).flatMap g).length ≤ n * l.length := by
 have h1 := flatMap_le g n (l.take k) fun a ha => h a (List.mem_of_mem_take ha)
 rw [List.length_take] at h1
 exact Nat.le_trans h1 (by rw [Nat.mul_comm]; exact Nat.mul_le_mul_left _ (Nat.min_le_right ..))
theorem numR_len : ∀ (cs : List Int) (b : Bool) (out : List Int), (numR b cs out).length ≤ out.length * 10 ^ cs.length
 | [], b, out => by simp [numR]
 | c :: cs, b, out => by
  have h1 := numR_len cs true (numStep b c out)
  have h2 := flatMap_le (numG b c) 10 out fun y _ => numG_len b c y
  unfold numR
  refine Nat.le_trans h1 ?_
  rw [List.length_cons, Nat.pow_succ]
  have : (numStep b c out).length ≤ 10 * out.length := by unfold numStep; omega
  calc (numStep b c out).length * 10 ^ cs.length ≤ (10 * out.length) * 10 ^ cs.length := Nat.mul_le_mul_right _ this
   _ = out.length * (10 ^ cs.length * 10) := by rw [Nat.mul_comm 10, Nat.mul_assoc, Nat.mul_comm 10]
theorem meant_fn (X : Lett) (hX : GL X) (s : Nat) (hs : s < X.rack.issues.length) (t : Nat) (ht : t < X.lines.length) : Fn E62 0 140 Tryz.f140 (Tryz.f140.body.getD .skip) [.agg (encLt X), .int .i64 s, .int .i64 t] (.sl ((meantR (X.lines.getD t default) (X.rack.issues.getD s default)).map encL) false) := by
 unfold Fn Tryz.f140
 have hR := hX.rack
 have gy := hR.issues _ (getD_mem default hs)
 have gl := hX.line _ (getD_mem default ht)
 have hN := hX.n
 have hR4 := hR.len
 have hx0 := encLt_lit X
 generalize hyy : X.rack.issues.getD s default = y at gy ⊢
 generalize hll : X.lines.getD t default = ln at gl ⊢
 have hss : ((s : Int) < (X.rack.issues.length : Int)) = True := eq_true (by omega)
 have hs0 : (0 ≤ (s : Int)) = True := eq_true (by omega)
 have htt : ((t : Int) < (X.lines.length : Int)) = True := eq_true (by omega)
 have ht0 : (0 ≤ (t : Int)) = True := eq_true (by omega)
 have hlen := eq_true gl.len.2
 have hmany := gl.many
 have hsz3 := gl.sizes
 have hnl := numR_len ln.digits false [0]
 obtain ⟨ds, ss, q1, q2, q3, q4, q5⟩ := ln
 simp only at hlen hmany hsz3 hnl
 have hnl2 : (numR false ds [0]).length < 4611686018427387904 := by
  have := gl.len.2
  simp only at this
  have hp : 10 ^ ds.length ≤ 10 ^ 4 := Nat.pow_le_pow_right (by omega) this
  simp only [List.length_singleton, Nat.one_mul] at hnl
  omega
 simp only [go_sem, @ct E62 158 t158 rfl, t158, callSpec, hx0, hss, hs0, htt, ht0, Int.toNat_natCast, List.length_map, getD_mapN encLL X.lines t _ ht, hll, encLL, hlen]
 obtain ⟨R, hRe⟩ : ∃ R, R = numR false ds [0] := ⟨_, rfl⟩
 rw [← hRe] at hnl2
 simp only [← hRe]
 obtain ⟨Y, hY⟩ : ∃ Y : LLine, Y = ⟨ds, ss, q1, q2, q3, q4, q5⟩ := ⟨_, rfl⟩
 have hYr : numR false Y.digits [0] = R := by rw [hY, hRe]
 have hmY : Y.mhi - Y.mlo ≤ 1 := by rw [hY]; simp only; omega
 rw [← hY]
 have hPl : ∀ i, ((y.entries.take i).flatMap (candE Y)).length ≤ 64 * y.entries.length := take_flat _ y.entries fun e he => candE_len hmY (gy.entries e he).sizes.2
 have h24 := gy.len
 refine ev_loopS [1, 3, 7, 8] (fun z : Nat × Bool => [(9, .sl ((putAll [] ((y.entries.take z.1).flatMap (candE Y))).map encL) z.2), (10, .int .i64 z.1)]) (fun z H => z.1 ≤ y.entries.length ∧ H ([], 140000000) = some (.cells (encLt X) 1 false) ∧ H ([], 140001005) = some (.cells (encLL Y) 1 false)) (fun z => y.entries.length - z.1) (0, true) ?_ ⟨Nat.zero_le _, ?_, ?_⟩ ?_
 ·simp only [go_sem, Int.natCast_zero, List.take_zero, List.flatMap_nil, putAll, List.foldl_nil, List.map_nil]
 ·simp only [go_sem, hx0]
 ·simp only [go_sem, hY, encLL]
 ·simp only [go_sem]
  rintro K ⟨i, ex⟩ H ⟨hi, h1, h2⟩ hK hE
  simp only at hi
  simp only [go_sem, h1, hx0, hss, hs0, Int.toNat_natCast, List.length_map, getD_mapN encI X.rack.issues s _ hs, hyy, encI]
  rw [condK_bool]
  refine ⟨fun h => ?_, fun h => ?_⟩
  ·have hi' : i < y.entries.length := by have := of_decide_eq_true h; omega
   have hii : ((i : Int) < (y.entries.length : Int)) = True := eq_true (by omega)
   have hi0 : (0 ≤ (i : Int)) = True := eq_true (by omega)
   have w2 : IntKind.i64.wrap ((i : Int) + 1) = (i : Int) + 1 := wrap_id (by omega)
   have ge := gy.entries _ (getD_mem default hi')
   have hfm := flatMap_take (candE Y) hi'
   have hPi := hPl i
   generalize hPP : (y.entries.take i).flatMap (candE Y) = P at hfm hPi
   generalize hee : y.entries.getD i default = e at ge hfm
   have hfR := findI_nonneg (fun a => a == e.number) R 0
   have hR9 := eq_true hnl2
   obtain ⟨e0, e1, e2, e3⟩ := e
   simp only at hfR
   cases hany : R.any (fun a => a == e0) with
   | false =>
    have hce : candE Y ⟨e0, e1, e2, e3⟩ = [] := by unfold candE; rw [hYr]; simp only [hany]; rfl
    rw [hce, List.append_nil] at hfm
    rw [hany] at hfR
    have hlt : (findI (fun a => a == e0) R 0 < 0) = True := eq_true (by have := of_decide_eq_false hfR; omega)
    simp only [go_sem, @ct E62 96 sPlace rfl, sPlace, callSpec, h1, h2, hx0, hss, hs0, hii, hi0, Int.toNat_natCast, List.length_map, getD_mapN encI X.rack.issues s _ hs, hyy, encI, getD_mapN encE y.entries i _ hi', hee, encE, dZ_il, hR9, hlt]
    refine hK (i + 1, ex) _ _ ?_ ⟨hi', ?_, ?_⟩ (by simp only; omega)
    ·simp only [go_sem, w2, Int.natCast_add, Int.natCast_one, hfm]
    ·simp only [go_sem, h1, hx0]
    ·simp only [go_sem, h2, hY]
   | true =>
    have hce : candE Y ⟨e0, e1, e2, e3⟩ = e3.flatMap (candF Y ⟨e0, e1, e2, e3⟩) := by unfold candE; rw [hYr]; simp only [hany]; rfl
    rw [hce] at hfm
    rw [hany] at hfR
    have hlt : (findI (fun a => a == e0) R 0 < 0) = False := eq_false (by have := of_decide_eq_true hfR; omega)
    have h8 := ge.sizes.2
    simp only at h8
    simp only [go_sem, @ct E62 96 sPlace rfl, sPlace, callSpec, h1, h2, hx0, hss, hs0, hii, hi0, Int.toNat_natCast, List.length_map, getD_mapN encI X.rack.issues s _ hs, hyy, encI, getD_mapN encE y.entries i _ hi', hee, encE, dZ_il, hR9, hlt]
    generalize hv : verOf H ([], 140007010) + 1 = v
    have hQl : ∀ k, ((e3.take k).flatMap (candF Y ⟨e0, e1, e2, e3⟩)).length ≤ 8 * e3.length := take_flat _ e3 fun f hf => candF_len hmY _ f
    refine ev_loopS [1, 3, 7, 8, 10, 11] (fun z : Nat × Bool => [(9, .sl ((putAll [] (P ++ (e3.take z.1).flatMap (candF Y ⟨e0, e1, e2, e3⟩))).map encL) z.2), (12, .int .i64 z.1)]) (fun z H => z.1 ≤ e3.length ∧ H ([], 140000000) = some (.cells (encLt X) 1 false) ∧ H ([], 140001005) = some (.cells (encLL Y) 1 false) ∧ H ([], 140007010) = some (.cells (encE ⟨e0, e1, e2, e3⟩) v false)) (fun z => e3.length - z.1) (0, ex) ?_ ⟨Nat.zero_le _, ?_, ?_, ?_⟩ ?_
    ·simp only [go_sem, Int.natCast_zero, List.take_zero, List.flatMap_nil, List.append_nil, hPP]
    ·simp only [go_sem, h1, hx0]
    ·simp only [go_sem, h2, hY]
    ·simp only [go_sem, encE]
    ·simp only [go_sem]
     rintro K2 ⟨k, ex2⟩ H2 ⟨hk, k1, k2, k3⟩ hK2 hE2
     simp only at hk
     simp only [go_sem, k3, encE, List.length_map]
     rw [condK_bool]
     refine ⟨fun h => ?_, fun h => ?_⟩
     ·have hk' : k < e3.length := by have := of_decide_eq_true h; omega
      have hkk : ((k : Int) < (e3.length : Int)) = True := eq_true (by omega)
      have hk0 : (0 ≤ (k : Int)) = True := eq_true (by omega)
      have w3 : IntKind.i64.wrap ((k : Int) + 1) = (k : Int) + 1 := wrap_id (by omega)
      have hf2 := flatMap_take (candF Y ⟨e0, e1, e2, e3⟩) hk'
      have hQk := hQl k
      have hP2l : (P ++ (e3.take k).flatMap (candF Y ⟨e0, e1, e2, e3⟩)).length ≤ 1600 := by rw [List.length_append]; omega
      generalize hP2 : P ++ (e3.take k).flatMap (candF Y ⟨e0, e1, e2, e3⟩) = P2 at hP2l
      generalize hff : e3.getD k default = f at hf2
      obtain ⟨f0, f1, f2, f3⟩ := f
      obtain ⟨b, hb⟩ : ∃ b, sizeR Y ⟨f0, f1, f2, f3⟩ = b := ⟨_, rfl⟩
      obtain ⟨C, hC⟩ : ∃ C, C = ofI (bits BinOp.and .i64 e2 q3) 4 := ⟨_, rfl⟩
      have hC4 : C.length ≤ 4 := by rw [hC]; exact ofI_len _ 4
      have hss9 : (ss.length < 4611686018427387904) = True := eq_true (by omega)
      have hcf : candF Y ⟨e0, e1, e2, e3⟩ ⟨f0, f1, f2, f3⟩ = if b = true then C.flatMap (fun c => manyR e1 f0 c q4 q5) else [] := by unfold candF; rw [hb, hC, hY]
      rw [hcf] at hf2
      clear hcf
      by_cases hz : ss.length = 0
      case' pos =>
       have hb' : decide ((if q1 > f1 then q1 else f1) ≤ (if q2 < f2 then q2 else f2)) = b := by rw [← hb]; unfold sizeR; rw [hY]; simp only [hz, if_true]
       have hz1 : ((ss.length : Int) == 0) = true := by rw [hz]; rfl
       simp only [go_sem, @ct E62 96 sPlace rfl, sPlace, @ct E62 53 t53 rfl, t53, @ct E62 159 sCommon rfl, sCommon, callSpec, k2, k3, hY, encE, encF, encLL, hkk, hk0, Int.toNat_natCast, List.length_map, il_length, dZ_il, getD_mapN encF e3 k _ hk', hff, hss9, hz1, hb', ← hC]
      case' neg =>
       have hb' : ss.any (fun a => a == f0) = b := by rw [← hb]; unfold sizeR; rw [hY]; simp only [hz, if_false]
       have hz1 : ((ss.length : Int) == 0) = false := by simpa using hz
       simp only [go_sem, @ct E62 96 sPlace rfl, sPlace, @ct E62 53 t53 rfl, t53, @ct E62 159 sCommon rfl, sCommon, callSpec, k2, k3, hY, encE, encF, encLL, hkk, hk0, Int.toNat_natCast, List.length_map, il_length, dZ_il, getD_mapN encF e3 k _ hk', hff, hss9, hz1, findI_nonneg, hb', ← hC]
      all_goals
       clear hb'
       generalize hv2 : verOf H2 ([], 140012005) + 1 = v2
       cases b with
       | false =>
        rw [if_neg (by simp), List.append_nil] at hf2
        refine ev_loopS [1, 3, 7, 8, 9, 10, 11, 12, 13, 14, 16] (fun j : Nat => [(17, .int .i64 j)]) (fun j H => j ≤ 0 ∧ H ([], 140000000) = some (.cells (encLt X) 1 false) ∧ H ([], 140001005) = some (.cells (encLL Y) 1 false) ∧ H ([], 140007010) = some (.cells (encE ⟨e0, e1, e2, e3⟩) v false) ∧ H ([], 140012005) = some (.cells (encF ⟨f0, f1, f2, f3⟩) v2 false)) (fun _ => 0) 0 ?_ ⟨Nat.le_refl _, ?_, ?_, ?_, ?_⟩ ?_
        ·simp only [go_sem, Int.natCast_zero]
        ·simp only [go_sem, k1, hx0]
        ·simp only [go_sem, k2]
        ·simp only [go_sem, k3]
        ·simp only [go_sem, encF]
        ·simp only [go_sem]
         rintro K3 j H3 ⟨hj, j1, j2, j3, j4⟩ hE3
         refine hE3 _ _ _ (by simp) ?_
         simp only [go_sem]
         refine hK2 (k + 1, ex2) _ _ ?_ ⟨hk', j1, j2, j3⟩ (by simp only; omega)
         simp only [go_sem, w3, Int.natCast_add, Int.natCast_one, hf2, hP2]
       | true =>
        rw [if_pos rfl] at hf2
        have hML : ∀ j, ((C.take j).flatMap fun c => manyR e1 f0 c q4 q5).length ≤ 2 * C.length := take_flat _ C fun c _ => manyR_len (by omega)
        refine ev_loopS [1, 3, 7, 8, 10, 11, 12, 13, 14, 16] (fun z : Nat × Bool => [(9, .sl ((putAll [] (P2 ++ (C.take z.1).flatMap fun c => manyR e1 f0 c q4 q5)).map encL) z.2), (17, .int .i64 z.1)]) (fun z H => z.1 ≤ C.length ∧ H ([], 140000000) = some (.cells (encLt X) 1 false) ∧ H ([], 140001005) = some (.cells (encLL Y) 1 false) ∧ H ([], 140007010) = some (.cells (encE ⟨e0, e1, e2, e3⟩) v false) ∧ H ([], 140012005) = some (.cells (encF ⟨f0, f1, f2, f3⟩) v2 false)) (fun z => C.length - z.1) (0, ex2) ?_ ⟨Nat.zero_le _, ?_, ?_, ?_, ?_⟩ ?_
        ·simp only [go_sem, Int.natCast_zero, List.take_zero, List.flatMap_nil, List.append_nil, hP2]
        ·simp only [go_sem, k1, hx0]
        ·simp only [go_sem, k2]
        ·simp only [go_sem, k3]
        ·simp only [go_sem, encF]
        ·simp only [go_sem]
         rintro K3 ⟨j, ex3⟩ H3 ⟨hj, j1, j2, j3, j4⟩ hK3 hE3
         simp only at hj
         simp only [go_sem, il_length]
         rw [condK_bool]
         refine ⟨fun h => ?_, fun h => ?_⟩
         ·have hj' : j < C.length := by have := of_decide_eq_true h; omega
          have hjj : ((j : Int) < (C.length : Int)) = True := eq_true (by omega)
          have hj0 : (0 ≤ (j : Int)) = True := eq_true (by omega)
          have w4 : IntKind.i64.wrap ((j : Int) + 1) = (j : Int) + 1 := wrap_id (by omega)
          have hf3 := flatMap_take (fun c => manyR e1 f0 c q4 q5) hj'
          rw [show (default : Int) = 0 from rfl] at hf3
          have hMj := hML j
          have hP3l : (P2 ++ (C.take j).flatMap fun c => manyR e1 f0 c q4 q5).length ≤ 1700 := by rw [List.length_append]; omega
          have hP3' : putAll [] (P2 ++ (C.take (j + 1)).flatMap fun c => manyR e1 f0 c q4 q5) = putAll [] ((P2 ++ (C.take j).flatMap fun c => manyR e1 f0 c q4 q5) ++ manyR e1 f0 (C.getD j 0) q4 q5) := by rw [hf3, List.append_assoc]
          generalize hP3 : (P2 ++ (C.take j).flatMap fun c => manyR e1 f0 c q4 q5) = P3 at hP3l hP3'
          generalize hcc : C.getD j 0 = c at hP3'
          obtain ⟨N, hN⟩ : ∃ N, N = (q5 - q4 + 1).toNat := ⟨_, rfl⟩
          have hNq : (N : Int) = q5 - q4 + 1 := by rw [hN]; omega
          have hg : manyR e1 f0 c q4 q5 = (List.range N).map fun (q : Nat) => (⟨⟨e1, f0, c⟩, q4 + (q : Int)⟩ : Line) := by unfold manyR; rw [← hN]
          rw [hg] at hP3'
          simp only [go_sem, j2, hY, encLL]
          refine ev_loopS [1, 3, 7, 8, 10, 11, 12, 13, 14, 16, 17] (fun z : Nat × Bool => [(9, .sl ((putAll [] (P3 ++ (List.range z.1).map fun (q : Nat) => (⟨⟨e1, f0, c⟩, q4 + (q : Int)⟩ : Line))).map encL) z.2), (18, .int .i64 (q4 + z.1))]) (fun z H => z.1 ≤ N ∧ H ([], 140000000) = some (.cells (encLt X) 1 false) ∧ H ([], 140001005) = some (.cells (encLL Y) 1 false) ∧ H ([], 140007010) = some (.cells (encE ⟨e0, e1, e2, e3⟩) v false) ∧ H ([], 140012005) = some (.cells (encF ⟨f0, f1, f2, f3⟩) v2 false)) (fun z => N - z.1) (0, ex3) ?_ ⟨Nat.zero_le _, ?_, ?_, ?_, ?_⟩ ?_
          ·simp only [go_sem, Int.natCast_zero, List.range_zero, List.map_nil, List.append_nil, hP3, Int.add_zero]
          ·simp only [go_sem, j1, hx0]
          ·simp only [go_sem, j2]
          ·simp only [go_sem, j3]
          ·simp only [go_sem, j4]
          ·simp only [go_sem]
           rintro K4 ⟨n, ex4⟩ H4 ⟨hn, n1, n2, n3, n4⟩ hK4 hE4
           simp only at hn
           simp only [go_sem, n2, hY, encLL]
           rw [condK_bool]
           refine ⟨fun h => ?_, fun h => ?_⟩
           ·have hn' : n < N := by have := of_decide_eq_true h; omega
            have w5 : IntKind.i64.wrap (q4 + (n : Int) + 1) = q4 + ((n + 1 : Nat) : Int) := by rw [wrap_id (by omega)]; omega
            have hstep : putAll [] (P3 ++ (List.range n ++ [n]).map fun (q : Nat) => (⟨⟨e1, f0, c⟩, q4 + (q : Int)⟩ : Line)) = putL (putAll [] (P3 ++ (List.range n).map fun (q : Nat) => (⟨⟨e1, f0, c⟩, q4 + (q : Int)⟩ : Line))) ⟨⟨e1, f0, c⟩, q4 + (n : Int)⟩ := by
             rw [List.map_append, ← List.append_assoc, putAll_append]; rfl
            have hol := putAll_len (P3 ++ (List.range n).map fun (q : Nat) => (⟨⟨e1, f0, c⟩, q4 + (q : Int)⟩ : Line)) []
            simp only [List.length_append, List.length_map, List.length_range, List.length_nil] at hol
            generalize hO : putAll [] (P3 ++ (List.range n).map fun (q : Nat) => (⟨⟨e1, f0, c⟩, q4 + (q : Int)⟩ : Line)) = O at hstep hol
            have hO9 : (O.length ≤ 1000000) = True := eq_true (by omega)
            have hdl := dec_line2 ⟨⟨e1, f0, c⟩, q4 + (n : Int)⟩
            simp only [encL] at hdl
            simp only [go_sem, @ct E62 82 t82 rfl, t82, callSpec, n3, n4, encE, encF, hjj, hj0, Int.toNat_natCast, il_length, il_getD, hcc, dec_lines, hdl, hO9]
            refine hK4 (n + 1, false) _ _ ?_ ⟨by simp only; omega, n1, n2, ?_, ?_⟩ (by simp only; omega)
            ·simp only [go_sem, w5, hstep]
            ·simp only [go_sem, n3, encE]
            ·simp only [go_sem, n4, encF]
           ·have hn' : n = N := by have : ¬ (q4 + (n : Int) ≤ q5) := by simpa using h
                                   omega
            subst hn'
            refine hE4 _ _ _ (by simp) ?_
            simp only [go_sem]
            refine hK3 (j + 1, ex4) _ _ ?_ ⟨hj', n1, n2, n3, n4⟩ (by simp only; omega)
            simp only [go_sem, w4, Int.natCast_add, Int.natCast_one, hP3']
         ·have hj' : j = C.length := by have : ¬ ((j : Int) < (C.length : Int)) := by simpa using h
                                        omega
          subst hj'
          rw [List.take_length]
          refine hE3 _ _ _ (by simp) ?_
          simp only [go_sem]
          have hP4 : P ++ (e3.take (k + 1)).flatMap (candF Y ⟨e0, e1, e2, e3⟩) = P2 ++ C.flatMap fun c => manyR e1 f0 c q4 q5 := by rw [hf2, ← List.append_assoc, hP2]
          refine hK2 (k + 1, ex3) _ _ ?_ ⟨hk', j1, j2, j3⟩ (by simp only; omega)
          simp only [go_sem, w3, Int.natCast_add, Int.natCast_one, hP4]
     ·have hk' : k = e3.length := by have : ¬ ((k : Int) < (e3.length : Int)) := by simpa using h
                                     omega
      subst hk'
      rw [List.take_length, ← hfm]
      refine hE2 _ _ _ (by simp) ?_
      simp only [go_sem]
      refine hK (i + 1, ex2) _ _ ?_ ⟨hi', k1, k2⟩ (by simp only; omega)
      simp only [go_sem, w2, Int.natCast_add, Int.natCast_one]
  ·have hi' : i = y.entries.length := by have : ¬ ((i : Int) < (y.entries.length : Int)) := by simpa using h
                                         omega
   subst hi'
   refine hE _ _ _ (by simp) ?_
   simp only [go_sem, List.take_length, meantR, candR]
def t140 : Spec := spec3 (fun (X : Lett) (s t : Int) => GL X ∧ (0 ≤ s ∧ s < X.rack.issues.length) ∧ (0 ≤ t ∧ t < X.lines.length)) fun X s t => .sl ((meantR (X.lines.getD t.toNat default) (X.rack.issues.getD s.toNat default)).map encL) false
theorem t140_ok : SpecOK Tryz.prog glB 140 t140 := spec3_ok E62_ok Tryz.func140 rfl (by kernel_rfl) fun X s t h => by
 obtain ⟨m, rfl⟩ := Int.eq_ofNat_of_zero_le h.2.1.1
 obtain ⟨n, rfl⟩ := Int.eq_ofNat_of_zero_le h.2.2.1
 exact meant_fn X h.1 m (by have := h.2.1.2; omega) n (by have := h.2.2.2; omega)
end Wb
