import Derived.Test.YticjjabioiilfaaGreatDoorG
import Derived.Test.YticjjabioiilfaaGreatDoorF
import Derived.Test.YticjjabioiilfaaGreatDoorB
set_option linter.unusedVariables false
set_option linter.unusedSimpArgs false
namespace Wb
open Go Go.Proofs Enc Row
set_option linter.unusedSimpArgs false
set_option linter.unusedVariables false
set_option maxRecDepth 20000
set_option maxHeartbeats 4000000
structure LLine where
 digits : List Int
 sizes : List Int
 flo : Int
 fhi : Int
 colours : Int
 mlo : Int
 mhi : Int
 deriving Inhabited, DecidableEq
structure Lett where
 rack : Rack
 dlo : Int
 dhi : Int
 lines : List LLine
 clo : Int
 chi : Int
 deriving Inhabited, DecidableEq
structure Ord2 where
 a : Line
 b : Line
 deriving Inhabited, DecidableEq
structure Fnd where
 lo : Int
 hi : Int
 clo : Int
 chi : Int
 deriving Inhabited, DecidableEq
def encLL (x : LLine) : List PV := [.sl (il x.digits) false, .sl (il x.sizes) false, .int .i64 x.flo, .int .i64 x.fhi, .int .i64 x.colours, .int .i64 x.mlo, .int .i64 x.mhi]
def dLL : List PV → Option LLine
 | [.sl ds _, .sl ss _, .int .i64 a, .int .i64 b, .int .i64 c, .int .i64 d, .int .i64 e] => match dL dZ ds, dL dZ ss with
  | some x, some y => some ⟨x, y, a, b, c, d, e⟩
  | _, _ => none
 | _ => none
theorem dLL_enc (x : LLine) : dLL (encLL x) = some x := by simp [dLL, encLL, dZ_il]
theorem dLL_wk (r : List PV) (x : LLine) (h : dLL r = some x) : wk.wkL r (encLL x) := by
 unfold dLL at h
 split at h
 ·split at h
  ·rename_i h1 h2
   cases h
   exact ⟨⟨dZ_wk h1, fun h => by cases h⟩, ⟨dZ_wk h2, fun h => by cases h⟩, rfl, rfl, rfl, rfl, rfl, trivial⟩
  ·cases h
 ·cases h
instance : Row LLine where
 row := encLL
 drow := dLL
 wk_drow := dLL_wk
 drow_row := dLL_enc
instance : Enc LLine := encOfRow LLine
def encLt (x : Lett) : List PV := [.int .i64 x.rack.goods, .sl (x.rack.issues.map encI) false, .int .i64 x.dlo, .int .i64 x.dhi, .sl (x.lines.map encLL) false, .int .i64 x.clo, .int .i64 x.chi]
def dLt : List PV → Option Lett
 | [.int .i64 g, .sl is _, .int .i64 a, .int .i64 b, .sl ls _, .int .i64 c, .int .i64 d] => match dL dI is, dL dLL ls with
  | some x, some y => some ⟨⟨g, x⟩, a, b, y, c, d⟩
  | _, _ => none
 | _ => none
theorem dLL_map (l : List LLine) : dL dLL (l.map encLL) = some l := dL_map dLL_enc l
theorem dLt_enc (x : Lett) : dLt (encLt x) = some x := by simp [dLt, encLt, dI_map, dLL_map]
theorem dLt_wk (r : List PV) (x : Lett) (h : dLt r = some x) : wk.wkL r (encLt x) := by
 unfold dLt at h
 split at h
 ·split at h
  ·rename_i h1 h2
   cases h
   exact ⟨rfl, ⟨dL_wk dI_wk h1, fun h => by cases h⟩, rfl, rfl, ⟨dL_wk dLL_wk h2, fun h => by cases h⟩, rfl, rfl, trivial⟩
  ·cases h
 ·cases h
instance : Row Lett where
 row := encLt
 drow := dLt
 wk_drow := dLt_wk
 drow_row := dLt_enc
instance : Enc Lett := encOfRow Lett
def encO (x : Ord2) : List PV := encL x.a ++ encL x.b
def dO : List PV → Option Ord2
 | [.int .i64 a, .int .i64 b, .int .i64 c, .int .i64 d, .int .i64 e, .int .i64 f, .int .i64 g, .int .i64 h] => some ⟨⟨⟨a, b, c⟩, d⟩, ⟨⟨e, f, g⟩, h⟩⟩
 | _ => none
instance : Row Ord2 where
 row := encO
 drow := dO
 wk_drow r a h := by unfold dO at h; split at h <;> cases h; exact wkL_refl _
 drow_row _ := rfl
instance : Enc Ord2 := encOfRow Ord2
def encFd (x : Fnd) : List PV := [.int .i64 x.lo, .int .i64 x.hi, .int .i64 x.clo, .int .i64 x.chi]
def dFd : List PV → Option Fnd
 | [.int .i64 a, .int .i64 b, .int .i64 c, .int .i64 d] => some ⟨a, b, c, d⟩
 | _ => none
instance : Row Fnd where
 row := encFd
 drow := dFd
 wk_drow r a h := by unfold dFd at h; split at h <;> cases h; exact wkL_refl _
 drow_row _ := rfl
instance : Enc Fnd := encOfRow Fnd
structure LCalc where
 x : Lett
 es : List (List Int × PV)
def encLC (c : LCalc) : List PV := encLt c.x ++ [.mp true 2 c.es]
def dLC : PV → Option LCalc
 | .agg [.int .i64 g, .sl is _, .int .i64 a, .int .i64 b, .sl ls _, .int .i64 c, .int .i64 d, .mp true 2 es] => match dL dI is, dL dLL ls with
  | some x, some y => some ⟨⟨⟨g, x⟩, a, b, y, c, d⟩, es⟩
  | _, _ => none
 | _ => none
instance : Enc LCalc where
 enc c := .agg (encLC c)
 dec := dLC
 wk_dec p c h := by
  unfold dLC at h
  split at h
  ·split at h
   ·rename_i h1 h2
    cases h
    exact ⟨rfl, ⟨dL_wk dI_wk h1, fun h => by cases h⟩, rfl, rfl, ⟨dL_wk dLL_wk h2, fun h => by cases h⟩, rfl, rfl, wk_refl _, trivial⟩
   ·cases h
  ·cases h
 dec_enc c := by simp [dLC, encLC, encLt, dI_map, dLL_map]
structure Bs where
 l : List Bool
def encBs (l : List Bool) : List PV := l.map fun b => .bool b
def dBl : List PV → Option (List Bool)
 | [] => some []
 | .bool b :: l => (dBl l).map (b :: ·)
 | _ => none
theorem dBl_enc : ∀ l : List Bool, dBl (encBs l) = some l
 | [] => rfl
 | b :: l => by
  have := dBl_enc l
  simp only [encBs, List.map_cons, dBl] at *
  rw [this]; rfl
theorem dBl_wk : ∀ (r : List PV) (l : List Bool), dBl r = some l → r = encBs l
 | [], l, h => by simp only [dBl] at h; cases h; rfl
 | p :: r, l, h => by
  unfold dBl at h
  split at h
  ·rename_i e; cases e
  ·rename_i b l' e
   cases e
   simp only [Option.map_eq_some_iff] at h
   obtain ⟨m, h1, rfl⟩ := h
   rw [dBl_wk _ _ h1]; rfl
  ·cases h
def dBs : PV → Option Bs
 | .agg r => (dBl r).map Bs.mk
 | _ => none
instance : Enc Bs where
 enc x := .agg (encBs x.l)
 dec := dBs
 wk_dec p a h := by
  unfold dBs at h
  split at h
  ·simp only [Option.map_eq_some_iff] at h
   obtain ⟨l, h1, rfl⟩ := h
   rw [dBl_wk _ _ h1]
   exact wk_refl _
  ·cases h
 dec_enc x := by simp [dBs, dBl_enc]
theorem dec_letter' (g : Int) (is : List Issue) (a b : Int) (ls : List LLine) (c d : Int) (e1 e2 : Bool) : (dec (.agg [.int .i64 g, .sl (is.map encI) e1, .int .i64 a, .int .i64 b, .sl (ls.map encLL) e2, .int .i64 c, .int .i64 d]) : Option Lett) = some ⟨⟨g, is⟩, a, b, ls, c, d⟩ := by
 show dAgg _ = _
 simp only [dAgg]
 show dLt _ = _
 simp only [dLt, dI_map, dLL_map]
theorem dec_letter (x : Lett) : (dec (.agg (encLt x)) : Option Lett) = some x := Enc.dec_enc x
theorem dec_lline' (ds ss : List Int) (a b c d e : Int) (e1 e2 : Bool) : (dec (.agg [.sl (il ds) e1, .sl (il ss) e2, .int .i64 a, .int .i64 b, .int .i64 c, .int .i64 d, .int .i64 e]) : Option LLine) = some ⟨ds, ss, a, b, c, d, e⟩ := by
 show dAgg _ = _
 simp only [dAgg]
 show dLL _ = _
 simp only [dLL, dZ_il]
theorem dec_lline (x : LLine) : (dec (.agg (encLL x)) : Option LLine) = some x := Enc.dec_enc x
theorem dec_bs (l : List Bool) : (dec (.agg (encBs l)) : Option Bs) = some ⟨l⟩ := Enc.dec_enc (⟨l⟩ : Bs)
attribute [go_sem] dec_letter' dec_letter dec_lline' dec_lline dec_bs
theorem ltwithin_fn (n a b : Int) : Fn E20 0 67 Tryz.f67 (Tryz.f67.body.getD .skip) [.int .i64 n, .int .i64 a, .int .i64 b] (.bool (decide (a ≤ n) && decide (n ≤ b))) := by
 unfold Fn Tryz.f67
 simp only [go_sem]
theorem t67_ok : SpecOK Tryz.prog glB 67 sTween := specOK_of E20_ok Tryz.func67 (by kernel_rfl) fun args pre r h hp => by
 unfold sTween at h; split at h <;> cases h; exact ⟨_, _, wkL_refl _, rfl, ltwithin_fn _ _ _ ⟩
def E21t : List (Nat × Spec) := [(67, sTween)] ++ E20t
theorem E21t_ok : AllOK E21t := ⟨⟨t67_ok, Tryz.call67⟩, E20t_ok⟩
noncomputable def E21 : Env := mkE E21t []
theorem E21_ok : EnvOK Tryz.prog E21 := envOK E21t_ok trivial
theorem E21_ti {t : Nat} : E21.ti t = ti t := rfl
theorem E21_e {t : Nat} : E21.eqt t = eqB t := rfl
theorem E21_k {t : Nat} : E21.keyt t = keyB t := rfl
theorem E21_g {t : Nat} : E21.glob t = glB t := rfl
attribute [go_sem] E21_ti E21_e E21_k E21_g
def dig (c : Int) (i : Nat) : List PV := [.bool (decide (0 < i) && inF c 0), .bool (decide (1 < i) && inF c 1), .bool (decide (2 < i) && inF c 2), .bool (decide (3 < i) && inF c 3), .bool (decide (4 < i) && inF c 4), .bool (decide (5 < i) && inF c 5), .bool (decide (6 < i) && inF c 6), .bool (decide (7 < i) && inF c 7), .bool (decide (8 < i) && inF c 8), .bool (decide (9 < i) && inF c 9)]
def readB (c : Int) : List Bool := [inF c 0, inF c 1, inF c 2, inF c 3, inF c 4, inF c 5, inF c 6, inF c 7, inF c 8, inF c 9]
theorem dig_read (c : Int) : dig c 10 = encBs (readB c) := rfl
theorem read_fn (c : Int) : Fn E21 0 111 Tryz.f111 (Tryz.f111.body.getD .skip) [.int .i64 c] (.agg (encBs (readB c))) := by
 unfold Fn Tryz.f111
 rw [← dig_read]
 simp only [go_sem]
 refine ev_loopS [0, 2, 3] (fun i : Nat => [(5, .int .i64 i)]) (fun i H => i ≤ 10 ∧ H (([], 111000000) : Key) = some (.cells (dig 0 0) 1 false) ∧ H (([], 111001000) : Key) = some (.cells (dig c i) 1 false)) (fun i => 10 - i) 0 ?_ ⟨by omega, ?_, ?_⟩ ?_
 ·simp only [go_sem, Int.natCast_zero]
 ·simp only [go_sem, dig]
 ·simp only [go_sem, dig]
 ·simp only [go_sem]
  intro K i H ⟨hi, h2, h3⟩ hK hE
  have hc : i = 0 ∨ i = 1 ∨ i = 2 ∨ i = 3 ∨ i = 4 ∨ i = 5 ∨ i = 6 ∨ i = 7 ∨ i = 8 ∨ i = 9 ∨ i = 10 := by omega
  rcases hc with rfl | rfl | rfl | rfl | rfl | rfl | rfl | rfl | rfl | rfl | rfl
  ·simp only [go_sem, h2, h3, dig, Int.cast_ofNat_Int]
   refine hK 1 _ _ ?_ ⟨by omega, ?_, ?_⟩ (by omega)
   ·simp only [go_sem]; rfl
   ·simp only [go_sem, h2, dig]
   ·simp only [go_sem, dig, inF]
  ·simp only [go_sem, h2, h3, dig, Int.cast_ofNat_Int]
   refine hK 2 _ _ ?_ ⟨by omega, ?_, ?_⟩ (by omega)
   ·simp only [go_sem]; rfl
   ·simp only [go_sem, h2, dig]
   ·simp only [go_sem, dig, inF]
  ·simp only [go_sem, h2, h3, dig, Int.cast_ofNat_Int]
   refine hK 3 _ _ ?_ ⟨by omega, ?_, ?_⟩ (by omega)
   ·simp only [go_sem]; rfl
   ·simp only [go_sem, h2, dig]
   ·simp only [go_sem, dig, inF]
  ·simp only [go_sem, h2, h3, dig, Int.cast_ofNat_Int]
   refine hK 4 _ _ ?_ ⟨by omega, ?_, ?_⟩ (by omega)
   ·simp only [go_sem]; rfl
   ·simp only [go_sem, h2, dig]
   ·simp only [go_sem, dig, inF]
  ·simp only [go_sem, h2, h3, dig, Int.cast_ofNat_Int]
   refine hK 5 _ _ ?_ ⟨by omega, ?_, ?_⟩ (by omega)
   ·simp only [go_sem]; rfl
   ·simp only [go_sem, h2, dig]
   ·simp only [go_sem, dig, inF]
  ·simp only [go_sem, h2, h3, dig, Int.cast_ofNat_Int]
   refine hK 6 _ _ ?_ ⟨by omega, ?_, ?_⟩ (by omega)
   ·simp only [go_sem]; rfl
   ·simp only [go_sem, h2, dig]
   ·simp only [go_sem, dig, inF]
  ·simp only [go_sem, h2, h3, dig, Int.cast_ofNat_Int]
   refine hK 7 _ _ ?_ ⟨by omega, ?_, ?_⟩ (by omega)
   ·simp only [go_sem]; rfl
   ·simp only [go_sem, h2, dig]
   ·simp only [go_sem, dig, inF]
  ·simp only [go_sem, h2, h3, dig, Int.cast_ofNat_Int]
   refine hK 8 _ _ ?_ ⟨by omega, ?_, ?_⟩ (by omega)
   ·simp only [go_sem]; rfl
   ·simp only [go_sem, h2, dig]
   ·simp only [go_sem, dig, inF]
  ·simp only [go_sem, h2, h3, dig, Int.cast_ofNat_Int]
   refine hK 9 _ _ ?_ ⟨by omega, ?_, ?_⟩ (by omega)
   ·simp only [go_sem]; rfl
   ·simp only [go_sem, h2, dig]
   ·simp only [go_sem, dig, inF]
  ·simp only [go_sem, h2, h3, dig, Int.cast_ofNat_Int]
   refine hK 10 _ _ ?_ ⟨by omega, ?_, ?_⟩ (by omega)
   ·simp only [go_sem]; rfl
   ·simp only [go_sem, h2, dig]
   ·simp only [go_sem, dig, inF]
  ·simp only [go_sem, h2, h3, dig, Int.cast_ofNat_Int]
   refine hE _ _ _ (by simp) ?_
   simp only [go_sem, h2, h3, dig]
def t111 : Spec := spec1 (fun (_ : Int) => True) (fun c => .agg (encBs (readB c)))
theorem t111_ok : SpecOK Tryz.prog glB 111 t111 := spec1_ok E21_ok Tryz.func111 rfl (by kernel_rfl) fun c _ => read_fn c
def countF (l : List Bool) : Nat := (l.filter id).length
theorem countF_take {l : List Bool} {i : Nat} (h : i < l.length) : countF (l.take (i + 1)) = countF (l.take i) + (if l.getD i false then 1 else 0) := by
 have e : l.getD i false = l[i] := by simp [h]
 unfold countF
 rw [e, List.take_succ_eq_append_getElem h, List.filter_append, List.length_append, List.filter_cons]
 cases l[i] <;> simp
theorem countF_le (l : List Bool) : countF l ≤ l.length := by unfold countF; exact List.length_filter_le _ _
theorem encBs_getD (l : List Bool) (i : Nat) (z : PV) (h : i < l.length) : (encBs l).getD i z = .bool (l.getD i false) := by
 simp [encBs, List.getD_eq_getElem?_getD, h]
theorem encBs_cells (l : List Bool) : cells1 (encBs l) = true := by
 induction l with
 | nil => rfl
 | cons b l ih => simp only [encBs, List.map_cons, cells1, cellP, Bool.true_and] at *; exact ih
theorem encBs_len (l : List Bool) : (encBs l).length = l.length := by simp [encBs]
theorem many_fn (l : List Bool) (hl : l.length = 10) : Fn E21 0 112 Tryz.f112 (Tryz.f112.body.getD .skip) [.agg (encBs l)] (.int .i64 (countF l)) := by
 unfold Fn Tryz.f112
 have hel : (encBs l).length = 10 := by rw [encBs_len, hl]
 have het : (encBs l).take 10 = encBs l := List.take_of_length_le (by omega)
 simp only [go_sem, encBs_cells, hel, het, List.drop_zero]
 refine ev_loopS [6] (fun i : Nat => [(3, .int .i64 (countF (l.take i))), (7, .int .i64 i)]) (fun i H => i ≤ 10) (fun i => 10 - i) 0 ?_ (by omega) ?_
 ·simp only [go_sem, Int.natCast_zero, List.take_zero, countF, List.filter_nil, List.length_nil]
 ·simp only [go_sem]
  intro K i H hi hK hE
  have hct := countF_le (l.take i)
  rw [condK_bool]
  refine ⟨fun h => ?_, fun h => ?_⟩
  ·have hi' : i < 10 := by have := of_decide_eq_true h; omega
   have w2 : IntKind.i64.wrap ((i : Int) + 1) = (i : Int) + 1 := wrap_id (by omega)
   have hlt : (l.take i).length ≤ 10 := by rw [List.length_take]; omega
   have w3 : IntKind.i64.wrap ((countF (l.take i) : Int) + 1) = (countF (l.take i) : Int) + 1 := wrap_id (by omega)
   have hj : ((i : Int) < 10) = True := eq_true (by omega)
   have h0 : (0 ≤ (i : Int)) = True := eq_true (by omega)
   have hct2 := countF_take (l := l) (i := i) (by omega)
   simp only [go_sem, hj, h0, Int.toNat_natCast, Nat.mul_one, hel, encBs_getD l i _ (by omega : i < l.length)]
   rw [condK_bool]
   refine ⟨fun hb => ?_, fun hb => ?_⟩
   ·rw [hb] at hct2
    simp only [go_sem]
    refine hK (i + 1) _ _ ?_ (by omega) (by omega)
    simp only [go_sem, w2, w3, Int.natCast_add, Int.natCast_one, hct2, if_true]
   ·rw [hb] at hct2
    simp only [go_sem]
    refine hK (i + 1) _ _ ?_ (by omega) (by omega)
    simp only [go_sem, w2, w3, Int.natCast_add, Int.natCast_one, hct2]
  ·have hi' : i = 10 := by have : ¬ ((i : Int) < 10) := by simpa using h
                           omega
   subst hi'
   refine hE _ _ _ (by simp) ?_
   simp only [go_sem]
   rw [List.take_of_length_le (by omega)]
def t112 : Spec := spec1 (fun (x : Bs) => x.l.length = 10) (fun x => .int .i64 (countF x.l))
theorem t112_ok : SpecOK Tryz.prog glB 112 t112 := spec1_ok E21_ok Tryz.func112 rfl (by kernel_rfl) fun x h => many_fn x.l h
theorem foldl_takeZ {β : Type} (f : β → Int → β) (a : β) {l : List Int} {i : Nat} (h : i < l.length) : (l.take (i + 1)).foldl f a = f ((l.take i).foldl f a) (l.getD i 0) := by
 have e : l.getD i 0 = l[i] := by simp [h]
 rw [e, List.take_succ_eq_append_getElem h, List.foldl_append]
 rfl
def E22t : List (Nat × Spec) := [(111, t111), (112, t112)] ++ E21t
theorem E22t_ok : AllOK E22t := ⟨⟨t111_ok, Tryz.call111⟩, ⟨t112_ok, Tryz.call112⟩, E21t_ok⟩
noncomputable def E22 : Env := mkE E22t []
theorem E22_ok : EnvOK Tryz.prog E22 := envOK E22t_ok trivial
theorem E22_ti {t : Nat} : E22.ti t = ti t := rfl
theorem E22_e {t : Nat} : E22.eqt t = eqB t := rfl
theorem E22_k {t : Nat} : E22.keyt t = keyB t := rfl
theorem E22_g {t : Nat} : E22.glob t = glB t := rfl
attribute [go_sem] E22_ti E22_e E22_k E22_g
def noDig (c : Int) : Bool := eqL (encBs (readB c)) [.bool false, .bool false, .bool false, .bool false, .bool false, .bool false, .bool false, .bool false, .bool false, .bool false]
def dgStep (s : Bool × Int) (c : Int) : Bool × Int := (s.1 && (decide (1 ≤ c) && decide (c ≤ 1023)) && !noDig c, if s.2 * (countF (readB c) : Int) < 1000 then s.2 * (countF (readB c) : Int) else 1000)
def szStep (s : Bool × Int) (n : Int) : Bool × Int := (s.1 && (decide (s.2 + 1 ≤ n) && decide (n ≤ 99)), n)
def line0 (x : LLine) : Bool := (decide (1 ≤ (x.digits.length : Int)) && decide ((x.digits.length : Int) ≤ 4)) && decide ((x.sizes.length : Int) ≤ 3) && (decide (1 ≤ x.colours) && decide (x.colours ≤ 15)) && (decide (1 ≤ x.mlo) && decide (x.mlo ≤ x.mhi)) && decide (x.mhi ≤ if IntKind.i64.wrap (x.mlo + 1) < 1000 then IntKind.i64.wrap (x.mlo + 1) else 1000)
def lineD (x : LLine) : Bool × Int := x.digits.foldl dgStep (line0 x, 1)
def lineS (x : LLine) : Bool × Int := x.sizes.foldl szStep ((lineD x).1, 0)
def footB (x : LLine) : Bool := if 0 < (x.sizes.length : Int) then (x.flo == 0) && (x.fhi == 0) else (decide (1 ≤ x.flo) && decide (x.flo ≤ x.fhi)) && decide (x.fhi ≤ 400)
def llineOk (x : LLine) : Bool := (lineS x).1 && footB x && decide ((lineD x).2 ≤ 4) && decide ((countF (readB x.colours) : Int) ≤ 2)
theorem readB_len (c : Int) : (readB c).length = 10 := rfl
theorem countR_le (c : Int) : countF (readB c) ≤ 10 := countF_le (readB c)
theorem dg_bound : ∀ (l : List Int) (s : Bool × Int), 0 ≤ s.2 ∧ s.2 ≤ 1000 → 0 ≤ (l.foldl dgStep s).2 ∧ (l.foldl dgStep s).2 ≤ 1000
 | [], s, h => h
 | c :: l, s, h => dg_bound l _ (by
     simp only [dgStep]
     have h2 : 0 ≤ s.2 * (countF (readB c) : Int) := Int.mul_nonneg h.1 (by omega)
     split <;> omega)
theorem sz_bound : ∀ (l : List Int) (s : Bool × Int), (s.1 = true → 0 ≤ s.2 ∧ s.2 ≤ 99) → ((l.foldl szStep s).1 = true → 0 ≤ (l.foldl szStep s).2 ∧ (l.foldl szStep s).2 ≤ 99)
 | [], s, h => h
 | c :: l, s, h => sz_bound l _ (fun hk => by
     simp only [szStep, Bool.and_eq_true, decide_eq_true_eq] at hk ⊢
     have := h hk.1
     omega)
theorem isLine_fn (x : LLine) (hd : big x.digits.length) (hs : big x.sizes.length) : Fn E22 0 76 Tryz.f76 (Tryz.f76.body.getD .skip) [.agg (encLL x)] (.bool (llineOk x)) := by
 unfold Fn Tryz.f76
 have hl0 : (decide (1 ≤ (x.digits.length : Int)) && decide ((x.digits.length : Int) ≤ 4) && decide ((x.sizes.length : Int) ≤ 3) && (decide (1 ≤ x.colours) && decide (x.colours ≤ 15)) && (decide (1 ≤ x.mlo) && decide (x.mlo ≤ x.mhi)) && decide (x.mhi ≤ if IntKind.i64.wrap (x.mlo + 1) < 1000 then IntKind.i64.wrap (x.mlo + 1) else 1000)) = line0 x := rfl
 simp only [go_sem, @ct E22 67 sTween rfl, sTween, encLL, il_length, hl0]
 refine ev_loopS [1, 47, 48] (fun i : Nat => [(3, .bool ((x.digits.take i).foldl dgStep (line0 x, 1)).1), (4, .int .i64 ((x.digits.take i).foldl dgStep (line0 x, 1)).2), (49, .int .i64 i)]) (fun i H => i ≤ x.digits.length ∧ H (([], 76000000) : Key) = some (.cells (encLL x) 1 false)) (fun i => x.digits.length - i) 0 ?_ ⟨by omega, ?_⟩ ?_
 ·simp only [go_sem, Int.natCast_zero, List.take_zero, List.foldl_nil]
 ·simp only [go_sem, encLL]
 ·simp only [go_sem]
  intro K i H ⟨hi, h1⟩ hK hE
  have hb := dg_bound (x.digits.take i) (line0 x, 1) (show (0 : Int) ≤ 1 ∧ (1 : Int) ≤ 1000 by decide)
  rw [condK_bool]
  refine ⟨fun h => ?_, fun h => ?_⟩
  ·have hi' : i < x.digits.length := by have := of_decide_eq_true h; omega
   have hbg : (x.digits.length : Int) < 4611686018427387904 := by unfold big at hd; omega
   have w2 : IntKind.i64.wrap ((i : Int) + 1) = (i : Int) + 1 := wrap_id (by omega)
   have hii : ((i : Int) < (x.digits.length : Int)) = True := eq_true (by omega)
   have h0 : (0 ≤ (i : Int)) = True := eq_true (by omega)
   have hf := foldl_takeZ dgStep (line0 x, 1) hi'
   generalize (x.digits.take i).foldl dgStep (line0 x, 1) = s at hf hb
   obtain ⟨ok, ways⟩ := s
   simp only at hb
   have hcr := countR_le (x.digits.getD i 0)
   have hm : 0 ≤ ways * (countF (readB (x.digits.getD i 0)) : Int) ∧ ways * (countF (readB (x.digits.getD i 0)) : Int) ≤ 10000 := by
    refine ⟨Int.mul_nonneg hb.1 (by omega), ?_⟩
    have := Int.mul_le_mul hb.2 (show (countF (readB (x.digits.getD i 0)) : Int) ≤ 10 by omega) (by omega) (by omega)
    omega
   have w3 : IntKind.i64.wrap (ways * (countF (readB (x.digits.getD i 0)) : Int)) = ways * (countF (readB (x.digits.getD i 0)) : Int) := wrap_id (by omega)
   obtain ⟨b0, b1, b2, b3, b4, b5, b6, b7, b8, b9, hr⟩ : ∃ b0 b1 b2 b3 b4 b5 b6 b7 b8 b9, readB (x.digits.getD i 0) = [b0, b1, b2, b3, b4, b5, b6, b7, b8, b9] := ⟨_, _, _, _, _, _, _, _, _, _, rfl⟩
   have hdec : (dec (.agg [.bool b0, .bool b1, .bool b2, .bool b3, .bool b4, .bool b5, .bool b6, .bool b7, .bool b8, .bool b9]) : Option Bs) = some ⟨readB (x.digits.getD i 0)⟩ := by rw [hr]; exact dec_bs [b0, b1, b2, b3, b4, b5, b6, b7, b8, b9]
   have hno : eqL [.bool b0, .bool b1, .bool b2, .bool b3, .bool b4, .bool b5, .bool b6, .bool b7, .bool b8, .bool b9] [.bool false, .bool false, .bool false, .bool false, .bool false, .bool false, .bool false, .bool false, .bool false, .bool false] = noDig (x.digits.getD i 0) := by unfold noDig; rw [hr]; rfl
   have hen : encBs (readB (x.digits.getD i 0)) = [.bool b0, .bool b1, .bool b2, .bool b3, .bool b4, .bool b5, .bool b6, .bool b7, .bool b8, .bool b9] := by rw [hr]; rfl
   have hlk : likeL [.bool b0, .bool b1, .bool b2, .bool b3, .bool b4, .bool b5, .bool b6, .bool b7, .bool b8, .bool b9] [.bool false, .bool false, .bool false, .bool false, .bool false, .bool false, .bool false, .bool false, .bool false, .bool false] = true := rfl
   simp only [go_sem, @ct E22 67 sTween rfl, sTween, @ct E22 111 t111 rfl, t111, @ct E22 112 t112 rfl, t112, hii, h0, Int.toNat_natCast, il_get, readB_len, hen, hdec, hno, hlk, w2, w3]
   refine ⟨by rw [il_length]; omega, hK (i + 1) _ _ ?_ ⟨by omega, ?_⟩ (by omega)⟩
   ·simp only [go_sem, hf, dgStep, noDig, hen, hlk, Int.natCast_add, Int.natCast_one]
   ·simp only [go_sem, h1]
  ·have hi' : i = x.digits.length := by have : ¬ ((i : Int) < (x.digits.length : Int)) := by simpa using h
                                        omega
   subst hi'
   rw [List.take_length] at *
   simp only [go_sem]
   refine hE _ _ _ (by simp) ?_
   clear hE hK
   have hD : x.digits.foldl dgStep (line0 x, 1) = lineD x := rfl
   rw [hD] at hb ⊢
   simp only [go_sem, @ct E22 67 sTween rfl, sTween, h1, encLL, il_length]
   refine ev_loopS [1, 4, 72, 73] (fun i : Nat => [(3, .bool ((x.sizes.take i).foldl szStep ((lineD x).1, 0)).1), (8, .int .i64 ((x.sizes.take i).foldl szStep ((lineD x).1, 0)).2), (74, .int .i64 i)]) (fun i H => i ≤ x.sizes.length ∧ H (([], 76000000) : Key) = some (.cells (encLL x) 1 false)) (fun i => x.sizes.length - i) 0 ?_ ⟨by omega, ?_⟩ ?_
   ·simp only [go_sem, Int.natCast_zero, List.take_zero, List.foldl_nil]
   ·simp only [go_sem, h1, encLL]
   ·clear h1
    simp only [go_sem]
    intro K i H ⟨hi, h1⟩ hK hE
    have hz := sz_bound (x.sizes.take i) ((lineD x).1, 0) (fun _ => (show (0 : Int) ≤ 0 ∧ (0 : Int) ≤ 99 by decide))
    rw [condK_bool]
    refine ⟨fun h => ?_, fun h => ?_⟩
    ·have hi' : i < x.sizes.length := by have := of_decide_eq_true h; omega
     have hbg : (x.sizes.length : Int) < 4611686018427387904 := by unfold big at hs; omega
     have w2 : IntKind.i64.wrap ((i : Int) + 1) = (i : Int) + 1 := wrap_id (by omega)
     have hii : ((i : Int) < (x.sizes.length : Int)) = True := eq_true (by omega)
     have h0 : (0 ≤ (i : Int)) = True := eq_true (by omega)
     have hf := foldl_takeZ szStep ((lineD x).1, 0) hi'
     generalize (x.sizes.take i).foldl szStep ((lineD x).1, 0) = s at hf hz
     obtain ⟨ok, last⟩ := s
     simp only at hz
     have hok : ok = true → IntKind.i64.wrap (last + 1) = last + 1 := fun h => wrap_id (by have := hz h; omega)
     have hv : (ok && (decide (IntKind.i64.wrap (last + 1) ≤ x.sizes.getD i 0) && decide (x.sizes.getD i 0 ≤ 99))) = (szStep (ok, last) (x.sizes.getD i 0)).1 := by
      unfold szStep
      cases ok with
      | false => rfl
      | true => rw [hok rfl]
     simp only [go_sem, @ct E22 67 sTween rfl, sTween, hii, h0, Int.toNat_natCast, il_get, w2, hv]
     refine ⟨by rw [il_length]; omega, hK (i + 1) _ _ ?_ ⟨by omega, ?_⟩ (by omega)⟩
     ·simp only [go_sem, hf, szStep, Int.natCast_add, Int.natCast_one]
     ·simp only [go_sem, h1]
    ·have hi' : i = x.sizes.length := by have : ¬ ((i : Int) < (x.sizes.length : Int)) := by simpa using h
                                         omega
     subst hi'
     rw [List.take_length] at *
     simp only [go_sem]
     refine hE _ _ _ (by simp) ?_
     clear hE hK
     have hS : x.sizes.foldl szStep ((lineD x).1, 0) = lineS x := rfl
     rw [hS]
     obtain ⟨b0, b1, b2, b3, b4, b5, b6, b7, b8, b9, hr⟩ : ∃ b0 b1 b2 b3 b4 b5 b6 b7 b8 b9, readB x.colours = [b0, b1, b2, b3, b4, b5, b6, b7, b8, b9] := ⟨_, _, _, _, _, _, _, _, _, _, rfl⟩
     have hen : encBs (readB x.colours) = [.bool b0, .bool b1, .bool b2, .bool b3, .bool b4, .bool b5, .bool b6, .bool b7, .bool b8, .bool b9] := by rw [hr]; rfl
     have hdec : (dec (.agg [.bool b0, .bool b1, .bool b2, .bool b3, .bool b4, .bool b5, .bool b6, .bool b7, .bool b8, .bool b9]) : Option Bs) = some ⟨readB x.colours⟩ := by rw [hr]; exact dec_bs [b0, b1, b2, b3, b4, b5, b6, b7, b8, b9]
     simp only [go_sem, @ct E22 67 sTween rfl, sTween, h1, encLL, il_length]
     rw [condK_bool]
     refine ⟨fun hp => ?_, fun hp => ?_⟩
     ·have hp' : 0 < (x.sizes.length : Int) := by simpa using hp
      have hft : footB x = ((x.flo == 0) && (x.fhi == 0)) := if_pos hp'
      simp only [go_sem, @ct E22 67 sTween rfl, sTween, @ct E22 111 t111 rfl, t111, @ct E22 112 t112 rfl, t112, h1, encLL, il_length, readB_len, hen, hdec]
      unfold llineOk; rw [hft]
     ·have hp' : ¬ 0 < (x.sizes.length : Int) := by simpa using hp
      have hft : footB x = ((decide (1 ≤ x.flo) && decide (x.flo ≤ x.fhi)) && decide (x.fhi ≤ 400)) := if_neg hp'
      simp only [go_sem, @ct E22 67 sTween rfl, sTween, @ct E22 111 t111 rfl, t111, @ct E22 112 t112 rfl, t112, h1, encLL, il_length, readB_len, hen, hdec]
      unfold llineOk; rw [hft]; simp only [Bool.and_assoc]
def t76 : Spec := spec1 (fun (x : LLine) => big x.digits.length ∧ big x.sizes.length) (fun x => .bool (llineOk x))
theorem t76_ok : SpecOK Tryz.prog glB 76 t76 := spec1_ok E22_ok Tryz.func76 rfl (by kernel_rfl) fun x h => isLine_fn x h.1 h.2
def E23t : List (Nat × Spec) := [(76, t76)] ++ E22t
theorem E23t_ok : AllOK E23t := ⟨⟨t76_ok, Tryz.call76⟩, E22t_ok⟩
noncomputable def E23 : Env := mkE E23t []
theorem E23_ok : EnvOK Tryz.prog E23 := envOK E23t_ok trivial
theorem E23_ti {t : Nat} : E23.ti t = ti t := rfl
theorem E23_e {t : Nat} : E23.eqt t = eqB t := rfl
theorem E23_k {t : Nat} : E23.keyt t = keyB t := rfl
theorem E23_g {t : Nat} : E23.glob t = glB t := rfl
attribute [go_sem] E23_ti E23_e E23_k E23_g
def LOk (x : Lett) : Prop := okRack x.rack ∧ big x.lines.length ∧ ∀ y ∈ x.lines, big y.digits.length ∧ big y.sizes.length
def lett0 (x : Lett) : Bool := rackOk x.rack && (decide (0 ≤ x.dlo) && decide (x.dlo ≤ x.dhi)) && decide (x.dhi ≤ 20000) && (decide (0 ≤ x.clo) && decide (x.clo ≤ x.chi)) && decide (x.chi ≤ 10000000) && (decide (1 ≤ (x.lines.length : Int)) && decide ((x.lines.length : Int) ≤ 2))
def lettOk (x : Lett) : Bool := lett0 x && x.lines.all llineOk
theorem all_take {α : Type} [Inhabited α] (p : α → Bool) {l : List α} {i : Nat} (h : i < l.length) : (l.take (i + 1)).all p = ((l.take i).all p && p (l.getD i default)) := by
 have e : l.getD i default = l[i] := by simp [h]
 rw [e, List.take_succ_eq_append_getElem h, List.all_append]
 simp
theorem ltCheck_fn (x : Lett) (hx : LOk x) : Fn E23 0 26 Tryz.f26 (Tryz.f26.body.getD .skip) [.agg (encLt x)] (.int .i64 (if lettOk x then 0 else 20)) := by
 unfold Fn Tryz.f26
 obtain ⟨hr, hl, hy⟩ := hx
 have hr0 : ((if rackOk x.rack = true then (0 : Int) else 10) == 0) = rackOk x.rack := by cases rackOk x.rack <;> rfl
 have hη : (⟨x.rack.goods, x.rack.issues⟩ : Rack) = x.rack := rfl
 have hl0 : (rackOk x.rack && (decide (0 ≤ x.dlo) && decide (x.dlo ≤ x.dhi)) && decide (x.dhi ≤ 20000) && (decide (0 ≤ x.clo) && decide (x.clo ≤ x.chi)) && decide (x.chi ≤ 10000000) && (decide (1 ≤ (x.lines.length : Int)) && decide ((x.lines.length : Int) ≤ 2))) = lett0 x := rfl
 simp only [go_sem, @ct E23 67 sTween rfl, sTween, @ct E23 57 s20 rfl, s20, encLt, hη, hr, hr0, List.length_map, hl0]
 refine ev_loopS [1, 47, 48] (fun i : Nat => [(3, .bool (lett0 x && (x.lines.take i).all llineOk)), (49, .int .i64 i)]) (fun i H => i ≤ x.lines.length) (fun i => x.lines.length - i) 0 ?_ (by omega) ?_
 ·simp only [go_sem, Int.natCast_zero, List.take_zero, List.all_nil, Bool.and_true]
 ·simp only [go_sem]
  intro K i H hi hK hE
  rw [condK_bool]
  refine ⟨fun h => ?_, fun h => ?_⟩
  ·have hi' : i < x.lines.length := by have := of_decide_eq_true h; omega
   have hbg : (x.lines.length : Int) < 4611686018427387904 := by unfold big at hl; omega
   have w2 : IntKind.i64.wrap ((i : Int) + 1) = (i : Int) + 1 := wrap_id (by omega)
   have hii : ((i : Int) < (x.lines.length : Int)) = True := eq_true (by omega)
   have h0 : (0 ≤ (i : Int)) = True := eq_true (by omega)
   have ha := all_take llineOk hi'
   have hm : x.lines.getD i default ∈ x.lines := by
    rw [List.getD_eq_getElem?_getD, List.getElem?_eq_getElem hi']; exact List.getElem_mem _
   have hyy := hy _ hm
   generalize hg : x.lines.getD i default = y at ha hyy
   have hge := getD_mapN encLL x.lines i
   obtain ⟨ds, ss, flo, fhi, co, mlo, mhi⟩ := y
   have b1 : big ds.length = True := eq_true hyy.1
   have b2 : big ss.length = True := eq_true hyy.2
   simp only [go_sem, @ct E23 76 t76 rfl, t76, hii, h0, Int.toNat_natCast, getD_mapN encLL x.lines i _ hi', hg, encLL, w2, b1, b2, List.length_map]
   refine hK (i + 1) _ _ ?_ (by omega) (by omega)
   simp only [go_sem, ha, Int.natCast_add, Int.natCast_one, Bool.and_assoc]
  ·have hi' : i = x.lines.length := by have : ¬ ((i : Int) < (x.lines.length : Int)) := by simpa using h
                                       omega
   subst hi'
   rw [List.take_length] at *
   simp only [go_sem]
   refine hE _ _ _ (by simp) ?_
   have hlo : (lett0 x && x.lines.all llineOk) = lettOk x := rfl
   rw [hlo]
   simp only [go_sem]
   rw [condK_bool]
   refine ⟨fun hp => ?_, fun hp => ?_⟩
   ·have hp' : lettOk x = false := by simpa using hp
    simp only [go_sem, hp']
   ·have hp' : lettOk x = true := by simpa using hp
    simp only [go_sem, hp']
def t26 : Spec := spec1 LOk (fun x => .int .i64 (if lettOk x then 0 else 20))
theorem t26_ok : SpecOK Tryz.prog glB 26 t26 := spec1_ok E23_ok Tryz.func26 rfl (by kernel_rfl) fun x h => ltCheck_fn x h
theorem least75_fn (a : Int) (l : List Int) (ex : Bool) (hl : big l.length) : Fn E0 0 75 Tryz.f75 (Tryz.f75.body.getD .skip) [.int .i64 a, .sl (il l) ex] (.int .i64 (leastF a l)) := by
 unfold big at hl
 unfold Fn Tryz.f75
 simp only [go_sem, il_length]
 refine ev_loopS [7, 8] (fun x : Nat × Int => [(0, .int .i64 x.2), (9, .int .i64 x.1)]) (fun x H => x.1 ≤ l.length ∧ leastF x.2 (l.drop x.1) = leastF a l) (fun x => l.length - x.1) (0, a) ?_ ⟨Nat.zero_le _, by simp⟩ ?_
 ·simp only [go_sem]
 ·simp only [go_sem]
  intro K x H ⟨hi, hf⟩ hK hE
  obtain ⟨i, b⟩ := x
  simp only at hi hf
  simp only [go_sem, il_length, il_get]
  rw [condK_bool]
  refine ⟨fun h => ?_, fun h => ?_⟩
  ·have h' : i < l.length := by simpa using h
   simp only [go_sem, il_length, il_get]
   refine ⟨by simpa using h, hK (i + 1, if l.getD i 0 < b then l.getD i 0 else b) _ _ ?_ ⟨h', ?_⟩ (by simp only; omega)⟩
   ·rw [wrap_id (by omega)]
    simp only [go_sem, Int.natCast_add, Int.natCast_one]
   ·rw [← hf, leastF_drop _ h']
  ·refine hE _ _ _ (by simp) ?_
   simp only [go_sem]
   have h' : i = l.length := by have : ¬ ((i : Int) < (l.length : Int)) := by simpa using h
                                omega
   rw [← hf, h']
   simp [leastF]
theorem t75_ok : SpecOK Tryz.prog glB 75 s108 := spec2_ok E0_ok Tryz.func75 rfl (by kernel_rfl) fun a l h => least75_fn a l false h
theorem index177_fn (l : List Int) (ex : Bool) (n : Int) (hl : big l.length) : Fn E23 0 177 Tryz.f177 (Tryz.f177.body.getD .skip) [.sl (il l) ex, .int .i64 n] (.int .i64 (findI (fun a => n == a) l 0)) := by
 unfold big at hl
 unfold Fn Tryz.f177
 simp only [go_sem, il_length]
 refine ev_loopS [0, 1] (fun i : Nat => [(7, .int .i64 l.length), (8, .int .i64 i)]) (fun i H => i ≤ l.length ∧ findI (fun a => n == a) (l.drop i) i = findI (fun a => n == a) l 0) (fun i => l.length - i) 0 ?_ ⟨Nat.zero_le _, by simp⟩ ?_
 ·simp only [go_sem, Int.natCast_zero]
 ·simp only [go_sem]
  intro K i H ⟨hi, hf⟩ hK hE
  rw [condK_bool]
  refine ⟨fun h => ?_, fun h => ?_⟩
  ·have h' : i < l.length := by simpa using h
   have hii : ((i : Int) < (l.length : Int)) = True := eq_true (by omega)
   have h0 : (0 ≤ (i : Int)) = True := eq_true (by omega)
   simp only [go_sem, hii, h0, Int.toNat_natCast, il_length, il_get]
   rw [condK_bool]
   refine ⟨fun h2 => ?_, fun h2 => ?_⟩
   ·simp only [go_sem]
    refine hE _ _ _ (by simp) ?_
    simp only [go_sem]
    rw [← hf, findI_dropZ _ h', if_pos h2]
   ·simp only [go_sem]
    refine hK (i + 1) _ _ ?_ ⟨h', ?_⟩ (by omega)
    ·rw [wrap_id (by omega)]
     simp only [go_sem, Int.natCast_add, Int.natCast_one]
    ·rw [← hf, findI_dropZ _ h', h2]; rfl
  ·refine hE _ _ _ (by simp) ?_
   simp only [go_sem]
   have h' : i = l.length := by have : ¬ ((i : Int) < (l.length : Int)) := by simpa using h
                                omega
   rw [← hf, h']
   simp [findI]
def t177 : Spec := spec2 (fun (l : List Int) (_ : Int) => big l.length) (fun l n => .int .i64 (findI (fun a => n == a) l 0))
theorem t177_ok : SpecOK Tryz.prog glB 177 t177 := spec2_ok E23_ok Tryz.func177 rfl (by kernel_rfl) fun l n h => index177_fn l false n h
theorem means1_fn (y : Entry) (n : Int) : Fn E23 0 127 Tryz.f127 (Tryz.f127.body.getD .skip) [.agg (encE y), .eref [.int .i64 n] 0] (.bool (y.number == n)) := by
 unfold Fn Tryz.f127
 simp only [go_sem, encE]
def t127 : Spec := spec2 (fun (_ : Entry) (_ : Rf Int) => True) (fun y n => .bool (y.number == n.v))
theorem t127_ok : SpecOK Tryz.prog glB 127 t127 := spec2_ok E23_ok Tryz.func127 rfl (by kernel_rfl) fun y n _ => means1_fn y n.v
def E24t : List (Nat × Spec) := [(177, t177), (127, t127), (75, s108)] ++ E23t
theorem E24t_ok : AllOK E24t := ⟨⟨t177_ok, Tryz.call177⟩, ⟨t127_ok, Tryz.call127⟩, ⟨t75_ok, Tryz.call75⟩, E23t_ok⟩
noncomputable def E24 : Env := mkE E24t []
theorem E24_ok : EnvOK Tryz.prog E24 := envOK E24t_ok trivial
theorem E24_ti {t : Nat} : E24.ti t = ti t := rfl
theorem E24_e {t : Nat} : E24.eqt t = eqB t := rfl
theorem E24_k {t : Nat} : E24.keyt t = keyB t := rfl
theorem E24_g {t : Nat} : E24.glob t = glB t := rfl
attribute [go_sem] E24_ti E24_e E24_k E24_g
theorem findI_iff (p : Int → Bool) : ∀ (l : List Int) (i : Nat), findI p l i ≥ 0 ↔ l.any p = true
 | [], i => by simp [findI]
 | a :: l, i => by
  have ih := findI_iff p l (i + 1)
  rw [findI, List.any_cons]
  by_cases hp : p a = true
  ·rw [if_pos hp, hp]; simp
  ·rw [if_neg hp, ih]; simp [hp]
theorem findI_nonneg (p : Int → Bool) (l : List Int) (i : Nat) : decide (findI p l i ≥ 0) = l.any p := by
 rw [Bool.eq_iff_iff, decide_eq_true_eq]; exact findI_iff p l i
theorem contains149_fn (l : List Int) (ex : Bool) (n : Int) (hl : big l.length) : Fn E24 0 149 Tryz.f149 (Tryz.f149.body.getD .skip) [.sl (il l) ex, .int .i64 n] (.bool (l.any fun a => n == a)) := by
 unfold Fn Tryz.f149
 simp only [go_sem, @ct E24 177 t177 rfl, t177, eq_true hl, findI_nonneg]
def t149 : Spec := spec2 (fun (l : List Int) (_ : Int) => big l.length) (fun l n => .bool (l.any fun a => n == a))
theorem t149_ok : SpecOK Tryz.prog glB 149 t149 := spec2_ok E24_ok Tryz.func149 rfl (by kernel_rfl) fun l n h => contains149_fn l false n h
def E25t : List (Nat × Spec) := [(149, t149)] ++ E24t
theorem E25t_ok : AllOK E25t := ⟨⟨t149_ok, Tryz.call149⟩, E24t_ok⟩
noncomputable def E25 : Env := mkE E25t []
theorem E25_ok : EnvOK Tryz.prog E25 := envOK E25t_ok trivial
theorem E25_ti {t : Nat} : E25.ti t = ti t := rfl
theorem E25_e {t : Nat} : E25.eqt t = eqB t := rfl
theorem E25_k {t : Nat} : E25.keyt t = keyB t := rfl
theorem E25_g {t : Nat} : E25.glob t = glB t := rfl
attribute [go_sem] E25_ti E25_e E25_k E25_g
def sizeB (x : LLine) (f : Fit) : Bool := if 0 < (x.sizes.length : Int) then x.sizes.any fun a => f.size == a else decide (f.lo ≤ x.fhi) && decide (x.flo ≤ f.hi)
theorem size_fn (x : LLine) (f : Fit) (hs : big x.sizes.length) : Fn E25 0 124 Tryz.f124 (Tryz.f124.body.getD .skip) [.agg (encLL x), .agg (encF f)] (.bool (sizeB x f)) := by
 unfold Fn Tryz.f124
 simp only [go_sem, encLL, encF, il_length]
 rw [condK_bool]
 refine ⟨fun hp => ?_, fun hp => ?_⟩
 ·have hp' : 0 < (x.sizes.length : Int) := by simpa using hp
  simp only [go_sem, @ct E25 149 t149 rfl, t149, eq_true hs, sizeB, hp', if_true]
 ·have hp' : ¬ 0 < (x.sizes.length : Int) := by simpa using hp
  simp only [go_sem, sizeB, hp', if_false]
def t124 : Spec := spec2 (fun (x : LLine) (_ : Fit) => big x.sizes.length) (fun x f => .bool (sizeB x f))
theorem t124_ok : SpecOK Tryz.prog glB 124 t124 := spec2_ok E25_ok Tryz.func124 rfl (by kernel_rfl) fun x f h => size_fn x f h
theorem indexE_fn (l : List Entry) (ex : Bool) (p : Entry → Bool) (g : Nat) (cap : PV) (s : Spec) (hs : E25.spec g = some s) (hcap : pureD 8 cap = true) (hp : ∀ f, s [.agg (encE f), cap] = some (True, .bool (p f))) (hl : big l.length) :
    Fn E25 0 126 Tryz.f126 (Tryz.f126.body.getD .skip) [.sl (l.map encE) ex, .fn g [] [cap]] (.int .i64 (findI p l 0)) := by
 unfold big at hl
 unfold Fn Tryz.f126
 simp only [go_sem]
 refine ev_loopS [0, 1] (fun i : Nat => [(7, .int .i64 l.length), (8, .int .i64 i)]) (fun i H => i ≤ l.length ∧ findI p (l.drop i) i = findI p l 0) (fun i => l.length - i) 0 ?_ ⟨Nat.zero_le _, by simp⟩ ?_
 ·simp only [go_sem]
 ·simp only [go_sem]
  intro K i H ⟨hi, hf⟩ hK hE
  rw [condK_bool]
  refine ⟨fun h => ?_, fun h => ?_⟩
  ·have h' : i < l.length := by simpa using h
   simp only [go_sem, h, getD_map _ _ _ _ h, @callV_spec E25 g s hs]
   have e1 : List.take 4 (encE (l.getD i default)) = encE (l.getD i default) := rfl
   rw [e1, callSpec_eq (by rw [show pureD.pureLs (pureD 8) [PV.agg (encE (l.getD i default)), cap] = (pureD 8 (.agg (encE (l.getD i default))) && (pureD 8 cap && true)) from rfl, hcap]; rfl) (hp _)]
   simp only [go_sem]
   refine ⟨⟨by simpa using h, rfl⟩, by simp [encE], ?_⟩
   rw [condK_bool]
   refine ⟨fun h2 => ?_, fun h2 => ?_⟩
   ·simp only [go_sem]
    refine hE _ _ _ (by simp) ?_
    simp only [go_sem]
    rw [← hf, findI_drop _ h', if_pos h2]
   ·simp only [go_sem]
    refine hK (i + 1) _ _ ?_ ⟨h', ?_⟩ (by omega)
    ·rw [wrap_id (by omega)]
     simp only [go_sem, Int.natCast_add, Int.natCast_one]
    ·rw [← hf, findI_drop _ h', h2]; rfl
  ·refine hE _ _ _ (by simp) ?_
   simp only [go_sem]
   have h' : i = l.length := by have : ¬ ((i : Int) < (l.length : Int)) := by simpa using h
                                omega
   rw [← hf, h']
   simp [findI]
def t126 : Spec := fun args => match args with
 | [.sl rs _, .fn 127 [] [.eref [.int .i64 n] 0]] => (dL dE rs).map fun l => (big l.length, .int .i64 (findI (fun y => y.number == n) l 0))
 | _ => none
theorem t126_ok : SpecOK Tryz.prog glB 126 t126 := specOK_of E25_ok Tryz.func126 (by kernel_rfl) fun args pre r h hp => by
 unfold t126 at h
 split at h
 ·simp only [Option.map_eq_some_iff] at h
  obtain ⟨l, h1, h2⟩ := h
  cases h2
  exact ⟨[.sl (l.map encE) _, .fn 127 [] [_]], _, ⟨⟨dL_wk dE_wk h1, id⟩, wk_refl _, trivial⟩, rfl, indexE_fn l _ _ 127 _ t127 rfl rfl (fun y => by simp only [t127, spec2, dec_rint]; rw [show (dec (.agg (encE y)) : Option Entry) = some y from Enc.dec_enc y]) hp⟩
 ·cases h
theorem asgK_normal {K : List PV → Heap → Prop} {τ : List PV} {H : Heap} : asgK K .normal τ H = K τ H := rfl
@[congr] theorem asgK_congr {K : List PV → Heap → Prop} {e : Exit} {τ τ' : List PV} {H H' : Heap} (h1 : τ = τ') (h2 : H = H') : asgK K e τ H = asgK K e τ' H' := by rw [h1, h2]
attribute [go_sem] asgK_normal
theorem callN_in {E : Env} {n g : Nat} {fn : Func} {c : Code} (h : E.inl g = some fn) (hb : fn.body = some c) (path : List Nat) (a b args : List PV) (H : Heap) (Q : PV → Heap → Prop) :
    callN E (n + 1) path (.fn g a b) args H Q = (args.length ≤ fn.ntmps ∧ ev E (callN E n) path false g c (retK E fn.results.toList Q) (args ++ List.replicate (fn.ntmps - args.length) .undef) H) := by
 simp only [callN, h, hb]
theorem callN_yl {E : Env} {n : Nat} {K : Key} {v : Nat} {r : Rec} {H : Heap} (h : H K = some (.loop r v)) (path : List Nat) (args : List PV) (Q : PV → Heap → Prop) :
    callN E (n + 1) path (.yld K v) args H Q = (r.st = .ready ∧ args.length = r.params.length ∧
        ev E (callN E n) path true r.fn r.assign (asgK fun τ H => H K = some (.loop r v) ∧
          ev E (callN E n) path true r.fn r.body (rndK K v r Q) τ (H.set K (.loop { r with st := .busy } v))) (setAll r.tmps (r.params.zip args)) H) := by
 simp only [callN, h, true_and]
def tlN (f : Int → List Int) (first : Bool) (c : Int) : Nat → List Int
 | 0 => []
 | j + 1 => (if (inF c (9 - (j : Int)) && (!first || decide ((9 - (j : Int)) > 0))) = true then f (9 - (j : Int)) else []) ++ tlN f first c j
def numsS : List Int → Bool → Int → List Int
 | [], _, n => [n]
 | c :: cs, first, n => tlN (fun d => numsS cs false (10 * n + d)) first c 10
theorem readB_get (c : Int) : ∀ (d : Nat), d < 10 → (readB c).getD d false = inF c d
 | 0, _ => rfl
 | 1, _ => rfl
 | 2, _ => rfl
 | 3, _ => rfl
 | 4, _ => rfl
 | 5, _ => rfl
 | 6, _ => rfl
 | 7, _ => rfl
 | 8, _ => rfl
 | 9, _ => rfl
 | d + 10, h => absurd h (by omega)
theorem next_loop {E : Env} (hti : ∀ {t}, E.ti t = ti t) (h111 : E.spec 111 = some t111) (hs151 : E.spec 151 = none) (h151 : E.inl 151 = some Tryz.f151)
    {l : List Int} (hl : l.length ≤ 4) {K1 K2 K3 KL : Key} {v1 v2 v3 vL : Nat} {r1 r2 r3 : Bool} (m : Nat) (base : List Nat) (J : Nat → Heap → Prop) (L : List Int)
    (hJ : ∀ i H, J i H → H K1 = some (.cells [.sl (il l) false] v1 r1) ∧ H K2 = some (.cells [.yld KL vL] v2 r2) ∧ H K3 = some (.cells [.fn 151 [] [.ref K1 v1 0, .ref K2 v2 0, .ref K3 v3 0]] v3 r3))
    (hy : ∀ (i : Nat) (H : Heap) (Q : PV → Heap → Prop), i < L.length → J i H → (∀ H', J (i + 1) H' → Q (.bool true) H') → callN E m (151002002 :: (List.replicate l.length 151006017 ++ base)) (.yld KL vL) [.int .i64 (L.getD i 0)] H Q) :
    ∀ (d k : Nat) (n : Int) (i : Nat) (H : Heap) (Q : PV → Heap → Prop) (rest : List Int), k + d = l.length → 0 ≤ n ∧ n < 10 ^ k → L.drop i = numsS (l.drop k) (decide (k = 0)) n ++ rest → J i H →
      (∀ H', J (i + (numsS (l.drop k) (decide (k = 0)) n).length) H' → Q (.bool true) H') →
      callN E (m + d + 1) (List.replicate k 151006017 ++ base) (.fn 151 [] []) [.int .i64 k, .int .i64 n, .ref K1 v1 0, .ref K2 v2 0, .ref K3 v3 0] H Q
 | 0, k, n, i, H, Q, rest, hk, hn, hL, hj, hQ => by
  obtain ⟨h1, h2, h3⟩ := hJ i H hj
  have hkl : k = l.length := by omega
  subst hkl
  rw [List.drop_length] at hL hQ
  simp only [numsS, List.cons_append, List.nil_append, List.length_cons, List.length_nil] at hL hQ
  have hi : i < L.length := by
   have := congrArg List.length hL
   simp only [List.length_drop, List.length_cons] at this
   omega
  have hv : L.getD i 0 = n := by
   have := congrArg (fun x => x[0]?) hL
   simp only [List.getElem?_drop, List.getElem?_cons_zero, Nat.add_zero] at this
   rw [List.getD_eq_getElem?_getD, this]; rfl
  rw [callN_in h151 rfl]
  unfold Tryz.f151
  simp only [go_sem, hti, h1, h2, h3, il_length, heavy_none, callV_yld]
  rw [← hv]
  refine hy i H _ hi hj fun H' h' => ?_
  simp only [go_sem, hti]
  exact hQ H' (by simpa using h')
 | d + 1, k, n, i, H, Q, rest, hk, hn, hL, hj, hQ => by
  obtain ⟨h1, h2, h3⟩ := hJ i H hj
  rw [callN_in h151 rfl]
  unfold Tryz.f151
  have hkn : ((k : Int) == (l.length : Int)) = false := by simp; omega
  have hkl : k < l.length := by omega
  have hkk : ((k : Int) < (l.length : Int)) = True := eq_true (by omega)
  have hk0 : (0 ≤ (k : Int)) = True := eq_true (by omega)
  have hdr : l.drop k = l.getD k 0 :: l.drop (k + 1) := by
   rw [List.drop_eq_getElem_cons hkl]; simp [hkl]
  rw [hdr] at hL hQ
  simp only [numsS] at hL hQ
  generalize hc : l.getD k 0 = c at hL hQ
  have hil : (il l).getD k [PV.int .i64 0] = [PV.int .i64 c] := by rw [il_get, hc]
  simp only [go_sem, hti, @ct E 111 t111 h111, t111, h1, h2, h3, il_length, hkn, hkk, hk0, hil, Int.toNat_natCast]
  generalize hF : (fun d : Int => numsS (l.drop (k + 1)) false (10 * n + d)) = F at hL hQ
  refine ev_loopS [0, 1, 2, 3, 4, 21] (fun x : Nat × Nat => [(22, .int .i64 (10 - (x.1 : Int)))]) (fun x H => x.1 ≤ 10 ∧ J x.2 H ∧ L.drop x.2 = tlN F (decide (k = 0)) c x.1 ++ rest ∧ x.2 + (tlN F (decide (k = 0)) c x.1).length = i + (tlN F (decide (k = 0)) c 10).length) (fun x => x.1) (10, i) ?_ ⟨by omega, hj, hL, rfl⟩ ?_
  ·simp only [go_sem, hti]; rfl
  ·simp only [go_sem, hti]
   intro Kc x H ⟨hx, hjx, hLx, hlx⟩ hK hE
   obtain ⟨j, i'⟩ := x
   obtain ⟨g1, g2, g3⟩ := hJ i' H hjx
   simp only at hx hjx hLx hlx hK ⊢
   cases j with
   | zero =>
    simp only [go_sem, hti, Int.natCast_zero, Int.sub_zero, Int.lt_irrefl, decide_false]
    refine hE _ _ _ (by simp) ?_
    simp only [go_sem, hti]
    refine hQ H ?_
    have t0 : (tlN F (decide (k = 0)) c 0).length = 0 := rfl
    rw [t0, Nat.add_zero] at hlx
    rw [← hlx]; exact hjx
   | succ j =>
    obtain ⟨q, hq⟩ : ∃ q : Nat, q + j = 9 := ⟨9 - j, by omega⟩
    have e1 : (10 : Int) - ((j + 1 : Nat) : Int) = (q : Int) := by omega
    have e2 : (9 : Int) - (j : Int) = (q : Int) := by omega
    have e3 : (10 : Int) - (j : Int) = (q : Int) + 1 := by omega
    have hq10 : ((q : Int) < 10) = True := eq_true (by omega)
    have hq0 : (0 ≤ (q : Int)) = True := eq_true (by omega)
    have hlen10 : (encBs (readB c)).length = 10 := rfl
    have hget : (encBs (readB c)).getD q (.bool false) = .bool (inF c q) := by rw [encBs_getD _ _ _ (show q < 10 by omega), readB_get c q (by omega)]
    have hk4 : k = 0 ∨ k = 1 ∨ k = 2 ∨ k = 3 := by omega
    have hn4 : n < 1000 := by
     rcases hk4 with h | h | h | h <;> subst h <;> simp at hn <;> omega
    have w1 : IntKind.i64.wrap ((k : Int) + 1) = (k : Int) + 1 := wrap_id (by omega)
    have w2 : IntKind.i64.wrap (10 * n) = 10 * n := wrap_id (by omega)
    have w3 : IntKind.i64.wrap (10 * n + (q : Int)) = 10 * n + (q : Int) := wrap_id (by omega)
    have w4 : IntKind.i64.wrap ((q : Int) + 1) = (q : Int) + 1 := wrap_id (by omega)
    have hfst : (!decide (k = 0)) = decide ((k : Int) > 0) := by
     rw [Bool.eq_iff_iff]; simp; omega
    have t1 : tlN F (decide (k = 0)) c (j + 1) = (if (inF c (9 - (j : Int)) && (!decide (k = 0) || decide ((9 - (j : Int)) > 0))) = true then F (9 - (j : Int)) else []) ++ tlN F (decide (k = 0)) c j := rfl
    rw [t1, e2, hfst] at hLx hlx
    rw [e1]
    simp only [go_sem, hti, hq10, hq0, hlen10, hget, Int.toNat_natCast, Nat.mul_one, decide_true, g1, g2, g3]
    refine ⟨fun a b => ⟨a, b⟩, ?_⟩
    generalize hb : (inF c (q : Int) && (decide ((k : Int) > 0) || decide ((q : Int) > 0))) = bq at hLx hlx ⊢
    simp only [callV, hs151, heavy_some]
    cases bq with
    | false =>
     rw [if_neg (by simp)] at hLx hlx
     simp only [go_sem, hti, false_implies, true_and, not_false_eq_true, forall_const]
     refine hK (j, i') _ _ ?_ ⟨by omega, hjx, by simpa using hLx, by simpa using hlx⟩ (Nat.lt_succ_self _)
     simp only [go_sem, hti, w4, e3]
    | true =>
     rw [if_pos rfl] at hLx hlx
     simp only [go_sem, hti, w1, w2, w3, forall_const, not_true_eq_false, false_implies, and_true]
     have hF' : numsS (l.drop (k + 1)) (decide (k + 1 = 0)) (10 * n + (q : Int)) = F (q : Int) := by rw [← hF]; rfl
     have hpow : (10 : Int) ^ (k + 1) = 10 * 10 ^ k := by rw [Int.pow_succ]; omega
     refine next_loop hti h111 hs151 h151 hl m base J L hJ hy d (k + 1) (10 * n + (q : Int)) i' H _ (tlN F (decide (k = 0)) c j ++ rest) (by omega) ⟨by omega, ?_⟩ ?_ hjx ?_
     ·rw [hpow]; omega
     ·rw [hF', hLx, List.append_assoc]
     ·intro H' hj'
      rw [hF'] at hj'
      simp only [go_sem, hti]
      refine hK (j, i' + (F (q : Int)).length) _ _ ?_ ⟨by omega, hj', ?_, ?_⟩ (Nat.lt_succ_self _)
      ·simp only [go_sem, hti, w4, e3]
      ·rw [← List.drop_drop, hLx, List.append_assoc, List.drop_left]
      ·rw [← hlx, List.length_append]; simp only; omega
end Wb
namespace Wb
open Go Go.Proofs Enc Row
set_option linter.unusedSimpArgs false
set_option linter.unusedVariables false
set_option maxRecDepth 20000
set_option maxHeartbeats 8000000
theorem ev_rangeFn {E : Env} {h : Handler} {path : List Nat} {fid : Nat} {f : Operand} {ps : Array Nat} {asg body : Code} {Q : Exit → List PV → Heap → Prop} {τ : List PV} {H : Heap} {g : Nat} {first cap : List PV} (p0 site : Nat) (hps : ps.toList = [p0]) (hsite : fid * 1000000 + 900000 + p0 = site) (hf : opd τ f = .fn g first cap) :
    ev E h path false fid (.rangeFunc f ps asg body) Q τ H = h (site :: path) (.fn g [] []) (first ++ [.yld (path, site) (verOf H (path, site) + 1)] ++ cap)
      (H.set (path, site) (.loop { st := .ready, pending := none, fn := fid, params := [p0], assign := asg, body := body, tmps := τ } (verOf H (path, site) + 1))) (fun _ H' => rangeK (path, site) (verOf H (path, site) + 1) τ Q H') := by
 simp only [ev, hf, hps, true_and]
 rw [show fid * 1000000 + 900000 + [p0].getD 0 0 = site from hsite]
theorem ev_rangeFnR {E : Env} {h : Handler} {path : List Nat} {fid : Nat} {f : Operand} {ps : Array Nat} {asg body : Code} {Q : Exit → List PV → Heap → Prop} {τ : List PV} {H : Heap} {g : Nat} {first cap : List PV} (p0 site : Nat) (hps : ps.toList = [p0]) (hsite : fid * 1000000 + 900000 + p0 = site) (hf : opd τ f = .fn g first cap)
    (hk : ∀ rc : Rec, rc.st = .ready → rc.pending = none → rc.fn = fid → rc.params = [p0] → rc.assign = asg → rc.body = body → rc.tmps = τ →
      h (site :: path) (.fn g [] []) (first ++ [.yld (path, site) (verOf H (path, site) + 1)] ++ cap) (H.set (path, site) (.loop rc (verOf H (path, site) + 1))) (fun _ H' => rangeK (path, site) (verOf H (path, site) + 1) τ Q H')) :
    ev E h path false fid (.rangeFunc f ps asg body) Q τ H := by
 rw [ev_rangeFn p0 site hps hsite hf]
 exact hk _ rfl rfl rfl rfl rfl rfl rfl
theorem rec_again {rc : Rec} (h1 : rc.st = .ready) (h2 : rc.pending = none) : ({ rc with st := .ready, pending := none } : Rec) = rc := by
 cases rc; simp only at h1 h2; subst h1; subst h2; rfl
def cbit (a c : Int) : Bool := !(bits BinOp.and .i64 (shft false .i64 a c) 1 == 0)
def manyL (x : LLine) (y : Entry) (f : Fit) (c : Nat) (k : Nat) : List Line := (List.range k).map fun (m : Nat) => ⟨⟨y.good, f.size, (c : Int)⟩, x.mlo + (m : Int)⟩
def colL (x : LLine) (y : Entry) (f : Fit) (k : Nat) : List Line := (List.range k).flatMap fun (c : Nat) => if (sizeB x f && cbit (bits BinOp.and .i64 x.colours y.colours) c) = true then manyL x y f c (x.mhi - x.mlo + 1).toNat else []
def entL (x : LLine) (y : Entry) (fs : List Fit) : List Line := fs.flatMap fun f => colL x y f 4
def numL (x : LLine) (is : Issue) (n : Int) : List Line := if findI (fun y => y.number == n) is.entries 0 < 0 then [] else entL x (is.entries.getD (findI (fun y => y.number == n) is.entries 0).toNat default) (is.entries.getD (findI (fun y => y.number == n) is.entries 0).toNat default).sizes
def meanL (x : LLine) (is : Issue) : List Line := (numsS x.digits true 0).flatMap (numL x is)
theorem findI_bound {α : Type} (p : α → Bool) : ∀ (l : List α) (i : Nat), findI p l i = -1 ∨ ((i : Int) ≤ findI p l i ∧ findI p l i < (i : Int) + l.length)
 | [], i => .inl rfl
 | a :: l, i => by
  rw [findI]
  by_cases h : p a = true
  ·rw [if_pos h]; right; simp only [List.length_cons]; omega
  ·rw [if_neg h]
   rcases findI_bound p l (i + 1) with e | e
   ·exact .inl e
   ·right; simp only [List.length_cons]; omega
theorem entL_take (x : LLine) (y : Entry) {fs : List Fit} {a : Nat} (h : a < fs.length) : entL x y (fs.take (a + 1)) = entL x y (fs.take a) ++ colL x y (fs.getD a default) 4 := by
 have e : fs.getD a default = fs[a] := by simp [h]
 unfold entL
 rw [e, List.take_succ_eq_append_getElem h, List.flatMap_append]; simp
theorem colL_succ (x : LLine) (y : Entry) (f : Fit) (c : Nat) : colL x y f (c + 1) = colL x y f c ++ (if (sizeB x f && cbit (bits BinOp.and .i64 x.colours y.colours) c) = true then manyL x y f c (x.mhi - x.mlo + 1).toNat else []) := by
 unfold colL
 rw [List.range_succ, List.flatMap_append]; simp
theorem manyL_succ (x : LLine) (y : Entry) (f : Fit) (c k : Nat) : manyL x y f c (k + 1) = manyL x y f c k ++ [⟨⟨y.good, f.size, (c : Int)⟩, x.mlo + (k : Int)⟩] := by
 unfold manyL
 rw [List.range_succ, List.map_append]; rfl
structure MOk (x : LLine) (is : Issue) : Prop where
 d : x.digits.length ≤ 4
 s : big x.sizes.length
 m : 1 ≤ x.mlo ∧ x.mlo ≤ x.mhi ∧ x.mhi ≤ 1000 ∧ x.mhi - x.mlo ≤ 1
 e : is.entries.length ≤ 24
 z : ∀ y ∈ is.entries, y.sizes.length ≤ 8
theorem flatMap_le {α β : Type} (f : α → List β) (B : Nat) : ∀ (l : List α), (∀ x ∈ l, (f x).length ≤ B) → (l.flatMap f).length ≤ l.length * B
 | [], _ => by simp
 | a :: l, h => by
  have h1 := flatMap_le f B l fun x hx => h x (List.mem_cons_of_mem _ hx)
  have h2 := h a (List.mem_cons_self ..)
  rw [List.flatMap_cons, List.length_append, List.length_cons, Nat.add_mul]; omega
theorem tlN_le (f : Int → List Int) (first : Bool) (c : Int) (B : Nat) (h : ∀ d, (f d).length ≤ B) : ∀ j, (tlN f first c j).length ≤ j * B
 | 0 => by simp [tlN]
 | j + 1 => by
  have h1 := tlN_le f first c B h j
  have h2 := h (9 - (j : Int))
  rw [tlN, List.length_append, Nat.add_mul, Nat.one_mul]
  split
  ·omega
  ·simp only [List.length_nil]; omega
theorem numsS_le : ∀ (l : List Int) (first : Bool) (n : Int), (numsS l first n).length ≤ 10 ^ l.length
 | [], _, _ => by simp [numsS]
 | c :: cs, first, n => by
  rw [numsS]
  refine Nat.le_trans (tlN_le _ _ _ (10 ^ cs.length) (fun d => numsS_le cs false _) 10) ?_
  rw [List.length_cons, Nat.pow_succ]; omega
theorem manyL_len (x : LLine) (y : Entry) (f : Fit) (c k : Nat) : (manyL x y f c k).length = k := by simp [manyL]
theorem colL_le (x : LLine) (y : Entry) (f : Fit) (k : Nat) (h : (x.mhi - x.mlo + 1).toNat ≤ 2) : (colL x y f k).length ≤ k * 2 := by
 unfold colL
 refine Nat.le_trans (flatMap_le _ 2 _ fun c _ => ?_) (by simp)
 split
 ·rw [manyL_len]; exact h
 ·simp
theorem entL_le (x : LLine) (y : Entry) (fs : List Fit) (h : (x.mhi - x.mlo + 1).toNat ≤ 2) : (entL x y fs).length ≤ fs.length * 8 := by
 unfold entL
 exact flatMap_le _ 8 _ fun f _ => colL_le x y f 4 h
theorem numL_le {x : LLine} {is : Issue} (hx : MOk x is) (n : Int) : (numL x is n).length ≤ 64 := by
 have hm := hx.m
 unfold numL
 split
 ·simp
 ·refine Nat.le_trans (entL_le _ _ _ (by omega)) ?_
  rename_i h
  have hb := findI_bound (fun y : Entry => y.number == n) is.entries 0
  have hl : (findI (fun y : Entry => y.number == n) is.entries 0).toNat < is.entries.length := by omega
  have := hx.z _ (show is.entries.getD (findI (fun y : Entry => y.number == n) is.entries 0).toNat default ∈ is.entries by
   rw [List.getD_eq_getElem?_getD, List.getElem?_eq_getElem hl]; exact List.getElem_mem _)
  omega
theorem encL_row (l : List Line) : ∀ row ∈ l.map encL, row.length = 4 := fun row h => by
 obtain ⟨a, _, rfl⟩ := List.mem_map.1 h; rfl
noncomputable def E26t : List (Nat × Spec) := [(124, t124), (126, t126)] ++ E25t
theorem E26t_ok : AllOK E26t := ⟨⟨t124_ok, Tryz.call124⟩, ⟨t126_ok, Tryz.call126⟩, E25t_ok⟩
noncomputable def E26 : Env := mkE E26t [(125, Tryz.f125), (150, Tryz.f150), (151, Tryz.f151)]
theorem E26_ok : EnvOK Tryz.prog E26 := envOK E26t_ok ⟨⟨Tryz.func125, Tryz.call125, by kernel_rfl⟩, ⟨Tryz.func150, Tryz.call150, by kernel_rfl⟩, ⟨Tryz.func151, Tryz.call151, by kernel_rfl⟩, trivial⟩
theorem E26_ti {t : Nat} : E26.ti t = ti t := rfl
theorem E26_e {t : Nat} : E26.eqt t = eqB t := rfl
theorem E26_k {t : Nat} : E26.keyt t = keyB t := rfl
theorem E26_g {t : Nat} : E26.glob t = glB t := rfl
attribute [go_sem] E26_ti E26_e E26_k E26_g
theorem means_fn (x : LLine) (is : Issue) (hx : MOk x is) : Fn E26 8 102 Tryz.f102 (Tryz.f102.body.getD .skip) [.agg (encLL x), .agg (encI is)] (.sl ((meanL x is).map encL) false) := by
 unfold Fn Tryz.f102
 simp only [go_sem, encLL, encI, @callV_in E26 125 rfl, heavy_none]
 rw [callN_in (E := E26) (g := 125) rfl rfl]
 unfold Tryz.f125
 simp only [go_sem]
 refine ev_rangeFnR 20 102900020 rfl rfl (g := 150) (first := []) (cap := [.ref ([102003002], 125000000) 1 0]) rfl fun rc q1 q2 q3 q4 q5 q6 q7 => ?_
 rw [callN_in (E := E26) (g := 150) rfl rfl]
 unfold Tryz.f150
 simp only [go_sem, @callV_in E26 151 rfl, heavy_none]
 have hlev : 7 = (6 - x.digits.length) + x.digits.length + 1 := by have := hx.d; omega
 rw [hlev]
 have hdl := hx.d
 obtain ⟨m', hm'⟩ : ∃ m', 6 - x.digits.length = m' + 1 := ⟨5 - x.digits.length, by omega⟩
 obtain ⟨P, hP⟩ : ∃ P : List Nat, P = 151002002 :: (List.replicate x.digits.length 151006017 ++ [150003001, 102900020]) := ⟨_, rfl⟩
 have p1 : ¬ P = [] := by rw [hP]; simp
 have p2 : ¬ P = [102003002] := by rw [hP]; simp
 have p3 : ¬ P = [102900020] := by rw [hP]; simp
 have r1 : ¬ [] = P := fun h => p1 h.symm
 have r2 : ¬ [102003002] = P := fun h => p2 h.symm
 have r3 : ¬ [102900020] = P := fun h => p3 h.symm
 refine next_loop (E := E26) E26_ti rfl rfl rfl (l := x.digits) hdl (K1 := ([102003002], 125000000)) (v1 := 1) (r1 := false) (K2 := ([102900020], 150000000)) (v2 := 1) (r2 := false) (K3 := ([102900020], 150001000)) (v3 := 1) (r3 := false) (KL := ([], 102900020)) (vL := 1) (6 - x.digits.length) [150003001, 102900020]
  (fun i H => H ([102003002], 125000000) = some (.cells [.sl (il x.digits) false] 1 false) ∧ H ([102900020], 150000000) = some (.cells [.yld ([], 102900020) 1] 1 false) ∧ H ([102900020], 150001000) = some (.cells [.fn 151 [] [.ref ([102003002], 125000000) 1 0, .ref ([102900020], 150000000) 1 0, .ref ([102900020], 150001000) 1 0]] 1 false) ∧
   H ([], 102000000) = some (.cells (encLL x) 1 false) ∧ H ([], 102000001) = some (.cells (encI is) 1 false) ∧ H ([], 102002003) = some (.cells [.fn 124 [.agg (encLL x)] []] 1 false) ∧ H ([], 102900020) = some (.loop rc 1) ∧
   ∃ p, H ([], 102001000) = some (.cells [p] 1 false) ∧ Own H (fun K => K = (P, 102018014)) p 4 ((((numsS x.digits true 0).take i).flatMap (numL x is)).map encL))
  (numsS x.digits true 0) (fun i H h => ⟨h.1, h.2.1, h.2.2.1⟩) ?_ x.digits.length 0 0 0 _ _ [] (by omega) (by decide) ?_ ?_ ?_
 ·rw [← hP]
  intro i H Q hi ⟨j1, j2, j3, j4, j5, j6, j7, p, j8, j9⟩ hQ
  clear hP
  generalize hn : (numsS x.digits true 0).getD i 0 = n
  have htk : ((numsS x.digits true 0).take (i + 1)).flatMap (numL x is) = ((numsS x.digits true 0).take i).flatMap (numL x is) ++ numL x is n := by
   have e : (numsS x.digits true 0).getD i 0 = (numsS x.digits true 0)[i] := by simp [hi]
   rw [List.take_succ_eq_append_getElem hi, List.flatMap_append, ← e, hn]; simp
  generalize hacc : ((numsS x.digits true 0).take i).flatMap (numL x is) = acc at htk j9
  have haccl : acc.length ≤ 640000 := by
   rw [← hacc]
   refine Nat.le_trans (flatMap_le _ 64 _ fun n _ => numL_le hx n) ?_
   have h1 := numsS_le x.digits true 0
   have h2 : (10 : Nat) ^ x.digits.length ≤ 10 ^ 4 := Nat.pow_le_pow_right (by omega) hdl
   have h3 : ((numsS x.digits true 0).take i).length ≤ (numsS x.digits true 0).length := by rw [List.length_take]; omega
   omega
  rw [hm', callN_yl j7]
  refine ⟨q1, by rw [q4]; rfl, ?_⟩
  generalize hbz : ({ rc with st := LoopState.busy } : Rec) = bz
  rw [q3, q4, q5, q6, q7]
  have fin : ∀ (τ' : List PV) (H3 : Heap), H3 ([], 102900020) = some (.loop bz 1) → (∀ K : Key, K.1 ≠ P → K ≠ ([], 102001000) → K ≠ ([], 102900020) → H3 K = H K) →
      (∃ p', H3 ([], 102001000) = some (.cells [p'] 1 false) ∧ Own H3 (fun K => K = (P, 102018014)) p' 4 ((acc ++ numL x is n).map encL)) → rndK ([], 102900020) 1 rc Q .normal τ' H3 := by
   intro τ' H3 f1 f2 ⟨p', f3, f4⟩
   refine ⟨by rw [hbz]; exact f1, hQ _ ?_⟩
   rw [rec_again q1 q2]
   have g : ∀ K : Key, K.1 ≠ P → K ≠ ([], 102001000) → K ≠ ([], 102900020) → (H3.set ([], 102900020) (.loop rc 1)) K = H K := fun K a b c => by rw [set_at_ne _ _ c]; exact f2 K a b c
   refine ⟨(g _ (fun h => p2 h.symm) (by simp) (by simp)).trans j1, (g _ (fun h => p3 h.symm) (by simp) (by simp)).trans j2, (g _ (fun h => p3 h.symm) (by simp) (by simp)).trans j3, (g _ (fun h => p1 h.symm) (by simp) (by simp)).trans j4, (g _ (fun h => p1 h.symm) (by simp) (by simp)).trans j5, (g _ (fun h => p1 h.symm) (by simp) (by simp)).trans j6, set_at_eq _ _ _, p', ?_, ?_⟩
   ·rw [set_at_ne _ _ (by simp)]; exact f3
   ·rw [htk]; exact f4.frame fun K hK => set_at_ne _ _ (by rw [hK]; simp [p1])
  obtain ⟨xd, xs, flo, fhi, xc, mlo, mhi⟩ := x
  obtain ⟨ilo, ihi, ihe, ien⟩ := is
  have hel := hx.e
  have hez := hx.z
  simp only at hel hez
  have be : big ien.length = True := eq_true (by unfold big; omega)
  simp only [encLL, encI] at j4 j5 j6
  simp only [go_sem, @ct E26 126 t126 rfl, t126, callSpec, List.zip_cons_cons, List.zip_nil_left, setAll, p1, p2, p3, r1, r2, r3, j1, j2, j3, j4, j5, j6, j7, j8, be]
  rw [condK_bool]
  have hnum : ∀ hh : ¬ findI (fun y => y.number == n) ien 0 < 0, numL ⟨xd, xs, flo, fhi, xc, mlo, mhi⟩ ⟨ilo, ihi, ihe, ien⟩ n = entL ⟨xd, xs, flo, fhi, xc, mlo, mhi⟩ (ien.getD (findI (fun y => y.number == n) ien 0).toNat default) (ien.getD (findI (fun y => y.number == n) ien 0).toNat default).sizes := fun hh => if_neg hh
  refine ⟨fun hneg => ?_, fun hneg => ?_⟩
  ·have hneg' : findI (fun y => y.number == n) ien 0 < 0 := by simpa using hneg
   have h0 : numL ⟨xd, xs, flo, fhi, xc, mlo, mhi⟩ ⟨ilo, ihi, ihe, ien⟩ n = [] := if_pos hneg'
   simp only [go_sem]
   refine fin _ _ ?_ (fun K a b c => ?_) ⟨p, ?_, ?_⟩
   ·simp only [go_sem]
   ·have e : ∀ m, K ≠ (P, m) := fun m e => a (by rw [e])
    simp only [set_at, e, c, if_false]
   ·simp only [go_sem, r1, j8]
   ·rw [h0, List.append_nil]
    exact j9.frame fun K hK => by subst hK; simp only [go_sem, p1]
  ·have hnn : ¬ findI (fun y => y.number == n) ien 0 < 0 := by simpa using hneg
   rw [hnum hnn] at fin
   obtain ⟨k, hk⟩ : ∃ k : Nat, findI (fun y => y.number == n) ien 0 = (k : Int) := ⟨(findI (fun y => y.number == n) ien 0).toNat, by omega⟩
   have hkl : k < ien.length := by
    rcases findI_bound (fun y : Entry => y.number == n) ien 0 with e | e <;> omega
   have hkk : ((k : Int) < (ien.length : Int)) = True := eq_true (by omega)
   have hk0 : (0 ≤ (k : Int)) = True := eq_true (by omega)
   rw [hk] at fin ⊢
   simp only [Int.toNat_natCast] at fin
   have hym : ien.getD k default ∈ ien := by
    rw [List.getD_eq_getElem?_getD, List.getElem?_eq_getElem hkl]; exact List.getElem_mem _
   have hz8 := hez _ hym
   generalize hy : ien.getD k default = y at fin hz8
   obtain ⟨yn, yg, yc, ys⟩ := y
   simp only at hz8
   simp only [go_sem, p1, p2, p3, r1, r2, r3, j5, hkk, hk0, Int.toNat_natCast, getD_mapN encE ien k _ hkl, hy, encE]
   generalize hvy : verOf H (P, 102007005) + 1 = vy
   obtain ⟨X, hX⟩ : ∃ X : LLine, X = ⟨xd, xs, flo, fhi, xc, mlo, mhi⟩ := ⟨_, rfl⟩
   obtain ⟨Y, hY⟩ : ∃ Y : Entry, Y = ⟨yn, yg, yc, ys⟩ := ⟨_, rfl⟩
   rw [← hX, ← hY] at fin
   have hsb : big xs.length = True := eq_true hx.s
   have hmm := hx.m
   simp only at hmm
   refine ev_loopS [2, 3, 5, 6, 9, 33, 34] (fun a : Nat => [(35, .int .i64 a)]) (fun a H2 => a ≤ ys.length ∧ (∀ K : Key, K.1 ≠ P → K ≠ ([], 102001000) → K ≠ ([], 102900020) → H2 K = H K) ∧ H2 ([], 102900020) = some (.loop bz 1) ∧ H2 (P, 102007005) = some (.cells [.int .i64 yn, .int .i64 yg, .int .i64 yc, .sl (ys.map encF) false] vy false) ∧
    ∃ p', H2 ([], 102001000) = some (.cells [p'] 1 false) ∧ Own H2 (fun K => K = (P, 102018014)) p' 4 ((acc ++ entL X Y (ys.take a)).map encL)) (fun a => ys.length - a) 0 ?_ ⟨by omega, fun K a b c => ?_, ?_, ?_, p, ?_, ?_⟩ ?_
   ·simp only [go_sem, Int.natCast_zero, List.length_map]
   ·have e : ∀ m, K ≠ (P, m) := fun m e => a (by rw [e])
    simp only [set_at, e, c, if_false]
   ·simp only [go_sem, r1]
   ·simp only [go_sem]
   ·simp only [go_sem, r1, j8]
   ·rw [List.take_zero, show entL X Y [] = [] from rfl, List.append_nil]
    exact j9.frame fun K hK => by subst hK; simp only [go_sem, p1]
   ·simp only [go_sem]
    intro Kc a H2 ⟨ha, f1, f2, f3, p2', f4, f5⟩ hK hE
    rw [condK_bool]
    refine ⟨fun hc => ?_, fun hc => ?_⟩
    ·have ha' : a < ys.length := by have := of_decide_eq_true hc; omega
     have haa : ((a : Int) < (ys.length : Int)) = True := eq_true (by omega)
     have ha0 : (0 ≤ (a : Int)) = True := eq_true (by omega)
     have w2 : IntKind.i64.wrap ((a : Int) + 1) = (a : Int) + 1 := wrap_id (by omega)
     have het := entL_take X Y ha'
     generalize hF : ys.getD a default = F at het
     obtain ⟨fsz, flo', fhi', fpr⟩ := F
     simp only [go_sem, p1, p2, p3, r1, r2, r3, haa, ha0, Int.toNat_natCast, List.length_map, getD_mapN encF ys a _ ha', hF, encF]
     generalize hvf : verOf H2 (P, 102010002) + 1 = vf
     refine ev_loopS [2, 3, 5, 6, 9, 33, 34, 35, 11] (fun b : Nat => [(39, .int .i64 b)]) (fun b H3 => b ≤ 4 ∧ (∀ K : Key, K.1 ≠ P → K ≠ ([], 102001000) → K ≠ ([], 102900020) → H3 K = H K) ∧ H3 ([], 102900020) = some (.loop bz 1) ∧ H3 (P, 102007005) = some (.cells [.int .i64 yn, .int .i64 yg, .int .i64 yc, .sl (ys.map encF) false] vy false) ∧ H3 (P, 102010002) = some (.cells [.int .i64 fsz, .int .i64 flo', .int .i64 fhi', .int .i64 fpr] vf false) ∧
      ∃ p', H3 ([], 102001000) = some (.cells [p'] 1 false) ∧ Own H3 (fun K => K = (P, 102018014)) p' 4 ((acc ++ entL X Y (ys.take a) ++ colL X Y ⟨fsz, flo', fhi', fpr⟩ b).map encL)) (fun b => 4 - b) 0 ?_ ⟨by omega, fun K a b c => ?_, ?_, ?_, ?_, p2', ?_, ?_⟩ ?_
     ·simp only [go_sem, Int.natCast_zero]
     ·have e : ∀ m, K ≠ (P, m) := fun m e => a (by rw [e])
      simp only [set_at, e, if_false]
      exact f1 K a b c
     ·simp only [go_sem, r1, f2]
     ·simp only [go_sem, f3]
     ·simp only [go_sem]
     ·simp only [go_sem, r1, f4]
     ·rw [show colL X Y ⟨fsz, flo', fhi', fpr⟩ 0 = [] from rfl, List.append_nil]
      exact f5.frame fun K hK => by subst hK; simp only [go_sem, p1]
     ·simp only [go_sem]
      intro Kd b H3 ⟨hb, k1, k2, k3, k4, p3', k5, k6⟩ hK2 hE2
      have g1 := (k1 ([], 102000000) (fun h => p1 h.symm) (by simp) (by simp)).trans j4
      have g2 := (k1 ([], 102002003) (fun h => p1 h.symm) (by simp) (by simp)).trans j6
      rw [condK_bool]
      refine ⟨fun hc => ?_, fun hc => ?_⟩
      ·have hb' : b < 4 := by have := of_decide_eq_true hc; omega
       have hb0 : (0 ≤ (b : Int)) = True := eq_true (by omega)
       have w3 : IntKind.i64.wrap ((b : Int) + 1) = (b : Int) + 1 := wrap_id (by omega)
       have hcs := colL_succ X Y ⟨fsz, flo', fhi', fpr⟩ b
       have hsz : sizeB ⟨xd, xs, flo, fhi, xc, mlo, mhi⟩ ⟨fsz, flo', fhi', fpr⟩ = sizeB X ⟨fsz, flo', fhi', fpr⟩ := by rw [hX]
       have w5 : IntKind.i64.wrap (mhi - mlo) = mhi - mlo := wrap_id (by omega)
       have w6 : IntKind.i64.wrap (mhi - mlo + 1) = mhi - mlo + 1 := wrap_id (by omega)
       simp only [go_sem, @ct E26 124 t124 rfl, t124, callSpec, p1, p2, p3, r1, r2, r3, g1, g2, k3, k4, k5, hb0, hsb, hsz, w3]
       rw [condK_bool]
       have hcb : cbit (bits BinOp.and .i64 X.colours Y.colours) b = !(bits BinOp.and IntKind.i64 (shft false IntKind.i64 (bits BinOp.and IntKind.i64 xc yc) (b : Int)) 1 == 0) := by rw [hX, hY]; rfl
       rw [hcb] at hcs
       generalize hb0' : (bits BinOp.and IntKind.i64 (shft false IntKind.i64 (bits BinOp.and IntKind.i64 xc yc) (b : Int)) 1 == 0) = bz0 at hcs ⊢
       refine ⟨fun hs => ?_, fun hs => ?_⟩
       ·have hno : (sizeB X ⟨fsz, flo', fhi', fpr⟩ && !bz0) = false := by
         cases h : sizeB X ⟨fsz, flo', fhi', fpr⟩ <;> cases bz0 <;> simp_all
        rw [hno, if_neg (by simp), List.append_nil] at hcs
        simp only [go_sem]
        refine hK2 (b + 1) _ _ ?_ ⟨by omega, k1, k2, k3, k4, p3', k5, ?_⟩ (by omega)
        ·simp only [go_sem, w3, Int.natCast_add, Int.natCast_one]
        ·rw [hcs]; exact k6
       ·have hye : (sizeB X ⟨fsz, flo', fhi', fpr⟩ && !bz0) = true := by
         cases h : sizeB X ⟨fsz, flo', fhi', fpr⟩ <;> cases bz0 <;> simp_all
        rw [hye, if_pos rfl] at hcs
        obtain ⟨N, hN⟩ : ∃ N : Nat, mhi - mlo + 1 = (N : Int) := ⟨(mhi - mlo + 1).toNat, by omega⟩
        have hNX : (X.mhi - X.mlo + 1).toNat = N := by rw [hX]; simp only; omega
        rw [hNX] at hcs
        have hNw : IntKind.i64.wrap (N : Int) = (N : Int) := wrap_id (by omega)
        simp only [go_sem, p1, p2, p3, r1, r2, r3, g1, w5, w6, hN, hNw]
        refine ev_loopS [2, 3, 5, 6, 9, 33, 34, 35, 11, 39, 12, 64] (fun m : Nat => [(65, .int .i64 m)]) (fun m H4 => m ≤ N ∧ (∀ K : Key, K.1 ≠ P → K ≠ ([], 102001000) → K ≠ ([], 102900020) → H4 K = H K) ∧ H4 ([], 102900020) = some (.loop bz 1) ∧ H4 (P, 102007005) = some (.cells [.int .i64 yn, .int .i64 yg, .int .i64 yc, .sl (ys.map encF) false] vy false) ∧ H4 (P, 102010002) = some (.cells [.int .i64 fsz, .int .i64 flo', .int .i64 fhi', .int .i64 fpr] vf false) ∧
         ∃ p', H4 ([], 102001000) = some (.cells [p'] 1 false) ∧ Own H4 (fun K => K = (P, 102018014)) p' 4 ((acc ++ entL X Y (ys.take a) ++ colL X Y ⟨fsz, flo', fhi', fpr⟩ b ++ manyL X Y ⟨fsz, flo', fhi', fpr⟩ b m).map encL)) (fun m => N - m) 0 ?_ ⟨by omega, k1, k2, k3, k4, p3', k5, ?_⟩ ?_
        ·simp only [go_sem, Int.natCast_zero]
        ·rw [show manyL X Y ⟨fsz, flo', fhi', fpr⟩ b 0 = [] from rfl, List.append_nil]; exact k6
        ·simp only [go_sem]
         intro Ke m H4 ⟨hm, l1, l2, l3, l4, p4', l5, l6⟩ hK3 hE3
         have g1 := (l1 ([], 102000000) (fun h => p1 h.symm) (by simp) (by simp)).trans j4
         rw [condK_bool]
         refine ⟨fun hc2 => ?_, fun hc2 => ?_⟩
         ·have hmN : m < N := by have := of_decide_eq_true hc2; omega
          have w7 : IntKind.i64.wrap ((m : Int) + 1) = (m : Int) + 1 := wrap_id (by omega)
          have w8 : IntKind.i64.wrap (mlo + (m : Int)) = mlo + (m : Int) := wrap_id (by omega)
          have hms := manyL_succ X Y ⟨fsz, flo', fhi', fpr⟩ b m
          have hOT := OwnTaint l6
          simp only [go_sem, p1, p2, p3, r1, r2, r3, g1, l3, l4, l5, hOT, w8]
          have hX2 : (X.mhi - X.mlo + 1).toNat ≤ 2 := by rw [hNX]; omega
          have b1 := entL_le X Y (ys.take a) hX2
          have b2 := colL_le X Y ⟨fsz, flo', fhi', fpr⟩ b hX2
          have b3 := manyL_len X Y ⟨fsz, flo', fhi', fpr⟩ b m
          have b4 : (ys.take a).length ≤ ys.length := by rw [List.length_take]; omega
          refine app_one trivial rfl rfl (by decide) (by decide) (set_at_eq _ _ _) (l6.frame fun K hK => set_at_ne _ _ (by rw [hK]; simp)) rfl ?_ (encL_row _) ⟨rfl, rfl⟩ fun p5 H5 hO hF5 => ?_
          ·rw [List.length_map]
           show (_ + 1) * 32 ≤ _
           simp only [List.length_append]
           omega
          ·have hOT5 := OwnTaint hO
           have o5 : ∀ K : Key, K ≠ (P, 102018014) → K ≠ (P, 102018013) → H5 K = H4 K := fun K a b => (hF5 K a).trans (set_at_ne _ _ b)
           have o6 := (o5 ([], 102001000) (by simp [r1]) (by simp [r1])).trans l5
           simp only [go_sem, o6, hOT5]
           refine hK3 (m + 1) _ _ ?_ ⟨by omega, fun K a b c => ?_, ?_, ?_, ?_, p5, ?_, ?_⟩ (by omega)
           ·simp only [go_sem, w7, Int.natCast_add, Int.natCast_one]
           ·rw [set_at_ne _ _ b, o5 K (fun e => a (by rw [e])) (fun e => a (by rw [e]))]; exact l1 K a b c
           ·rw [set_at_ne _ _ (by simp), o5 _ (by simp [r1]) (by simp [r1])]; exact l2
           ·rw [set_at_ne _ _ (by simp [p1]), o5 _ (by simp) (by simp)]; exact l3
           ·rw [set_at_ne _ _ (by simp [p1]), o5 _ (by simp) (by simp)]; exact l4
           ·exact set_at_eq _ _ _
           ·rw [hms, ← List.append_assoc, List.map_append]
            refine Own.frame (H := H5) ?_ fun K hK => set_at_ne _ _ (by rw [hK]; simp [p1])
            have e1 : ([⟨⟨Y.good, fsz, (b : Int)⟩, X.mlo + (m : Int)⟩] : List Line).map encL = [[.int .i64 yg, .int .i64 fsz, .int .i64 b, .int .i64 (mlo + (m : Int))]] := by rw [hX, hY]; rfl
            rw [e1]; exact hO
         ·have hmN : m = N := by have : ¬ ((m : Int) < (N : Int)) := by simpa using hc2
                                 omega
          subst hmN
          simp only [go_sem]
          refine hE3 _ _ _ (by simp) ?_
          simp only [go_sem]
          refine hK2 (b + 1) _ _ ?_ ⟨by omega, l1, l2, l3, l4, p4', l5, ?_⟩ (by omega)
          ·simp only [go_sem, w3, Int.natCast_add, Int.natCast_one]
          ·rw [hcs, ← List.append_assoc]; exact l6
      ·have hb' : b = 4 := by have : ¬ ((b : Int) < 4) := by simpa using hc
                              omega
       subst hb'
       simp only [go_sem]
       refine hE2 _ _ _ (by simp) ?_
       simp only [go_sem]
       refine hK (a + 1) _ _ ?_ ⟨by omega, k1, k2, k3, p3', k5, ?_⟩ (by omega)
       ·simp only [go_sem, w2, Int.natCast_add, Int.natCast_one]
       ·rw [het, ← List.append_assoc]; exact k6
    ·have ha' : a = ys.length := by have : ¬ ((a : Int) < (ys.length : Int)) := by simpa using hc
                                    omega
     subst ha'
     rw [List.take_length] at f5
     simp only [go_sem]
     refine hE _ _ _ (by simp) ?_
     simp only [go_sem]
     refine fin _ _ f2 f1 ⟨p2', f4, ?_⟩
     rw [hY] at f5 ⊢; exact f5
 ·rw [List.drop_zero, List.append_nil]; rfl
 ·refine ⟨?_, ?_, ?_, ?_, ?_, ?_, ?_, .sl [] true, ?_, .inl ⟨?_, rfl⟩⟩
  ·simp only [go_sem]
  ·simp only [go_sem]
  ·simp only [go_sem]
  ·simp only [go_sem, encLL]
  ·simp only [go_sem, encI]
  ·simp only [go_sem, encLL]
  ·simp only [go_sem]
  ·simp only [go_sem]
  ·simp
 ·rintro H' ⟨j1, j2, j3, j4, j5, j6, j7, p, j8, j9⟩
  have hall : ((numsS x.digits true 0).take (0 + (numsS (x.digits.drop 0) (decide (0 = 0)) 0).length)).flatMap (numL x is) = meanL x is := by
   have e : numsS (x.digits.drop 0) (decide (0 = 0)) 0 = numsS x.digits true 0 := rfl
   rw [e, Nat.zero_add, List.take_length]; rfl
  rw [hall] at j9
  simp only [go_sem]
  unfold rangeK
  rw [j7]
  refine ⟨rfl, by rw [q1]; simp, ?_⟩
  rw [q2]
  have hOT := OwnTaint j9
  simp only [go_sem, j8, hOT]
  exact (j9.frame fun K hK => set_at_ne _ _ (by rw [hK]; simp [p1])).fin
def t102 : Spec := spec2 MOk (fun x is => .sl ((meanL x is).map encL) false)
theorem t102_ok : SpecOK Tryz.prog glB 102 t102 := spec2_ok E26_ok Tryz.func102 rfl (by kernel_rfl) fun x is h => means_fn x is h
noncomputable def E27t : List (Nat × Spec) := [(102, t102)] ++ E26t
theorem E27t_ok : AllOK E27t := ⟨⟨t102_ok, Tryz.call102⟩, E26t_ok⟩
noncomputable def E27 : Env := mkE E27t []
theorem E27_ok : EnvOK Tryz.prog E27 := envOK E27t_ok trivial
theorem E27_ti {t : Nat} : E27.ti t = ti t := rfl
theorem E27_e {t : Nat} : E27.eqt t = eqB t := rfl
theorem E27_k {t : Nat} : E27.keyt t = keyB t := rfl
theorem E27_g {t : Nat} : E27.glob t = glB t := rfl
attribute [go_sem] E27_ti E27_e E27_k E27_g
def mnPV (x : Lett) (i j : Nat) : PV := .sl ((meanL (x.lines.getD j default) (x.rack.issues.getD i default)).map encL) false
def openJ (x : Lett) (i : Nat) (es : List (List Int × PV)) : Nat → List (List Int × PV)
 | 0 => es
 | k + 1 => mset (openJ x i es k) [(i : Int), (k : Int)] (mnPV x i k)
def openI (x : Lett) : Nat → List (List Int × PV)
 | 0 => []
 | k + 1 => openJ x k (openI x k) x.lines.length
theorem openJ_zero (x : Lett) (i : Nat) (es : List (List Int × PV)) : openJ x i es 0 = es := rfl
theorem openJ_succ (x : Lett) (i : Nat) (es : List (List Int × PV)) (k : Nat) : openJ x i es (k + 1) = mset (openJ x i es k) [(i : Int), (k : Int)] (mnPV x i k) := rfl
theorem openI_succ (x : Lett) (k : Nat) : openI x (k + 1) = openJ x k (openI x k) x.lines.length := rfl
structure LGood (x : Lett) : Prop where
 i : x.rack.issues.length ≤ 4
 l : x.lines.length ≤ 2
 m : ∀ y ∈ x.lines, ∀ is ∈ x.rack.issues, MOk y is
theorem opened_lt (x : Lett) (hx : LGood x) : Fn E27 0 63 Tryz.f63 (Tryz.f63.body.getD .skip) [.agg (encLt x)] (.agg (encLC ⟨x, openI x x.rack.issues.length⟩)) := by
 unfold Fn Tryz.f63
 obtain ⟨⟨g, is⟩, dlo, dhi, ls, clo, chi⟩ := x
 have hxi := hx.i
 have hxl := hx.l
 have hxm := hx.m
 simp only at hxi hxl hxm
 simp only [go_sem, encLt]
 obtain ⟨X, hX⟩ : ∃ X : Lett, X = ⟨⟨g, is⟩, dlo, dhi, ls, clo, chi⟩ := ⟨_, rfl⟩
 rw [← hX]
 refine ev_loopS [1, 2, 3, 13, 14] (fun i : Nat => [(15, .int .i64 i)]) (fun i H => i ≤ is.length ∧ H ([], 63000000) = some (.cells [.int .i64 g, .sl (is.map encI) false, .int .i64 dlo, .int .i64 dhi, .sl (ls.map encLL) false, .int .i64 clo, .int .i64 chi] 1 false) ∧
  H ([], 63001003) = some (.cells [.int .i64 g, .sl (is.map encI) false, .int .i64 dlo, .int .i64 dhi, .sl (ls.map encLL) false, .int .i64 clo, .int .i64 chi, .mref ([], 63001001) 1] 1 false) ∧ H ([], 63001001) = some (.map true 2 (openI X i) 1 false) ∧ H ([], 63000001) = some (.cells [.int .i64 0, .sl [] true, .int .i64 0, .int .i64 0, .sl [] true, .int .i64 0, .int .i64 0, .nilmap] 1 false)) (fun i => is.length - i) 0 ?_ ⟨by omega, ?_, ?_, ?_, ?_⟩ ?_
 ·simp only [go_sem, Int.natCast_zero, List.length_map]
 ·simp only [go_sem]
 ·simp only [go_sem]
 ·simp only [go_sem]; rfl
 ·simp only [go_sem]
 ·simp only [go_sem]
  intro K i H ⟨hi, h1, h2, h3, h4⟩ hK hE
  rw [condK_bool]
  refine ⟨fun hc => ?_, fun hc => ?_⟩
  ·have hi' : i < is.length := by have := of_decide_eq_true hc; omega
   have hii : ((i : Int) < (is.length : Int)) = True := eq_true (by omega)
   have hi0 : (0 ≤ (i : Int)) = True := eq_true (by omega)
   have w2 : IntKind.i64.wrap ((i : Int) + 1) = (i : Int) + 1 := wrap_id (by omega)
   have him : is.getD i default ∈ is := by
    rw [List.getD_eq_getElem?_getD, List.getElem?_eq_getElem hi']; exact List.getElem_mem _
   generalize hI : is.getD i default = I at him
   obtain ⟨ilo, ihi, ihe, ien⟩ := I
   simp only [go_sem, hii, hi0, Int.toNat_natCast, List.length_map, getD_mapN encI is i _ hi', hI, encI, h1]
   generalize hvi : verOf H ([], 63004003) + 1 = vi
   refine ev_loopS [1, 2, 3, 4, 5, 13, 14, 15, 21, 22] (fun j : Nat => [(23, .int .i64 j)]) (fun j H => j ≤ ls.length ∧ H ([], 63000000) = some (.cells [.int .i64 g, .sl (is.map encI) false, .int .i64 dlo, .int .i64 dhi, .sl (ls.map encLL) false, .int .i64 clo, .int .i64 chi] 1 false) ∧
    H ([], 63001003) = some (.cells [.int .i64 g, .sl (is.map encI) false, .int .i64 dlo, .int .i64 dhi, .sl (ls.map encLL) false, .int .i64 clo, .int .i64 chi, .mref ([], 63001001) 1] 1 false) ∧ H ([], 63001001) = some (.map true 2 (openJ X i (openI X i) j) 1 false) ∧ H ([], 63000001) = some (.cells [.int .i64 0, .sl [] true, .int .i64 0, .int .i64 0, .sl [] true, .int .i64 0, .int .i64 0, .nilmap] 1 false) ∧ H ([], 63004003) = some (.cells [.int .i64 ilo, .int .i64 ihi, .int .i64 ihe, .sl (ien.map encE) false] vi false)) (fun j => ls.length - j) 0 ?_ ⟨by omega, ?_, ?_, ?_, ?_, ?_⟩ ?_
   ·simp only [go_sem, Int.natCast_zero, List.length_map]
   ·simp only [go_sem, h1]
   ·simp only [go_sem, h2]
   ·simp only [go_sem, h3, openJ_zero]
   ·simp only [go_sem, h4]
   ·simp only [go_sem]
   ·simp only [go_sem]
    intro K j H ⟨hj, h1, h2, h3, h4, h5⟩ hK2 hE2
    rw [condK_bool]
    refine ⟨fun hc => ?_, fun hc => ?_⟩
    ·have hj' : j < ls.length := by have := of_decide_eq_true hc; omega
     have hjj : ((j : Int) < (ls.length : Int)) = True := eq_true (by omega)
     have hj0 : (0 ≤ (j : Int)) = True := eq_true (by omega)
     have w3 : IntKind.i64.wrap ((j : Int) + 1) = (j : Int) + 1 := wrap_id (by omega)
     have hjm : ls.getD j default ∈ ls := by
      rw [List.getD_eq_getElem?_getD, List.getElem?_eq_getElem hj']; exact List.getElem_mem _
     have hmn : openJ X i (openI X i) (j + 1) = mset (openJ X i (openI X i) j) [(i : Int), (j : Int)] (.sl ((meanL (ls.getD j default) (is.getD i default)).map encL) false) := by
      rw [openJ_succ, hX]; rfl
     have hok := eq_true (hxm _ hjm _ him)
     rw [hI] at hmn
     generalize hJ : ls.getD j default = J at hjm hok hmn
     obtain ⟨ds, ss, flo, fhi, cs, mlo, mhi⟩ := J
     simp only [go_sem, @ct E27 102 t102 rfl, t102, hjj, hj0, Int.toNat_natCast, List.length_map, getD_mapN encLL ls j _ hj', hJ, encLL, h1, h2, h3, h5, hok, callSpec, mapPut, keyOf, ints, w3]
     refine hK2 (j + 1) _ _ ?_ ⟨by omega, ?_, ?_, ?_, ?_, ?_⟩ (by omega)
     ·simp only [go_sem, w3, Int.natCast_add, Int.natCast_one]
     ·simp only [go_sem, h1]
     ·simp only [go_sem, h2]
     ·simp only [go_sem, hmn]
     ·simp only [go_sem, h4]
     ·simp only [go_sem, h5]
    ·have hj' : j = ls.length := by have : ¬ ((j : Int) < (ls.length : Int)) := by simpa using hc
                                    omega
     subst hj'
     have hmi : openI X (i + 1) = openJ X i (openI X i) ls.length := by rw [openI_succ, hX]
     rw [← hmi] at h3
     simp only [go_sem]
     refine hE2 _ _ _ (by simp) ?_
     simp only [go_sem]
     refine hK (i + 1) _ _ ?_ ⟨by omega, h1, h2, h3, h4⟩ (by omega)
     simp only [go_sem, w2, Int.natCast_add, Int.natCast_one]
  ·have hi' : i = is.length := by have : ¬ ((i : Int) < (is.length : Int)) := by simpa using hc
                                  omega
   subst hi'
   simp only [go_sem]
   refine hE _ _ _ (by simp) ?_
   simp only [go_sem, h2, h3, h4]
   subst hX
   exact wkL_refl _
theorem dec_lcalc (x : Lett) (es : List (List Int × PV)) : (dec (.agg [.int .i64 x.rack.goods, .sl (x.rack.issues.map encI) false, .int .i64 x.dlo, .int .i64 x.dhi, .sl (x.lines.map encLL) false, .int .i64 x.clo, .int .i64 x.chi, .mp true 2 es]) : Option LCalc) = some ⟨x, es⟩ := Enc.dec_enc (⟨x, es⟩ : LCalc)
theorem dec_lcalc' (g : Int) (is : List Issue) (a b : Int) (ls : List LLine) (c d : Int) (e1 e2 : Bool) (es : List (List Int × PV)) : (dec (.agg [.int .i64 g, .sl (is.map encI) e1, .int .i64 a, .int .i64 b, .sl (ls.map encLL) e2, .int .i64 c, .int .i64 d, .mp true 2 es]) : Option LCalc) = some ⟨⟨⟨g, is⟩, a, b, ls, c, d⟩, es⟩ := by
 show dLC _ = _
 simp only [dLC, dI_map, dLL_map]
theorem dec_lcalc0 (c : LCalc) : (dec (.agg (encLC c)) : Option LCalc) = some c := Enc.dec_enc c
attribute [go_sem] dec_lcalc dec_lcalc' dec_lcalc0
def lcOf (x : Lett) : LCalc := ⟨x, openI x x.rack.issues.length⟩
def t63 : Spec := spec1 LGood fun x => .agg (encLC (lcOf x))
theorem t63_ok : SpecOK Tryz.prog glB 63 t63 := spec1_ok E27_ok Tryz.func63 rfl (by kernel_rfl) fun x h => opened_lt x h
end Wb
