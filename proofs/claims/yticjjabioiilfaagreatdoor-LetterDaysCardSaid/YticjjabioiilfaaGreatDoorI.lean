import Derived.Test.YticjjabioiilfaaGreatDoorH
import Derived.Test.YticjjabioiilfaaGreatDoorB
import Derived.Test.YticjjabioiilfaaGreatDoorG
set_option linter.unusedVariables false
set_option linter.unusedSimpArgs false
namespace Wb
open Go Go.Proofs Enc Row
set_option linter.unusedSimpArgs false
set_option linter.unusedVariables false
set_option maxRecDepth 20000
set_option maxHeartbeats 8000000
noncomputable def E28t : List (Nat × Spec) := [(42, s34), (63, t63)] ++ E27t
theorem E28t_ok : AllOK E28t := ⟨⟨s34_ok, Tryz.call42⟩, ⟨t63_ok, Tryz.call63⟩, E27t_ok⟩
noncomputable def E28 : Env := mkE E28t []
theorem E28_ok : EnvOK Tryz.prog E28 := envOK E28t_ok trivial
theorem E28_ti {t : Nat} : E28.ti t = ti t := rfl
theorem E28_e {t : Nat} : E28.eqt t = eqB t := rfl
theorem E28_k {t : Nat} : E28.keyt t = keyB t := rfl
theorem E28_g {t : Nat} : E28.glob t = glB t := rfl
attribute [go_sem] E28_ti E28_e E28_k E28_g
def costM (r : Rack) (day : Int) (x : Line) : Int := if (sumM r day [x]).2 = 0 then (sumM r day [x]).1 else -1
def costsR (r : Rack) (day : Int) (ls : List Line) (i : Nat) : List (List PV) := il ((ls.take i).map (costM r day)) ++ List.replicate (ls.length - i) [.int .i64 0]
theorem costsR_set (r : Rack) (day : Int) (ls : List Line) (i : Nat) (h : i < ls.length) : (costsR r day ls i).set i [.int .i64 (costM r day (ls.getD i default))] = costsR r day ls (i + 1) := by
 unfold costsR
 have e : ls.getD i default = ls[i] := by simp [h]
 have hl : (il ((ls.take i).map (costM r day))).length = i := by simp [il]; omega
 rw [List.set_append_right _ _ (by omega), hl, Nat.sub_self, show ls.length - i = (ls.length - (i + 1)) + 1 by omega, List.replicate_succ, List.set_cons_zero, List.take_succ_eq_append_getElem h, e]
 simp only [il, List.map_append, List.append_assoc]; rfl
theorem costsR_get (r : Rack) (day : Int) (ls : List Line) (i : Nat) (h : i < ls.length) : (costsR r day ls i).getD i [.int .i64 0] = [.int .i64 0] := by
 unfold costsR
 have hl : (il ((ls.take i).map (costM r day))).length = i := by simp [il]; omega
 rw [List.getD_eq_getElem?_getD, List.getElem?_append_right (by omega), hl, Nat.sub_self, show ls.length - i = (ls.length - (i + 1)) + 1 by omega, List.replicate_succ]; rfl
theorem costs_fn (c : LCalc) (day : Int) (ls : List Line) (hr : okRack c.x.rack) (hl : ls.length ≤ 1000000) : Fn E28 0 104 Tryz.f104 (Tryz.f104.body.getD .skip) [.agg (encLC c), .int .i64 day, .sl (ls.map encL) false] (.sl (il (ls.map (costM c.x.rack day))) false) := by
 unfold Fn Tryz.f104
 obtain ⟨⟨⟨g, is⟩, dlo, dhi, lns, clo, chi⟩, es⟩ := c
 simp only at hr
 obtain ⟨R, hR⟩ : ∃ R : Rack, R = ⟨g, is⟩ := ⟨_, rfl⟩
 have hb1 : ((ls.length : Int) * 8 ≤ 1099511627776) = True := eq_true (by omega)
 have hb0 : (0 ≤ (ls.length : Int)) = True := eq_true (by omega)
 simp only [go_sem, encLC, encLt, List.cons_append, List.nil_append, List.length_map, makeRows, hb1, hb0, Int.toNat_natCast]
 refine ev_loopS [1, 2, 3, 7, 15, 16] (fun i : Nat => [(17, .int .i64 i)]) (fun i H => i ≤ ls.length ∧ H ([], 104000000) = some (.cells [.int .i64 g, .sl (is.map encI) false, .int .i64 dlo, .int .i64 dhi, .sl (lns.map encLL) false, .int .i64 clo, .int .i64 chi, .mp true 2 es] 1 false) ∧
  H ([], 104001002) = some (.rows 1 (costsR R day ls i) 1 false)) (fun i => ls.length - i) 0 ?_ ⟨by omega, ?_, ?_⟩ ?_
 ·simp only [go_sem, Int.natCast_zero, List.length_map]
 ·simp only [go_sem]
 ·simp only [go_sem, costsR, List.take_zero, Nat.sub_zero]; rfl
 ·simp only [go_sem]
  intro K i H ⟨hi, h1, h2⟩ hK hE
  rw [condK_bool]
  refine ⟨fun hc => ?_, fun hc => ?_⟩
  ·have hi' : i < ls.length := by have := of_decide_eq_true hc; omega
   have hii : ((i : Int) < (ls.length : Int)) = True := eq_true (by omega)
   have hi0 : (0 ≤ (i : Int)) = True := eq_true (by omega)
   have w2 : IntKind.i64.wrap ((i : Int) + 1) = (i : Int) + 1 := wrap_id (by omega)
   have hset := costsR_set R day ls i hi'
   have hlen : (costsR R day ls i).length = ls.length := by unfold costsR; simp [il]; omega
   have hb : big 1 = True := eq_true (by unfold big; omega)
   generalize hX : ls.getD i default = X at hset
   obtain ⟨⟨xg, xs, xc⟩, xm⟩ := X
   have hdec := dec_lines [⟨⟨xg, xs, xc⟩, xm⟩]
   simp only [List.map_cons, List.map_nil, encL] at hdec
   simp only [go_sem, @ct E28 42 s34 rfl, s34, hii, hi0, Int.toNat_natCast, List.length_map, getD_mapN encL ls i _ hi', hX, encL, h1, h2, callSpec, hr, hb, hdec, List.length_singleton]
   rw [condK_bool]
   refine ⟨fun hne => ?_, fun hne => ?_⟩
   ·have hz : (sumM ⟨g, is⟩ day [⟨⟨xg, xs, xc⟩, xm⟩]).2 ≠ 0 := by simpa using hne
    have hcm : costM R day ⟨⟨xg, xs, xc⟩, xm⟩ = -1 := by rw [hR]; simp only [costM]; exact if_neg hz
    rw [hcm] at hset
    simp only [go_sem, hii, hi0, hlen, Int.toNat_natCast, h2]
    refine ⟨hi', hK (i + 1) _ _ ?_ ⟨by omega, ?_, ?_⟩ (by omega)⟩
    ·simp only [go_sem, w2, Int.natCast_add, Int.natCast_one]
    ·simp only [go_sem, h1]
    ·simp only [go_sem, costsR_get R day ls i hi', List.set_cons_zero, hset]
   ·have hz : (sumM ⟨g, is⟩ day [⟨⟨xg, xs, xc⟩, xm⟩]).2 = 0 := by simpa using hne
    have hcm : costM R day ⟨⟨xg, xs, xc⟩, xm⟩ = (sumM ⟨g, is⟩ day [⟨⟨xg, xs, xc⟩, xm⟩]).1 := by rw [hR]; simp only [costM]; exact if_pos hz
    rw [hcm] at hset
    simp only [go_sem, hii, hi0, hlen, Int.toNat_natCast, h2]
    refine ⟨hi', hK (i + 1) _ _ ?_ ⟨by omega, ?_, ?_⟩ (by omega)⟩
    ·simp only [go_sem, w2, Int.natCast_add, Int.natCast_one]
    ·simp only [go_sem, h1]
    ·simp only [go_sem, costsR_get R day ls i hi', List.set_cons_zero, hset]
  ·have hi' : i = ls.length := by have : ¬ ((i : Int) < (ls.length : Int)) := by simpa using hc
                                  omega
   subst hi'
   have hfin : costsR R day ls ls.length = il (ls.map (costM R day)) := by unfold costsR; simp
   rw [hfin] at h2
   simp only [go_sem]
   refine hE _ _ _ (by simp) ?_
   simp only [go_sem, h2]
   rw [hR]
   exact ⟨by simp [il], wkR_refl _⟩
def t104 : Spec := spec3 (fun (c : LCalc) (_ : Int) (ls : List Line) => okRack c.x.rack ∧ ls.length ≤ 1000000) fun c day ls => .sl (il (ls.map (costM c.x.rack day))) false
theorem t104_ok : SpecOK Tryz.prog glB 104 t104 := spec3_ok E28_ok Tryz.func104 rfl (by kernel_rfl) fun c day ls h => costs_fn c day ls h.1 h.2
noncomputable def E29t : List (Nat × Spec) := [(104, t104)] ++ E28t
theorem E29t_ok : AllOK E29t := ⟨⟨t104_ok, Tryz.call104⟩, E28t_ok⟩
noncomputable def E29 : Env := mkM E29t [] Mt
theorem E29_ok : EnvOK Tryz.prog E29 := envMOK E29t_ok trivial Mt_ok
theorem E29_ti {t : Nat} : E29.ti t = ti t := rfl
theorem E29_e {t : Nat} : E29.eqt t = eqB t := rfl
theorem E29_k {t : Nat} : E29.keyt t = keyB t := rfl
theorem E29_g {t : Nat} : E29.glob t = glB t := rfl
attribute [go_sem] E29_ti E29_e E29_k E29_g
theorem callN_mt {E : Env} {g : Nat} {m : MSpec} (h1 : E.inl g = none) (h2 : E.mt g = some m) (n : Nat) (path : List Nat) (a b args : List PV) (H : Heap) (Q : PV → Heap → Prop) : callN E (n + 1) path (.fn g a b) args H Q = m args H Q := by
 simp only [callN, h1, h2]
def OwnB (H : Heap) (K1 : Key) (v1 : Nat) (K2 : Key) (sz : Nat) (p : PV) (rs : List (List PV)) : Prop :=
 (p = .sref K1 v1 sz rs.length true ∧ H K1 = some (.rows sz rs v1 false)) ∨ ∃ v, p = .sref K2 v sz rs.length false ∧ H K2 = some (.rows sz rs v false)
theorem OwnB.taint {H : Heap} {K1 K2 : Key} {v1 sz : Nat} {p : PV} {rs : List (List PV)} (h : OwnB H K1 v1 K2 sz p rs) : taint p = True ∧ clean p = p ∧ cellP p = true ∧ valCells p = [p] ∧ ∀ {α : Type} (k : PV → Prg α), unt p k = k p := by
 rcases h with ⟨rfl, h2⟩ | ⟨v, rfl, h2⟩ <;> exact ⟨rfl, rfl, rfl, rfl, fun k => rfl⟩
theorem OwnB.frame {H H' : Heap} {K1 K2 : Key} {v1 sz : Nat} {p : PV} {rs : List (List PV)} (h : OwnB H K1 v1 K2 sz p rs) (h1 : H' K1 = H K1) (h2 : H' K2 = H K2) : OwnB H' K1 v1 K2 sz p rs := by
 rcases h with ⟨e1, e2⟩ | ⟨v, e1, e2⟩
 ·exact .inl ⟨e1, h1.trans e2⟩
 ·exact .inr ⟨v, e1, h2.trans e2⟩
theorem app_oneB {E : Env} {K1 K K2 : Key} {t e sz v1 v2 : Nat} {p : PV} {rs : List (List PV)} {row : List PV} {ex ro : Bool} {q : Prop} {Q : PV → Heap → Prop} {H : Heap} (hq : q) (hk : (E.ti t).kind = .slice e) (hsz : (E.ti e).size = sz) (h0 : 0 < sz) (hb0 : 0 < (E.ti e).bytes)
    (hx : H K2 = some (.rows sz [row] v2 ro)) (hO : OwnB H K1 v1 K sz p rs) (hb : (rs.length + 1) * (E.ti e).bytes ≤ 35184372088832) (hrs : ∀ row ∈ rs, row.length = sz) (hrow : row.length = sz ∧ cells1 row = true)
    (hQ : ∀ p' H', OwnB H' K1 v1 K sz p' (rs ++ [row]) → (∀ K', K' ≠ K → H' K' = H K') → Q p' H') : (app E K t p (.sref K2 v2 sz 1 ex)).wp q Q H := by
 subst hsz
 unfold app
 rw [hk]
 refine ⟨fun _ => h0, rowsOf_wp (.inr ⟨K2, v2, ex, ro, rfl, hx⟩) (fun r hr => by rw [List.mem_singleton.1 hr]; exact hrow) ?_⟩
 rcases hO with ⟨rfl, h2⟩ | ⟨v, rfl, h2⟩
 ·simp only [Prg.wp, h2]
  refine ⟨fun _ => ⟨trivial, trivial, trivial, trivial, h0, hb0, hb⟩, fun v => rfl, ?_⟩
  refine hQ _ _ (.inr ⟨verOf H K + 1, by simp, by simp [Heap.set]⟩) fun K' hK' => ?_
  simp only [Heap.set]
  rw [if_neg hK']
 ·simp only [Prg.wp, h2]
  refine ⟨fun _ => ⟨trivial, trivial, trivial, trivial, h0, hb0, hb⟩, fun _ => trivial, hq, ?_⟩
  refine hQ _ _ (.inr ⟨v + 1, by simp, by simp [Heap.set]⟩) fun K2 hK2 => ?_
  simp only [Heap.set]
  rw [if_neg hK2]
def ends3 (y : Issue) : List Int := [y.lo, y.hi + 1, y.held + 1]
def inSpan (lo hi n : Int) : Bool := decide (lo ≤ n) && decide (n ≤ hi)
def rawT (lo hi : Int) (l : List Issue) : List Int := lo :: l.flatMap fun y => (ends3 y).filter (inSpan lo hi)
theorem rawT_len (lo hi : Int) (l : List Issue) : (rawT lo hi l).length ≤ 1 + l.length * 3 := by
 unfold rawT
 have := flatMap_le (fun y => (ends3 y).filter (inSpan lo hi)) 3 l fun y _ => List.length_filter_le _ _
 rw [List.length_cons]; omega
theorem rawT_take (lo hi : Int) {l : List Issue} {i : Nat} (h : i < l.length) : rawT lo hi (l.take (i + 1)) = rawT lo hi (l.take i) ++ (ends3 (l.getD i default)).filter (inSpan lo hi) := by
 unfold rawT
 rw [List.take_succ_eq_append_getElem h, List.flatMap_append]
 simp [h]
theorem filt_take {α : Type} [Inhabited α] (p : α → Bool) (l : List α) {i : Nat} (h : i < l.length) : (l.take (i + 1)).filter p = (l.take i).filter p ++ (if p (l.getD i default) = true then [l.getD i default] else []) := by
 rw [List.take_succ_eq_append_getElem h, List.filter_append]
 simp only [List.getD_eq_getElem?_getD, List.getElem?_eq_getElem h, Option.getD_some, List.filter_cons, List.filter_nil]
def turnsM (x : Lett) : List Int := Lib.compact (sortL (rawT x.dlo x.dhi x.rack.issues))
structure TOk (x : Lett) : Prop where
 i : x.rack.issues.length ≤ 4
 h : ∀ y ∈ x.rack.issues, okInt (y.hi + 1) ∧ okInt (y.held + 1)
theorem turns_fn (c : LCalc) (hx : TOk c.x) : Fn E29 1 103 Tryz.f103 (Tryz.f103.body.getD .skip) [.agg (encLC c)] (.sl (il (turnsM c.x)) false) := by
 unfold Fn Tryz.f103
 obtain ⟨⟨⟨g, is⟩, dlo, dhi, lns, clo, chi⟩, es⟩ := c
 have hi4 := hx.i
 have hhe := hx.h
 simp only at hi4 hhe
 simp only [go_sem, encLC, encLt, List.cons_append, List.nil_append]
 refine ev_loopS [1, 2, 16, 17] (fun x : Nat × PV => [(3, x.2), (18, .int .i64 x.1)])
  (fun x H => x.1 ≤ is.length ∧ H ([], 103000000) = some (.cells [.int .i64 g, .sl (is.map encI) false, .int .i64 dlo, .int .i64 dhi, .sl (lns.map encLL) false, .int .i64 clo, .int .i64 chi, .mp true 2 es] 1 false) ∧
   OwnB H ([], 103001004) 1 ([], 103009003) 1 x.2 (il (rawT dlo dhi (is.take x.1)))) (fun x => is.length - x.1) (0, .sref ([], 103001004) 1 1 1 true) ?_ ⟨by simp, ?_, .inl ⟨rfl, ?_⟩⟩ ?_
 ·simp only [go_sem, Int.natCast_zero, List.length_map]
 ·simp only [go_sem]
 ·simp only [go_sem, rawT, List.take_zero, List.flatMap_nil, il, List.map_cons, List.map_nil]
 ·simp only [go_sem]
  rintro K ⟨i, p⟩ H ⟨hi, h1, h3⟩ hK hE
  simp only at hi h3
  have hOT := h3.taint
  simp only [go_sem]
  rw [condK_bool]
  refine ⟨fun hc => ?_, fun hc => ?_⟩
  ·have hi' : i < is.length := by have := of_decide_eq_true hc; omega
   have hii : ((i : Int) < (is.length : Int)) = True := eq_true (by omega)
   have hi0 : (0 ≤ (i : Int)) = True := eq_true (by omega)
   have w2 : IntKind.i64.wrap ((i : Int) + 1) = (i : Int) + 1 := wrap_id (by omega)
   have him : is.getD i default ∈ is := by
    rw [List.getD_eq_getElem?_getD, List.getElem?_eq_getElem hi']; exact List.getElem_mem _
   have hw := hhe _ him
   have htk := rawT_take dlo dhi hi'
   generalize hI : is.getD i default = I at hw htk
   obtain ⟨ilo, ihi, ihe, ien⟩ := I
   have w3 : IntKind.i64.wrap (ihi + 1) = ihi + 1 := wrap_id hw.1
   have w4 : IntKind.i64.wrap (ihe + 1) = ihe + 1 := wrap_id hw.2
   have hlen0 := rawT_len dlo dhi (is.take i)
   have hlen1 : (is.take i).length ≤ 4 := Nat.le_trans (List.length_take_le' _ _) hi4
   simp only [go_sem, hii, hi0, Int.toNat_natCast, List.length_map, getD_mapN encI is i _ hi', hI, encI, h1, w3, w4]
   generalize hvi : verOf H ([], 103004002) + 1 = vi
   generalize hvs : verOf H ([], 103005010) + 1 = vs
   obtain ⟨I, hI2⟩ : ∃ I : Issue, I = ⟨ilo, ihi, ihe, ien⟩ := ⟨_, rfl⟩
   have hil3 : il (ends3 I) = [[.int .i64 ilo], [.int .i64 (ihi + 1)], [.int .i64 (ihe + 1)]] := by rw [hI2]; rfl
   have hl3 : (ends3 I).length = 3 := rfl
   rw [← hI2] at htk
   rw [← hil3]
   refine ev_loopS [1, 2, 16, 17, 18, 32, 33] (fun x : Nat × PV => [(3, x.2), (34, .int .i64 x.1)])
    (fun x H => x.1 ≤ 3 ∧ H ([], 103000000) = some (.cells [.int .i64 g, .sl (is.map encI) false, .int .i64 dlo, .int .i64 dhi, .sl (lns.map encLL) false, .int .i64 clo, .int .i64 chi, .mp true 2 es] 1 false) ∧ H ([], 103005010) = some (.rows 1 (il (ends3 I)) vs false) ∧
     OwnB H ([], 103001004) 1 ([], 103009003) 1 x.2 (il (rawT dlo dhi (is.take i) ++ ((ends3 I).take x.1).filter (inSpan dlo dhi)))) (fun x => 3 - x.1) (0, p) ?_ ⟨by simp, ?_, ?_, ?_⟩ ?_
   ·simp only [go_sem, Int.natCast_zero]
   ·simp only [go_sem, h1]
   ·simp only [go_sem]
   ·rw [List.take_zero, List.filter_nil, List.append_nil]
    refine h3.frame ?_ ?_ <;> simp only [go_sem]
   ·simp only [go_sem]
    rintro K2 ⟨j, p2⟩ H2 ⟨hj, g1, g2, g3⟩ hK2 hE2
    simp only at hj g3
    have hOT2 := g3.taint
    simp only [go_sem]
    rw [condK_bool]
    refine ⟨fun hc => ?_, fun hc => ?_⟩
    ·have hj' : j < 3 := by have := of_decide_eq_true hc; omega
     have hjj : ((j : Int) < 3) = True := eq_true (by omega)
     have hj0 : (0 ≤ (j : Int)) = True := eq_true (by omega)
     have w5 : IntKind.i64.wrap ((j : Int) + 1) = (j : Int) + 1 := wrap_id (by omega)
     have hft := filt_take (inSpan dlo dhi) (ends3 I) (i := j) (by rw [hl3]; exact hj')
     generalize hd : (ends3 I).getD j default = d at hft
     have hgd : (ends3 I).getD j 0 = d := hd
     simp only [go_sem, @ct E29 67 sTween rfl, sTween, hjj, hj0, Int.toNat_natCast, il_length, hl3, il_getD, hgd, g1, g2, hOT2]
     refine ⟨hj', ?_⟩
     rw [condK_bool]
     refine ⟨fun hin => ?_, fun hin => ?_⟩
     ·have hin' : inSpan dlo dhi d = true := hin
      rw [hin', if_pos rfl] at hft
      simp only [go_sem, g1, g2, hOT2]
      refine app_oneB trivial rfl rfl (by decide) (by decide) (set_at_eq _ _ _) (g3.frame (set_at_ne _ _ (by simp)) (set_at_ne _ _ (by simp))) ?_ (il_row _) ⟨rfl, rfl⟩ fun p5 H5 hO hF5 => ?_
      ·rw [il_length]
       show (_ + 1) * 8 ≤ _
       have : ((ends3 I).take j).length ≤ 3 := by rw [List.length_take, hl3]; omega
       have : (((ends3 I).take j).filter (inSpan dlo dhi)).length ≤ ((ends3 I).take j).length := List.length_filter_le _ _
       simp only [List.length_append]
       omega
      ·have hOT5 := hO.taint
       have o5 : ∀ K : Key, K ≠ ([], 103009003) → K ≠ ([], 103009002) → H5 K = H2 K := fun K a b => (hF5 K a).trans (set_at_ne _ _ b)
       have o1 := (o5 ([], 103000000) (by simp) (by simp)).trans g1
       have o2 := (o5 ([], 103005010) (by simp) (by simp)).trans g2
       simp only [go_sem, hOT5]
       refine hK2 (j + 1, p5) _ _ ?_ ⟨by simp only; omega, o1, o2, ?_⟩ (by simp only; omega)
       ·simp only [go_sem, w5, Int.natCast_add, Int.natCast_one]
       ·simp only [hft, ← List.append_assoc, il_append (_ ++ _)]
        exact hO
     ·have hin' : inSpan dlo dhi d = false := hin
      rw [hin', if_neg (by simp), List.append_nil] at hft
      simp only [go_sem, g1, g2, hOT2]
      refine hK2 (j + 1, p2) _ _ ?_ ⟨by simp only; omega, g1, g2, ?_⟩ (by simp only; omega)
      ·simp only [go_sem, w5, Int.natCast_add, Int.natCast_one]
      ·simp only [hft]; exact g3
    ·have hj' : j = 3 := by have : ¬ ((j : Int) < 3) := by simpa using hc
                            omega
     subst hj'
     simp only [go_sem]
     refine hE2 _ _ _ (by simp) ?_
     simp only [go_sem]
     refine hK (i + 1, p2) _ _ ?_ ⟨by simp only; omega, g1, ?_⟩ (by simp only; omega)
     ·simp only [go_sem, w2, Int.natCast_add, Int.natCast_one]
     ·simp only [htk]; exact g3
  ·have hi' : i = is.length := by have : ¬ ((i : Int) < (is.length : Int)) := by simpa using hc
                                  omega
   subst hi'
   rw [List.take_length] at h3
   simp only [go_sem]
   refine hE _ _ _ (by simp) ?_
   have hl := rawT_len dlo dhi is
   have hsl : (sortL (rawT dlo dhi is)).length = (rawT dlo dhi is).length := by simp [sortL]
   have hpos : sortL (rawT dlo dhi is) ≠ [] := by
    intro h; rw [h] at hsl; simp [rawT] at hsl
   rcases h3 with ⟨rfl, e2⟩ | ⟨v, rfl, e2⟩
   ·simp only [go_sem, @callV_in E29 128 rfl, @callV_in E29 129 rfl, heavy_none, @callN_mt E29 128 sortM rfl rfl, @callN_mt E29 129 compactM rfl rfl]
    refine ⟨rfl, rawT dlo dhi is, e2, by simp [il_length], by rw [il_length]; omega, ?_⟩
    simp only [go_sem, @callV_in E29 128 rfl, @callV_in E29 129 rfl, heavy_none, @callN_mt E29 128 sortM rfl rfl, @callN_mt E29 129 compactM rfl rfl]
    refine ⟨rfl, sortL (rawT dlo dhi is), by simp only [go_sem], by rw [il_length, hsl], by rw [il_length]; omega, hpos, ?_⟩
    simp only [go_sem, il_length, turnsM]
   ·simp only [go_sem, @callV_in E29 128 rfl, @callV_in E29 129 rfl, heavy_none, @callN_mt E29 128 sortM rfl rfl, @callN_mt E29 129 compactM rfl rfl]
    refine ⟨rfl, rawT dlo dhi is, e2, by simp [il_length], by rw [il_length]; omega, ?_⟩
    simp only [go_sem, @callV_in E29 128 rfl, @callV_in E29 129 rfl, heavy_none, @callN_mt E29 128 sortM rfl rfl, @callN_mt E29 129 compactM rfl rfl]
    refine ⟨rfl, sortL (rawT dlo dhi is), by simp only [go_sem], by rw [il_length, hsl], by rw [il_length]; omega, hpos, ?_⟩
    simp only [go_sem, il_length, turnsM]
def t103 : Spec := spec1 (fun (c : LCalc) => TOk c.x) fun c => .sl (il (turnsM c.x)) false
theorem t103_ok : SpecOK Tryz.prog glB 103 t103 := spec1_ok E29_ok Tryz.func103 rfl (by kernel_rfl) fun c h => turns_fn c h
noncomputable def E30t : List (Nat × Spec) := [(103, t103)] ++ E29t
theorem E30t_ok : AllOK E30t := ⟨⟨t103_ok, Tryz.call103⟩, E29t_ok⟩
noncomputable def E30 : Env := mkE E30t [(105, Tryz.f105)]
theorem E30_ok : EnvOK Tryz.prog E30 := envOK E30t_ok ⟨⟨Tryz.func105, Tryz.call105, by kernel_rfl⟩, trivial⟩
theorem E30_ti {t : Nat} : E30.ti t = ti t := rfl
theorem E30_e {t : Nat} : E30.eqt t = eqB t := rfl
theorem E30_k {t : Nat} : E30.keyt t = keyB t := rfl
theorem E30_g {t : Nat} : E30.glob t = glB t := rfl
attribute [go_sem] E30_ti E30_e E30_k E30_g
abbrev OL := List (Ord2 × Fnd)
def keyO (o : Ord2) : List Int := [o.a.item.good, o.a.item.size, o.a.item.colour, o.a.many, o.b.item.good, o.b.item.size, o.b.item.colour, o.b.many]
def encAll (l : OL) : List (List Int × PV) := l.map fun e => (keyO e.1, .agg (encFd e.2))
def getA : OL → Ord2 → Option Fnd
 | [], _ => none
 | e :: l, o => if e.1 = o then some e.2 else getA l o
def setA : OL → Ord2 → Fnd → OL
 | [], o, f => [(o, f)]
 | e :: l, o, f => if e.1 = o then (o, f) :: l else e :: setA l o f
def widen (f was : Fnd) : Fnd := ⟨min f.lo was.lo, max f.hi was.hi, min f.clo was.clo, max f.chi was.chi⟩
def addA (l : OL) (o : Ord2) (f : Fnd) : OL := setA l o (match getA l o with | some w => widen f w | none => f)
theorem keyO_inj {a b : Ord2} (h : keyO a = keyO b) : a = b := by
 obtain ⟨⟨⟨a1, a2, a3⟩, a4⟩, ⟨⟨a5, a6, a7⟩, a8⟩⟩ := a
 obtain ⟨⟨⟨b1, b2, b3⟩, b4⟩, ⟨⟨b5, b6, b7⟩, b8⟩⟩ := b
 simp only [keyO, List.cons.injEq] at h
 obtain ⟨rfl, rfl, rfl, rfl, rfl, rfl, rfl, rfl, _⟩ := h
 rfl
theorem mget_enc (o : Ord2) : ∀ l : OL, mget (encAll l) (keyO o) = (getA l o).map fun f => .agg (encFd f)
 | [] => rfl
 | e :: l => by
  rw [encAll, List.map_cons, mget, getA]
  by_cases h : e.1 = o
  ·rw [if_pos h, if_pos (by simp only [h])]; rfl
  ·rw [if_neg h, if_neg (fun k => h (keyO_inj k))]; exact mget_enc o l
theorem mset_enc (o : Ord2) (f : Fnd) : ∀ l : OL, mset (encAll l) (keyO o) (.agg (encFd f)) = encAll (setA l o f)
 | [] => rfl
 | e :: l => by
  rw [encAll, List.map_cons, mset, setA]
  by_cases h : e.1 = o
  ·rw [if_pos h, if_pos (by simp only [h])]; rfl
  ·rw [if_neg h, if_neg (fun k => h (keyO_inj k))]; exact congrArg _ (mset_enc o f l)
def OkI (n : Int) : Prop := -4611686018427387904 ≤ n ∧ n ≤ 4611686018427387904
structure OkF (f : Fnd) : Prop where
 lo : OkI f.lo
 hi : OkI f.hi
 clo : OkI f.clo
 chi : OkI f.chi
def OkL (l : OL) : Prop := ∀ e ∈ l, OkF e.2
theorem getA_mem {o : Ord2} {f : Fnd} : ∀ {l : OL}, getA l o = some f → (o, f) ∈ l
 | [], h => by cases h
 | e :: l, h => by
  rw [getA] at h
  split at h
  ·rename_i k; cases h; subst k; exact List.mem_cons_self ..
  ·exact List.mem_cons_of_mem _ (getA_mem h)
theorem setA_mem {o : Ord2} {f : Fnd} {e : Ord2 × Fnd} : ∀ {l : OL}, e ∈ setA l o f → e = (o, f) ∨ e ∈ l
 | [], h => by simp only [setA, List.mem_singleton] at h; exact .inl h
 | d :: l, h => by
  rw [setA] at h
  split at h
  ·rcases List.mem_cons.1 h with k | k
   ·exact .inl k
   ·exact .inr (List.mem_cons_of_mem _ k)
  ·rcases List.mem_cons.1 h with k | k
   ·exact .inr (by rw [k]; exact List.mem_cons_self ..)
   ·exact (setA_mem k).imp id (List.mem_cons_of_mem _)
theorem OkF.widen {f w : Fnd} (hf : OkF f) (hw : OkF w) : OkF (widen f w) := by
 obtain ⟨⟨a1, a2⟩, ⟨a3, a4⟩, ⟨a5, a6⟩, ⟨a7, a8⟩⟩ := hf
 obtain ⟨⟨b1, b2⟩, ⟨b3, b4⟩, ⟨b5, b6⟩, ⟨b7, b8⟩⟩ := hw
 constructor <;> constructor <;> simp only [Wb.widen] <;> omega
theorem OkL.add {l : OL} {o : Ord2} {f : Fnd} (hl : OkL l) (hf : OkF f) : OkL (addA l o f) := by
 intro e he
 rcases setA_mem he with rfl | h
 ·simp only
  cases hg : getA l o with
  | none => exact hf
  | some w => exact hf.widen (hl _ (getA_mem hg))
 ·exact hl e h
theorem least_min (a b : Int) : leastF a [b] = min a b := by
 unfold leastF leastF; split <;> omega
theorem neg_wrap {a : Int} (h : OkI a) : IntKind.i64.wrap (0 - a) = -a := by
 rw [wrap_id (by have := h.1; have := h.2; omega)]; omega
theorem max_neg {a b : Int} (ha : OkI a) (hb : OkI b) : IntKind.i64.wrap (0 - min (-a) (-b)) = max a b := by
 rw [wrap_id (by obtain ⟨_, _⟩ := ha; obtain ⟨_, _⟩ := hb; omega)]; omega
theorem dL_one1 (a : Int) (ex : Bool) : (dec (.sl [[.int .i64 a]] ex) : Option (List Int)) = some [a] := rfl
theorem add_in (l : OL) (o : Ord2) (f : Fnd) (hl : OkL l) (hf : OkF f) (path : List Nat) (H : Heap) (Q : PV → Heap → Prop) (Km : Key) (vm : Nat) (hm : H Km = some (.map true 8 (encAll l) vm false)) (hn : ¬ path <:+ Km.1)
    (hQ : ∀ H', (∀ K : Key, ¬ path <:+ K.1 → K ≠ Km → H' K = H K) → H' Km = some (.map true 8 (encAll (addA l o f)) vm false) → Q (.tup []) H') :
    callN E30 1 path (.fn 105 [] []) [.mref Km vm, .agg (encO o), .agg (encFd f)] H Q := by
 rw [callN_in (E := E30) (g := 105) rfl rfl]
 unfold Tryz.f105
 have nk : ∀ m, Km ≠ (path, m) := fun m e => hn (by rw [e]; exact List.suffix_refl _)
 have nk' : ∀ m, (path, m) ≠ Km := fun m e => nk m e.symm
 have hmg := mget_enc o l
 have hms := fun f => mset_enc o f l
 obtain ⟨⟨⟨a1, a2, a3⟩, a4⟩, ⟨⟨a5, a6, a7⟩, a8⟩⟩ := o
 obtain ⟨flo, fhi, fclo, fchi⟩ := f
 obtain ⟨kf1, kf2, kf3, kf4⟩ := hf
 simp only at kf1 kf2 kf3 kf4
 simp only [keyO, encFd] at hmg hms
 cases hg : getA l ⟨⟨⟨a1, a2, a3⟩, a4⟩, ⟨⟨a5, a6, a7⟩, a8⟩⟩ with
 | none =>
  rw [hg] at hmg
  have hadd : addA l ⟨⟨⟨a1, a2, a3⟩, a4⟩, ⟨⟨a5, a6, a7⟩, a8⟩⟩ ⟨flo, fhi, fclo, fchi⟩ = setA l ⟨⟨⟨a1, a2, a3⟩, a4⟩, ⟨⟨a5, a6, a7⟩, a8⟩⟩ ⟨flo, fhi, fclo, fchi⟩ := by unfold addA; rw [hg]
  simp only [go_sem, encO, encL, encFd, List.cons_append, List.nil_append, hm, look, keyOf, ints, mapPut, nk, nk', hmg, found]
  refine hQ _ (fun K h1 h2 => ?_) ?_
  ·have e : ∀ m, K ≠ (path, m) := fun m e => h1 (by rw [e]; exact List.suffix_refl _)
   simp only [set_at, e, h2, if_false]
  ·rw [hadd, ← hms]; simp only [go_sem]
 | some w =>
  rw [hg] at hmg
  have hw := hl _ (getA_mem hg)
  have hadd : addA l ⟨⟨⟨a1, a2, a3⟩, a4⟩, ⟨⟨a5, a6, a7⟩, a8⟩⟩ ⟨flo, fhi, fclo, fchi⟩ = setA l ⟨⟨⟨a1, a2, a3⟩, a4⟩, ⟨⟨a5, a6, a7⟩, a8⟩⟩ (widen ⟨flo, fhi, fclo, fchi⟩ w) := by unfold addA; rw [hg]
  obtain ⟨wlo, whi, wclo, wchi⟩ := w
  obtain ⟨kw1, kw2, kw3, kw4⟩ := hw
  simp only at kw1 kw2 kw3 kw4
  have hb : big 1 = True := eq_true (by unfold big; omega)
  simp only [go_sem, @ct E30 75 s108 rfl, s108, encO, encL, encFd, List.cons_append, List.nil_append, hm, look, keyOf, ints, mapPut, nk, nk', hmg, found, neg_wrap kf2, neg_wrap kf4, neg_wrap kw2, neg_wrap kw4, least_min, max_neg kf2 kw2, max_neg kf4 kw4, hb, List.length_singleton, callSpec, dL_one1]
  refine ⟨rfl, rfl, ⟨rfl, rfl⟩, rfl, rfl, ⟨rfl, rfl⟩, ?_⟩
  refine hQ _ (fun K h1 h2 => ?_) ?_
  ·have e : ∀ m, K ≠ (path, m) := fun m e => h1 (by rw [e]; exact List.suffix_refl _)
   simp only [set_at, e, h2, if_false]
  ·rw [hadd, ← hms]; simp only [go_sem]; rfl
theorem encAll_inj : ∀ {a b : OL}, encAll a = encAll b → a = b
 | [], [], _ => rfl
 | [], _ :: _, h => by cases h
 | _ :: _, [], h => by cases h
 | (o, ⟨f1, f2, f3, f4⟩) :: a, (o', ⟨g1, g2, g3, g4⟩) :: b, h => by
  simp only [encAll, List.map_cons, List.cons.injEq, Prod.mk.injEq, encFd, PV.agg.injEq, PV.int.injEq] at h
  obtain ⟨⟨h1, ⟨_, rfl⟩, ⟨_, rfl⟩, ⟨_, rfl⟩, ⟨_, rfl⟩, _⟩, h2⟩ := h
  rw [keyO_inj h1, encAll_inj (a := a) (b := b) h2]
def e105 : ESpec := fun path args => match args with
 | [.mref Km vm, .agg co, .agg cf] => match dO co, dFd cf with
  | some o, some f => some {
      pre := fun H => OkF f ∧ ¬ path <:+ Km.1 ∧ ∃ l, OkL l ∧ H Km = some (.map true 8 (encAll l) vm false)
      D := fun K => K = Km
      S := fun K => K = Km ∨ path <:+ K.1
      post := fun H v H' => v = .tup [] ∧ ∃ l, H Km = some (.map true 8 (encAll l) vm false) ∧ H' Km = some (.map true 8 (encAll (addA l o f)) vm false) }
  | _, _ => none
 | _ => none
theorem e105_dep : ∀ path args e, e105 path args = some e → EffDep e := fun path args e h => by
 unfold e105 at h
 split at h
 ·split at h
  ·cases h
   refine ⟨?_, ?_, ?_, ?_⟩
   ·rintro H H' hD ⟨h1, h2, l, h3, h4⟩
    exact ⟨h1, h2, l, h3, (hD _ rfl).trans h4⟩
   ·rintro H H1 v H' hD ⟨h1, l, h2, h3⟩; exact ⟨h1, l, (hD _ rfl).trans h2, h3⟩
   ·rintro H v H1 H2 hS ⟨h1, l, h2, h3⟩
    exact ⟨h1, l, h2, (hS _ (.inl rfl)).trans h3⟩
   ·rintro H ⟨h1, h2, l, h3, h4⟩
    exact ⟨_, H.set _ _, fun K hK => set_at_ne _ _ fun e => hK (.inl e), rfl, l, h4, set_at_eq _ _ _⟩
  ·cases h
 ·cases h
theorem dO_wk {r : List PV} {o : Ord2} (h : dO r = some o) : wk.wkL r (encO o) := Row.wk_drow r o h
theorem dFd_wk {r : List PV} {f : Fnd} (h : dFd r = some f) : wk.wkL r (encFd f) := Row.wk_drow r f h
theorem e105_ok : EffOK Tryz.prog glB 105 e105 := effOK_of (n := 1) E30_ok e105_dep fun path args e h => by
 unfold e105 at h
 split at h
 ·split at h
  ·rename_i Km vm co cf _ _ o f ho hf
   cases h
   refine ⟨[.mref Km vm, .agg (encO o), .agg (encFd f)], ⟨wk_refl _, dO_wk ho, dFd_wk hf, trivial⟩, fun H Q hp hQ => ?_⟩
   obtain ⟨h1, h2, l, h3, h4⟩ := hp
   exact add_in l o f h3 h1 path H Q Km vm h4 h2 fun H' q1 q2 => hQ _ _ (fun K hK => q1 K (fun a => hK (.inr a)) fun a => hK (.inl a)) ⟨rfl, l, h4, q2⟩
  ·cases h
 ·cases h
def zLine : Line := ⟨⟨0, 0, 0⟩, 0⟩
def candL (x : Lett) (i j : Nat) : List Line := meanL (x.lines.getD j default) (x.rack.issues.getD i default)
def secL (x : Lett) (i : Nat) : List Line := if 1 < x.lines.length then candL x i 1 else [zLine]
def moreL (x : Lett) (day : Int) (i : Nat) : List Int := if 1 < x.lines.length then (candL x i 1).map (costM x.rack day) else [0]
def stepB (x : Lett) (day last : Int) (fa : Line) (n : Int) (acc : OL) (sb : Line) (m : Int) : OL :=
 if (decide (0 ≤ n) && decide (0 ≤ m) && inSpan x.clo x.chi (IntKind.i64.wrap (n + m))) = true then addA acc ⟨fa, sb⟩ ⟨day, last, IntKind.i64.wrap (n + m), IntKind.i64.wrap (n + m)⟩ else acc
def foldB (x : Lett) (day last : Int) (fa : Line) (n : Int) (S : List Line) (M : List Int) (acc : OL) : Nat → OL
 | 0 => acc
 | b + 1 => stepB x day last fa n (foldB x day last fa n S M acc b) (S.getD b default) (M.getD b 0)
def foldA (x : Lett) (day last : Int) (F : List Line) (N : List Int) (S : List Line) (M : List Int) (acc : OL) : Nat → OL
 | 0 => acc
 | a + 1 => foldB x day last (F.getD a default) (N.getD a 0) S M (foldA x day last F N S M acc a) M.length
def stepI (x : Lett) (day last : Int) (acc : OL) (i : Nat) : OL :=
 if inSpan (x.rack.issues.getD i default).lo (x.rack.issues.getD i default).hi day = true then foldA x day last (candL x i 0) ((candL x i 0).map (costM x.rack day)) (secL x i) (moreL x day i) acc (candL x i 0).length else acc
def foldI (x : Lett) (day last : Int) (acc : OL) : Nat → OL
 | 0 => acc
 | i + 1 => stepI x day last (foldI x day last acc i) i
def lastT (x : Lett) (T : List Int) (t : Nat) : Int := if t + 1 < T.length then T.getD (t + 1) 0 - 1 else x.dhi
def foldT (x : Lett) (T : List Int) : Nat → OL
 | 0 => []
 | t + 1 => foldI x (T.getD t 0) (lastT x T t) (foldT x T t) x.rack.issues.length
def allM (x : Lett) : OL := foldT x (turnsM x) (turnsM x).length
theorem foldB_succ (x : Lett) (day last : Int) (fa : Line) (n : Int) (S : List Line) (M : List Int) (acc : OL) (b : Nat) : foldB x day last fa n S M acc (b + 1) = stepB x day last fa n (foldB x day last fa n S M acc b) (S.getD b default) (M.getD b 0) := rfl
theorem foldA_succ (x : Lett) (day last : Int) (F : List Line) (N : List Int) (S : List Line) (M : List Int) (acc : OL) (a : Nat) : foldA x day last F N S M acc (a + 1) = foldB x day last (F.getD a default) (N.getD a 0) S M (foldA x day last F N S M acc a) M.length := rfl
theorem foldI_succ (x : Lett) (day last : Int) (acc : OL) (i : Nat) : foldI x day last acc (i + 1) = stepI x day last (foldI x day last acc i) i := rfl
theorem foldT_succ (x : Lett) (T : List Int) (t : Nat) : foldT x T (t + 1) = foldI x (T.getD t 0) (lastT x T t) (foldT x T t) x.rack.issues.length := rfl
structure AOk (x : Lett) : Prop where
 g : LGood x
 r : okRack x.rack
 t : TOk x
 d : (0 ≤ x.dlo ∧ x.dlo ≤ 4611686018427387904) ∧ OkI x.dhi
 c : OkI x.clo ∧ OkI x.chi
 n : 1 ≤ x.lines.length
theorem stepB_ok {x : Lett} (hx : AOk x) {day last : Int} (hd : OkI day) (hl : OkI last) (fa : Line) (n : Int) {acc : OL} (ha : OkL acc) (sb : Line) (m : Int) : OkL (stepB x day last fa n acc sb m) := by
 unfold stepB
 split
 ·rename_i h
  simp only [Bool.and_eq_true, decide_eq_true_eq, inSpan] at h
  have hw : OkI (IntKind.i64.wrap (n + m)) := ⟨Int.le_trans hx.c.1.1 h.2.1, Int.le_trans h.2.2 hx.c.2.2⟩
  exact ha.add ⟨hd, hl, hw, hw⟩
 ·exact ha
theorem foldB_ok {x : Lett} (hx : AOk x) {day last : Int} (hd : OkI day) (hl : OkI last) (fa : Line) (n : Int) (S : List Line) (M : List Int) {acc : OL} (ha : OkL acc) : ∀ b, OkL (foldB x day last fa n S M acc b)
 | 0 => ha
 | b + 1 => stepB_ok hx hd hl fa n (foldB_ok hx hd hl fa n S M ha b) _ _
theorem foldA_ok {x : Lett} (hx : AOk x) {day last : Int} (hd : OkI day) (hl : OkI last) (F : List Line) (N : List Int) (S : List Line) (M : List Int) {acc : OL} (ha : OkL acc) : ∀ a, OkL (foldA x day last F N S M acc a)
 | 0 => ha
 | a + 1 => foldB_ok hx hd hl _ _ S M (foldA_ok hx hd hl F N S M ha a) _
theorem foldI_ok {x : Lett} (hx : AOk x) {day last : Int} (hd : OkI day) (hl : OkI last) {acc : OL} (ha : OkL acc) : ∀ i, OkL (foldI x day last acc i)
 | 0 => ha
 | i + 1 => by
  rw [foldI_succ, stepI]
  split
  ·exact foldA_ok hx hd hl _ _ _ _ (foldI_ok hx hd hl ha i) _
  ·exact foldI_ok hx hd hl ha i
theorem mem_compact {l : List Int} {n : Int} (h : n ∈ Lib.compact l) : n ∈ l := by
 unfold Lib.compact Lib.compactUpTo at h
 obtain ⟨i, hi, rfl⟩ := List.mem_map.1 h
 have hi' : i < l.length := List.mem_range.1 (List.mem_filter.1 hi).1
 first
  | (rw [getElem!_pos _ _ hi']; exact List.getElem_mem _)
  | (simp [hi'])
theorem turns_mem {x : Lett} {n : Int} (h : n ∈ turnsM x) : n = x.dlo ∨ x.dlo ≤ n ∧ n ≤ x.dhi := by
 have h1 := mem_compact h
 unfold sortL at h1
 rw [List.mem_mergeSort] at h1
 rcases List.mem_cons.1 h1 with e | e
 ·exact .inl e
 ·obtain ⟨y, _, hy⟩ := List.mem_flatMap.1 e
  have := (List.mem_filter.1 hy).2
  simp only [inSpan, Bool.and_eq_true, decide_eq_true_eq] at this
  exact .inr this
theorem turns_len {x : Lett} (h : TOk x) : (turnsM x).length ≤ 13 := by
 refine Nat.le_trans (compact_len _) ?_
 unfold sortL
 rw [List.length_mergeSort]
 have := rawT_len x.dlo x.dhi x.rack.issues
 have := h.i
 omega
theorem turns_ok {x : Lett} (hx : AOk x) {n : Int} (h : n ∈ turnsM x) : 0 ≤ n ∧ n ≤ 4611686018427387904 := by
 rcases turns_mem h with rfl | ⟨h1, h2⟩
 ·exact hx.d.1
 ·exact ⟨Int.le_trans hx.d.1.1 h1, Int.le_trans h2 hx.d.2.2⟩
theorem OkI.of {n : Int} (h : 0 ≤ n ∧ n ≤ 4611686018427387904) : OkI n := ⟨by omega, h.2⟩
theorem getD_mem {α : Type} [Inhabited α] {l : List α} {i : Nat} (d : α) (h : i < l.length) : l.getD i d ∈ l := by
 rw [List.getD_eq_getElem?_getD, List.getElem?_eq_getElem h]; exact List.getElem_mem _
theorem lastT_ok {x : Lett} (hx : AOk x) {t : Nat} : OkI (lastT x (turnsM x) t) := by
 unfold lastT
 split
 ·rename_i h
  obtain ⟨h1, h2⟩ := turns_ok hx (getD_mem 0 h)
  constructor <;> omega
 ·exact hx.d.2
theorem meanL_le {y : LLine} {is : Issue} (h : MOk y is) : (meanL y is).length ≤ 640000 := by
 unfold meanL
 refine Nat.le_trans (flatMap_le _ 64 _ fun n _ => numL_le h n) ?_
 have h1 := numsS_le y.digits true 0
 have h2 : (10 : Nat) ^ y.digits.length ≤ 10 ^ 4 := Nat.pow_le_pow_right (by omega) h.d
 omega
theorem mget_openJ (x : Lett) (i : Nat) (es : List (List Int × PV)) (a b : Nat) : ∀ k, mget (openJ x i es k) [(a : Int), (b : Int)] = if a = i ∧ b < k then some (mnPV x a b) else mget es [(a : Int), (b : Int)]
 | 0 => by rw [openJ_zero, if_neg (by omega)]
 | k + 1 => by
  rw [openJ_succ, mget_mset, mget_openJ x i es a b k]
  by_cases h : a = i ∧ b = k
  ·obtain ⟨rfl, rfl⟩ := h
   rw [if_pos rfl, if_pos ⟨rfl, by omega⟩]
  ·rw [if_neg (fun e => h (by simp only [List.cons.injEq] at e; omega))]
   by_cases h2 : a = i ∧ b < k
   ·rw [if_pos h2, if_pos ⟨h2.1, by omega⟩]
   ·rw [if_neg h2, if_neg (by omega)]
theorem mget_openI (x : Lett) (a b : Nat) (hb : b < x.lines.length) : ∀ k, a < k → mget (openI x k) [(a : Int), (b : Int)] = some (mnPV x a b)
 | 0, h => by omega
 | k + 1, h => by
  rw [openI_succ, mget_openJ]
  by_cases e : a = k
  ·rw [if_pos ⟨e, hb⟩]
  ·rw [if_neg (by omega)]; exact mget_openI x a b hb k (by omega)
theorem thawL_iff (H : Heap) : ∀ {τ' τ : List PV}, τ'.length = τ.length → (∀ (k : Nat) (a b : PV), τ'[k]? = some a → τ[k]? = some b → thaw1 H a b) → thawL H τ' τ
 | [], [], _, _ => trivial
 | [], _ :: _, h, _ => by simp at h
 | _ :: _, [], h, _ => by simp at h
 | a :: l1, b :: l2, h, k => ⟨k 0 a b rfl rfl, thawL_iff H (by simpa using h) fun i x y hx hy => k (i + 1) x y (by simpa using hx) (by simpa using hy)⟩
theorem fg_get : ∀ {τ' τ : List PV}, fg τ' τ → τ'.length = τ.length ∧ ∀ (k : Nat) (a b : PV), τ'[k]? = some a → τ[k]? = some b → a = .undef ∨ a = b
 | [], [], _ => ⟨rfl, fun k a b h => by simp at h⟩
 | [], _ :: _, h => h.elim
 | _ :: _, [], h => h.elim
 | a :: l1, b :: l2, h => by
  obtain ⟨h1, h2⟩ := fg_get h.2
  refine ⟨by simp [h1], fun k x y hx hy => ?_⟩
  cases k with
  | zero => simp at hx hy; subst hx; subst hy; exact h.1
  | succ k => exact h2 k x y (by simpa using hx) (by simpa using hy)
theorem ev_loop2 {E : Env} {h : Handler} {path : List Nat} {inR : Bool} {fid : Nat} {Q : Exit → List PV → Heap → Prop} {τ : List PV} {H : Heap} {α : Type}
    (i j : Nat) {Ka Kb : Key} {va vb sza szb na nb : Nat} {ea eb : Bool} {ra rb : List (List PV)} (hp : τ[i]? = some (.sref Ka va sza na ea)) (hq : τ[j]? = some (.sref Kb vb szb nb eb)) (hij : j ≠ i) (hab : Ka ≠ Kb)
    (ha : H Ka = some (.rows sza ra va false)) (hb : H Kb = some (.rows szb rb vb false)) (hna : na = ra.length) (hnb : nb = rb.length)
    (L : List Nat) (S : α → List (Nat × PV)) (G : α → Heap → Prop) (m : α → Nat) {c : Code} (x0 : α) (h0 : fg (setAll (kp L 0 τ) (S x0)) ((τ.set i (.sl ra ea)).set j (.sl rb eb))) (h1 : G x0 ((H.set Ka (.rows sza ra va true)).set Kb (.rows szb rb vb true)))
    (step : ∀ (K : Exit → List PV → Heap → Prop) (x : α) (H : Heap), G x H → (∀ y τ' H, fg (setAll (kp L 0 τ) (S y)) τ' → G y H → m y < m x → K .normal τ' H) → (∀ e τ' H, e ≠ .normal → Q e τ' H → K e τ' H) → ev E h path inR fid c K (setAll (kp L 0 τ) (S x)) H) :
    ev E h path inR fid (.loop c) Q τ H := by
 refine ev_loopT (fun x => setAll (kp L 0 τ) (S x)) G m x0 ⟨(H.set Ka (.rows sza ra va true)).set Kb (.rows szb rb vb true), fun K => ?_, ?_, fun K => .inl rfl⟩ h1
  fun K x H hG hK hE => step K x H hG (fun y τ' H e1 e2 e3 => hK y τ' H H (.of_fg e1) e2 e3) hE
 ·by_cases e2 : K = Kb
  ·subst e2; exact .inr ⟨_, hb, set_at_eq _ _ _⟩
  ·rw [set_at_ne _ _ e2]
   by_cases e1 : K = Ka
   ·subst e1; exact .inr ⟨_, ha, set_at_eq _ _ _⟩
   ·exact .inl (set_at_ne _ _ e1)
 ·have ka : ((H.set Ka (.rows sza ra va true)).set Kb (.rows szb rb vb true)) Ka = some (.rows sza ra va true) := by rw [set_at_ne _ _ hab, set_at_eq]
  have kb : ((H.set Ka (.rows sza ra va true)).set Kb (.rows szb rb vb true)) Kb = some (.rows szb rb vb true) := set_at_eq _ _ _
  generalize ((H.set Ka (.rows sza ra va true)).set Kb (.rows szb rb vb true)) = H1 at ka kb
  obtain ⟨f1, f2⟩ := fg_get h0
  refine thawL_iff H1 (by simpa using f1) fun k a b hx hy => ?_
  have hk : k < τ.length := (List.getElem?_eq_some_iff.1 hy).1
  by_cases e2 : k = j
  ·subst e2
   rw [hq] at hy; cases hy
   have := f2 k a (.sl rb eb) hx (by simp [hk])
   rcases this with e | e
   ·exact .inl e
   ·rw [e]; exact thaw1_sref kb hnb
  ·by_cases e1 : k = i
   ·subst e1
    rw [hp] at hy; cases hy
    have := f2 k a (.sl ra ea) hx (by simp [hk, Ne.symm e2])
    rcases this with e | e
    ·exact .inl e
    ·rw [e]; exact thaw1_sref ka hna
   ·have := f2 k a b hx (by rw [List.getElem?_set_ne (Ne.symm e2), List.getElem?_set_ne (Ne.symm e1)]; exact hy)
    exact this.elim .inl fun e => .inr (.inl e)
theorem dO_lit (a b c d e f g h : Int) : dO [.int .i64 a, .int .i64 b, .int .i64 c, .int .i64 d, .int .i64 e, .int .i64 f, .int .i64 g, .int .i64 h] = some ⟨⟨⟨a, b, c⟩, d⟩, ⟨⟨e, f, g⟩, h⟩⟩ := rfl
theorem dFd_lit (a b c d : Int) : dFd [.int .i64 a, .int .i64 b, .int .i64 c, .int .i64 d] = some ⟨a, b, c, d⟩ := rfl
theorem suf_nil {a : Nat} : ([a] <:+ ([] : List Nat)) = False := by simp
attribute [go_sem] dO_lit dFd_lit
noncomputable def E31 : Env := mkF E30t [] [] [(105, e105)]
theorem E31_ok : EnvOK Tryz.prog E31 := envFOK E30t_ok trivial trivial ⟨⟨e105_ok, Tryz.call105⟩, trivial⟩
theorem E31_ti {t : Nat} : E31.ti t = ti t := rfl
theorem E31_e {t : Nat} : E31.eqt t = eqB t := rfl
theorem E31_k {t : Nat} : E31.keyt t = keyB t := rfl
theorem E31_g {t : Nat} : E31.glob t = glB t := rfl
attribute [go_sem] E31_ti E31_e E31_k E31_g
theorem all_fn (x : Lett) (hx : AOk x) : Fn E31 0 65 Tryz.f65 (Tryz.f65.body.getD .skip) [.agg (encLC (lcOf x))] (.mp true 8 (encAll (allM x))) := by
 unfold Fn Tryz.f65
 have hT13 := turns_len hx.t
 have hTok := fun n (h : n ∈ turnsM x) => OkI.of (turns_ok hx h)
 have hlast := fun t => @lastT_ok x hx t
 have hxt := hx.t
 have hxr := hx.r
 have hxn := hx.n
 have hxc := hx.c
 have hstB := @stepB_ok x hx
 have hfoB := @foldB_ok x hx
 have hfoA := @foldA_ok x hx
 have hfoI := @foldI_ok x hx
 have hmg := fun a b (hb : b < x.lines.length) (ha : a < x.rack.issues.length) => mget_openI x a b hb x.rack.issues.length ha
 have hcl : ∀ i j, i < x.rack.issues.length → j < x.lines.length → (candL x i j).length ≤ 640000 := fun i j hi hj => meanL_le (hx.g.m _ (getD_mem default hj) _ (getD_mem default hi))
 have hxi4 := hx.t.i
 obtain ⟨X, hX⟩ : ∃ X : Lett, X = x := ⟨_, rfl⟩
 rw [← hX] at hT13 hTok hlast hstB hfoB hfoA hfoI hcl hxc
 rw [show encAll (allM x) = encAll (allM X) by rw [hX]]
 obtain ⟨⟨g, is⟩, dlo, dhi, lns, clo, chi⟩ := x
 obtain ⟨es, hes⟩ : ∃ es, es = openI ⟨⟨g, is⟩, dlo, dhi, lns, clo, chi⟩ is.length := ⟨_, rfl⟩
 simp only [lcOf, encLC, encLt, List.cons_append, List.nil_append] at hxt hxr hxn hmg hxi4 ⊢
 rw [← hes] at hmg ⊢
 have hTd : turnsM ⟨⟨g, is⟩, dlo, dhi, lns, clo, chi⟩ = turnsM X := by rw [hX]
 have hXi : X.rack.issues = is := by rw [hX]
 have hXl : X.lines = lns := by rw [hX]
 have hXhi : X.dhi = dhi := by rw [hX]
 have hXclo : X.clo = clo := by rw [hX]
 have hXchi : X.chi = chi := by rw [hX]
 obtain ⟨T, hT⟩ : ∃ T, T = turnsM X := ⟨_, rfl⟩
 rw [← hT] at hTd hT13 hTok hlast
 simp only [go_sem, @ct E31 103 t103 rfl, t103, hxt, hTd, callSpec, il_length]
 refine ev_loopS [1, 2, 3, 4, 20] (fun t : Nat => [(21, .int .i64 t)]) (fun t H => t ≤ T.length ∧ OkL (foldT X T t) ∧ H ([], 65000000) = some (.cells [.int .i64 g, .sl (is.map encI) false, .int .i64 dlo, .int .i64 dhi, .sl (lns.map encLL) false, .int .i64 clo, .int .i64 chi, .mp true 2 es] 1 false) ∧ H ([], 65001000) = some (.map true 8 (encAll (foldT X T t)) 1 false)) (fun t => T.length - t) 0 ?_ ⟨by omega, (fun e h => by cases h), ?_, ?_⟩ ?_
 ·simp only [go_sem, Int.natCast_zero, il_length]
 ·simp only [go_sem]
 ·simp only [go_sem]; rfl
 ·simp only [go_sem]
  intro K t H ⟨ht, hok, h1, h2⟩ hK hE
  rw [condK_bool]
  refine ⟨fun hc => ?_, fun hc => ?_⟩
  ·have ht' : t < T.length := by have := of_decide_eq_true hc; omega
   have ht0 : (0 ≤ (t : Int)) = True := eq_true (by omega)
   have htt : ((t : Int) < (T.length : Int)) = True := eq_true (by omega)
   have w2 : IntKind.i64.wrap ((t : Int) + 1) = (t : Int) + 1 := wrap_id (by omega)
   have hday := hTok _ (getD_mem 0 ht')
   have hla := hlast t
   generalize hD : T.getD t 0 = day at hday
   simp only [go_sem, h1, h2, ht0, htt, il_length, il_getD, Int.toNat_natCast, w2, List.length_map, hD]
   rw [condK_bool]
   refine ⟨fun hc2 => ?brA, fun hc2 => ?brB⟩
   case' brA =>
    have ht2 : t + 1 < T.length := by have := of_decide_eq_true hc2; omega
    have ht3 : ((t : Int) + 1 < (T.length : Int)) = True := eq_true (by omega)
    have ht4 : (0 ≤ (t : Int) + 1) = True := eq_true (by omega)
    have ht5 : ((t : Int) + 1).toNat = t + 1 := by omega
    have hlT : lastT X T t = T.getD (t + 1) 0 - 1 := if_pos ht2
    have w7 : IntKind.i64.wrap (T.getD (t + 1) 0 - 1) = lastT X T t := by
     rw [hlT] at hla ⊢; exact wrap_id (by have := hla.1; have := hla.2; omega)
    simp only [go_sem, h1, h2, ht3, ht4, ht5, il_length, il_getD, w2, w7, List.length_map]
   case' brB =>
    have ht2 : ¬ t + 1 < T.length := by have : ¬ ((t : Int) + 1 < (T.length : Int)) := of_decide_eq_false hc2
                                        omega
    have hlT : lastT X T t = dhi := by rw [← hXhi]; exact if_neg ht2
    simp only [go_sem, h1, h2, il_length, il_getD, w2, List.length_map]
    rw [← hlT]
   all_goals
    have hkl := hla
    generalize hLL : lastT X T t = last at *
    refine ev_loopS [1, 2, 3, 4, 5, 6, 20, 21, 42, 43] (fun i : Nat => [(44, .int .i64 i)]) (fun i H => i ≤ is.length ∧ OkL (foldI X day last (foldT X T t) i) ∧ H ([], 65000000) = some (.cells [.int .i64 g, .sl (is.map encI) false, .int .i64 dlo, .int .i64 dhi, .sl (lns.map encLL) false, .int .i64 clo, .int .i64 chi, .mp true 2 es] 1 false) ∧ H ([], 65001000) = some (.map true 8 (encAll (foldI X day last (foldT X T t) i)) 1 false)) (fun i => is.length - i) 0 ?_ ⟨by omega, hok, ?_, ?_⟩ ?_
    ·simp only [go_sem, Int.natCast_zero, List.length_map]
    ·simp only [go_sem, h1]
    ·simp only [go_sem, h2]; rfl
    ·simp only [go_sem]
     intro K2 i H ⟨hi, hok2, h1, h2⟩ hK2 hE2
     rw [condK_bool]
     refine ⟨fun hc => ?_, fun hc => ?_⟩
     ·have hi' : i < is.length := by have := of_decide_eq_true hc; omega
      have hii : ((i : Int) < (is.length : Int)) = True := eq_true (by omega)
      have hi0 : (0 ≤ (i : Int)) = True := eq_true (by omega)
      have w3 : IntKind.i64.wrap ((i : Int) + 1) = (i : Int) + 1 := wrap_id (by omega)
      have hst := foldI_succ X day last (foldT X T t) i
      have hgi : X.rack.issues.getD i default = is.getD i default := by rw [hXi]
      generalize hI : is.getD i default = I at hgi
      obtain ⟨ilo, ihi, ihe, ien⟩ := I
      have hm0 := hmg i 0 hxn hi'
      have hm1 := fun h => hmg i 1 h hi'
      have hc0 := hcl i 0 (by rw [hXi]; exact hi') (by rw [hXl]; exact hxn)
      have hc1 := fun h => hcl i 1 (by rw [hXi]; exact hi') (by rw [hXl]; exact h)
      rw [show mnPV ⟨⟨g, is⟩, dlo, dhi, lns, clo, chi⟩ i 0 = .sl ((candL X i 0).map encL) false by rw [hX]; rfl] at hm0
      rw [show mnPV ⟨⟨g, is⟩, dlo, dhi, lns, clo, chi⟩ i 1 = .sl ((candL X i 1).map encL) false by rw [hX]; rfl] at hm1
      simp only [Int.natCast_zero, Int.natCast_one] at hm0 hm1
      simp only [go_sem, @ct E31 67 sTween rfl, sTween, h1, h2, ht0, htt, hii, hi0, il_length, il_getD, Int.toNat_natCast, List.length_map, getD_mapN encI is i _ hi', hI, encI, hD, callSpec]
      rw [condK_bool]
      refine ⟨fun hno => ?_, fun hyes => ?_⟩
      ·have hno' : inSpan ilo ihi day = false := by
        have : (!(inSpan ilo ihi day)) = true := hno
        simpa using this
       have hst' : foldI X day last (foldT X T t) (i + 1) = foldI X day last (foldT X T t) i := by rw [hst, stepI, if_neg (by rw [hgi, hno']; simp)]
       simp only [go_sem]
       refine hK2 (i + 1) _ _ ?_ ⟨by omega, by rw [hst']; exact hok2, ?_, ?_⟩ (by omega)
       ·simp only [go_sem, w3, Int.natCast_add, Int.natCast_one]
       ·simp only [go_sem, h1]
       ·simp only [go_sem, h2, hst']
      ·have hyes' : inSpan ilo ihi day = true := by
        have : (!(inSpan ilo ihi day)) = false := hyes
        simpa using this
       have hst' : foldI X day last (foldT X T t) (i + 1) = foldA X day last (candL X i 0) ((candL X i 0).map (costM X.rack day)) (secL X i) (moreL X day i) (foldI X day last (foldT X T t) i) (candL X i 0).length := by rw [hst, stepI, if_pos (by rw [hgi]; exact hyes')]
       generalize hACC : foldI X day last (foldT X T t) i = acc at *
       have hXr : X.rack = ⟨g, is⟩ := by rw [hX]
       simp only [go_sem, h1, h2, look, keyOf, ints, found, hm0, List.length_map]
       rw [condK_bool]
       constructor
       case' left =>
        intro hc2
        have hl2 : 1 < lns.length := by have := of_decide_eq_true hc2; omega
        have hse : secL X i = candL X i 1 := if_pos (by rw [hXl]; exact hl2)
        have hmo : moreL X day i = (candL X i 1).map (costM X.rack day) := if_pos (by rw [hXl]; exact hl2)
        have hm1 := hm1 hl2
        have hc1 := hc1 hl2
        have hcl1 : ((candL X i 1).length ≤ 1000000) = True := eq_true (by omega)
        simp only [go_sem, @ct E31 104 t104 rfl, t104, h1, h2, look, keyOf, ints, found, hm1, callSpec, dec_lines, hxr, hcl1, ht0, htt, il_length, il_getD, Int.toNat_natCast, hD]
       case' right =>
        intro hc2
       all_goals
        have hcl0 : ((candL X i 0).length ≤ 1000000) = True := eq_true (by omega)
        simp only [go_sem, @ct E31 104 t104 rfl, t104, h1, h2, callSpec, dec_lines, hxr, hcl0, ht0, htt, il_length, il_getD, Int.toNat_natCast, hD, List.length_map]
       case left =>
        have hsl : (moreL X day i).length = (secL X i).length := by rw [hmo, hse, List.length_map]
        have hml : (moreL X day i).length ≤ 1000000 := by rw [hmo, List.length_map]; omega
        have hex : ∀ (r : Rack), r = X.rack → (candL X i 1).map (costM r day) = moreL X day i := fun r e => by rw [e, hmo]
        rw [hex _ hXr.symm, ← hse]
        have hg1 := h1
        have hg2 := h2
        refine ev_loopS [1, 2, 3, 4, 5, 6, 7, 8, 9, 20, 21, 42, 43, 44, 92, 93] (fun a : Nat => [(10, .sl ((secL X i).map encL) false), (11, .sl (il (moreL X day i)) false), (94, .int .i64 a)]) (fun a H => a ≤ (candL X i 0).length ∧ OkL (foldA X day last (candL X i 0) ((candL X i 0).map (costM X.rack day)) (secL X i) (moreL X day i) acc a) ∧ H ([], 65000000) = some (.cells [.int .i64 g, .sl (is.map encI) false, .int .i64 dlo, .int .i64 dhi, .sl (lns.map encLL) false, .int .i64 clo, .int .i64 chi, .mp true 2 es] 1 false) ∧ H ([], 65001000) = some (.map true 8 (encAll (foldA X day last (candL X i 0) ((candL X i 0).map (costM X.rack day)) (secL X i) (moreL X day i) acc a)) 1 false)) (fun a => (candL X i 0).length - a) 0 ?_ ⟨by omega, hok2, ?_, ?_⟩ ?_
        ·simp only [go_sem, Int.natCast_zero, List.length_map, hse, hmo]
        ·simp only [go_sem, hg1]
        ·simp only [go_sem, hg2]; rfl
        ·simp only [go_sem]
         intro K3 a H ⟨ha, hok3, h1, h2⟩ hK3 hE3
         rw [condK_bool]
         refine ⟨fun hc => ?_, fun hc => ?_⟩
         ·have ha' : a < (candL X i 0).length := by have := of_decide_eq_true hc; omega
          have haa : ((a : Int) < ((candL X i 0).length : Int)) = True := eq_true (by omega)
          have ha0 : (0 ≤ (a : Int)) = True := eq_true (by omega)
          have w4 : IntKind.i64.wrap ((a : Int) + 1) = (a : Int) + 1 := wrap_id (by omega)
          have hsa := foldA_succ X day last (candL X i 0) ((candL X i 0).map (costM X.rack day)) (secL X i) (moreL X day i) acc a
          generalize hN : ((candL X i 0).map (costM X.rack day)).getD a 0 = n at hsa
          generalize hF : (candL X i 0).getD a default = fa at hsa
          generalize hA2 : foldA X day last (candL X i 0) ((candL X i 0).map (costM X.rack day)) (secL X i) (moreL X day i) acc a = acc2 at *
          rw [hXr] at hN
          simp only [go_sem, h1, h2, haa, ha0, il_length, il_getD, Int.toNat_natCast, List.length_map, hN]
          refine ev_loopS [1, 2, 3, 4, 5, 6, 7, 8, 9, 10, 11, 12, 13, 20, 21, 42, 43, 44, 92, 93, 94, 99, 100] (fun b : Nat => [(101, .int .i64 b)]) (fun b H => b ≤ (moreL X day i).length ∧ OkL (foldB X day last fa n (secL X i) (moreL X day i) acc2 b) ∧ H ([], 65000000) = some (.cells [.int .i64 g, .sl (is.map encI) false, .int .i64 dlo, .int .i64 dhi, .sl (lns.map encLL) false, .int .i64 clo, .int .i64 chi, .mp true 2 es] 1 false) ∧ H ([], 65001000) = some (.map true 8 (encAll (foldB X day last fa n (secL X i) (moreL X day i) acc2 b)) 1 false)) (fun b => (moreL X day i).length - b) 0 ?_ ⟨by omega, hok3, ?_, ?_⟩ ?_
          ·simp only [go_sem, Int.natCast_zero, il_length]
          ·simp only [go_sem, h1]
          ·simp only [go_sem, h2]; rfl
          ·simp only [go_sem]
           intro K4 b H ⟨hb, hok4, h1, h2⟩ hK4 hE4
           rw [condK_bool]
           refine ⟨fun hc => ?_, fun hc => ?_⟩
           ·have hb' : b < (moreL X day i).length := by have := of_decide_eq_true hc; omega
            have hbs : b < (secL X i).length := by rw [← hsl]; exact hb'
            have hbb : ((b : Int) < ((moreL X day i).length : Int)) = True := eq_true (by omega)
            have hbb2 : ((b : Int) < ((secL X i).length : Int)) = True := eq_true (by omega)
            have hb0 : (0 ≤ (b : Int)) = True := eq_true (by omega)
            have w5 : IntKind.i64.wrap ((b : Int) + 1) = (b : Int) + 1 := wrap_id (by omega)
            have hsb := foldB_succ X day last fa n (secL X i) (moreL X day i) acc2 b
            have hokb := hfoB hday hkl fa n (secL X i) (moreL X day i) hok3 (b + 1)
            generalize hM : (moreL X day i).getD b 0 = m at hsb
            generalize hS : (secL X i).getD b default = sb at hsb
            generalize hA3 : foldB X day last fa n (secL X i) (moreL X day i) acc2 b = acc3 at *
            simp only [go_sem, @ct E31 67 sTween rfl, sTween, h1, h2, hbb, hb0, il_length, il_getD, Int.toNat_natCast, List.length_map, hM]
            rw [condK_bool]
            refine ⟨fun hp => ?_, fun hp => ?_⟩
            ·have hp' : (decide (0 ≤ n) && decide (0 ≤ m) && inSpan X.clo X.chi (IntKind.i64.wrap (n + m))) = true := by rw [hXclo, hXchi]; exact hp
             have hsb' : foldB X day last fa n (secL X i) (moreL X day i) acc2 (b + 1) = addA acc3 ⟨fa, sb⟩ ⟨day, last, IntKind.i64.wrap (n + m), IntKind.i64.wrap (n + m)⟩ := by rw [hsb, stepB, if_pos hp']
             have hwo : OkI (IntKind.i64.wrap (n + m)) := by
              simp only [Bool.and_eq_true, decide_eq_true_eq, inSpan] at hp'
              exact ⟨Int.le_trans hxc.1.1 hp'.2.1, Int.le_trans hp'.2.2 hxc.2.2⟩
             have hof : OkF ⟨day, last, IntKind.i64.wrap (n + m), IntKind.i64.wrap (n + m)⟩ = True := eq_true ⟨hday, hkl, hwo, hwo⟩
             obtain ⟨⟨fa1, fa2, fa3⟩, fa4⟩ := fa
             obtain ⟨⟨sb1, sb2, sb3⟩, sb4⟩ := sb
             simp only [go_sem, @effV_eff E31 105 e105 rfl rfl, e105, h1, h2, haa, ha0, hbb2, hb0, ht0, htt, il_length, il_getD, Int.toNat_natCast, List.length_map, getD_mapN encL (candL X i 0) a _ ha', hF, getD_mapN encL (secL X i) b _ hbs, hS, encL, hD, hof, suf_nil]
             refine ⟨⟨acc3, hok4, rfl⟩, fun v H' hS hp => ?_⟩
             obtain ⟨rfl, l', e1, e2⟩ := hp
             simp only [PB.map.injEq, true_and, and_true, Option.some.injEq] at e1
             have e1' := encAll_inj e1
             subst e1'
             rw [← hsb'] at e2
             refine hK4 (b + 1) _ _ ?_ ⟨by omega, hokb, ?_, e2⟩ (by omega)
             ·simp only [go_sem, w5, Int.natCast_add, Int.natCast_one]
             ·rw [hS _ (by simp)]; exact h1
            ·have hp' : ¬ (decide (0 ≤ n) && decide (0 ≤ m) && inSpan X.clo X.chi (IntKind.i64.wrap (n + m))) = true := by rw [hXclo, hXchi]; intro q; rw [show (decide (0 ≤ n) && decide (0 ≤ m) && (decide (clo ≤ IntKind.i64.wrap (n + m)) && decide (IntKind.i64.wrap (n + m) ≤ chi))) = true from q] at hp; cases hp
             have hsb' : foldB X day last fa n (secL X i) (moreL X day i) acc2 (b + 1) = acc3 := by rw [hsb, stepB, if_neg hp']
             simp only [go_sem]
             refine hK4 (b + 1) _ _ ?_ ⟨by omega, hokb, h1, ?_⟩ (by omega)
             ·simp only [go_sem, w5, Int.natCast_add, Int.natCast_one]
             ·rw [hsb']; exact h2
           ·have hb' : b = (moreL X day i).length := by have : ¬ ((b : Int) < ((moreL X day i).length : Int)) := by simpa using hc
                                                        omega
            subst hb'
            simp only [go_sem]
            refine hE4 _ _ _ (by simp) ?_
            simp only [go_sem]
            rw [← hsa] at hok4 h2
            refine hK3 (a + 1) _ _ ?_ ⟨by omega, hok4, h1, h2⟩ (by omega)
            simp only [go_sem, w4, Int.natCast_add, Int.natCast_one]
         ·have ha' : a = (candL X i 0).length := by have : ¬ ((a : Int) < ((candL X i 0).length : Int)) := by simpa using hc
                                                    omega
          subst ha'
          simp only [go_sem]
          refine hE3 _ _ _ (by simp) ?_
          simp only [go_sem]
          rw [← hst'] at hok3 h2
          refine hK2 (i + 1) _ _ ?_ ⟨by omega, hok3, h1, h2⟩ (by omega)
          simp only [go_sem, w3, Int.natCast_add, Int.natCast_one]
       case right =>
        have hl2 : ¬ 1 < lns.length := by have : ¬ (1 < (lns.length : Int)) := of_decide_eq_false hc2
                                          omega
        have hse : secL X i = [zLine] := if_neg (by rw [hXl]; exact hl2)
        have hmo : moreL X day i = [0] := if_neg (by rw [hXl]; exact hl2)
        have hsl : (moreL X day i).length = (secL X i).length := by rw [hmo, hse]; rfl
        have hml : (moreL X day i).length ≤ 1000000 := by rw [hmo]; simp
        generalize hv1 : verOf H ([], 65014001) + 1 = v1
        generalize hv2 : verOf H ([], 65014002) + 1 = v2
        have hg1 := h1
        have hg2 := h2
        have hk1 : ∀ (H : Heap) (b : PB), H.set ([], 65014001) b ([], 65014001) = some b := fun H b => set_at_eq _ _ _
        have hk2 := hk1
        refine ev_loop2 10 11 (Ka := ([], 65014001)) (Kb := ([], 65014002)) (va := v1) (vb := v2) (sza := 4) (szb := 1) (na := 1) (nb := 1) (ea := true) (eb := true) (ra := (secL X i).map encL) (rb := il (moreL X day i)) rfl rfl (by decide) (by simp) (by rw [hse, set_at_ne _ _ (by simp), set_at_eq]; rfl) (by rw [hmo, set_at_eq]; rfl) (by rw [hse]; rfl) (by rw [hmo]; rfl) [1, 2, 3, 4, 5, 6, 7, 8, 9, 20, 21, 42, 43, 44, 92, 93] (fun a : Nat => [(10, .sl ((secL X i).map encL) true), (11, .sl (il (moreL X day i)) true), (94, .int .i64 a)]) (fun a H => a ≤ (candL X i 0).length ∧ OkL (foldA X day last (candL X i 0) ((candL X i 0).map (costM X.rack day)) (secL X i) (moreL X day i) acc a) ∧ H ([], 65000000) = some (.cells [.int .i64 g, .sl (is.map encI) false, .int .i64 dlo, .int .i64 dhi, .sl (lns.map encLL) false, .int .i64 clo, .int .i64 chi, .mp true 2 es] 1 false) ∧ H ([], 65001000) = some (.map true 8 (encAll (foldA X day last (candL X i 0) ((candL X i 0).map (costM X.rack day)) (secL X i) (moreL X day i) acc a)) 1 false)) (fun a => (candL X i 0).length - a) 0 ?_ ⟨by omega, hok2, ?_, ?_⟩ ?_
        ·simp only [go_sem, Int.natCast_zero, List.length_map, hse, hmo]
        ·simp only [go_sem, hg1]
        ·simp only [go_sem, hg2]; rfl
        ·simp only [go_sem]
         intro K3 a H ⟨ha, hok3, h1, h2⟩ hK3 hE3
         rw [condK_bool]
         refine ⟨fun hc => ?_, fun hc => ?_⟩
         ·have ha' : a < (candL X i 0).length := by have := of_decide_eq_true hc; omega
          have haa : ((a : Int) < ((candL X i 0).length : Int)) = True := eq_true (by omega)
          have ha0 : (0 ≤ (a : Int)) = True := eq_true (by omega)
          have w4 : IntKind.i64.wrap ((a : Int) + 1) = (a : Int) + 1 := wrap_id (by omega)
          have hsa := foldA_succ X day last (candL X i 0) ((candL X i 0).map (costM X.rack day)) (secL X i) (moreL X day i) acc a
          generalize hN : ((candL X i 0).map (costM X.rack day)).getD a 0 = n at hsa
          generalize hF : (candL X i 0).getD a default = fa at hsa
          generalize hA2 : foldA X day last (candL X i 0) ((candL X i 0).map (costM X.rack day)) (secL X i) (moreL X day i) acc a = acc2 at *
          rw [hXr] at hN
          simp only [go_sem, h1, h2, haa, ha0, il_length, il_getD, Int.toNat_natCast, List.length_map, hN]
          refine ev_loopS [1, 2, 3, 4, 5, 6, 7, 8, 9, 10, 11, 12, 13, 20, 21, 42, 43, 44, 92, 93, 94, 99, 100] (fun b : Nat => [(101, .int .i64 b)]) (fun b H => b ≤ (moreL X day i).length ∧ OkL (foldB X day last fa n (secL X i) (moreL X day i) acc2 b) ∧ H ([], 65000000) = some (.cells [.int .i64 g, .sl (is.map encI) false, .int .i64 dlo, .int .i64 dhi, .sl (lns.map encLL) false, .int .i64 clo, .int .i64 chi, .mp true 2 es] 1 false) ∧ H ([], 65001000) = some (.map true 8 (encAll (foldB X day last fa n (secL X i) (moreL X day i) acc2 b)) 1 false)) (fun b => (moreL X day i).length - b) 0 ?_ ⟨by omega, hok3, ?_, ?_⟩ ?_
          ·simp only [go_sem, Int.natCast_zero, il_length]
          ·simp only [go_sem, h1]
          ·simp only [go_sem, h2]; rfl
          ·simp only [go_sem]
           intro K4 b H ⟨hb, hok4, h1, h2⟩ hK4 hE4
           rw [condK_bool]
           refine ⟨fun hc => ?_, fun hc => ?_⟩
           ·have hb' : b < (moreL X day i).length := by have := of_decide_eq_true hc; omega
            have hbs : b < (secL X i).length := by rw [← hsl]; exact hb'
            have hbb : ((b : Int) < ((moreL X day i).length : Int)) = True := eq_true (by omega)
            have hbb2 : ((b : Int) < ((secL X i).length : Int)) = True := eq_true (by omega)
            have hb0 : (0 ≤ (b : Int)) = True := eq_true (by omega)
            have w5 : IntKind.i64.wrap ((b : Int) + 1) = (b : Int) + 1 := wrap_id (by omega)
            have hsb := foldB_succ X day last fa n (secL X i) (moreL X day i) acc2 b
            have hokb := hfoB hday hkl fa n (secL X i) (moreL X day i) hok3 (b + 1)
            generalize hM : (moreL X day i).getD b 0 = m at hsb
            generalize hS : (secL X i).getD b default = sb at hsb
            generalize hA3 : foldB X day last fa n (secL X i) (moreL X day i) acc2 b = acc3 at *
            simp only [go_sem, @ct E31 67 sTween rfl, sTween, h1, h2, hbb, hb0, il_length, il_getD, Int.toNat_natCast, List.length_map, hM]
            rw [condK_bool]
            refine ⟨fun hp => ?_, fun hp => ?_⟩
            ·have hp' : (decide (0 ≤ n) && decide (0 ≤ m) && inSpan X.clo X.chi (IntKind.i64.wrap (n + m))) = true := by rw [hXclo, hXchi]; exact hp
             have hsb' : foldB X day last fa n (secL X i) (moreL X day i) acc2 (b + 1) = addA acc3 ⟨fa, sb⟩ ⟨day, last, IntKind.i64.wrap (n + m), IntKind.i64.wrap (n + m)⟩ := by rw [hsb, stepB, if_pos hp']
             have hwo : OkI (IntKind.i64.wrap (n + m)) := by
              simp only [Bool.and_eq_true, decide_eq_true_eq, inSpan] at hp'
              exact ⟨Int.le_trans hxc.1.1 hp'.2.1, Int.le_trans hp'.2.2 hxc.2.2⟩
             have hof : OkF ⟨day, last, IntKind.i64.wrap (n + m), IntKind.i64.wrap (n + m)⟩ = True := eq_true ⟨hday, hkl, hwo, hwo⟩
             obtain ⟨⟨fa1, fa2, fa3⟩, fa4⟩ := fa
             obtain ⟨⟨sb1, sb2, sb3⟩, sb4⟩ := sb
             simp only [go_sem, @effV_eff E31 105 e105 rfl rfl, e105, h1, h2, haa, ha0, hbb2, hb0, ht0, htt, il_length, il_getD, Int.toNat_natCast, List.length_map, getD_mapN encL (candL X i 0) a _ ha', hF, getD_mapN encL (secL X i) b _ hbs, hS, encL, hD, hof, suf_nil]
             refine ⟨⟨acc3, hok4, rfl⟩, fun v H' hS hp => ?_⟩
             obtain ⟨rfl, l', e1, e2⟩ := hp
             simp only [PB.map.injEq, true_and, and_true, Option.some.injEq] at e1
             have e1' := encAll_inj e1
             subst e1'
             rw [← hsb'] at e2
             refine hK4 (b + 1) _ _ ?_ ⟨by omega, hokb, ?_, e2⟩ (by omega)
             ·simp only [go_sem, w5, Int.natCast_add, Int.natCast_one]
             ·rw [hS _ (by simp)]; exact h1
            ·have hp' : ¬ (decide (0 ≤ n) && decide (0 ≤ m) && inSpan X.clo X.chi (IntKind.i64.wrap (n + m))) = true := by rw [hXclo, hXchi]; intro q; rw [show (decide (0 ≤ n) && decide (0 ≤ m) && (decide (clo ≤ IntKind.i64.wrap (n + m)) && decide (IntKind.i64.wrap (n + m) ≤ chi))) = true from q] at hp; cases hp
             have hsb' : foldB X day last fa n (secL X i) (moreL X day i) acc2 (b + 1) = acc3 := by rw [hsb, stepB, if_neg hp']
             simp only [go_sem]
             refine hK4 (b + 1) _ _ ?_ ⟨by omega, hokb, h1, ?_⟩ (by omega)
             ·simp only [go_sem, w5, Int.natCast_add, Int.natCast_one]
             ·rw [hsb']; exact h2
           ·have hb' : b = (moreL X day i).length := by have : ¬ ((b : Int) < ((moreL X day i).length : Int)) := by simpa using hc
                                                        omega
            subst hb'
            simp only [go_sem]
            refine hE4 _ _ _ (by simp) ?_
            simp only [go_sem]
            rw [← hsa] at hok4 h2
            refine hK3 (a + 1) _ _ ?_ ⟨by omega, hok4, h1, h2⟩ (by omega)
            simp only [go_sem, w4, Int.natCast_add, Int.natCast_one]
         ·have ha' : a = (candL X i 0).length := by have : ¬ ((a : Int) < ((candL X i 0).length : Int)) := by simpa using hc
                                                    omega
          subst ha'
          simp only [go_sem]
          refine hE3 _ _ _ (by simp) ?_
          simp only [go_sem]
          rw [← hst'] at hok3 h2
          refine hK2 (i + 1) _ _ ?_ ⟨by omega, hok3, h1, h2⟩ (by omega)
          simp only [go_sem, w3, Int.natCast_add, Int.natCast_one]
     ·have hi' : i = is.length := by have : ¬ ((i : Int) < (is.length : Int)) := by simpa using hc
                                     omega
      subst hi'
      simp only [go_sem]
      refine hE2 _ _ _ (by simp) ?_
      simp only [go_sem]
      rw [show foldI X day last (foldT X T t) is.length = foldT X T (t + 1) by rw [foldT_succ, hD, hLL, hXi]] at hok2 h2
      refine hK (t + 1) _ _ ?_ ⟨by omega, hok2, h1, h2⟩ (by omega)
      simp only [go_sem, w2, Int.natCast_add, Int.natCast_one]
  ·have ht' : t = T.length := by have : ¬ ((t : Int) < (T.length : Int)) := by simpa using hc
                                 omega
   subst ht'
   simp only [go_sem]
   refine hE _ _ _ (by simp) ?_
   rw [show foldT X T T.length = allM X by rw [hT]; rfl] at h2
   simp only [go_sem, h2]
end Wb
namespace Wb
open Go Go.Proofs Enc Row
set_option linter.unusedSimpArgs false
set_option linter.unusedVariables false
set_option maxRecDepth 20000
set_option maxHeartbeats 4000000
def addAll (l : OL) (es : OL) : OL := es.foldl (fun l e => addA l e.1 e.2) l
theorem addAll_append (l a b : OL) : addAll l (a ++ b) = addAll (addAll l a) b := by unfold addAll; rw [List.foldl_append]
theorem addAll_step (F : Nat → OL) (g : Nat → OL) (h : ∀ k, F (k + 1) = addAll (F k) (g k)) : ∀ k, F k = addAll (F 0) ((List.range k).flatMap g)
 | 0 => rfl
 | k + 1 => by rw [h, addAll_step F g h k, List.range_succ, List.flatMap_append, addAll_append]; simp
def candB (x : Lett) (day last : Int) (fa : Line) (n : Int) (S : List Line) (M : List Int) (b : Nat) : OL :=
 if (decide (0 ≤ n) && decide (0 ≤ M.getD b 0) && inSpan x.clo x.chi (IntKind.i64.wrap (n + M.getD b 0))) = true then [(⟨fa, S.getD b default⟩, ⟨day, last, IntKind.i64.wrap (n + M.getD b 0), IntKind.i64.wrap (n + M.getD b 0)⟩)] else []
def candA (x : Lett) (day last : Int) (F : List Line) (N : List Int) (S : List Line) (M : List Int) (a : Nat) : OL :=
 (List.range M.length).flatMap (candB x day last (F.getD a default) (N.getD a 0) S M)
def candI (x : Lett) (day last : Int) (i : Nat) : OL :=
 if inSpan (x.rack.issues.getD i default).lo (x.rack.issues.getD i default).hi day = true then (List.range (candL x i 0).length).flatMap (candA x day last (candL x i 0) ((candL x i 0).map (costM x.rack day)) (secL x i) (moreL x day i)) else []
def candT (x : Lett) (T : List Int) (t : Nat) : OL := (List.range x.rack.issues.length).flatMap (candI x (T.getD t 0) (lastT x T t))
def cands (x : Lett) : OL := (List.range (turnsM x).length).flatMap (candT x (turnsM x))
theorem foldB_all (x : Lett) (day last : Int) (fa : Line) (n : Int) (S : List Line) (M : List Int) (acc : OL) (b : Nat) : foldB x day last fa n S M acc b = addAll acc ((List.range b).flatMap (candB x day last fa n S M)) :=
 addAll_step (foldB x day last fa n S M acc) _ (fun k => by
  rw [foldB_succ]; unfold stepB candB
  split <;> rfl) b
theorem foldA_all (x : Lett) (day last : Int) (F : List Line) (N : List Int) (S : List Line) (M : List Int) (acc : OL) (a : Nat) : foldA x day last F N S M acc a = addAll acc ((List.range a).flatMap (candA x day last F N S M)) :=
 addAll_step (foldA x day last F N S M acc) _ (fun k => by rw [foldA_succ, foldB_all]; rfl) a
theorem foldI_all (x : Lett) (day last : Int) (acc : OL) (i : Nat) : foldI x day last acc i = addAll acc ((List.range i).flatMap (candI x day last)) :=
 addAll_step (foldI x day last acc) _ (fun k => by
  rw [foldI_succ]; unfold stepI candI
  split
  ·rw [foldA_all]
  ·rfl) i
theorem foldT_all (x : Lett) (T : List Int) (t : Nat) : foldT x T t = addAll [] ((List.range t).flatMap (candT x T)) :=
 addAll_step (foldT x T) _ (fun k => by rw [foldT_succ, foldI_all]; rfl) t
theorem allM_cands (x : Lett) : allM x = addAll [] (cands x) := foldT_all x _ _
theorem getA_setA (o : Ord2) (f : Fnd) (o' : Ord2) : ∀ l : OL, getA (setA l o f) o' = if o = o' then some f else getA l o'
 | [] => by simp only [setA, getA]
 | e :: l => by
  rw [setA]
  by_cases h : e.1 = o
  ·rw [if_pos h]; simp only [getA]
   by_cases h2 : o = o'
   ·rw [if_pos h2, if_pos h2]
   ·rw [if_neg h2, if_neg h2, if_neg (by rw [h]; exact h2)]
  ·rw [if_neg h]; simp only [getA]
   rw [getA_setA o f o' l]
   by_cases h2 : o = o'
   ·rw [if_pos h2, if_pos h2, if_neg (by rw [← h2]; exact h)]
   ·rw [if_neg h2, if_neg h2]
structure Ext (es : OL) (o : Ord2) (g : Fnd) : Prop where
 lo : ∃ f, (o, f) ∈ es ∧ f.lo = g.lo
 hi : ∃ f, (o, f) ∈ es ∧ f.hi = g.hi
 clo : ∃ f, (o, f) ∈ es ∧ f.clo = g.clo
 chi : ∃ f, (o, f) ∈ es ∧ f.chi = g.chi
 all : ∀ f, (o, f) ∈ es → g.lo ≤ f.lo ∧ f.hi ≤ g.hi ∧ g.clo ≤ f.clo ∧ f.chi ≤ g.chi
def InvA (l es : OL) : Prop := ∀ o, (getA l o = none ∧ ∀ f, (o, f) ∉ es) ∨ ∃ g, getA l o = some g ∧ Ext es o g
theorem InvA.add {l es : OL} (h : InvA l es) (o : Ord2) (f : Fnd) : InvA (addA l o f) (es ++ [(o, f)]) := fun o' => by
 have hm : ∀ a b, (a, b) ∈ es ++ [(o, f)] ↔ (a, b) ∈ es ∨ (a = o ∧ b = f) := fun a b => by simp
 unfold addA
 rw [getA_setA]
 by_cases ho : o = o'
 ·subst ho
  right
  rw [if_pos rfl]
  rcases h o with ⟨h1, h2⟩ | ⟨g, h1, h2⟩
  ·refine ⟨f, by rw [h1], ⟨f, (hm _ _).2 (.inr ⟨rfl, rfl⟩), rfl⟩, ⟨f, (hm _ _).2 (.inr ⟨rfl, rfl⟩), rfl⟩, ⟨f, (hm _ _).2 (.inr ⟨rfl, rfl⟩), rfl⟩, ⟨f, (hm _ _).2 (.inr ⟨rfl, rfl⟩), rfl⟩, fun f' hf' => ?_⟩
   rcases (hm _ _).1 hf' with q | ⟨_, rfl⟩
   ·exact absurd q (h2 f')
   ·exact ⟨Int.le_refl _, Int.le_refl _, Int.le_refl _, Int.le_refl _⟩
  ·rw [h1]
   obtain ⟨⟨f1, a1, b1⟩, ⟨f2, a2, b2⟩, ⟨f3, a3, b3⟩, ⟨f4, a4, b4⟩, hall⟩ := h2
   refine ⟨widen f g, rfl, ?_, ?_, ?_, ?_, fun f' hf' => ?_⟩
   ·by_cases q : f.lo ≤ g.lo
    ·exact ⟨f, (hm _ _).2 (.inr ⟨rfl, rfl⟩), by simp only [widen]; omega⟩
    ·exact ⟨f1, (hm _ _).2 (.inl a1), by simp only [widen]; omega⟩
   ·by_cases q : g.hi ≤ f.hi
    ·exact ⟨f, (hm _ _).2 (.inr ⟨rfl, rfl⟩), by simp only [widen]; omega⟩
    ·exact ⟨f2, (hm _ _).2 (.inl a2), by simp only [widen]; omega⟩
   ·by_cases q : f.clo ≤ g.clo
    ·exact ⟨f, (hm _ _).2 (.inr ⟨rfl, rfl⟩), by simp only [widen]; omega⟩
    ·exact ⟨f3, (hm _ _).2 (.inl a3), by simp only [widen]; omega⟩
   ·by_cases q : g.chi ≤ f.chi
    ·exact ⟨f, (hm _ _).2 (.inr ⟨rfl, rfl⟩), by simp only [widen]; omega⟩
    ·exact ⟨f4, (hm _ _).2 (.inl a4), by simp only [widen]; omega⟩
   ·simp only [widen]
    rcases (hm _ _).1 hf' with q | ⟨_, rfl⟩
    ·have := hall f' q; omega
    ·omega
 ·rw [if_neg ho]
  have hn : ∀ b : Fnd, (o', b) ∈ es ++ [(o, f)] ↔ (o', b) ∈ es := fun b => (hm o' b).trans ⟨fun q => q.elim id fun q => absurd q.1.symm ho, .inl⟩
  rcases h o' with ⟨h1, h2⟩ | ⟨g, h1, h2⟩
  ·exact .inl ⟨h1, fun f' q => h2 f' ((hn f').1 q)⟩
  ·obtain ⟨⟨f1, a1, b1⟩, ⟨f2, a2, b2⟩, ⟨f3, a3, b3⟩, ⟨f4, a4, b4⟩, hall⟩ := h2
   exact .inr ⟨g, h1, ⟨f1, (hn _).2 a1, b1⟩, ⟨f2, (hn _).2 a2, b2⟩, ⟨f3, (hn _).2 a3, b3⟩, ⟨f4, (hn _).2 a4, b4⟩, fun f' q => hall f' ((hn f').1 q)⟩
theorem InvA.addAll : ∀ {es0 l : OL} (es : OL), InvA l es0 → InvA (addAll l es) (es0 ++ es)
 | es0, l, [], h => by rw [List.append_nil]; exact h
 | es0, l, e :: es, h => by
  have := InvA.addAll es (h.add e.1 e.2)
  rwa [List.append_assoc] at this
theorem allM_inv (x : Lett) : InvA (allM x) (cands x) := by
 rw [allM_cands]
 exact InvA.addAll (es0 := []) (cands x) fun o => .inl ⟨rfl, fun f h => by cases h⟩
theorem getA_none {o : Ord2} : ∀ {l : OL}, getA l o = none ↔ o ∉ l.map (·.1)
 | [] => by simp [getA]
 | e :: l => by
  rw [getA]
  by_cases h : e.1 = o
  ·rw [if_pos h]; simp [h]
  ·rw [if_neg h, getA_none (l := l)]; simp [Ne.symm h]
theorem setA_keys (o : Ord2) (f : Fnd) : ∀ l : OL, (setA l o f).map (·.1) = if o ∈ l.map (·.1) then l.map (·.1) else l.map (·.1) ++ [o]
 | [] => by simp [setA]
 | e :: l => by
  rw [setA]
  by_cases h : e.1 = o
  ·rw [if_pos h, if_pos (by simp [h])]; simp [h]
  ·rw [if_neg h, List.map_cons, setA_keys o f l]
   by_cases h2 : o ∈ l.map (·.1)
   ·rw [if_pos h2, if_pos (by rw [List.map_cons]; exact List.mem_cons_of_mem _ h2)]; rfl
   ·rw [if_neg h2, if_neg (by rw [List.map_cons, List.mem_cons]; rintro (q | q); exact h q.symm; exact h2 q)]; rfl
theorem addA_once {l : OL} (o : Ord2) (f : Fnd) (h : (l.map (·.1)).Nodup) : ((addA l o f).map (·.1)).Nodup := by
 unfold addA
 rw [setA_keys]
 split
 ·exact h
 ·rename_i hn
  rw [List.nodup_append]
  exact ⟨h, by simp, fun a ha b hb => by rw [List.mem_singleton] at hb; subst hb; exact fun e => hn (e ▸ ha)⟩
theorem addAll_once : ∀ (es : OL) {l : OL}, (l.map (·.1)).Nodup → ((addAll l es).map (·.1)).Nodup
 | [], l, h => h
 | e :: es, l, h => addAll_once es (addA_once e.1 e.2 h)
def keysM (x : Lett) : List Ord2 := (allM x).map (·.1)
theorem keysM_once (x : Lett) : (keysM x).Nodup := by unfold keysM; rw [allM_cands]; exact addAll_once _ List.nodup_nil
theorem mem_keysM {x : Lett} {o : Ord2} : o ∈ keysM x ↔ ∃ g, getA (allM x) o = some g := by
 cases h : getA (allM x) o with
 | none => simp only [keysM, getA_none.1 h]; simp
 | some g => simp only [Option.some.injEq, exists_eq', iff_true]
             refine Classical.byContradiction fun q => ?_
             rw [getA_none.2 q] at h; cases h
theorem getA_of_mem {o : Ord2} {f : Fnd} : ∀ {l : OL}, (l.map (·.1)).Nodup → (o, f) ∈ l → getA l o = some f
 | e :: l, hn, hm => by
  rw [List.map_cons, List.nodup_cons] at hn
  rw [getA]
  rcases List.mem_cons.1 hm with q | q
  ·rw [← q, if_pos rfl]
  ·rw [if_neg (fun e' => hn.1 (by rw [e']; exact List.mem_map.2 ⟨_, q, rfl⟩))]
   exact getA_of_mem hn.2 q
theorem getA_mem_iff {x : Lett} {o : Ord2} {f : Fnd} : (o, f) ∈ allM x ↔ getA (allM x) o = some f := ⟨getA_of_mem (keysM_once x), getA_mem⟩
def cB (x : Lett) (d : Int) (l : Line) : Int := if 1 < x.lines.length then costM x.rack d l else 0
def co (x : Lett) (d : Int) (o : Ord2) : Int := IntKind.i64.wrap (costM x.rack d o.a + cB x d o.b)
def Mn (x : Lett) (d : Int) (o : Ord2) : Prop := ∃ i, i < x.rack.issues.length ∧ inSpan (x.rack.issues.getD i default).lo (x.rack.issues.getD i default).hi d = true ∧ o.a ∈ candL x i 0 ∧ o.b ∈ secL x i ∧ 0 ≤ costM x.rack d o.a ∧ 0 ≤ cB x d o.b ∧ inSpan x.clo x.chi (co x d o) = true
theorem moreL_eq (x : Lett) (d : Int) (i : Nat) : moreL x d i = (secL x i).map (cB x d) := by
 unfold moreL secL
 by_cases h : 1 < x.lines.length
 ·rw [if_pos h, if_pos h]; refine List.map_congr_left fun l _ => ?_; unfold cB; rw [if_pos h]
 ·rw [if_neg h, if_neg h]; simp only [List.map_cons, List.map_nil, cB, if_neg h]
theorem map_getD0 (g : Line → Int) (l : List Line) {a : Nat} (h : a < l.length) : (l.map g).getD a 0 = g (l.getD a default) := by
 simp [List.getD_eq_getElem?_getD, h]
theorem mem_candI {x : Lett} {day last : Int} {i : Nat} {o : Ord2} {f : Fnd} : (o, f) ∈ candI x day last i ↔ inSpan (x.rack.issues.getD i default).lo (x.rack.issues.getD i default).hi day = true ∧ o.a ∈ candL x i 0 ∧ o.b ∈ secL x i ∧ 0 ≤ costM x.rack day o.a ∧ 0 ≤ cB x day o.b ∧ inSpan x.clo x.chi (co x day o) = true ∧ f = ⟨day, last, co x day o, co x day o⟩ := by
 unfold candI
 by_cases h : inSpan (x.rack.issues.getD i default).lo (x.rack.issues.getD i default).hi day = true
 ·rw [if_pos h]
  simp only [List.mem_flatMap, List.mem_range, candA]
  constructor
  ·rintro ⟨a, ha, b, hb, hm⟩
   unfold candB at hm
   rw [moreL_eq, List.length_map] at hb
   rw [moreL_eq, map_getD0 _ _ hb, map_getD0 _ _ ha] at hm
   split at hm
   ·rename_i hc
    rw [List.mem_singleton] at hm
    cases hm
    simp only [Bool.and_eq_true, decide_eq_true_eq] at hc
    exact ⟨h, getD_mem _ ha, getD_mem _ hb, hc.1.1, hc.1.2, hc.2, rfl⟩
   ·cases hm
  ·rintro ⟨_, h1, h2, h3, h4, h5, rfl⟩
   obtain ⟨a, ha, ea⟩ := List.getElem_of_mem h1
   obtain ⟨b, hb, eb⟩ := List.getElem_of_mem h2
   have ea' : (candL x i 0).getD a default = o.a := by simp [ha, ea]
   have eb' : (secL x i).getD b default = o.b := by simp [hb, eb]
   refine ⟨a, ha, b, by rw [moreL_eq, List.length_map]; exact hb, ?_⟩
   unfold candB
   rw [moreL_eq, map_getD0 _ _ hb, map_getD0 _ _ ha, ea', eb', if_pos (by simp only [Bool.and_eq_true, decide_eq_true_eq]; exact ⟨⟨h3, h4⟩, h5⟩)]
   exact List.mem_singleton.2 rfl
 ·rw [if_neg h]; exact ⟨fun q => (by cases q), fun q => absurd q.1 h⟩
theorem mem_cands {x : Lett} {o : Ord2} {f : Fnd} : (o, f) ∈ cands x ↔ ∃ t, t < (turnsM x).length ∧ Mn x ((turnsM x).getD t 0) o ∧ f = ⟨(turnsM x).getD t 0, lastT x (turnsM x) t, co x ((turnsM x).getD t 0) o, co x ((turnsM x).getD t 0) o⟩ := by
 unfold cands candT
 simp only [List.mem_flatMap, List.mem_range, mem_candI, Mn]
 constructor
 ·rintro ⟨t, ht, i, hi, h1, h2, h3, h4, h5, h6, rfl⟩
  exact ⟨t, ht, ⟨i, hi, h1, h2, h3, h4, h5, h6⟩, rfl⟩
 ·rintro ⟨t, ht, ⟨i, hi, h1, h2, h3, h4, h5, h6⟩, rfl⟩
  exact ⟨t, ht, i, hi, h1, h2, h3, h4, h5, h6, rfl⟩
def SameD (x : Lett) (d d' : Int) : Prop := ∀ y ∈ x.rack.issues, ∀ c ∈ ends3 y, c ≤ d ↔ c ≤ d'
theorem SameD.symm {x : Lett} {d d' : Int} (h : SameD x d d') : SameD x d' d := fun y hy c hc => (h y hy c hc).symm
theorem SameD.inS {x : Lett} {d d' : Int} (h : SameD x d d') {y : Issue} (hy : y ∈ x.rack.issues) : inSpan y.lo y.hi d = inSpan y.lo y.hi d' := by
 have h1 := h y hy y.lo (by simp [ends3])
 have h2 := h y hy (y.hi + 1) (by simp [ends3])
 unfold inSpan
 rw [Bool.eq_iff_iff]
 simp only [Bool.and_eq_true, decide_eq_true_eq]
 omega
theorem SameD.ovl {x : Lett} {d d' : Int} (h : SameD x d d') {y : Issue} (hy : y ∈ x.rack.issues) : Wb.ovl 1 d d y = Wb.ovl 1 d' d' y := by
 have h1 := h y hy y.lo (by simp [ends3])
 have h2 := h y hy (y.held + 1) (by simp [ends3])
 unfold Wb.ovl hiK
 rw [Bool.eq_iff_iff]
 simp only [Bool.and_eq_true, decide_eq_true_eq, Nat.one_ne_zero, if_false]
 omega
theorem SameD.price {x : Lett} {d d' : Int} (h : SameD x d d') (t : Item) : priceP x.rack d t = priceP x.rack d' t := by
 have : offers d t x.rack.issues = offers d' t x.rack.issues := by
  unfold offers
  rw [List.filter_congr fun y hy => h.ovl hy]
 unfold priceP
 rw [this]
theorem SameD.sumF {x : Lett} {d d' : Int} (h : SameD x d d') : ∀ (ls : List Line) (a : Int), Wb.sumF x.rack d a ls = Wb.sumF x.rack d' a ls
 | [], a => rfl
 | l :: ls, a => by
  rw [Wb.sumF, Wb.sumF, h.price l.item]
  cases priceP x.rack d' l.item with
  | none => rfl
  | some n => exact h.sumF ls _
theorem SameD.cost {x : Lett} {d d' : Int} (h : SameD x d d') (hd : isDayB d = true) (hd' : isDayB d' = true) (l : Line) : costM x.rack d l = costM x.rack d' l := by
 have : sumM x.rack d [l] = sumM x.rack d' [l] := by unfold sumM qSum; rw [h.sumF, hd, hd']
 unfold costM
 rw [this]
theorem SameD.co {x : Lett} {d d' : Int} (h : SameD x d d') (hd : isDayB d = true) (hd' : isDayB d' = true) (o : Ord2) : co x d o = co x d' o := by
 unfold Wb.co cB
 rw [h.cost hd hd', h.cost hd hd']
theorem SameD.mn {x : Lett} {d d' : Int} (h : SameD x d d') (hd : isDayB d = true) (hd' : isDayB d' = true) {o : Ord2} (hm : Mn x d o) : Mn x d' o := by
 obtain ⟨i, hi, h1, h2, h3, h4, h5, h6⟩ := hm
 refine ⟨i, hi, ?_, h2, h3, ?_, ?_, ?_⟩
 ·rw [← h.inS (getD_mem default hi)]; exact h1
 ·rw [← h.cost hd hd']; exact h4
 ·unfold cB at h5 ⊢; rw [← h.cost hd hd']; exact h5
 ·rw [← h.co hd hd']; exact h6
theorem turns_sorted (x : Lett) : (turnsM x).Pairwise (· < ·) := (compact_sort _).1
theorem mem_turns {x : Lett} {n : Int} : n ∈ turnsM x ↔ n ∈ rawT x.dlo x.dhi x.rack.issues := (compact_sort _).2 n
theorem turns_cut {x : Lett} {y : Issue} (hy : y ∈ x.rack.issues) {c : Int} (hc : c ∈ ends3 y) (h : x.dlo ≤ c ∧ c ≤ x.dhi) : c ∈ turnsM x := by
 rw [mem_turns]
 refine List.mem_cons_of_mem _ (List.mem_flatMap.2 ⟨y, hy, List.mem_filter.2 ⟨hc, ?_⟩⟩)
 simp only [inSpan, Bool.and_eq_true, decide_eq_true_eq]; exact h
theorem turns_lo (x : Lett) : x.dlo ∈ turnsM x := mem_turns.2 (List.mem_cons_self ..)
theorem part_of : ∀ {T : List Int} {d : Int}, T.Pairwise (· < ·) → (∃ a ∈ T, a ≤ d) → ∃ t, t < T.length ∧ T.getD t 0 ≤ d ∧ ∀ c ∈ T, c ≤ d → c ≤ T.getD t 0
 | [], d, _, ⟨a, h, _⟩ => by cases h
 | a :: T, d, hs, h => by
  rw [List.pairwise_cons] at hs
  by_cases h2 : ∃ b ∈ T, b ≤ d
  ·obtain ⟨t, h3, h4, h5⟩ := part_of hs.2 h2
   refine ⟨t + 1, by simpa using h3, by simpa using h4, fun c hc hcd => ?_⟩
   rw [List.getD_cons_succ]
   rcases List.mem_cons.1 hc with e | e
   ·have := hs.1 _ (getD_mem (α := Int) 0 h3); omega
   ·exact h5 c e hcd
  ·obtain ⟨b, hb, hbd⟩ := h
   have hba : b = a := by
    rcases List.mem_cons.1 hb with e | e
    ·exact e
    ·exact absurd ⟨b, e, hbd⟩ h2
   subst hba
   refine ⟨0, by simp, by simpa using hbd, fun c hc hcd => ?_⟩
   rcases List.mem_cons.1 hc with e | e
   ·simp [e]
   ·exact absurd ⟨c, e, hcd⟩ h2
theorem sorted_get {T : List Int} (hs : T.Pairwise (· < ·)) {i j : Nat} (hij : i < j) (hj : j < T.length) : T.getD i 0 < T.getD j 0 := by
 have := List.pairwise_iff_getElem.1 hs i j (by omega) hj hij
 have hi : i < T.length := by omega
 simpa [hi, hj] using this
theorem sorted_next {T : List Int} (hs : T.Pairwise (· < ·)) {t : Nat} {c : Int} (ht : t + 1 < T.length) (hc : c ∈ T) (h : T.getD t 0 < c) : T.getD (t + 1) 0 ≤ c := by
 obtain ⟨j, hj, e⟩ := List.getElem_of_mem hc
 have ej : T.getD j 0 = c := by simp [hj, e]
 by_cases q : j ≤ t
 ·by_cases q2 : j = t
  ·subst q2; omega
  ·have := sorted_get hs (show j < t by omega) (by omega); omega
 ·by_cases q2 : j = t + 1
  ·subst q2; omega
  ·have := sorted_get hs (show t + 1 < j by omega) hj; omega
structure Days (x : Lett) : Prop where
 lo : 0 ≤ x.dlo
 le : x.dlo ≤ x.dhi
 hi : x.dhi ≤ 20000
theorem part_same {x : Lett} (hd : Days x) {t : Nat} (ht : t < (turnsM x).length) {d : Int} (h1 : (turnsM x).getD t 0 ≤ d) (h2 : d ≤ lastT x (turnsM x) t) : x.dlo ≤ (turnsM x).getD t 0 ∧ lastT x (turnsM x) t ≤ x.dhi ∧ SameD x ((turnsM x).getD t 0) d := by
 have hm : ∀ n ∈ turnsM x, x.dlo ≤ n ∧ n ≤ x.dhi := fun n hn => by
  rcases turns_mem hn with e | e
  ·rw [e]; exact ⟨Int.le_refl _, hd.le⟩
  ·exact e
 have ht1 := hm _ (getD_mem (α := Int) 0 ht)
 have hl : lastT x (turnsM x) t ≤ x.dhi ∧ ∀ c ∈ turnsM x, (turnsM x).getD t 0 < c → lastT x (turnsM x) t < c := by
  unfold lastT
  split
  ·rename_i q
   have := hm _ (getD_mem (α := Int) 0 q)
   exact ⟨by omega, fun c hc h => by have := sorted_next (turns_sorted x) q hc h; omega⟩
  ·rename_i q
   refine ⟨Int.le_refl _, fun c hc h => ?_⟩
   obtain ⟨j, hj, e⟩ := List.getElem_of_mem hc
   have ej : (turnsM x).getD j 0 = c := by simp [hj, e]
   by_cases q2 : j = t
   ·subst q2; omega
   ·have := sorted_get (turns_sorted x) (show j < t by omega) ht; omega
 refine ⟨ht1.1, hl.1, fun y hy c hc => ⟨fun h => by omega, fun h => ?_⟩⟩
 by_cases hlo : x.dlo ≤ c
 ·have hcm := turns_cut hy hc ⟨hlo, by omega⟩
  refine Classical.byContradiction fun q => ?_
  have := hl.2 c hcm (by omega)
  omega
 ·omega
theorem part_day {x : Lett} (hd : Days x) {d : Int} (h1 : x.dlo ≤ d) (h2 : d ≤ x.dhi) : ∃ t, t < (turnsM x).length ∧ (turnsM x).getD t 0 ≤ d ∧ d ≤ lastT x (turnsM x) t := by
 obtain ⟨t, h3, h4, h5⟩ := part_of (turns_sorted x) ⟨x.dlo, turns_lo x, h1⟩
 refine ⟨t, h3, h4, ?_⟩
 unfold lastT
 split
 ·rename_i q
  refine Classical.byContradiction fun hn => ?_
  have := h5 _ (getD_mem (α := Int) 0 q) (by omega)
  have := sorted_get (turns_sorted x) (show t < t + 1 by omega) q
  omega
 ·exact h2
theorem part_le {x : Lett} (hd : Days x) {t : Nat} (ht : t < (turnsM x).length) : (turnsM x).getD t 0 ≤ lastT x (turnsM x) t := by
 unfold lastT
 split
 ·rename_i q
  have := sorted_get (turns_sorted x) (show t < t + 1 by omega) q
  omega
 ·rcases turns_mem (getD_mem (α := Int) 0 ht) with e | e
  ·rw [e]; exact hd.le
  ·exact e.2
theorem isDay_of {x : Lett} (hd : Days x) {d : Int} (h1 : x.dlo ≤ d) (h2 : d ≤ x.dhi) : isDayB d = true := by
 have := hd.lo; have := hd.hi
 simp only [isDayB, Bool.and_eq_true, decide_eq_true_eq]; omega
structure Told (x : Lett) (o : Ord2) (g : Fnd) : Prop where
 lo : (x.dlo ≤ g.lo ∧ g.lo ≤ x.dhi) ∧ Mn x g.lo o
 hi : (x.dlo ≤ g.hi ∧ g.hi ≤ x.dhi) ∧ Mn x g.hi o
 clo : ∃ d, (x.dlo ≤ d ∧ d ≤ x.dhi) ∧ Mn x d o ∧ co x d o = g.clo
 chi : ∃ d, (x.dlo ≤ d ∧ d ≤ x.dhi) ∧ Mn x d o ∧ co x d o = g.chi
 all : ∀ d, x.dlo ≤ d → d ≤ x.dhi → Mn x d o → (g.lo ≤ d ∧ d ≤ g.hi) ∧ g.clo ≤ co x d o ∧ co x d o ≤ g.chi
theorem allM_told {x : Lett} (hd : Days x) (o : Ord2) : (getA (allM x) o = none ∧ ∀ d, x.dlo ≤ d → d ≤ x.dhi → ¬ Mn x d o) ∨ ∃ g, getA (allM x) o = some g ∧ Told x o g := by
 have key : ∀ d, x.dlo ≤ d → d ≤ x.dhi → Mn x d o → ∃ t, t < (turnsM x).length ∧ ((turnsM x).getD t 0 ≤ d ∧ d ≤ lastT x (turnsM x) t) ∧ Mn x ((turnsM x).getD t 0) o ∧ co x d o = co x ((turnsM x).getD t 0) o := fun d h1 h2 hm => by
  obtain ⟨t, ht, e1, e2⟩ := part_day hd h1 h2
  obtain ⟨p1, p2, p3⟩ := part_same hd ht e1 e2
  have i1 := isDay_of hd h1 h2
  have i2 := isDay_of hd p1 (by omega)
  exact ⟨t, ht, ⟨e1, e2⟩, p3.symm.mn i1 i2 hm, p3.symm.co i1 i2 o⟩
 rcases allM_inv x o with ⟨h1, h2⟩ | ⟨g, h1, h2⟩
 ·refine .inl ⟨h1, fun d a b hm => ?_⟩
  obtain ⟨t, ht, _, e3, _⟩ := key d a b hm
  exact h2 _ (mem_cands.2 ⟨t, ht, e3, rfl⟩)
 ·refine .inr ⟨g, h1, ?_⟩
  obtain ⟨⟨f1, a1, b1⟩, ⟨f2, a2, b2⟩, ⟨f3, a3, b3⟩, ⟨f4, a4, b4⟩, hall⟩ := h2
  obtain ⟨t1, c1, d1, rfl⟩ := mem_cands.1 a1
  obtain ⟨t2, c2, d2, rfl⟩ := mem_cands.1 a2
  obtain ⟨t3, c3, d3, rfl⟩ := mem_cands.1 a3
  obtain ⟨t4, c4, d4, rfl⟩ := mem_cands.1 a4
  simp only at b1 b2 b3 b4
  have hin : ∀ t, t < (turnsM x).length → (x.dlo ≤ (turnsM x).getD t 0 ∧ (turnsM x).getD t 0 ≤ x.dhi) ∧ (x.dlo ≤ lastT x (turnsM x) t ∧ lastT x (turnsM x) t ≤ x.dhi) ∧ SameD x ((turnsM x).getD t 0) (lastT x (turnsM x) t) := fun t ht => by
   have hle := part_le hd ht
   obtain ⟨p1, p2, p3⟩ := part_same hd ht hle (Int.le_refl _)
   exact ⟨⟨p1, by omega⟩, ⟨by omega, p2⟩, p3⟩
  refine ⟨?_, ?_, ?_, ?_, fun d a b hm => ?_⟩
  ·rw [← b1]; exact ⟨(hin t1 c1).1, d1⟩
  ·rw [← b2]
   obtain ⟨q1, q2, q3⟩ := hin t2 c2
   exact ⟨q2, q3.mn (isDay_of hd q1.1 q1.2) (isDay_of hd q2.1 q2.2) d2⟩
  ·exact ⟨_, (hin t3 c3).1, d3, b3⟩
  ·exact ⟨_, (hin t4 c4).1, d4, b4⟩
  ·obtain ⟨t, ht, e1, e3, e4⟩ := key d a b hm
   have := hall _ (mem_cands.2 ⟨t, ht, e3, rfl⟩)
   simp only at this
   rw [e4]
   omega
end Wb
