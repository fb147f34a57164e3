import Derived.Test.YticjjabioiilfaaGreatDoorCC
set_option linter.unusedVariables false
set_option linter.unusedSimpArgs false
namespace Wb
open Go Go.Proofs Enc Row
set_option linter.unusedSimpArgs false
set_option linter.unusedVariables false
set_option maxRecDepth 20000
set_option maxHeartbeats 8000000
theorem partsO_sort (X : Lett) (o : Ord2) : (partsO X o).Pairwise (· < ·) := by
 unfold partsO
 exact List.Pairwise.filter _ (List.pairwise_lt_range)
theorem mem_partsO {X : Lett} {o : Ord2} {t : Nat} : t ∈ partsO X o ↔ t < (turnsM X).length ∧ Mn X ((turnsM X).getD t 0) o := by
 unfold partsO
 rw [List.mem_filter, List.mem_range, mnB_iff]
theorem turns_lt {X : Lett} {s t : Nat} (h : s < t) (ht : t < (turnsM X).length) : (turnsM X).getD s 0 < (turnsM X).getD t 0 := by
 have hs := List.pairwise_iff_getElem.1 (turns_sorted X) s t (by omega) ht h
 simpa [ht, show s < (turnsM X).length by omega] using hs
theorem last_lt {X : Lett} (hd : Days X) {s t : Nat} (h : s < t) (ht : t < (turnsM X).length) : lastT X (turnsM X) s < lastT X (turnsM X) t := by
 have h1 := part_le hd ht
 have h2 : lastT X (turnsM X) s = (turnsM X).getD (s + 1) 0 - 1 := by unfold lastT; rw [if_pos (by omega)]
 by_cases e : s + 1 = t
 ·subst e; omega
 ·have := turns_lt (X := X) (show s + 1 < t by omega) ht
  omega
theorem fnd_of {X : Lett} (hX : GL X) {o : Ord2} {g : Fnd} (hg : getA (allM X) o = some g) :
    0 < (partsO X o).length ∧ g.lo = (turnsM X).getD ((partsO X o).getD 0 0) 0 ∧ g.hi = lastT X (turnsM X) ((partsO X o).getD ((partsO X o).length - 1) 0) ∧
    (∃ t ∈ partsO X o, co X ((turnsM X).getD t 0) o = g.clo) ∧ (∃ t ∈ partsO X o, co X ((turnsM X).getD t 0) o = g.chi) ∧ ∀ t ∈ partsO X o, g.clo ≤ co X ((turnsM X).getD t 0) o ∧ co X ((turnsM X).getD t 0) o ≤ g.chi := by
 have hp : 0 < (partsO X o).length := partsO_pos.2 (mem_keysM.2 ⟨g, hg⟩)
 have hE : Ext (cands X) o g := by
  rcases allM_inv X o with ⟨h, _⟩ | ⟨g', h, e⟩
  ·rw [h] at hg; cases hg
  ·rw [h] at hg; cases hg; exact e
 have hc : ∀ f, (o, f) ∈ cands X ↔ ∃ t ∈ partsO X o, f = ⟨(turnsM X).getD t 0, lastT X (turnsM X) t, co X ((turnsM X).getD t 0) o, co X ((turnsM X).getD t 0) o⟩ := fun f => by
  rw [mem_cands]
  constructor
  ·rintro ⟨t, h1, h2, h3⟩; exact ⟨t, mem_partsO.2 ⟨h1, h2⟩, h3⟩
  ·rintro ⟨t, h1, h3⟩; exact ⟨t, (mem_partsO.1 h1).1, (mem_partsO.1 h1).2, h3⟩
 have hs := List.pairwise_iff_getElem.1 (partsO_sort X o)
 have hall := fun t ht => hE.all _ ((hc _).2 ⟨t, ht, rfl⟩)
 have h0 : (partsO X o).getD 0 0 = (partsO X o)[0] := by simp [hp]
 have hl : (partsO X o).getD ((partsO X o).length - 1) 0 = (partsO X o)[(partsO X o).length - 1] := by simp [show (partsO X o).length - 1 < (partsO X o).length by omega]
 refine ⟨hp, ?_, ?_, ?_, ?_, fun t ht => (hall t ht).2.2⟩
 ·obtain ⟨f, hf, e⟩ := hE.lo
  obtain ⟨t, ht, rfl⟩ := (hc f).1 hf
  have h1 := (hall _ (List.getElem_mem hp)).1
  rw [h0]
  simp only at h1 e
  obtain ⟨k, hk, ek⟩ := List.getElem_of_mem ht
  by_cases e0 : k = 0
  ·subst e0; rw [← e, ← ek]
  ·have h2 := turns_lt (X := X) (hs 0 k hp hk (by omega)) (by rw [ek]; exact (mem_partsO.1 ht).1)
   rw [ek] at h2
   omega
 ·obtain ⟨f, hf, e⟩ := hE.hi
  obtain ⟨t, ht, rfl⟩ := (hc f).1 hf
  have h1 := (hall _ (List.getElem_mem (show (partsO X o).length - 1 < (partsO X o).length by omega))).2.1
  rw [hl]
  simp only at h1 e
  obtain ⟨k, hk, ek⟩ := List.getElem_of_mem ht
  by_cases e0 : k = (partsO X o).length - 1
  ·subst e0; rw [← e, ← ek]
  ·have h2 := last_lt hX.days (hs k ((partsO X o).length - 1) hk (by omega) (by omega)) (mem_partsO.1 (List.getElem_mem (by omega))).1
   rw [ek] at h2
   omega
 ·obtain ⟨f, hf, e⟩ := hE.clo
  obtain ⟨t, ht, rfl⟩ := (hc f).1 hf
  exact ⟨t, ht, e⟩
 ·obtain ⟨f, hf, e⟩ := hE.chi
  obtain ⟨t, ht, rfl⟩ := (hc f).1 hf
  exact ⟨t, ht, e⟩
def mmF (s : Int × Int) (c : Int) : Int × Int := (if c < s.1 then c else s.1, if c > s.2 then c else s.2)
theorem mm_all : ∀ (L : List Int) (s : Int × Int), ((L.foldl mmF s).1 ≤ s.1 ∧ (∀ c ∈ L, (L.foldl mmF s).1 ≤ c) ∧ ((L.foldl mmF s).1 = s.1 ∨ (L.foldl mmF s).1 ∈ L)) ∧ (s.2 ≤ (L.foldl mmF s).2 ∧ (∀ c ∈ L, c ≤ (L.foldl mmF s).2) ∧ ((L.foldl mmF s).2 = s.2 ∨ (L.foldl mmF s).2 ∈ L))
 | [], s => ⟨⟨Int.le_refl _, (fun c h => by cases h), .inl rfl⟩, Int.le_refl _, (fun c h => by cases h), .inl rfl⟩
 | a :: L, s => by
  obtain ⟨⟨h1, h2, h3⟩, h4, h5, h6⟩ := mm_all L (mmF s a)
  rw [List.foldl_cons]
  have k : (mmF s a).1 ≤ s.1 ∧ (mmF s a).1 ≤ a ∧ ((mmF s a).1 = s.1 ∨ (mmF s a).1 = a) ∧ s.2 ≤ (mmF s a).2 ∧ a ≤ (mmF s a).2 ∧ ((mmF s a).2 = s.2 ∨ (mmF s a).2 = a) := by
   have e1 : (mmF s a).1 = if a < s.1 then a else s.1 := rfl
   have e2 : (mmF s a).2 = if a > s.2 then a else s.2 := rfl
   rw [e1, e2]
   by_cases p : a < s.1
   ·rw [if_pos p]
    by_cases q : a > s.2
    ·rw [if_pos q]; omega
    ·rw [if_neg q]; omega
   ·rw [if_neg p]
    by_cases q : a > s.2
    ·rw [if_pos q]; omega
    ·rw [if_neg q]; omega
  refine ⟨⟨by omega, fun c hc => ?_, ?_⟩, by omega, fun c hc => ?_, ?_⟩
  ·rcases List.mem_cons.1 hc with rfl | hc
   ·omega
   ·exact h2 c hc
  ·rcases h3 with e | e
   ·rcases k.2.2.1 with e2 | e2
    ·exact .inl (e.trans e2)
    ·exact .inr (by rw [e, e2]; exact List.mem_cons_self ..)
   ·exact .inr (List.mem_cons_of_mem _ e)
  ·rcases List.mem_cons.1 hc with rfl | hc
   ·omega
   ·exact h5 c hc
  ·rcases h6 with e | e
   ·rcases k.2.2.2.2.2 with e2 | e2
    ·exact .inl (e.trans e2)
    ·exact .inr (by rw [e, e2]; exact List.mem_cons_self ..)
   ·exact .inr (List.mem_cons_of_mem _ e)
def costsOf (X : Lett) (o : Ord2) : List Int := (partsO X o).map fun p => co X ((turnsM X).getD p 0) o
def cost0 (X : Lett) : Int := (costsOf X ((sortedM X).getD 0 default)).getD 0 0
theorem cost_span {X : Lett} (hX : GL X) (h0 : sortedM X ≠ []) : ((sortedM X).flatMap (costsOf X)).foldl mmF (cost0 X, cost0 X) = costSpan (allM X) := by
 have hne : allM X ≠ [] := fun e => h0 (List.eq_nil_of_length_eq_zero (by rw [sorted_len, e]; rfl))
 have hc := costSpan_of hne
 have hpos : 0 < (sortedM X).length := List.length_pos_iff.2 h0
 have hC : ∀ c, c ∈ (sortedM X).flatMap (costsOf X) ↔ ∃ o ∈ keysM X, ∃ t ∈ partsO X o, co X ((turnsM X).getD t 0) o = c := fun c => by
  simp only [List.mem_flatMap, costsOf, List.mem_map, mem_sorted]
 have hc0 : cost0 X ∈ (sortedM X).flatMap (costsOf X) := by
  have hm : (sortedM X).getD 0 default ∈ sortedM X := getD_mem default hpos
  have hp := partsO_pos.2 (mem_sorted.1 hm)
  refine List.mem_flatMap.2 ⟨_, hm, ?_⟩
  unfold cost0
  have hl : 0 < (costsOf X ((sortedM X).getD 0 default)).length := by unfold costsOf; rw [List.length_map]; exact hp
  generalize costsOf X ((sortedM X).getD 0 default) = C at hl
  have e : C.getD 0 0 = C[0] := by simp [hl]
  rw [e]
  exact List.getElem_mem hl
 obtain ⟨⟨h1, h2, h3⟩, h4, h5, h6⟩ := mm_all ((sortedM X).flatMap (costsOf X)) (cost0 X, cost0 X)
 generalize hr : ((sortedM X).flatMap (costsOf X)).foldl mmF (cost0 X, cost0 X) = r at h1 h2 h3 h4 h5 h6
 have m1 : r.1 ∈ (sortedM X).flatMap (costsOf X) := h3.elim (fun e => e ▸ hc0) id
 have m2 : r.2 ∈ (sortedM X).flatMap (costsOf X) := h6.elim (fun e => e ▸ hc0) id
 have hex : ∀ e ∈ allM X, ∃ g, getA (allM X) e.1 = some g ∧ e.2 = g := fun e he => ⟨e.2, getA_mem_iff.1 he, rfl⟩
 have a1 : r.1 = (costSpan (allM X)).1 := by
  obtain ⟨e, he, q1⟩ := hc.a1
  have q2 := getA_mem_iff.1 (show (e.1, e.2) ∈ allM X from he)
  obtain ⟨_, _, _, ⟨t, ht, q3⟩, _, _⟩ := fnd_of hX q2
  have k1 := h2 _ ((hC _).2 ⟨e.1, mem_keysM.2 ⟨e.2, q2⟩, t, ht, q3⟩)
  obtain ⟨o, ho, t', ht', q4⟩ := (hC _).1 m1
  obtain ⟨g, hg⟩ := mem_keysM.1 ho
  obtain ⟨_, _, _, _, _, q5⟩ := fnd_of hX hg
  have k2 := (q5 t' ht').1
  have k3 := hc.a2 (o, g) (getA_mem_iff.2 hg)
  simp only at k3
  omega
 have a2 : r.2 = (costSpan (allM X)).2 := by
  obtain ⟨e, he, q1⟩ := hc.b1
  have q2 := getA_mem_iff.1 (show (e.1, e.2) ∈ allM X from he)
  obtain ⟨_, _, _, _, ⟨t, ht, q3⟩, _⟩ := fnd_of hX q2
  have k1 := h5 _ ((hC _).2 ⟨e.1, mem_keysM.2 ⟨e.2, q2⟩, t, ht, q3⟩)
  obtain ⟨o, ho, t', ht', q4⟩ := (hC _).1 m2
  obtain ⟨g, hg⟩ := mem_keysM.1 ho
  obtain ⟨_, _, _, _, _, q5⟩ := fnd_of hX hg
  have k2 := (q5 t' ht').2
  have k3 := hc.b2 (o, g) (getA_mem_iff.2 hg)
  simp only at k3
  omega
 exact Prod.ext a1 a2
theorem which_get {X : Lett} {ls : List Line} (h : whichI X ls ≥ 0) : ∃ i o, whichI X ls = ((i : Nat) : Int) ∧ i < (sortedM X).length ∧ (sortedM X).getD i default = o ∧ linesO X o = ls := by
 unfold whichI at h ⊢
 rcases findI_find (fun f : FndR => decide (f.lines = ls)) ((sortedM X).map (fndO X)) 0 with ⟨_, h2⟩ | ⟨j, h1, h2, h3⟩
 ·omega
 ·rw [List.length_map] at h1
  refine ⟨j, (sortedM X).getD j default, by rw [h3]; simp, h1, rfl, ?_⟩
  have := List.find?_some h2
  have e : ((sortedM X).map (fndO X)).getD j default = fndO X ((sortedM X).getD j default) := by simp [h1]
  rw [e] at this
  exact of_decide_eq_true this
theorem cast_getD (l : List Nat) (i : Nat) : (l.map fun p : Nat => (p : Int)).getD i 0 = ((l.getD i 0 : Nat) : Int) := by
 rw [List.getD_eq_getElem?_getD, List.getElem?_map, List.getD_eq_getElem?_getD]
 cases l[i]? <;> rfl
theorem partsO_len {x : Lett} (hX : GL x) (o : Ord2) : (partsO x o).length ≤ 100 := by
 have h1 : (partsO x o).length ≤ (turnsM x).length := by
  have := List.length_filter_le (fun p => mnB x ((turnsM x).getD p 0) o) (List.range (turnsM x).length)
  rw [List.length_range] at this
  exact this
 have h2 := (partsR_len hX).2
 rw [partsR_length] at h2
 omega
theorem whenR_fn (x : Lett) (hx : LOk x) (ls : List Line) (hl : big ls.length) : Fn E68 0 39 Tryz.f39 (Tryz.f39.body.getD .skip) [.agg (encLt x), .sl (ls.map encL) false] (whenPV x ls) := by
 unfold Fn Tryz.f39 whenPV
 have hxl := eq_true hx
 have hx0 := encLt_lit x
 cases hk : lettOk x with
 | false =>
  simp only [go_sem, @ct E68 31 t31 rfl, t31, hx0, lett_eta, callSpec, hk, if_false, hxl]
 | true =>
  have hG := lett_good hk
  have hgx := eq_true hG
  have hbl := eq_true hl
  have hb := sorted_bound hG
  have h1 : ((sortedM x).length ≤ 4000000000) = True := eq_true (by omega)
  have h2 := eq_true (fnd_big hG)
  by_cases hw : whichI x ls ≥ 0
  ·obtain ⟨i, o, hwi, hi, ho, hls⟩ := which_get hw
   have hom : o ∈ keysM x := by rw [← ho]; exact mem_sorted.1 (getD_mem default hi)
   obtain ⟨g, hg⟩ := mem_keysM.1 hom
   have hwm : whenM x ls = some g := by rw [← hls, when_at hG.n hom, hg]
   obtain ⟨hp, hlo, hhi, _⟩ := fnd_of hG hg
   have hpl := partsO_len hG o
   have h3 : findI (fun f => decide (f.lines = ls)) ((sortedM x).map (fndO x)) 0 = ((i : Nat) : Int) := hwi
   have hlt0 : (((i : Nat) : Int) < 0) = False := eq_false (by omega)
   have hii : ((i : Int) < ((sortedM x).length : Int)) = True := eq_true (by omega)
   have hi0 : (0 ≤ (i : Int)) = True := eq_true (by omega)
   have hgm : ((sortedM x).map (fndO x)).getD i default = fndO x o := by rw [← ho]; simp [hi]
   have hfo : encFn (fndO x o) = [.sl ((linesO x o).map encL) false, .sl (il ((partsO x o).map fun (p : Nat) => (p : Int))) false, .sl (il ((partsO x o).map fun p => co x ((turnsM x).getD p 0) o)) false] := rfl
   have hlt : ∀ t ∈ partsO x o, t < (turnsM x).length := fun t ht => (mem_partsO.1 ht).1
   generalize hP : partsO x o = P at hp hlo hhi hpl hlt hfo
   obtain ⟨L, hL⟩ : ∃ L, L = P.length - 1 := ⟨_, rfl⟩
   have c0 : ((0 : Int) < (P.length : Int)) = True := eq_true (by omega)
   have wl : IntKind.i64.wrap ((P.length : Int) - 1) = (L : Int) := by rw [wrap_id (by omega)]; omega
   have cl : ((L : Int) < (P.length : Int)) = True := eq_true (by omega)
   have cl0 : (0 ≤ (L : Int)) = True := eq_true (by omega)
   have q0 := cast_getD P 0
   have qL := cast_getD P L
   rw [← hL] at hhi
   have m0 := hlt _ (getD_mem (0 : Nat) hp)
   have mL := hlt _ (getD_mem (0 : Nat) (show L < P.length by omega))
   have g0 := parts_get (X := x) m0
   have gL := parts_get (X := x) mL
   have l0 : P.getD 0 0 < (partsR x).length := by rw [partsR_length]; exact m0
   have lL : P.getD L 0 < (partsR x).length := by rw [partsR_length]; exact mL
   rw [← hlo] at g0
   rw [← hhi] at gL
   generalize P.getD 0 0 = a at q0 g0 l0
   generalize P.getD L 0 = b at qL gL lL
   have a1 : ((a : Int) < ((partsR x).length : Int)) = True := eq_true (by omega)
   have a0 : (0 ≤ (a : Int)) = True := eq_true (by omega)
   have b1 : ((b : Int) < ((partsR x).length : Int)) = True := eq_true (by omega)
   have b0 : (0 ≤ (b : Int)) = True := eq_true (by omega)
   have z0 : (0 : Int).toNat = 0 := rfl
   have z1 : ((0 : Int) ≤ 0) = True := eq_true (by omega)
   simp only [go_sem, @ct E68 31 t31 rfl, t31, @ct E68 77 t77 rfl, t77, @ct E68 78 t78s rfl, t78s, @ct E68 85 t85 rfl, t85, @ct E68 17 sTo rfl, sTo, hx0, lett_eta, callSpec, hk, if_true, hxl, hgx, dec_lines, hbl, h1, h2, h3, hlt0, hii, hi0, Int.toNat_natCast, List.length_map, getD_mapN encFn ((sortedM x).map (fndO x)) i _ (by rw [List.length_map]; exact hi), hgm, hfo, il_length, il_getD, c0, wl, cl, cl0, z0, z1, q0, qL, a1, a0, b1, b0, getD_mapN encS (partsR x) a _ l0, getD_mapN encS (partsR x) b _ lL, g0, gL, encS, hwm]
  ·have hn : whenM x ls = none := by
    have := which_some hG ls
    rw [decide_eq_false hw] at this
    exact Option.not_isSome_iff_eq_none.1 (by rw [← this]; simp)
   have h3 : decide (findI (fun f => decide (f.lines = ls)) ((sortedM x).map (fndO x)) 0 < 0) = true := decide_eq_true (by show whichI x ls < 0; omega)
   have h3' : (findI (fun f => decide (f.lines = ls)) ((sortedM x).map (fndO x)) 0 < 0) = True := eq_true (by show whichI x ls < 0; omega)
   simp only [go_sem, @ct E68 31 t31 rfl, t31, @ct E68 77 t77 rfl, t77, @ct E68 78 t78s rfl, t78s, hx0, lett_eta, callSpec, hk, if_true, hxl, hgx, dec_lines, hbl, h1, h2, h3, h3', hn]
def t39 : Spec := spec2 (fun (x : Lett) (ls : List Line) => LOk x ∧ big ls.length) whenPV
theorem t39_ok : SpecOK Tryz.prog glB 39 t39 := spec2_ok E68_ok Tryz.func39 rfl (by kernel_rfl) fun x ls h => whenR_fn x h.1 ls h.2
theorem costR_fn (x : Lett) (hx : LOk x) : Fn E68 0 40 Tryz.f40 (Tryz.f40.body.getD .skip) [.agg (encLt x)] (costPV x) := by
 unfold Fn Tryz.f40 costPV
 have hxl := eq_true hx
 have hx0 := encLt_lit x
 cases hk : lettOk x with
 | false =>
  have h1 : askR x true = .tup [.sl [] true, .int .i64 20] := by unfold askR; rw [hk]; rfl
  simp only [go_sem, @ct E68 81 t81 rfl, t81, hx0, lett_eta, callSpec, h1, hxl, if_false]
 | true =>
  have hG := lett_good hk
  by_cases h0 : sortedM x = []
  ·have h1 : askR x true = .tup [.sl [] true, .int .i64 4] := by unfold askR; rw [if_pos hk, if_pos rfl, if_pos h0]
   have hA : allM x = [] := List.eq_nil_of_length_eq_zero (by rw [← sorted_len, h0]; rfl)
   simp only [go_sem, @ct E68 81 t81 rfl, t81, hx0, lett_eta, callSpec, h1, hxl, if_true, hA]
  ·have h1 : askR x true = .tup [.sl (((sortedM x).map (fndO x)).map encFn) false, .int .i64 0] := by unfold askR; rw [if_pos hk, if_pos rfl, if_neg h0]
   have hA : allM x ≠ [] := fun e => h0 (List.eq_nil_of_length_eq_zero (by rw [sorted_len, e]; rfl))
   have hfin := cost_span hG h0
   have hb := sorted_bound hG
   have hpos : 0 < (sortedM x).length := List.length_pos_iff.2 h0
   have hcl : ∀ o, (costsOf x o).length ≤ 100 := fun o => by unfold costsOf; rw [List.length_map]; exact partsO_len hG o
   have hc1 : 0 < (costsOf x ((sortedM x).getD 0 default)).length := by
    unfold costsOf; rw [List.length_map]
    exact partsO_pos.2 (mem_sorted.1 (getD_mem default hpos))
   have hc0 : (costsOf x ((sortedM x).getD 0 default)).getD 0 0 = cost0 x := rfl
   have hfo : ∀ o, encFn (fndO x o) = [.sl ((linesO x o).map encL) false, .sl (il ((partsO x o).map fun (p : Nat) => (p : Int))) false, .sl (il (costsOf x o)) false] := fun _ => rfl
   simp only [if_neg hA]
   generalize costSpan (allM x) = R at hfin
   generalize cost0 x = c at hfin hc0
   generalize sortedM x = S at hfin hpos hc1 hc0 hb h1
   have hg0 : (S.map (fndO x)).getD 0 default = fndO x (S.getD 0 default) := by simp [hpos]
   have p0 : ((0 : Int) < (S.length : Int)) = True := eq_true (by omega)
   have p1 : ((0 : Int) < ((costsOf x (S.getD 0 default)).length : Int)) = True := eq_true (by omega)
   have z0 : (0 : Int).toNat = 0 := rfl
   have z1 : ((0 : Int) ≤ 0) = True := eq_true (by omega)
   simp only [go_sem, @ct E68 81 t81 rfl, t81, @ct E68 17 sTo rfl, sTo, hx0, lett_eta, callSpec, h1, hxl, if_true, List.length_map, getD_mapN encFn (S.map (fndO x)) 0 _ (by rw [List.length_map]; exact hpos), hg0, hfo, il_length, il_getD, p0, p1, z0, z1, hc0]
   refine ev_loopS [2, 3, 4, 6] (fun z : Nat => [(7, .int .i64 z)]) (fun z H => z ≤ S.length ∧ H ([], 40000001) = some (.cells [.int .i64 0, .int .i64 0] 1 false) ∧ H ([], 40004013) = some (.cells [.int .i64 (((S.take z).flatMap (costsOf x)).foldl mmF (c, c)).1, .int .i64 (((S.take z).flatMap (costsOf x)).foldl mmF (c, c)).2] 1 false)) (fun z => S.length - z) 0 ?_ ⟨Nat.zero_le _, ?_, ?_⟩ ?_
   ·simp only [go_sem, Int.natCast_zero]
   ·simp only [go_sem]
   ·simp only [go_sem, List.take_zero, List.flatMap_nil, List.foldl_nil]
   ·simp only [go_sem, List.length_map]
    rintro K i H ⟨hi, e1, e2⟩ hK hE
    rw [condK_bool]
    refine ⟨fun h => ?_, fun h => ?_⟩
    ·have hi' : i < S.length := by have := of_decide_eq_true h; omega
     have hii : ((i : Int) < (S.length : Int)) = True := eq_true (by omega)
     have hi0 : (0 ≤ (i : Int)) = True := eq_true (by omega)
     have w2 : IntKind.i64.wrap ((i : Int) + 1) = (i : Int) + 1 := wrap_id (by omega)
     have hgm : (S.map (fndO x)).getD i default = fndO x (S.getD i default) := by simp [hi']
     have htk : ((S.take (i + 1)).flatMap (costsOf x)).foldl mmF (c, c) = (costsOf x (S.getD i default)).foldl mmF (((S.take i).flatMap (costsOf x)).foldl mmF (c, c)) := by
      rw [List.take_succ_eq_append_getElem hi', List.flatMap_append, List.foldl_append, show S[i] = S.getD i default by simp [hi']]
      simp only [List.flatMap_cons, List.flatMap_nil, List.append_nil]
     have hcl' := hcl (S.getD i default)
     have hf1 := hfo (S.getD i default)
     generalize S.getD i default = o at hgm htk hcl' hf1
     generalize ((S.take i).flatMap (costsOf x)).foldl mmF (c, c) = q at htk e2
     generalize costsOf x o = C at htk hcl' hf1
     simp only [go_sem]
     refine ev_loopS [2, 3, 4, 6, 7] (fun z : Nat => [(8, .int .i64 z)]) (fun z H => z ≤ C.length ∧ H ([], 40000001) = some (.cells [.int .i64 0, .int .i64 0] 1 false) ∧ H ([], 40004013) = some (.cells [.int .i64 ((C.take z).foldl mmF q).1, .int .i64 ((C.take z).foldl mmF q).2] 1 false)) (fun z => C.length - z) 0 ?_ ⟨Nat.zero_le _, ?_, ?_⟩ ?_
     ·simp only [go_sem, Int.natCast_zero]
     ·simp only [go_sem, e1]
     ·simp only [go_sem, e2, List.take_zero, List.foldl_nil]
     ·simp only [go_sem, List.length_map, hii, hi0, Int.toNat_natCast, getD_mapN encFn (S.map (fndO x)) i _ (by rw [List.length_map]; exact hi'), hgm, hf1, il_length]
      rintro K2 k H2 ⟨hk2, k1, k2⟩ hK2 hE2
      rw [condK_bool]
      refine ⟨fun h => ?_, fun h => ?_⟩
      ·have hk' : k < C.length := by have := of_decide_eq_true h; omega
       have hkk : ((k : Int) < (C.length : Int)) = True := eq_true (by omega)
       have hk0 : (0 ≤ (k : Int)) = True := eq_true (by omega)
       have w3 : IntKind.i64.wrap ((k : Int) + 1) = (k : Int) + 1 := wrap_id (by omega)
       have hft := foldl_takeZ mmF q hk'
       generalize hcc : C.getD k 0 = d at hft
       generalize huu : (C.take k).foldl mmF q = u at hft k2
       simp only [go_sem, @ct E68 17 sTo rfl, sTo, k1, k2, List.length_map, hii, hi0, hkk, hk0, Int.toNat_natCast, getD_mapN encFn (S.map (fndO x)) i _ (by rw [List.length_map]; exact hi'), hgm, hf1, il_length, il_getD, hcc]
       refine hK2 (k + 1) _ _ ?_ ⟨hk', ?_, ?_⟩ (by omega)
       ·simp only [go_sem, w3, Int.natCast_add, Int.natCast_one]
       ·simp only [go_sem, k1]
       ·simp only [go_sem, hft, mmF]
      ·have hk' : k = C.length := by have : ¬ ((k : Int) < (C.length : Int)) := by simpa using h
                                     omega
       subst hk'
       rw [List.take_length, ← htk] at k2
       refine hE2 _ _ _ (by simp) ?_
       simp only [go_sem]
       refine hK (i + 1) _ _ ?_ ⟨hi', k1, k2⟩ (by omega)
       simp only [go_sem, w2, Int.natCast_add, Int.natCast_one]
    ·have hi' : i = S.length := by have : ¬ ((i : Int) < (S.length : Int)) := by simpa using h
                                   omega
     subst hi'
     rw [List.take_length, hfin] at e2
     refine hE _ _ _ (by simp) ?_
     simp only [go_sem, e1, e2]
def t40 : Spec := spec1 LOk costPV
theorem t40_ok : SpecOK Tryz.prog glB 40 t40 := spec1_ok E68_ok Tryz.func40 rfl (by kernel_rfl) fun x h => costR_fn x h
noncomputable def E70t : List (Nat × Spec) := [(39, t39), (40, t40)] ++ E68t
theorem E70t_ok : AllOK E70t := ⟨⟨t39_ok, Tryz.call39⟩, ⟨t40_ok, Tryz.call40⟩, E68t_ok⟩
noncomputable def E70 : Env := mkE E70t []
theorem E70_ok : EnvOK Tryz.prog E70 := envOK E70t_ok trivial
theorem E70_ti {t : Nat} : E70.ti t = ti t := rfl
theorem E70_e {t : Nat} : E70.eqt t = eqB t := rfl
theorem E70_k {t : Nat} : E70.keyt t = keyB t := rfl
theorem E70_g {t : Nat} : E70.glob t = glB t := rfl
attribute [go_sem] E70_ti E70_e E70_k E70_g
theorem when_agg (x : Lett) (ls : List Line) : ∃ a b c, whenPV x ls = .tup [.agg [.int .i64 a, .int .i64 b], .int .i64 c] := by
 unfold whenPV
 split
 ·split
  ·exact ⟨_, _, _, rfl⟩
  ·exact ⟨_, _, _, rfl⟩
 ·exact ⟨_, _, _, rfl⟩
theorem cost_agg (x : Lett) : ∃ a b c, costPV x = .tup [.agg [.int .i64 a, .int .i64 b], .int .i64 c] := by
 unfold costPV
 split
 ·split
  ·exact ⟨_, _, _, rfl⟩
  ·exact ⟨_, _, _, rfl⟩
 ·exact ⟨_, _, _, rfl⟩
theorem daysL_walk (x : Lett) (hx : LOk x) (ls : List Line) (hl : big ls.length) : Fn E70 0 7 Tryz.f7 (Tryz.f7.body.getD .skip) [.agg (encLt x), .sl (ls.map encL) false] (.bool true) := by
 unfold Fn Tryz.f7
 have hxl := eq_true hx
 have hx0 := encLt_lit x
 have hbl := eq_true hl
 obtain ⟨a, b, c, h1⟩ := when_agg x ls
 obtain ⟨a', b', c', h2⟩ := cost_agg x
 have e1 : (a != a) = false := by simp
 have e2 : (b != b) = false := by simp
 have e3 : (c != c) = false := by simp
 simp only [go_sem, @ct E70 19 t19 rfl, t19, @ct E70 39 t39 rfl, t39, @ct E70 25 t25 rfl, t25, @ct E70 40 t40 rfl, t40, @ct E70 14 t14 rfl, t14, hx0, lett_eta, callSpec, hxl, dec_lines, hbl, h1, h2, e1, e2, e3]
end Wb
