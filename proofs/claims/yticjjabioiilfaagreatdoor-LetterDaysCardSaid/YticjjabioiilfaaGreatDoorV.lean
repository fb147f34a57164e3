import Derived.Test.YticjjabioiilfaaGreatDoorN
set_option linter.unusedVariables false
set_option linter.unusedSimpArgs false
namespace Wb
open Go Go.Proofs Enc Row
set_option linter.unusedSimpArgs false
set_option linter.unusedVariables false
set_option maxRecDepth 20000
set_option maxHeartbeats 8000000
def t55 : Spec := spec2 (fun (_ : Line) (k : Int) => 0 ≤ k ∧ k ≤ 3) fun l k => .int .i64 (fldL k.toNat l)
def aheadB : List Int → List Int → Bool
 | [], [] => false
 | [], _ :: _ => true
 | _ :: _, [] => false
 | a :: l, b :: m => if a = b then aheadB l m else decide (a < b)
theorem aheadB_drop {l m : List Int} {i : Nat} (hl : i < l.length) (hm : i < m.length) : aheadB (l.drop i) (m.drop i) = if l.getD i 0 = m.getD i 0 then aheadB (l.drop (i + 1)) (m.drop (i + 1)) else decide (l.getD i 0 < m.getD i 0) := by
 have e1 : l.getD i 0 = l[i] := by simp [hl]
 have e2 : m.getD i 0 = m[i] := by simp [hm]
 rw [List.drop_eq_getElem_cons hl, List.drop_eq_getElem_cons hm, e1, e2]
 rfl
theorem ahead_fn (l m : List Int) (hl : big l.length) (hm : big m.length) : Fn E0 0 54 Tryz.f54 (Tryz.f54.body.getD .skip) [.sl (il l) false, .sl (il m) false] (.bool (aheadB l m)) := by
 unfold big at hl hm
 unfold Fn Tryz.f54
 simp only [go_sem]
 refine ev_loopS [0, 1, 4] (fun i : Nat => [(5, .int .i64 i)]) (fun i H => i ≤ l.length ∧ i ≤ m.length ∧ aheadB (l.drop i) (m.drop i) = aheadB l m) (fun i => l.length - i) 0 ?_ ⟨Nat.zero_le _, Nat.zero_le _, rfl⟩ ?_
 ·simp only [go_sem, Int.natCast_zero]
 ·simp only [go_sem, il_length]
  intro K i H ⟨h1, h2, h3⟩ hK hE
  rw [condK_bool]
  refine ⟨fun h => ?_, fun h => ?_⟩
  ·simp only [Bool.and_eq_true, decide_eq_true_eq] at h
   have a1 : i < l.length := by omega
   have a2 : i < m.length := by omega
   have hii : ((i : Int) < (l.length : Int)) = True := eq_true (by omega)
   have hij : ((i : Int) < (m.length : Int)) = True := eq_true (by omega)
   have hi0 : (0 ≤ (i : Int)) = True := eq_true (by omega)
   have w2 : IntKind.i64.wrap ((i : Int) + 1) = (i : Int) + 1 := wrap_id (by omega)
   have hd := aheadB_drop a1 a2
   simp only [go_sem, il_length, il_getD, hii, hij, hi0, Int.toNat_natCast]
   rw [condK_bool]
   refine ⟨fun hc => ?_, fun hc => ?_⟩
   ·have hne : l.getD i 0 ≠ m.getD i 0 := by simpa using hc
    rw [if_neg hne] at hd
    simp only [go_sem, il_length, il_getD, hii, hij, hi0, Int.toNat_natCast]
    refine hE _ _ _ (by simp) ?_
    simp only [go_sem, ← h3, hd]
   ·have hne : l.getD i 0 = m.getD i 0 := by simpa using hc
    rw [if_pos hne] at hd
    simp only [go_sem]
    refine hK (i + 1) _ _ ?_ ⟨by omega, by omega, by rw [← h3, hd]⟩ (by omega)
    simp only [go_sem, w2, Int.natCast_add, Int.natCast_one]
  ·refine hE _ _ _ (by simp) ?_
   have hf : aheadB l m = decide ((l.length : Int) < (m.length : Int)) := by
    rw [← h3]
    by_cases a1 : i < l.length
    ·have a2 : i = m.length := by
      refine Classical.byContradiction fun q => ?_
      have : i < m.length := by omega
      simp [a1, this] at h
     subst a2
     rw [List.drop_length, List.drop_eq_getElem_cons a1]
     exact (decide_eq_false (by omega)).symm
    ·have a2 : i = l.length := by omega
     subst a2
     rw [List.drop_length]
     by_cases a3 : l.length < m.length
     ·rw [List.drop_eq_getElem_cons a3]; exact (decide_eq_true (by omega)).symm
     ·have : m.drop l.length = [] := List.drop_eq_nil_of_le (by omega)
      rw [this]; exact (decide_eq_false (by omega)).symm
   simp only [go_sem, il_length, hf]
def t54 : Spec := spec2 (fun (l m : List Int) => big l.length ∧ big m.length) fun l m => .bool (aheadB l m)
theorem t54_ok : SpecOK Tryz.prog glB 54 t54 := spec2_ok E0_ok Tryz.func54 rfl (by kernel_rfl) fun l m h => ahead_fn l m h.1 h.2
noncomputable def E53t : List (Nat × Spec) := [(55, t55), (54, t54), (47, sInner)] ++ E52t
noncomputable def E53 : Env := mkE E53t []
theorem E53_ti {t : Nat} : E53.ti t = ti t := rfl
theorem E53_e {t : Nat} : E53.eqt t = eqB t := rfl
theorem E53_k {t : Nat} : E53.keyt t = keyB t := rfl
theorem E53_g {t : Nat} : E53.glob t = glB t := rfl
attribute [go_sem] E53_ti E53_e E53_k E53_g
def keyL (l : Line) : List Int := [l.item.good, l.item.size, l.item.colour, l.many]
theorem dec_il4 (a b c d : Int) (ex : Bool) : (dec (.sl [[.int .i64 a], [.int .i64 b], [.int .i64 c], [.int .i64 d]] ex) : Option (List Int)) = some [a, b, c, d] := rfl
attribute [go_sem] dec_il4
noncomputable def E83t : List (Nat × Spec) := [(54, t54)] ++ E49t
theorem E83t_ok : AllOK E83t := ⟨⟨t54_ok, Tryz.call54⟩, E49t_ok⟩
noncomputable def E83 : Env := mkE E83t []
theorem E83_ok : EnvOK Tryz.prog E83 := envOK E83t_ok trivial
theorem E83_ti {t : Nat} : E83.ti t = ti t := rfl
theorem E83_e {t : Nat} : E83.eqt t = eqB t := rfl
theorem E83_k {t : Nat} : E83.keyt t = keyB t := rfl
theorem E83_g {t : Nat} : E83.glob t = glB t := rfl
attribute [go_sem] E83_ti E83_e E83_k E83_g
theorem sooner_fn (a b : Line) : Fn E83 0 56 Tryz.f56 (Tryz.f56.body.getD .skip) [.agg (encL a), .agg (encL b)] (.bool (aheadB (keyL a) (keyL b))) := by
 unfold Fn Tryz.f56
 have h4 : big 4 := by unfold big; omega
 simp only [go_sem, @ct E83 54 t54 rfl, t54, encL, callSpec, h4, keyL]
def t56 : Spec := spec2 (fun (_ _ : Line) => True) fun a b => .bool (aheadB (keyL a) (keyL b))
theorem t56_ok : SpecOK Tryz.prog glB 56 t56 := spec2_ok E83_ok Tryz.func56 rfl (by kernel_rfl) fun a b _ => sooner_fn a b
noncomputable def E54t : List (Nat × Spec) := [(56, t56)] ++ E53t
noncomputable def E54 : Env := mkE E54t []
theorem E54_ti {t : Nat} : E54.ti t = ti t := rfl
theorem E54_e {t : Nat} : E54.eqt t = eqB t := rfl
theorem E54_k {t : Nat} : E54.keyt t = keyB t := rfl
theorem E54_g {t : Nat} : E54.glob t = glB t := rfl
attribute [go_sem] E54_ti E54_e E54_k E54_g
theorem sortB_rise {α : Type} (key : α → List Int) (n : Nat) (hk : ∀ x, (key x).length = n) (hi : ∀ x y, key x = key y → x = y) {l : List α} (hl : l.Nodup) :
    (sortB (fun a b => cmpK (key a) (key b)) l).Pairwise fun a b => cmpK (key a) (key b) < 0 := by
 have hO := swoK key n hk
 have hs : (sortB (fun a b => cmpK (key a) (key b)) l).Pairwise fun a b => (!(ltOf fun a b => cmpK (key a) (key b)) b a) = true := by
  unfold sortB
  refine List.pairwise_mergeSort (fun a b c h1 h2 => ?_) (fun a b => ?_) l
  ·simp only [Bool.not_eq_true'] at *
   exact hO.ntrans _ _ _ h2 h1
  ·cases h3 : ltOf (fun a b => cmpK (key a) (key b)) b a with
   | false => simp
   | true =>
    cases h4 : ltOf (fun a b => cmpK (key a) (key b)) a b with
    | false => simp
    | true => have := hO.trans _ _ _ h3 h4; rw [hO.irrefl] at this; cases this
 have hn : (sortB (fun a b => cmpK (key a) (key b)) l).Nodup := (sortB_perm _ l).nodup_iff.2 hl
 refine List.Pairwise.imp₂ (R := fun a b => (!(ltOf fun a b => cmpK (key a) (key b)) b a) = true) (S := fun a b => a ≠ b) (fun a b h1 h2 => ?_) hs hn
 simp only [Bool.not_eq_true', ltOf, decide_eq_false_iff_not] at h1
 have h3 := cmpK_neg (key a) (key b)
 have h4 : cmpK (key a) (key b) ≠ 0 := fun e => h2 (hi _ _ (cmpK_zero (by rw [hk, hk]) e))
 omega
theorem sorted_rise (x : Lett) : (sortedM x).Pairwise fun a b => cmpO a b < 0 :=
 sortB_rise keyO 8 keyO_len (fun _ _ => keyO_inj) (keysM_once x)
theorem mem_sorted {x : Lett} {o : Ord2} : o ∈ sortedM x ↔ o ∈ keysM x := (sortB_perm cmpO (keysM x)).mem_iff
theorem sorted_len (x : Lett) : (sortedM x).length = (allM x).length := by
 rw [show (sortedM x).length = (keysM x).length from (sortB_perm cmpO (keysM x)).length_eq]
 unfold keysM; rw [List.length_map]
theorem mem_tlN {f : Int → List Int} {first : Bool} {c m : Int} : ∀ {j : Nat}, j ≤ 10 → (m ∈ tlN f first c j ↔ ∃ d : Nat, 10 - j ≤ d ∧ d ≤ 9 ∧ inF c d = true ∧ (first = true → 0 < d) ∧ m ∈ f d)
 | 0, _ => by
  unfold tlN
  constructor
  ·intro h; cases h
  ·rintro ⟨d, h1, h2, _⟩; omega
 | j + 1, hj => by
  have ih := mem_tlN (f := f) (first := first) (c := c) (m := m) (j := j) (by omega)
  have e : (9 - (j : Int)) = ((9 - j : Nat) : Int) := by omega
  unfold tlN
  rw [List.mem_append, ih, e]
  constructor
  ·rintro (h | ⟨d, h1, h2, h3⟩)
   ·split at h
    ·rename_i hc
     simp only [Bool.and_eq_true, Bool.or_eq_true, Bool.not_eq_true', decide_eq_true_eq] at hc
     refine ⟨9 - j, by omega, by omega, hc.1, fun hf => ?_, h⟩
     rcases hc.2 with h5 | h5
     ·rw [hf] at h5; cases h5
     ·omega
    ·cases h
   ·exact ⟨d, by omega, h2, h3⟩
  ·rintro ⟨d, h1, h2, h3, h4, h5⟩
   by_cases hd : d = 9 - j
   ·subst hd
    refine .inl ?_
    rw [if_pos]
    ·exact h5
    ·simp only [Bool.and_eq_true, Bool.or_eq_true, Bool.not_eq_true', decide_eq_true_eq]
     refine ⟨h3, ?_⟩
     cases first with
     | false => exact .inl rfl
     | true => exact .inr (by have := h4 rfl; omega)
   ·exact .inr ⟨d, by omega, h2, h3, h4, h5⟩
def readsP : List Int → Bool → Int → Int → Prop
 | [], _, n, m => m = n
 | c :: cs, first, n, m => ∃ d : Nat, d ≤ 9 ∧ inF c d = true ∧ (first = true → 0 < d) ∧ readsP cs false (10 * n + d) m
theorem mem_numsS : ∀ {cs : List Int} {first : Bool} {n m : Int}, m ∈ numsS cs first n ↔ readsP cs first n m
 | [], first, n, m => by unfold numsS readsP; exact List.mem_singleton
 | c :: cs, first, n, m => by
  unfold numsS readsP
  rw [mem_tlN (Nat.le_refl _)]
  constructor
  ·rintro ⟨d, _, h2, h3, h4, h5⟩
   exact ⟨d, h2, h3, h4, mem_numsS.1 h5⟩
  ·rintro ⟨d, h2, h3, h4, h5⟩
   exact ⟨d, by omega, h2, h3, h4, mem_numsS.2 h5⟩
def Means (x : LLine) (is : Issue) (l : Line) : Prop := ∃ y ∈ is.entries, readsP x.digits true 0 y.number ∧ ∃ f ∈ y.sizes, sizeB x f = true ∧
 (∃ c : Nat, c < 4 ∧ inF x.colours c = true ∧ inF y.colours c = true ∧ l.item = ⟨y.good, f.size, (c : Int)⟩) ∧ x.mlo ≤ l.many ∧ l.many ≤ x.mhi
theorem cbit_and {a b : Int} (ha : 0 ≤ a ∧ a ≤ 15) (hb : 0 ≤ b ∧ b ≤ 15) {c : Nat} (hc : c < 4) : cbit (bits BinOp.and .i64 a b) c = (inF a c && inF b c) := by
 have key : ∀ a ∈ List.range 16, ∀ b ∈ List.range 16, ∀ c ∈ List.range 4, cbit (bits BinOp.and .i64 (a : Int) (b : Int)) (c : Int) = (inF (a : Int) (c : Int) && inF (b : Int) (c : Int)) := by decide +kernel
 obtain ⟨m, rfl⟩ := Int.eq_ofNat_of_zero_le ha.1
 obtain ⟨n, rfl⟩ := Int.eq_ofNat_of_zero_le hb.1
 exact key m (List.mem_range.2 (by omega)) n (List.mem_range.2 (by omega)) c (List.mem_range.2 hc)
theorem findI_once {l : List Entry} (hn : (l.map (·.number)).Nodup) {y : Entry} (hy : y ∈ l) : 0 ≤ findI (fun z => z.number == y.number) l 0 ∧ l.getD (findI (fun z => z.number == y.number) l 0).toNat default = y := by
 have key : ∀ (l : List Entry) (i : Nat), (l.map (·.number)).Nodup → y ∈ l → (i : Int) ≤ findI (fun z => z.number == y.number) l i ∧ l.getD ((findI (fun z => z.number == y.number) l i).toNat - i) default = y := fun l => by
  induction l with
  | nil => intro i _ h; cases h
  | cons a l ih =>
   intro i hd hm
   rw [List.map_cons, List.nodup_cons] at hd
   rw [findI]
   by_cases h : a.number = y.number
   ·have e : a = y := by
     rcases List.mem_cons.1 hm with e | e
     ·exact e.symm
     ·exact absurd (List.mem_map.2 ⟨y, e, h.symm⟩) hd.1
    subst e
    simp
   ·have hm' : y ∈ l := by
     rcases List.mem_cons.1 hm with e | e
     ·subst e; exact absurd rfl h
     ·exact e
    have hb : (a.number == y.number) = false := by simpa using h
    rw [if_neg (by rw [hb]; simp)]
    obtain ⟨h1, h2⟩ := ih (i + 1) hd.2 hm'
    refine ⟨by omega, ?_⟩
    generalize findI (fun z => z.number == y.number) l (i + 1) = v at h1 h2
    rw [show v.toNat - i = (v.toNat - (i + 1)) + 1 by omega, List.getD_cons_succ]
    exact h2
 have := key l 0 hn hy
 simpa using this
theorem mem_meanL {x : LLine} {is : Issue} {g : Int} (hx : GLine x) (hi : GIssue g is) {l : Line} : l ∈ meanL x is ↔ Means x is l := by
 unfold meanL Means
 rw [List.mem_flatMap]
 have hcol : ∀ y ∈ is.entries, l ∈ entL x y y.sizes ↔ ∃ f ∈ y.sizes, sizeB x f = true ∧
     (∃ c : Nat, c < 4 ∧ inF x.colours c = true ∧ inF y.colours c = true ∧ l.item = ⟨y.good, f.size, (c : Int)⟩) ∧ x.mlo ≤ l.many ∧ l.many ≤ x.mhi := fun y hy => by
  unfold entL
  rw [List.mem_flatMap]
  refine exists_congr fun f => and_congr_right fun hf => ?_
  unfold colL
  rw [List.mem_flatMap]
  have ge := hi.entries y hy
  constructor
  ·rintro ⟨c, hc, h⟩
   have hc4 := List.mem_range.1 hc
   rw [cbit_and ⟨by have := hx.colours; omega, hx.colours.2⟩ ⟨by have := ge.colours; omega, ge.colours.2⟩ hc4] at h
   split at h
   ·rename_i hcond
    simp only [Bool.and_eq_true] at hcond
    unfold manyL at h
    obtain ⟨m, hm, rfl⟩ := List.mem_map.1 h
    have hm' := List.mem_range.1 hm
    exact ⟨hcond.1, ⟨c, hc4, hcond.2.1, hcond.2.2, rfl⟩, by simp only; omega, by simp only; omega⟩
   ·cases h
  ·rintro ⟨h1, ⟨c, hc, h2, h3, h4⟩, h5, h6⟩
   refine ⟨c, List.mem_range.2 hc, ?_⟩
   rw [cbit_and ⟨by have := hx.colours; omega, hx.colours.2⟩ ⟨by have := ge.colours; omega, ge.colours.2⟩ hc, h1, h2, h3]
   rw [if_pos (by rfl)]
   unfold manyL
   refine List.mem_map.2 ⟨(l.many - x.mlo).toNat, List.mem_range.2 (by omega), ?_⟩
   obtain ⟨it, mn⟩ := l
   simp only at h4 h5 h6 ⊢
   rw [h4]
   congr 1
   omega
 constructor
 ·rintro ⟨n, hn, h⟩
  unfold numL at h
  split at h
  ·cases h
  ·rename_i hneg
   have hb := findI_bound (fun y : Entry => y.number == n) is.entries 0
   have hlt : (findI (fun y : Entry => y.number == n) is.entries 0).toNat < is.entries.length := by omega
   have hnum : (is.entries.getD (findI (fun y : Entry => y.number == n) is.entries 0).toNat default).number = n := by
    rcases findI_find (fun y : Entry => y.number == n) is.entries 0 with ⟨_, h3⟩ | ⟨j, h3, h4, h5⟩
    ·omega
    ·have h6 := List.find?_some h4
     have h7 : (findI (fun y : Entry => y.number == n) is.entries 0).toNat = j := by omega
     rw [h7]; simpa using h6
   have hmem := getD_mem (default : Entry) hlt
   refine ⟨_, hmem, by rw [hnum]; exact mem_numsS.1 hn, (hcol _ hmem).1 h⟩
 ·rintro ⟨y, hy, hr, hrest⟩
  obtain ⟨h1, h2⟩ := findI_once hi.numbers hy
  refine ⟨y.number, mem_numsS.2 hr, ?_⟩
  unfold numL
  rw [if_neg (by omega), h2]
  exact (hcol y hy).2 hrest
end Wb
