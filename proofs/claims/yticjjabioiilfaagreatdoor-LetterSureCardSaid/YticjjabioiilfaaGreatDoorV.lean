import Derived.Test.YticjjabioiilfaaGreatDoorN
set_option linter.unusedVariables false
set_option linter.unusedSimpArgs false
/- The laws' own helpers: a field of a line, what comes before what. -/
namespace Wb
open Go Go.Proofs Enc Row
set_option linter.unusedSimpArgs false
set_option linter.unusedVariables false
set_option maxRecDepth 20000
set_option maxHeartbeats 8000000
-- f55 field
theorem field_fn (l : Line) (k : Nat) (hk : k ≤ 3) : Fn E0 0 55 Tryz.f55 (Tryz.f55.body.getD .skip) [.agg (encL l), .int .i64 k] (.int .i64 (fldL k l)) := by
  unfold Fn Tryz.f55
  obtain rfl | rfl | rfl | rfl : k = 0 ∨ k = 1 ∨ k = 2 ∨ k = 3 := by omega
  all_goals simp only [go_sem, encL, fldL]
def t55 : Spec := spec2 (fun (_ : Line) (k : Int) => 0 ≤ k ∧ k ≤ 3) fun l k => .int .i64 (fldL k.toNat l)
theorem t55_ok : SpecOK Tryz.prog glB 55 t55 := spec2_ok E0_ok Tryz.func55 rfl (by kernel_rfl) fun l k h => by
  obtain ⟨n, rfl⟩ := Int.eq_ofNat_of_zero_le h.1
  exact field_fn l n (by have := h.2; omega)
-- f54 Ahead
def aheadB : List Int → List Int → Bool
  | [], [] => false
  | [], _ :: _ => true
  | _ :: _, [] => false
  | a :: l, b :: m => if a = b then aheadB l m else decide (a < b)
theorem aheadB_drop {l m : List Int} {i : Nat} (hl : i < l.length) (hm : i < m.length) : aheadB (l.drop i) (m.drop i) = if l.getD i 0 = m.getD i 0 then aheadB (l.drop (i + 1)) (m.drop (i + 1)) else decide (l.getD i 0 < m.getD i 0) := by
  have e1 : l.getD i 0 = l[i] := by simp [hl]
  have e2 : m.getD i 0 = m[i] := by simp [hm]
  rw [List.drop_eq_getElem_cons hl, List.drop_eq_getElem_cons hm, e1, e2]
  rfl
theorem ahead_fn (l m : List Int) (hl : big l.length) (hm : big m.length) : Fn E0 0 54 Tryz.f54 (Tryz.f54.body.getD .skip) [.sl (il l) false, .sl (il m) false] (.bool (aheadB l m)) := by
  unfold big at hl hm
  unfold Fn Tryz.f54
  simp only [go_sem]
  refine ev_loopS [0, 1, 4] (fun i : Nat => [(5, .int .i64 i)]) (fun i H => i ≤ l.length ∧ i ≤ m.length ∧ aheadB (l.drop i) (m.drop i) = aheadB l m) (fun i => l.length - i) 0 ?_ ⟨Nat.zero_le _, Nat.zero_le _, rfl⟩ ?_
  · simp only [go_sem, Int.natCast_zero]
  · simp only [go_sem, il_length]
    intro K i H ⟨h1, h2, h3⟩ hK hE
    rw [condK_bool]
    refine ⟨fun h => ?_, fun h => ?_⟩
    · simp only [Bool.and_eq_true, decide_eq_true_eq] at h
      have a1 : i < l.length := by omega
      have a2 : i < m.length := by omega
      have hii : ((i : Int) < (l.length : Int)) = True := eq_true (by omega)
      have hij : ((i : Int) < (m.length : Int)) = True := eq_true (by omega)
      have hi0 : (0 ≤ (i : Int)) = True := eq_true (by omega)
      have w2 : IntKind.i64.wrap ((i : Int) + 1) = (i : Int) + 1 := wrap_id (by omega)
      have hd := aheadB_drop a1 a2
      simp only [go_sem, il_length, il_getD, hii, hij, hi0, Int.toNat_natCast]
      rw [condK_bool]
      refine ⟨fun hc => ?_, fun hc => ?_⟩
      · have hne : l.getD i 0 ≠ m.getD i 0 := by simpa using hc
        rw [if_neg hne] at hd
        simp only [go_sem, il_length, il_getD, hii, hij, hi0, Int.toNat_natCast]
        refine hE _ _ _ (by simp) ?_
        simp only [go_sem, ← h3, hd]
      · have hne : l.getD i 0 = m.getD i 0 := by simpa using hc
        rw [if_pos hne] at hd
        simp only [go_sem]
        refine hK (i + 1) _ _ ?_ ⟨by omega, by omega, by rw [← h3, hd]⟩ (by omega)
        simp only [go_sem, w2, Int.natCast_add, Int.natCast_one]
    · refine hE _ _ _ (by simp) ?_
      have hf : aheadB l m = decide ((l.length : Int) < (m.length : Int)) := by
        rw [← h3]
        by_cases a1 : i < l.length
        · have a2 : i = m.length := by
            refine Classical.byContradiction fun q => ?_
            have : i < m.length := by omega
            simp [a1, this] at h
          subst a2
          rw [List.drop_length, List.drop_eq_getElem_cons a1]
          exact (decide_eq_false (by omega)).symm
        · have a2 : i = l.length := by omega
          subst a2
          rw [List.drop_length]
          by_cases a3 : l.length < m.length
          · rw [List.drop_eq_getElem_cons a3]; exact (decide_eq_true (by omega)).symm
          · have : m.drop l.length = [] := List.drop_eq_nil_of_le (by omega)
            rw [this]; exact (decide_eq_false (by omega)).symm
      simp only [go_sem, il_length, hf]
def t54 : Spec := spec2 (fun (l m : List Int) => big l.length ∧ big m.length) fun l m => .bool (aheadB l m)
theorem t54_ok : SpecOK Tryz.prog glB 54 t54 := spec2_ok E0_ok Tryz.func54 rfl (by kernel_rfl) fun l m h => ahead_fn l m h.1 h.2
noncomputable def E53t : List (Nat × Spec) := [(55, t55), (54, t54), (47, sInner)] ++ E52t
theorem E53t_ok : AllOK E53t := ⟨⟨t55_ok, Tryz.call55⟩, ⟨t54_ok, Tryz.call54⟩, ⟨s103_ok, Tryz.call47⟩, E52t_ok⟩
noncomputable def E53 : Env := mkE E53t []
theorem E53_ok : EnvOK Tryz.prog E53 := envOK E53t_ok trivial
theorem E53_ti {t : Nat} : E53.ti t = ti t := rfl
theorem E53_q0 : (E53).eqt 26 = true := rfl
theorem E53_q1 : (E53).eqt 65 = true := rfl
theorem E53_q2 : (E53).eqt 77 = true := rfl
theorem E53_q3 : (E53).eqt 79 = true := rfl
theorem E53_q4 : (E53).eqt 182 = true := rfl
theorem E53_q5 : (E53).eqt 243 = true := rfl
theorem E53_q6 : (E53).keyt 3 = true := rfl
theorem E53_q7 : (E53).keyt 114 = true := rfl
theorem E53_q8 : (E53).keyt 169 = true := rfl
theorem E53_q9 : (E53).keyt 180 = true := rfl
theorem E53_q10 : (E53).keyt 193 = true := rfl
theorem E53_q11 : (E53).glob 0 = some [.fn 219 [] [], .fn 220 [] [], .fn 216 [] [], .fn 221 [] []] := rfl
theorem E53_q12 : (E53).glob 1 = some [.fn 222 [] [], .fn 223 [] []] := rfl
attribute [go_sem] E53_ti E53_q0 E53_q1 E53_q2 E53_q3 E53_q4 E53_q5 E53_q6 E53_q7 E53_q8 E53_q9 E53_q10 E53_q11 E53_q12
-- f56 Sooner
def keyL (l : Line) : List Int := [l.item.good, l.item.size, l.item.colour, l.many]
theorem dec_il4 (a b c d : Int) (ex : Bool) : (dec (.sl [[.int .i64 a], [.int .i64 b], [.int .i64 c], [.int .i64 d]] ex) : Option (List Int)) = some [a, b, c, d] := rfl
attribute [go_sem] dec_il4
theorem sooner_fn (a b : Line) : Fn E53 0 56 Tryz.f56 (Tryz.f56.body.getD .skip) [.agg (encL a), .agg (encL b)] (.bool (aheadB (keyL a) (keyL b))) := by
  unfold Fn Tryz.f56
  have h4 : big 4 := by unfold big; omega
  simp only [go_sem, @ct E53 54 t54 rfl, t54, encL, callSpec, h4, keyL]
def t56 : Spec := spec2 (fun (_ _ : Line) => True) fun a b => .bool (aheadB (keyL a) (keyL b))
theorem t56_ok : SpecOK Tryz.prog glB 56 t56 := spec2_ok E53_ok Tryz.func56 rfl (by kernel_rfl) fun a b _ => sooner_fn a b
noncomputable def E54t : List (Nat × Spec) := [(56, t56)] ++ E53t
theorem E54t_ok : AllOK E54t := ⟨⟨t56_ok, Tryz.call56⟩, E53t_ok⟩
noncomputable def E54 : Env := mkE E54t []
theorem E54_ok : EnvOK Tryz.prog E54 := envOK E54t_ok trivial
theorem E54_ti {t : Nat} : E54.ti t = ti t := rfl
theorem E54_q0 : (E54).eqt 26 = true := rfl
theorem E54_q1 : (E54).eqt 65 = true := rfl
theorem E54_q2 : (E54).eqt 77 = true := rfl
theorem E54_q3 : (E54).eqt 79 = true := rfl
theorem E54_q4 : (E54).eqt 182 = true := rfl
theorem E54_q5 : (E54).eqt 243 = true := rfl
theorem E54_q6 : (E54).keyt 3 = true := rfl
theorem E54_q7 : (E54).keyt 114 = true := rfl
theorem E54_q8 : (E54).keyt 169 = true := rfl
theorem E54_q9 : (E54).keyt 180 = true := rfl
theorem E54_q10 : (E54).keyt 193 = true := rfl
theorem E54_q11 : (E54).glob 0 = some [.fn 219 [] [], .fn 220 [] [], .fn 216 [] [], .fn 221 [] []] := rfl
theorem E54_q12 : (E54).glob 1 = some [.fn 222 [] [], .fn 223 [] []] := rfl
attribute [go_sem] E54_ti E54_q0 E54_q1 E54_q2 E54_q3 E54_q4 E54_q5 E54_q6 E54_q7 E54_q8 E54_q9 E54_q10 E54_q11 E54_q12
end Wb
/- What is sure, what can be: plain. -/
namespace Wb
open Go Go.Proofs Enc Row
set_option linter.unusedSimpArgs false
set_option linter.unusedVariables false
set_option maxRecDepth 20000
set_option maxHeartbeats 8000000
theorem ahead_cmp : ∀ {l m : List Int}, l.length = m.length → (aheadB l m = true ↔ cmpK l m < 0)
  | [], [], _ => by simp [aheadB, cmpK]
  | [], _ :: _, h => by simp at h
  | _ :: _, [], h => by simp at h
  | a :: l, b :: m, h => by
    rw [cmpK_cons]
    unfold aheadB
    by_cases e : a = b
    · subst e
      rw [if_pos rfl, if_pos (cmpI_self a)]
      exact ahead_cmp (by simpa using h)
    · rw [if_neg e, if_neg (fun h => e (cmpI_zero h)), decide_eq_true_iff, cmpI_lt]
/-- A list that is sorted by its keys, each of it once, rises. -/
theorem sortB_rise {α : Type} (key : α → List Int) (n : Nat) (hk : ∀ x, (key x).length = n) (hi : ∀ x y, key x = key y → x = y) {l : List α} (hl : l.Nodup) :
    (sortB (fun a b => cmpK (key a) (key b)) l).Pairwise fun a b => cmpK (key a) (key b) < 0 := by
  have hO := swoK key n hk
  have hs : (sortB (fun a b => cmpK (key a) (key b)) l).Pairwise fun a b => (!(ltOf fun a b => cmpK (key a) (key b)) b a) = true := by
    unfold sortB
    refine List.pairwise_mergeSort (fun a b c h1 h2 => ?_) (fun a b => ?_) l
    · simp only [Bool.not_eq_true'] at *
      exact hO.ntrans _ _ _ h2 h1
    · cases h3 : ltOf (fun a b => cmpK (key a) (key b)) b a with
      | false => simp
      | true =>
        cases h4 : ltOf (fun a b => cmpK (key a) (key b)) a b with
        | false => simp
        | true => have := hO.trans _ _ _ h3 h4; rw [hO.irrefl] at this; cases this
  have hn : (sortB (fun a b => cmpK (key a) (key b)) l).Nodup := (sortB_perm _ l).nodup_iff.2 hl
  refine List.Pairwise.imp₂ (R := fun a b => (!(ltOf fun a b => cmpK (key a) (key b)) b a) = true) (S := fun a b => a ≠ b) (fun a b h1 h2 => ?_) hs hn
  simp only [Bool.not_eq_true', ltOf, decide_eq_false_iff_not] at h1
  have h3 := cmpK_neg (key a) (key b)
  have h4 : cmpK (key a) (key b) ≠ 0 := fun e => h2 (hi _ _ (cmpK_zero (by rw [hk, hk]) e))
  omega
theorem sorted_rise (x : Lett) : (sortedM x).Pairwise fun a b => cmpO a b < 0 :=
  sortB_rise keyO 8 keyO_len (fun _ _ => keyO_inj) (keysM_once x)
theorem mem_sorted {x : Lett} {o : Ord2} : o ∈ sortedM x ↔ o ∈ keysM x := (sortB_perm cmpO (keysM x)).mem_iff
theorem sorted_len (x : Lett) : (sortedM x).length = (allM x).length := by
  rw [show (sortedM x).length = (keysM x).length from (sortB_perm cmpO (keysM x)).length_eq]
  unfold keysM; rw [List.length_map]
theorem dstep_nodup {acc : List Item} {t : Item} (h : acc.Nodup) : (dstep acc t).Nodup := by
  unfold dstep
  split
  · exact h
  · rename_i hc
    refine List.nodup_append.2 ⟨h, by simp, fun a ha b hb e => ?_⟩
    rw [List.mem_singleton] at hb
    subst hb; subst e
    exact hc (contB_iff.2 ha)
theorem itemsD_nodup (S : List Ord2) (line : Int) : (itemsD S line).Nodup := by
  have key : ∀ (S : List Ord2) (acc : List Item), acc.Nodup → (S.foldl (fun acc o => dstep acc (lineO o line).item) acc).Nodup := fun S => by
    induction S with
    | nil => exact fun acc h => h
    | cons o S ih => exact fun acc h => ih _ (dstep_nodup h)
  exact key S [] List.nodup_nil
theorem mem_itemsD {S : List Ord2} {line : Int} {t : Item} : t ∈ itemsD S line ↔ ∃ o ∈ S, (lineO o line).item = t := by
  have key : ∀ (S : List Ord2) (acc : List Item), t ∈ (S.foldl (fun acc o => dstep acc (lineO o line).item) acc) ↔ t ∈ acc ∨ ∃ o ∈ S, (lineO o line).item = t := fun S => by
    induction S with
    | nil => intro acc; simp
    | cons o S ih =>
      intro acc
      rw [List.foldl_cons, ih, dstep_mem]
      constructor
      · rintro ((h | h) | ⟨o', h1, h2⟩)
        · exact .inl h
        · exact .inr ⟨o, List.mem_cons_self .., h.symm⟩
        · exact .inr ⟨o', List.mem_cons_of_mem _ h1, h2⟩
      · rintro (h | ⟨o', h1, h2⟩)
        · exact .inl (.inl h)
        · rcases List.mem_cons.1 h1 with e | e
          · subst e; exact .inl (.inr h2.symm)
          · exact .inr ⟨o', e, h2⟩
  have := key S []
  simpa [itemsD] using this
theorem mem_itemsM {x : Lett} {line : Int} {t : Item} : t ∈ itemsM x line ↔ ∃ o ∈ sortedM x, (lineO o line).item = t := by
  unfold itemsM
  rw [(sortB_perm cmpT _).mem_iff, mem_itemsD]
theorem itemsM_len (x : Lett) (line : Int) : (itemsM x line).length ≤ (sortedM x).length := by
  have key : ∀ (S : List Ord2) (acc : List Item), (S.foldl (fun acc o => dstep acc (lineO o line).item) acc).length ≤ acc.length + S.length := fun S => by
    induction S with
    | nil => intro acc; simp
    | cons o S ih =>
      intro acc
      rw [List.foldl_cons]
      have h1 := ih (dstep acc (lineO o line).item)
      have h2 : (dstep acc (lineO o line).item).length ≤ acc.length + 1 := by unfold dstep; split <;> simp
      simp only [List.length_cons]
      omega
  rw [show (itemsM x line).length = (itemsD (sortedM x) line).length from (sortB_perm cmpT _).length_eq]
  have := key (sortedM x) []
  simpa [itemsD] using this
theorem items_rise (x : Lett) (line : Int) : (itemsM x line).Pairwise fun a b => cmpT a b < 0 :=
  sortB_rise keyT 3 keyT_len (fun _ _ => keyT_inj) (itemsD_nodup _ _)
theorem item_ahead {a b : Item} (h : cmpT a b < 0) : aheadB (keyL ⟨a, 0⟩) (keyL ⟨b, 0⟩) = true := by
  refine (ahead_cmp (l := keyL ⟨a, 0⟩) (m := keyL ⟨b, 0⟩) rfl).2 ?_
  unfold cmpT keyT at h
  unfold keyL
  simp only [cmpK_cons] at h ⊢
  by_cases h1 : cmpI a.good b.good = 0
  · rw [if_pos h1] at h ⊢
    by_cases h2 : cmpI a.size b.size = 0
    · rw [if_pos h2] at h ⊢
      by_cases h3 : cmpI a.colour b.colour = 0
      · rw [if_pos h3] at h; cases h
      · rw [if_neg h3] at h ⊢; exact h
    · rw [if_neg h2] at h ⊢; exact h
  · rw [if_neg h1] at h ⊢; exact h
/-- What is sure. -/
theorem sureF_eq (k : Nat) (i f0 : Int) : ∀ (S : List Ord2), sureF k i f0 S = if (S.all fun o => fldL k (lineO o i) == f0) = true then f0 else -1 := by
  have key : ∀ (S : List Ord2) (a : Int), S.foldl (fun a o => if fldL k (lineO o i) = f0 then a else -1) a = if (S.all fun o => fldL k (lineO o i) == f0) = true then a else -1 := fun S => by
    induction S with
    | nil => intro a; rfl
    | cons o S ih =>
      intro a
      rw [List.foldl_cons, ih, List.all_cons]
      by_cases h : fldL k (lineO o i) = f0
      · rw [if_pos h]; simp [h]
      · rw [if_neg h]; simp [h]
  exact fun S => key S f0
theorem sure_in {x : Lett} (h : GL x) (h0 : sortedM x ≠ []) : (costSpan (allM x)).1 ≤ (costSpan (allM x)).2 ∧ x.clo ≤ (costSpan (allM x)).1 ∧ (costSpan (allM x)).2 ≤ x.chi := by
  have hne : allM x ≠ [] := fun e => h0 (by
    have := sorted_len x
    rw [e] at this
    exact List.eq_nil_of_length_eq_zero this)
  have hc := costSpan_of hne
  have hb : ∀ e ∈ allM x, x.clo ≤ e.2.clo ∧ e.2.clo ≤ e.2.chi ∧ e.2.chi ≤ x.chi := fun e he => by
    obtain ⟨o, f⟩ := e
    have h1 := getA_mem_iff.1 he
    rcases allM_told h.days o with ⟨h2, _⟩ | ⟨g, h2, h3⟩
    · rw [h1] at h2; cases h2
    · rw [h1] at h2
      obtain rfl := Option.some.inj h2
      obtain ⟨d1, e1, e2, e3⟩ := h3.clo
      obtain ⟨d2, f1, f2, f3⟩ := h3.chi
      have a1 := e2.cost
      have a2 := f2.cost
      have a3 := (h3.all d1 e1.1 e1.2 e2).2
      simp only
      omega
  obtain ⟨e, he, h1⟩ := hc.a1
  obtain ⟨e', he', h2⟩ := hc.b1
  have k1 := hb e he
  have k2 := hb e' he'
  have k3 := hc.a2 e' he'
  omega
end Wb
/- LetterSure. -/
namespace Wb
open Go Go.Proofs Enc Row
set_option linter.unusedSimpArgs false
set_option linter.unusedVariables false
set_option maxRecDepth 20000
set_option maxHeartbeats 8000000
def rowB (b : Bool) : List PV := [.bool b]
def metP (P : Nat → Bool) (n : Nat) : List (List PV) := (List.range n).map fun j => rowB (P j)
theorem metP_len (P : Nat → Bool) (n : Nat) : (metP P n).length = n := by simp [metP]
theorem metP_get (P : Nat → Bool) {n j : Nat} (h : j < n) (z : List PV) : (metP P n).getD j z = [.bool (P j)] := by
  simp [metP, h, rowB]
theorem metP_set (P : Nat → Bool) {n j : Nat} (h : j < n) : (metP P n).set j [.bool true] = metP (fun k => P k || decide (k = j)) n := by
  refine List.ext_getElem (by simp [metP]) fun k h1 h2 => ?_
  simp only [List.length_set, metP_len] at h1
  simp only [List.getElem_set, metP, List.getElem_map, List.getElem_range, rowB]
  by_cases e : j = k
  · subst e; simp
  · have e' : ¬ k = j := fun h => e h.symm
    rw [if_neg e]; simp [e']
theorem metP_zero (n : Nat) : List.replicate n [PV.bool false] = metP (fun _ => false) n := by
  refine List.ext_getElem (by simp [metP]) fun k h1 h2 => ?_
  simp [metP, rowB]
theorem linesO_at {x : Lett} (hn : 1 ≤ x.lines.length ∧ x.lines.length ≤ 2) {k : Nat} (hk : k < x.lines.length) (o : Ord2) : (linesO x o).getD k default = lineO o (k : Int) := by
  unfold linesO lineO
  by_cases h : x.lines.length = 1
  · rw [if_pos h]
    obtain rfl : k = 0 := by omega
    rfl
  · rw [if_neg h]
    obtain rfl | rfl : k = 0 ∨ k = 1 := by omega
    · rfl
    · rw [if_neg (by decide)]; rfl
theorem sureM_at {x : Lett} {k : Nat} (hk : k < x.lines.length) : (sureM x).getD k default = sureL (sortedM x) (k : Int) := by
  unfold sureM
  simp [hk]
theorem fld_sure (S : List Ord2) (i : Int) {n : Nat} (h : n ≤ 3) : fldL n (sureL S i) = sureK n i S := by
  obtain rfl | rfl | rfl | rfl : n = 0 ∨ n = 1 ∨ n = 2 ∨ n = 3 := by omega
  all_goals rfl
theorem dec_line0 (l : Line) : (dec (.agg (encL l)) : Option Line) = some l := Enc.dec_enc l
theorem sure_walk (x : Lett) (hx : LOk x) : Fn E54 0 12 Tryz.f12 (Tryz.f12.body.getD .skip) [.agg (encLt x)] (.bool true) := by
  unfold Fn Tryz.f12
  have hxl := eq_true hx
  have hx0 := encLt_lit x
  cases hk : lettOk x with
  | false =>
    have h1 : ordersPV x = .tup [.sl [] true, .int .i64 20] := by unfold ordersPV; rw [hk]; rfl
    have h2 : surePV x = .tup [.sl [] true, .int .i64 20] := by unfold surePV; rw [hk]; rfl
    have h3 : costPV x = .tup [.agg [.int .i64 0, .int .i64 0], .int .i64 20] := by unfold costPV; rw [hk]; rfl
    simp only [go_sem, @ct E54 13 t13 rfl, t13, @ct E54 14 t14 rfl, t14, @ct E54 15 t15 rfl, t15, @ct E54 23 t23 rfl, t23, @ct E54 25 t25 rfl, t25, @ct E54 47 sInner rfl, sInner, hx0, lett_eta, callSpec, hxl, hk, h1, h2, h3]
  | true =>
    have hG := lett_good hk
    by_cases h0 : sortedM x = []
    · have h00 : allM x = [] := List.eq_nil_of_length_eq_zero (by rw [← sorted_len, h0]; rfl)
      have h1 : ordersPV x = .tup [.sl [] true, .int .i64 4] := by unfold ordersPV; rw [if_pos hk, if_pos h0]
      have h2 : surePV x = .tup [.sl [] true, .int .i64 4] := by unfold surePV; rw [if_pos hk, if_pos h0]
      have h3 : costPV x = .tup [.agg [.int .i64 0, .int .i64 0], .int .i64 4] := by unfold costPV; rw [if_pos hk, if_pos h00]
      simp only [go_sem, @ct E54 13 t13 rfl, t13, @ct E54 14 t14 rfl, t14, @ct E54 15 t15 rfl, t15, @ct E54 23 t23 rfl, t23, @ct E54 25 t25 rfl, t25, @ct E54 47 sInner rfl, sInner, hx0, lett_eta, callSpec, hxl, hk, h1, h2, h3]
    · have h00 : allM x ≠ [] := fun e => h0 (List.eq_nil_of_length_eq_zero (by rw [sorted_len, e]; rfl))
      have h2 : surePV x = .tup [.sl ((sureM x).map encL) true, .int .i64 0] := by unfold surePV; rw [if_pos hk, if_neg h0]
      have h3 : costPV x = .tup [.agg [.int .i64 (costSpan (allM x)).1, .int .i64 (costSpan (allM x)).2], .int .i64 0] := by unfold costPV; rw [if_pos hk, if_neg h00]
      by_cases h64 : 64 < (sortedM x).length
      · have h1 : ordersPV x = .tup [.sl [] true, .int .i64 6] := by unfold ordersPV; rw [if_pos hk, if_neg h0, if_pos h64]
        simp only [go_sem, @ct E54 13 t13 rfl, t13, @ct E54 14 t14 rfl, t14, @ct E54 15 t15 rfl, t15, @ct E54 23 t23 rfl, t23, @ct E54 25 t25 rfl, t25, @ct E54 47 sInner rfl, sInner, hx0, lett_eta, callSpec, hxl, hk, h1, h2, h3]
      · have h1 := ordersPV_ok hk h0 h64
        obtain ⟨c1, c2, c3⟩ := sure_in hG h0
        generalize hlo : (costSpan (allM x)).1 = lo at *
        generalize hhi : (costSpan (allM x)).2 = hi at *
        have b1 : (lo > hi) = False := eq_false (by omega)
        have b2 := eq_true c2
        have b3 := eq_true c3
        have hsl : (sureM x).length = x.lines.length := by simp [sureM]
        have hpos : 0 < (sortedM x).length := List.length_pos_iff.2 h0
        have b4 : (((sortedM x).length : Int) == 0) = false := by simpa using (by omega : ¬ ((sortedM x).length : Int) = 0)
        have b5 : ((x.lines.length : Int) != (x.lines.length : Int)) = false := by simp
        simp only [go_sem, @ct E54 13 t13 rfl, t13, @ct E54 14 t14 rfl, t14, @ct E54 15 t15 rfl, t15, @ct E54 23 t23 rfl, t23, @ct E54 25 t25 rfl, t25, @ct E54 47 sInner rfl, sInner, hx0, lett_eta, callSpec, hxl, hk, h1, h2, h3, List.length_map, hsl, b1, b2, b3, b4, b5]
        have hsm := @sureM_at x
        have hmi := @mem_itemsM x
        have hil := itemsM_len x
        have hri := items_rise x
        have hcan : ∀ k : Nat, k < x.lines.length → canPV x (k : Int) = .tup [.sl ((itemsM x (k : Int)).map encT) true, .int .i64 0] := fun k hk' => by
          unfold canPV lineB
          rw [if_pos hk, if_pos (by simp only [Bool.and_eq_true, decide_eq_true_eq]; omega), if_neg h0]
        generalize hS : sortedM x = S at *
        have hlen : (S.map (rowO x)).length = S.length := List.length_map ..
        have hS64 : S.length ≤ 64 := by omega
        refine ev_loopS [1, 3, 5] (fun k : Nat => [(9, .int .i64 k)]) (fun k H => k ≤ x.lines.length ∧ H ([], 12000000) = some (.cells (encLt x) 1 false)) (fun k => x.lines.length - k) 0 ?_ ⟨Nat.zero_le _, ?_⟩ ?_
        · simp only [go_sem, Int.natCast_zero]
        · simp only [go_sem, hx0]
        · simp only [go_sem]
          intro K k H ⟨hk1, w0⟩ hK hE
          simp only [go_sem, w0, hx0, List.length_map]
          rw [condK_bool]
          refine ⟨fun h => ?_, fun h => ?_⟩
          · have hk' : k < x.lines.length := by have := of_decide_eq_true h; omega
            have hN := hG.n
            have hkk : ((k : Int) < (x.lines.length : Int)) = True := eq_true (by omega)
            have hk0 : (0 ≤ (k : Int)) = True := eq_true (by omega)
            have w2 : IntKind.i64.wrap ((k : Int) + 1) = (k : Int) + 1 := wrap_id (by omega)
            have hcv := hcan k hk'
            have hmk := @hmi (k : Int)
            have hrk := hri (k : Int)
            have hlk := hil (k : Int)
            generalize hC : itemsM x (k : Int) = C at hcv hmk hrk hlk
            have hC64 : C.length ≤ 64 := Nat.le_trans hlk hS64
            have hCp : 0 < C.length := by
              obtain ⟨o, ho⟩ := List.exists_mem_of_length_pos hpos
              exact List.length_pos_of_mem (hmk.2 ⟨o, ho, rfl⟩)
            have c0 : ((C.length : Int) == 0) = false := by simpa using (by omega : ¬ (C.length : Int) = 0)
            have c1 : ((C.length : Int) * 1 ≤ 1099511627776) = True := eq_true (by omega)
            have c2 : (0 ≤ (C.length : Int)) = True := eq_true (by omega)
            simp only [go_sem, @ct E54 22 t22 rfl, t22, callSpec, w0, hx0, lett_eta, hxl, hcv, List.length_map, c0, makeRows, c1, c2, Int.toNat_natCast, metP_zero]
            generalize hv : verOf H ([], 12014002) + 1 = v
            have hLk := hsm hk'
            have hCl : (C.map encT).length = C.length := List.length_map ..
            refine ev_loopS [1, 3, 5, 9, 10, 12] (fun n : Nat => [(13, .int .i64 n)]) (fun n H => n ≤ 4 ∧ H ([], 12000000) = some (.cells (encLt x) 1 false) ∧ H ([], 12014002) = some (.rows 1 (metP (fun _ => false) C.length) v false)) (fun n => 4 - n) 0 ?_ ⟨Nat.zero_le _, ?_, ?_⟩ ?_
            · simp only [go_sem, Int.natCast_zero]
            · simp only [go_sem, w0]
            · simp only [go_sem]
            · simp only [go_sem]
              intro K2 n H2 ⟨hn4, n0, n1⟩ hK2 hE2
              rw [condK_bool]
              refine ⟨fun h => ?_, fun h => ?_⟩
              · have hn3 : n ≤ 3 := by have := of_decide_eq_true h; omega
                have hn0 : (0 ≤ (n : Int)) = True := eq_true (by omega)
                have hn3' : ((n : Int) ≤ 3) = True := eq_true (by omega)
                have w3 : IntKind.i64.wrap ((n : Int) + 1) = (n : Int) + 1 := wrap_id (by omega)
                obtain ⟨F0, hF0⟩ : ∃ F0, F0 = fldL n (lineO (S.getD 0 default) (k : Int)) := ⟨_, rfl⟩
                simp only [go_sem]
                refine ev_loopS [1, 3, 5, 9, 10, 12, 13] (fun i : Nat => [(14, .int .i64 (if i = 0 then 0 else F0)), (15, .bool ((S.take i).all fun o => fldL n (lineO o (k : Int)) == F0)), (16, .int .i64 i)]) (fun i H => i ≤ S.length ∧ H ([], 12000000) = some (.cells (encLt x) 1 false) ∧ H ([], 12014002) = some (.rows 1 (metP (fun _ => false) C.length) v false)) (fun i => S.length - i) 0 ?_ ⟨Nat.zero_le _, ?_, ?_⟩ ?_
                · simp only [go_sem, Int.natCast_zero, List.take_zero, List.all_nil]
                · simp only [go_sem, n0]
                · simp only [go_sem, n1]
                · simp only [go_sem, List.length_map]
                  intro K3 i H3 ⟨hi, i0, i1⟩ hK3 hE3
                  rw [condK_bool]
                  refine ⟨fun h => ?_, fun h => ?_⟩
                  · have hi' : i < S.length := by have := of_decide_eq_true h; omega
                    have hii : ((i : Int) < (S.length : Int)) = True := eq_true (by omega)
                    have hi0 : (0 ≤ (i : Int)) = True := eq_true (by omega)
                    have w4 : IntKind.i64.wrap ((i : Int) + 1) = (i : Int) + 1 := wrap_id (by omega)
                    have hat := all_take (fun o => fldL n (lineO o (k : Int)) == F0) hi'
                    generalize hO : S.getD i default = o at hat
                    have hrow : rowO x o = [.sl ((linesO x o).map encL) true] := rfl
                    have hll := linesO_len hN o
                    have hla := linesO_at hN hk' o
                    have hkl : k < (linesO x o).length := by rw [hll]; exact hk'
                    have hF : i = 0 → fldL n (lineO o (k : Int)) = F0 := fun e => by subst e; rw [hF0, hO]
                    generalize hL : lineO o (k : Int) = L at hla hat hF
                    have hdl := dec_line0 L
                    obtain ⟨⟨l0, l1, l2⟩, l3⟩ := L
                    simp only [encL] at hdl
                    simp only [go_sem, @ct E54 55 t55 rfl, t55, callSpec, i0, hx0, hii, hi0, hkk, hk0, Int.toNat_natCast, List.length_map, getD_mapN (rowO x) S i _ hi', hO, hrow, hll, b5, getD_mapN encL (linesO x o) k _ hkl, hla, encL, hdl, hn0, hn3']
                    rw [condK_bool]
                    refine ⟨fun he => ?_, fun he => ?_⟩
                    · have e0 : i = 0 := by have : (i : Int) = 0 := by simpa using he
                                            omega
                      subst e0
                      have hF' := hF rfl
                      simp only [go_sem]
                      refine hK3 1 _ _ ?_ ⟨by omega, i0, i1⟩ (by omega)
                      have e1 : ((S.take 1).all fun o => fldL n (lineO o (k : Int)) == F0) = true := by
                        rw [show (1 : Nat) = 0 + 1 from rfl, hat]; simp [hF']
                      have w5 : IntKind.i64.wrap ((0 : Int) + 1) = 1 := rfl
                      simp only [go_sem, e1, hF', List.take_zero, List.all_nil, Int.natCast_zero, Int.natCast_one, w5, beq_self_eq_true]
                    · have e0 : ¬ i = 0 := fun e => by subst e; simp at he
                      have e1 : ¬ i + 1 = 0 := by omega
                      simp only [go_sem, if_neg e0]
                      refine hK3 (i + 1) _ _ ?_ ⟨by omega, i0, i1⟩ (by omega)
                      simp only [go_sem, if_neg e0, if_neg e1, hat, w4, Int.natCast_add, Int.natCast_one]
                  · have hi' : i = S.length := by have : ¬ ((i : Int) < (S.length : Int)) := by simpa using h
                                                  omega
                    subst hi'
                    have e1 : ¬ S.length = 0 := by omega
                    refine hE3 _ _ _ (by simp) ?_
                    have hsk := fld_sure S (k : Int) hn3
                    have hsf := sureF_eq n (k : Int) F0 S
                    have hsn : sureK n (k : Int) S = sureF n (k : Int) F0 S := by rw [hF0]; rfl
                    rw [hsn, hsf] at hsk
                    rw [List.take_length]
                    generalize (S.all fun o => fldL n (lineO o (k : Int)) == F0) = B at *
                    generalize hL : sureL S (k : Int) = L at hsk hLk
                    have hdl := dec_line0 L
                    obtain ⟨⟨l0, l1, l2⟩, l3⟩ := L
                    simp only [encL] at hdl
                    have hkl : k < (sureM x).length := by rw [hsl]; exact hk'
                    have hfin : (B && fldL n ⟨⟨l0, l1, l2⟩, l3⟩ != F0 || !B && fldL n ⟨⟨l0, l1, l2⟩, l3⟩ != -1) = false := by
                      rw [hsk]; cases B <;> simp
                    simp only [go_sem, @ct E54 55 t55 rfl, t55, callSpec, List.length_map, hsl, hkk, hk0, Int.toNat_natCast, getD_mapN encL (sureM x) k _ hkl, hLk, encL, hdl, hn0, hn3', if_neg e1]
                    refine ⟨fun h1 h2 => ⟨h1, h2⟩, ?_⟩
                    rw [hfin]
                    simp only [go_sem]
                    refine hK2 (n + 1) _ _ ?_ ⟨by omega, i0, i1⟩ (by omega)
                    simp only [go_sem, w3, Int.natCast_add, Int.natCast_one]
              · refine hE2 _ _ _ (by simp) ?_
                simp only [go_sem]
                refine ev_loopS [1, 3, 5, 9, 10, 12] (fun y : Nat × (Nat → Bool) => [(18, .int .i64 y.1)]) (fun y H => y.1 ≤ S.length ∧ H ([], 12000000) = some (.cells (encLt x) 1 false) ∧ H ([], 12014002) = some (.rows 1 (metP y.2 C.length) v false) ∧
                    ∀ j, j < C.length → y.2 j = (S.take y.1).any fun o => decide ((lineO o (k : Int)).item = C.getD j default)) (fun y => S.length - y.1) (0, fun _ => false) ?_ ⟨Nat.zero_le _, n0, n1, fun j _ => rfl⟩ ?_
                · simp only [go_sem, Int.natCast_zero]
                · simp only [go_sem, List.length_map]
                  rintro K3 ⟨i, P⟩ H3 ⟨hi, i0, i1, i2⟩ hK3 hE3
                  simp only at hi i0 i1 i2
                  dsimp only
                  rw [condK_bool]
                  refine ⟨fun h => ?_, fun h => ?_⟩
                  · have hi' : i < S.length := by have := of_decide_eq_true h; omega
                    have hii : ((i : Int) < (S.length : Int)) = True := eq_true (by omega)
                    have hi0 : (0 ≤ (i : Int)) = True := eq_true (by omega)
                    have w4 : IntKind.i64.wrap ((i : Int) + 1) = (i : Int) + 1 := wrap_id (by omega)
                    have hmo := getD_mem (default : Ord2) hi'
                    have hat : ∀ t : Item, (S.take (i + 1)).any (fun o => decide ((lineO o (k : Int)).item = t)) = ((S.take i).any (fun o => decide ((lineO o (k : Int)).item = t)) || decide ((lineO (S.getD i default) (k : Int)).item = t)) := fun t => by
                      have e : S.getD i default = S[i] := by simp [hi']
                      rw [e, List.take_succ_eq_append_getElem hi', List.any_append]; simp
                    generalize hO : S.getD i default = o at hmo hat
                    have hrow : rowO x o = [.sl ((linesO x o).map encL) true] := rfl
                    have hll := linesO_len hN o
                    have hla := linesO_at hN hk' o
                    have hkl : k < (linesO x o).length := by rw [hll]; exact hk'
                    have hit : (lineO o (k : Int)).item ∈ C := hmk.2 ⟨o, hmo, rfl⟩
                    generalize hL : lineO o (k : Int) = L at hla hat hit
                    obtain ⟨⟨l0, l1, l2⟩, l3⟩ := L
                    simp only at hat hit
                    simp only [go_sem]
                    refine ev_loopS [1, 3, 5, 9, 10, 12, 18] (fun z : Nat × (Nat → Bool) => [(19, .bool ((C.take z.1).any fun t => decide (t = ⟨l0, l1, l2⟩))), (20, .int .i64 z.1)]) (fun z H => z.1 ≤ C.length ∧ H ([], 12000000) = some (.cells (encLt x) 1 false) ∧ H ([], 12014002) = some (.rows 1 (metP z.2 C.length) v false) ∧
                        ∀ j, j < C.length → z.2 j = (P j || (decide (j < z.1) && decide (C.getD j default = ⟨l0, l1, l2⟩)))) (fun z => C.length - z.1) (0, P) ?_ ⟨Nat.zero_le _, i0, i1, fun j _ => by simp⟩ ?_
                    · simp only [go_sem, Int.natCast_zero, List.take_zero, List.any_nil]
                    · simp only [go_sem, List.length_map]
                      rintro K4 ⟨m, Q⟩ H4 ⟨hm, m0, m1, m2⟩ hK4 hE4
                      simp only at hm m0 m1 m2
                      dsimp only
                      rw [condK_bool]
                      refine ⟨fun h => ?_, fun h => ?_⟩
                      · have hm' : m < C.length := by have := of_decide_eq_true h; omega
                        have hmm : ((m : Int) < (C.length : Int)) = True := eq_true (by omega)
                        have hm0 : (0 ≤ (m : Int)) = True := eq_true (by omega)
                        have w5 : IntKind.i64.wrap ((m : Int) + 1) = (m : Int) + 1 := wrap_id (by omega)
                        have hct : (C.take (m + 1)).any (fun t => decide (t = ⟨l0, l1, l2⟩)) = ((C.take m).any (fun t => decide (t = ⟨l0, l1, l2⟩)) || decide (C.getD m default = ⟨l0, l1, l2⟩)) := by
                          have e : C.getD m default = C[m] := by simp [hm']
                          rw [e, List.take_succ_eq_append_getElem hm', List.any_append]; simp
                        have hQm : ∀ j, j < C.length → (P j || (decide (j < m + 1) && decide (C.getD j default = ⟨l0, l1, l2⟩))) = (Q j || (decide (j = m) && decide (C.getD j default = ⟨l0, l1, l2⟩))) := fun j hj => by
                          rw [m2 j hj]
                          by_cases e : j = m
                          · subst e; simp
                          · have : decide (j < m + 1) = decide (j < m) := by rw [decide_eq_decide]; omega
                            rw [this]; simp [e]
                        have heq := same36_eq (C.getD m default) ⟨l0, l1, l2⟩
                        generalize hD : C.getD m default = D at hct heq
                        have hDj : ∀ j, j = m → C.getD j default = D := fun j e => by subst e; exact hD
                        obtain ⟨d0, d1, d2⟩ := D
                        simp only [go_sem, encT] at heq
                        simp only [go_sem, i0, hx0, hii, hi0, hmm, hm0, hkk, hk0, Int.toNat_natCast, List.length_map, getD_mapN (rowO x) S i _ hi', hO, hrow, getD_mapN encL (linesO x o) k _ hkl, hla, encL, hll, getD_mapN encT C m _ hm', hD, encT, heq]
                        rw [condK_bool]
                        refine ⟨fun he => ?_, fun he => ?_⟩
                        · have hel := of_decide_eq_true he
                          rw [he, Bool.or_true] at hct
                          simp only [go_sem, m1, metP_len, hmm, hm0, Int.toNat_natCast, metP_get Q hm', List.set_cons_zero, metP_set Q hm']
                          refine ⟨hm', hK4 (m + 1, fun j => Q j || decide (j = m)) _ _ ?_ ⟨by simp only; omega, ?_, ?_, fun j hj => ?_⟩ (by simp only; omega)⟩
                          · simp only [go_sem, hct, w5, Int.natCast_add, Int.natCast_one]
                          · simp only [go_sem, m0]
                          · simp only [go_sem]
                          · simp only [hQm j hj]
                            by_cases e : j = m
                            · rw [hDj j e, he]; simp [e]
                            · simp [e]
                        · rw [he, Bool.or_false] at hct
                          simp only [go_sem]
                          refine hK4 (m + 1, Q) _ _ ?_ ⟨by simp only; omega, m0, m1, fun j hj => ?_⟩ (by simp only; omega)
                          · simp only [go_sem, hct, w5, Int.natCast_add, Int.natCast_one]
                          · simp only [hQm j hj]
                            by_cases e : j = m
                            · rw [hDj j e, he]; simp
                            · simp [e]
                      · have hm' : m = C.length := by have : ¬ ((m : Int) < (C.length : Int)) := by simpa using h
                                                      omega
                        subst hm'
                        refine hE4 _ _ _ (by simp) ?_
                        have hany : ((C.take C.length).any fun t => decide (t = ⟨l0, l1, l2⟩)) = true := by
                          rw [List.take_length]
                          exact List.any_eq_true.2 ⟨_, hit, decide_eq_true rfl⟩
                        simp only [go_sem, hany]
                        refine hK3 (i + 1, Q) _ _ ?_ ⟨by simp only; omega, m0, m1, fun j hj => ?_⟩ (by simp only; omega)
                        · simp only [go_sem, w4, Int.natCast_add, Int.natCast_one]
                        · dsimp only
                          rw [m2 j hj, i2 j hj, hat]
                          have e1 : decide (j < C.length) = true := decide_eq_true hj
                          rw [e1, Bool.true_and]
                          congr 1
                          rw [decide_eq_decide]; exact eq_comm
                  · have hi' : i = S.length := by have : ¬ ((i : Int) < (S.length : Int)) := by simpa using h
                                                  omega
                    subst hi'
                    refine hE3 _ _ _ (by simp) ?_
                    have hP : ∀ j, j < C.length → P j = true := fun j hj => by
                      rw [i2 j hj, List.take_length]
                      obtain ⟨o, ho, e⟩ := hmk.1 (getD_mem default hj)
                      exact List.any_eq_true.2 ⟨o, ho, decide_eq_true e⟩
                    simp only [go_sem]
                    refine ev_loopS [1, 3, 5, 9, 10, 12] (fun m : Nat => [(21, .int .i64 m)]) (fun m H => m ≤ C.length ∧ H ([], 12000000) = some (.cells (encLt x) 1 false) ∧ H ([], 12014002) = some (.rows 1 (metP P C.length) v false)) (fun m => C.length - m) 0 ?_ ⟨Nat.zero_le _, i0, i1⟩ ?_
                    · simp only [go_sem, Int.natCast_zero]
                    · simp only [go_sem, List.length_map]
                      intro K4 m H4 ⟨hm, m0, m1⟩ hK4 hE4
                      rw [condK_bool]
                      refine ⟨fun h => ?_, fun h => ?_⟩
                      · have hm' : m < C.length := by have := of_decide_eq_true h; omega
                        have hmm : ((m : Int) < (C.length : Int)) = True := eq_true (by omega)
                        have hm0 : (0 ≤ (m : Int)) = True := eq_true (by omega)
                        have w5 : IntKind.i64.wrap ((m : Int) + 1) = (m : Int) + 1 := wrap_id (by omega)
                        have w6 : IntKind.i64.wrap ((m : Int) - 1) = (m : Int) - 1 := wrap_id (by omega)
                        have hPm := hP m hm'
                        by_cases e0 : m = 0
                        · subst e0
                          have hmz : (((0 : Nat) : Int) < (C.length : Int)) = True := hmm
                          simp only [Int.natCast_zero] at hmz
                          obtain ⟨⟨d0, d1, d2⟩, hD⟩ : ∃ D, C.getD 0 default = D := ⟨_, rfl⟩
                          have hgz : ((0 : Int) > 0) = False := by simp
                          have hw1 : IntKind.i64.wrap ((0 : Int) - 1) = -1 := by decide
                          have hw2 : (-1 : Int).toNat = 0 := rfl
                          have hd1 := dec_line0 ⟨⟨d0, d1, d2⟩, 0⟩
                          simp only [encL] at hd1
                          simp only [go_sem, @ct E54 56 t56 rfl, t56, callSpec, m1, metP_len, hmz, hgz, hw1, hw2, hd1, Int.natCast_zero, Int.toNat_natCast, Nat.zero_add, metP_get P hm', hPm, List.length_map, getD_mapN encT C 0 _ hm', hD, encT]
                          refine ⟨hm', hK4 1 _ _ ?_ ⟨by omega, m0, m1⟩ (by omega)⟩
                          have w7 : IntKind.i64.wrap ((0 : Int) + 1) = 1 := rfl
                          simp only [go_sem, w7, Int.natCast_one]
                        · have hmp : ((m : Int) > 0) = True := eq_true (by omega)
                          have hm1 : m - 1 < C.length := by omega
                          have hmq : ((m : Int) - 1) = ((m - 1 : Nat) : Int) := by omega
                          have w6' : IntKind.i64.wrap ((m - 1 : Nat) : Int) = ((m - 1 : Nat) : Int) := wrap_id (by omega)
                          have hmr : (((m - 1 : Nat) : Int) < (C.length : Int)) = True := eq_true (by omega)
                          have hms : (0 ≤ ((m - 1 : Nat) : Int)) = True := eq_true (by omega)
                          have hlt : cmpT (C.getD (m - 1) default) (C.getD m default) < 0 := by
                            have := List.pairwise_iff_getElem.1 hrk (m - 1) m hm1 hm' (by omega)
                            simpa [hm1, hm'] using this
                          have hah := item_ahead hlt
                          generalize hD : C.getD m default = D at hah
                          generalize hG' : C.getD (m - 1) default = G at hah
                          have hd1 := dec_line0 ⟨D, 0⟩
                          have hd2 := dec_line0 ⟨G, 0⟩
                          obtain ⟨d0, d1, d2⟩ := D
                          obtain ⟨g0, g1, g2⟩ := G
                          simp only [encL] at hd1 hd2
                          simp only [go_sem, @ct E54 56 t56 rfl, t56, callSpec, m1, metP_len, hmm, hm0, hmp, w6', hmq, hmr, hms, Int.toNat_natCast, metP_get P hm', hPm, List.length_map, getD_mapN encT C m _ hm', getD_mapN encT C (m - 1) _ hm1, hD, hG', encT, hd1, hd2, hah]
                          refine ⟨hm', hK4 (m + 1) _ _ ?_ ⟨by omega, m0, m1⟩ (by omega)⟩
                          simp only [go_sem, w5, Int.natCast_add, Int.natCast_one]
                      · have hm' : m = C.length := by have : ¬ ((m : Int) < (C.length : Int)) := by simpa using h
                                                      omega
                        subst hm'
                        refine hE4 _ _ _ (by simp) ?_
                        simp only [go_sem]
                        refine hK (k + 1) _ _ ?_ ⟨by omega, m0⟩ (by omega)
                        simp only [go_sem, w2, Int.natCast_add, Int.natCast_one]
          · refine hE _ _ _ (by simp) ?_
            simp only [go_sem, @ct E54 14 t14 rfl, t14]
end Wb
