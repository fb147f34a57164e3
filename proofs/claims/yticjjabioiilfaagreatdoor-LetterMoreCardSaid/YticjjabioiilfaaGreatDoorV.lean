import Derived.Test.YticjjabioiilfaaGreatDoorN
set_option linter.unusedVariables false
set_option linter.unusedSimpArgs false
/- The laws' own helpers: a field of a line, what comes before what. -/
namespace Wb
open Go Go.Proofs Enc Row
set_option linter.unusedSimpArgs false
set_option linter.unusedVariables false
set_option maxRecDepth 20000
set_option maxHeartbeats 8000000
-- f55 field
theorem field_fn (l : Line) (k : Nat) (hk : k ≤ 3) : Fn E0 0 55 Tryz.f55 (Tryz.f55.body.getD .skip) [.agg (encL l), .int .i64 k] (.int .i64 (fldL k l)) := by
  unfold Fn Tryz.f55
  obtain rfl | rfl | rfl | rfl : k = 0 ∨ k = 1 ∨ k = 2 ∨ k = 3 := by omega
  all_goals simp only [go_sem, encL, fldL]
def t55 : Spec := spec2 (fun (_ : Line) (k : Int) => 0 ≤ k ∧ k ≤ 3) fun l k => .int .i64 (fldL k.toNat l)
theorem t55_ok : SpecOK Tryz.prog glB 55 t55 := spec2_ok E0_ok Tryz.func55 rfl (by kernel_rfl) fun l k h => by
  obtain ⟨n, rfl⟩ := Int.eq_ofNat_of_zero_le h.1
  exact field_fn l n (by have := h.2; omega)
-- f54 Ahead
def aheadB : List Int → List Int → Bool
  | [], [] => false
  | [], _ :: _ => true
  | _ :: _, [] => false
  | a :: l, b :: m => if a = b then aheadB l m else decide (a < b)
theorem aheadB_drop {l m : List Int} {i : Nat} (hl : i < l.length) (hm : i < m.length) : aheadB (l.drop i) (m.drop i) = if l.getD i 0 = m.getD i 0 then aheadB (l.drop (i + 1)) (m.drop (i + 1)) else decide (l.getD i 0 < m.getD i 0) := by
  have e1 : l.getD i 0 = l[i] := by simp [hl]
  have e2 : m.getD i 0 = m[i] := by simp [hm]
  rw [List.drop_eq_getElem_cons hl, List.drop_eq_getElem_cons hm, e1, e2]
  rfl
theorem ahead_fn (l m : List Int) (hl : big l.length) (hm : big m.length) : Fn E0 0 54 Tryz.f54 (Tryz.f54.body.getD .skip) [.sl (il l) false, .sl (il m) false] (.bool (aheadB l m)) := by
  unfold big at hl hm
  unfold Fn Tryz.f54
  simp only [go_sem]
  refine ev_loopS [0, 1, 4] (fun i : Nat => [(5, .int .i64 i)]) (fun i H => i ≤ l.length ∧ i ≤ m.length ∧ aheadB (l.drop i) (m.drop i) = aheadB l m) (fun i => l.length - i) 0 ?_ ⟨Nat.zero_le _, Nat.zero_le _, rfl⟩ ?_
  · simp only [go_sem, Int.natCast_zero]
  · simp only [go_sem, il_length]
    intro K i H ⟨h1, h2, h3⟩ hK hE
    rw [condK_bool]
    refine ⟨fun h => ?_, fun h => ?_⟩
    · simp only [Bool.and_eq_true, decide_eq_true_eq] at h
      have a1 : i < l.length := by omega
      have a2 : i < m.length := by omega
      have hii : ((i : Int) < (l.length : Int)) = True := eq_true (by omega)
      have hij : ((i : Int) < (m.length : Int)) = True := eq_true (by omega)
      have hi0 : (0 ≤ (i : Int)) = True := eq_true (by omega)
      have w2 : IntKind.i64.wrap ((i : Int) + 1) = (i : Int) + 1 := wrap_id (by omega)
      have hd := aheadB_drop a1 a2
      simp only [go_sem, il_length, il_getD, hii, hij, hi0, Int.toNat_natCast]
      rw [condK_bool]
      refine ⟨fun hc => ?_, fun hc => ?_⟩
      · have hne : l.getD i 0 ≠ m.getD i 0 := by simpa using hc
        rw [if_neg hne] at hd
        simp only [go_sem, il_length, il_getD, hii, hij, hi0, Int.toNat_natCast]
        refine hE _ _ _ (by simp) ?_
        simp only [go_sem, ← h3, hd]
      · have hne : l.getD i 0 = m.getD i 0 := by simpa using hc
        rw [if_pos hne] at hd
        simp only [go_sem]
        refine hK (i + 1) _ _ ?_ ⟨by omega, by omega, by rw [← h3, hd]⟩ (by omega)
        simp only [go_sem, w2, Int.natCast_add, Int.natCast_one]
    · refine hE _ _ _ (by simp) ?_
      have hf : aheadB l m = decide ((l.length : Int) < (m.length : Int)) := by
        rw [← h3]
        by_cases a1 : i < l.length
        · have a2 : i = m.length := by
            refine Classical.byContradiction fun q => ?_
            have : i < m.length := by omega
            simp [a1, this] at h
          subst a2
          rw [List.drop_length, List.drop_eq_getElem_cons a1]
          exact (decide_eq_false (by omega)).symm
        · have a2 : i = l.length := by omega
          subst a2
          rw [List.drop_length]
          by_cases a3 : l.length < m.length
          · rw [List.drop_eq_getElem_cons a3]; exact (decide_eq_true (by omega)).symm
          · have : m.drop l.length = [] := List.drop_eq_nil_of_le (by omega)
            rw [this]; exact (decide_eq_false (by omega)).symm
      simp only [go_sem, il_length, hf]
def t54 : Spec := spec2 (fun (l m : List Int) => big l.length ∧ big m.length) fun l m => .bool (aheadB l m)
theorem t54_ok : SpecOK Tryz.prog glB 54 t54 := spec2_ok E0_ok Tryz.func54 rfl (by kernel_rfl) fun l m h => ahead_fn l m h.1 h.2
noncomputable def E53t : List (Nat × Spec) := [(55, t55), (54, t54), (47, sInner)] ++ E52t
theorem E53t_ok : AllOK E53t := ⟨⟨t55_ok, Tryz.call55⟩, ⟨t54_ok, Tryz.call54⟩, ⟨s103_ok, Tryz.call47⟩, E52t_ok⟩
noncomputable def E53 : Env := mkE E53t []
theorem E53_ok : EnvOK Tryz.prog E53 := envOK E53t_ok trivial
theorem E53_ti {t : Nat} : E53.ti t = ti t := rfl
theorem E53_q0 : (E53).eqt 26 = true := rfl
theorem E53_q1 : (E53).eqt 65 = true := rfl
theorem E53_q2 : (E53).eqt 77 = true := rfl
theorem E53_q3 : (E53).eqt 79 = true := rfl
theorem E53_q4 : (E53).eqt 182 = true := rfl
theorem E53_q5 : (E53).eqt 243 = true := rfl
theorem E53_q6 : (E53).keyt 3 = true := rfl
theorem E53_q7 : (E53).keyt 114 = true := rfl
theorem E53_q8 : (E53).keyt 169 = true := rfl
theorem E53_q9 : (E53).keyt 180 = true := rfl
theorem E53_q10 : (E53).keyt 193 = true := rfl
theorem E53_q11 : (E53).glob 0 = some [.fn 219 [] [], .fn 220 [] [], .fn 216 [] [], .fn 221 [] []] := rfl
theorem E53_q12 : (E53).glob 1 = some [.fn 222 [] [], .fn 223 [] []] := rfl
attribute [go_sem] E53_ti E53_q0 E53_q1 E53_q2 E53_q3 E53_q4 E53_q5 E53_q6 E53_q7 E53_q8 E53_q9 E53_q10 E53_q11 E53_q12
-- f56 Sooner
def keyL (l : Line) : List Int := [l.item.good, l.item.size, l.item.colour, l.many]
theorem dec_il4 (a b c d : Int) (ex : Bool) : (dec (.sl [[.int .i64 a], [.int .i64 b], [.int .i64 c], [.int .i64 d]] ex) : Option (List Int)) = some [a, b, c, d] := rfl
attribute [go_sem] dec_il4
theorem sooner_fn (a b : Line) : Fn E53 0 56 Tryz.f56 (Tryz.f56.body.getD .skip) [.agg (encL a), .agg (encL b)] (.bool (aheadB (keyL a) (keyL b))) := by
  unfold Fn Tryz.f56
  have h4 : big 4 := by unfold big; omega
  simp only [go_sem, @ct E53 54 t54 rfl, t54, encL, callSpec, h4, keyL]
def t56 : Spec := spec2 (fun (_ _ : Line) => True) fun a b => .bool (aheadB (keyL a) (keyL b))
theorem t56_ok : SpecOK Tryz.prog glB 56 t56 := spec2_ok E53_ok Tryz.func56 rfl (by kernel_rfl) fun a b _ => sooner_fn a b
noncomputable def E54t : List (Nat × Spec) := [(56, t56)] ++ E53t
theorem E54t_ok : AllOK E54t := ⟨⟨t56_ok, Tryz.call56⟩, E53t_ok⟩
noncomputable def E54 : Env := mkE E54t []
theorem E54_ok : EnvOK Tryz.prog E54 := envOK E54t_ok trivial
theorem E54_ti {t : Nat} : E54.ti t = ti t := rfl
theorem E54_q0 : (E54).eqt 26 = true := rfl
theorem E54_q1 : (E54).eqt 65 = true := rfl
theorem E54_q2 : (E54).eqt 77 = true := rfl
theorem E54_q3 : (E54).eqt 79 = true := rfl
theorem E54_q4 : (E54).eqt 182 = true := rfl
theorem E54_q5 : (E54).eqt 243 = true := rfl
theorem E54_q6 : (E54).keyt 3 = true := rfl
theorem E54_q7 : (E54).keyt 114 = true := rfl
theorem E54_q8 : (E54).keyt 169 = true := rfl
theorem E54_q9 : (E54).keyt 180 = true := rfl
theorem E54_q10 : (E54).keyt 193 = true := rfl
theorem E54_q11 : (E54).glob 0 = some [.fn 219 [] [], .fn 220 [] [], .fn 216 [] [], .fn 221 [] []] := rfl
theorem E54_q12 : (E54).glob 1 = some [.fn 222 [] [], .fn 223 [] []] := rfl
attribute [go_sem] E54_ti E54_q0 E54_q1 E54_q2 E54_q3 E54_q4 E54_q5 E54_q6 E54_q7 E54_q8 E54_q9 E54_q10 E54_q11 E54_q12
end Wb
/- What is sure, what can be: plain. -/
namespace Wb
open Go Go.Proofs Enc Row
set_option linter.unusedSimpArgs false
set_option linter.unusedVariables false
set_option maxRecDepth 20000
set_option maxHeartbeats 8000000
theorem ahead_cmp : ∀ {l m : List Int}, l.length = m.length → (aheadB l m = true ↔ cmpK l m < 0)
  | [], [], _ => by simp [aheadB, cmpK]
  | [], _ :: _, h => by simp at h
  | _ :: _, [], h => by simp at h
  | a :: l, b :: m, h => by
    rw [cmpK_cons]
    unfold aheadB
    by_cases e : a = b
    · subst e
      rw [if_pos rfl, if_pos (cmpI_self a)]
      exact ahead_cmp (by simpa using h)
    · rw [if_neg e, if_neg (fun h => e (cmpI_zero h)), decide_eq_true_iff, cmpI_lt]
/-- A list that is sorted by its keys, each of it once, rises. -/
theorem sortB_rise {α : Type} (key : α → List Int) (n : Nat) (hk : ∀ x, (key x).length = n) (hi : ∀ x y, key x = key y → x = y) {l : List α} (hl : l.Nodup) :
    (sortB (fun a b => cmpK (key a) (key b)) l).Pairwise fun a b => cmpK (key a) (key b) < 0 := by
  have hO := swoK key n hk
  have hs : (sortB (fun a b => cmpK (key a) (key b)) l).Pairwise fun a b => (!(ltOf fun a b => cmpK (key a) (key b)) b a) = true := by
    unfold sortB
    refine List.pairwise_mergeSort (fun a b c h1 h2 => ?_) (fun a b => ?_) l
    · simp only [Bool.not_eq_true'] at *
      exact hO.ntrans _ _ _ h2 h1
    · cases h3 : ltOf (fun a b => cmpK (key a) (key b)) b a with
      | false => simp
      | true =>
        cases h4 : ltOf (fun a b => cmpK (key a) (key b)) a b with
        | false => simp
        | true => have := hO.trans _ _ _ h3 h4; rw [hO.irrefl] at this; cases this
  have hn : (sortB (fun a b => cmpK (key a) (key b)) l).Nodup := (sortB_perm _ l).nodup_iff.2 hl
  refine List.Pairwise.imp₂ (R := fun a b => (!(ltOf fun a b => cmpK (key a) (key b)) b a) = true) (S := fun a b => a ≠ b) (fun a b h1 h2 => ?_) hs hn
  simp only [Bool.not_eq_true', ltOf, decide_eq_false_iff_not] at h1
  have h3 := cmpK_neg (key a) (key b)
  have h4 : cmpK (key a) (key b) ≠ 0 := fun e => h2 (hi _ _ (cmpK_zero (by rw [hk, hk]) e))
  omega
theorem sorted_rise (x : Lett) : (sortedM x).Pairwise fun a b => cmpO a b < 0 :=
  sortB_rise keyO 8 keyO_len (fun _ _ => keyO_inj) (keysM_once x)
theorem mem_sorted {x : Lett} {o : Ord2} : o ∈ sortedM x ↔ o ∈ keysM x := (sortB_perm cmpO (keysM x)).mem_iff
theorem sorted_len (x : Lett) : (sortedM x).length = (allM x).length := by
  rw [show (sortedM x).length = (keysM x).length from (sortB_perm cmpO (keysM x)).length_eq]
  unfold keysM; rw [List.length_map]
theorem dstep_nodup {acc : List Item} {t : Item} (h : acc.Nodup) : (dstep acc t).Nodup := by
  unfold dstep
  split
  · exact h
  · rename_i hc
    refine List.nodup_append.2 ⟨h, by simp, fun a ha b hb e => ?_⟩
    rw [List.mem_singleton] at hb
    subst hb; subst e
    exact hc (contB_iff.2 ha)
theorem itemsD_nodup (S : List Ord2) (line : Int) : (itemsD S line).Nodup := by
  have key : ∀ (S : List Ord2) (acc : List Item), acc.Nodup → (S.foldl (fun acc o => dstep acc (lineO o line).item) acc).Nodup := fun S => by
    induction S with
    | nil => exact fun acc h => h
    | cons o S ih => exact fun acc h => ih _ (dstep_nodup h)
  exact key S [] List.nodup_nil
theorem mem_itemsD {S : List Ord2} {line : Int} {t : Item} : t ∈ itemsD S line ↔ ∃ o ∈ S, (lineO o line).item = t := by
  have key : ∀ (S : List Ord2) (acc : List Item), t ∈ (S.foldl (fun acc o => dstep acc (lineO o line).item) acc) ↔ t ∈ acc ∨ ∃ o ∈ S, (lineO o line).item = t := fun S => by
    induction S with
    | nil => intro acc; simp
    | cons o S ih =>
      intro acc
      rw [List.foldl_cons, ih, dstep_mem]
      constructor
      · rintro ((h | h) | ⟨o', h1, h2⟩)
        · exact .inl h
        · exact .inr ⟨o, List.mem_cons_self .., h.symm⟩
        · exact .inr ⟨o', List.mem_cons_of_mem _ h1, h2⟩
      · rintro (h | ⟨o', h1, h2⟩)
        · exact .inl (.inl h)
        · rcases List.mem_cons.1 h1 with e | e
          · subst e; exact .inl (.inr h2.symm)
          · exact .inr ⟨o', e, h2⟩
  have := key S []
  simpa [itemsD] using this
theorem mem_itemsM {x : Lett} {line : Int} {t : Item} : t ∈ itemsM x line ↔ ∃ o ∈ sortedM x, (lineO o line).item = t := by
  unfold itemsM
  rw [(sortB_perm cmpT _).mem_iff, mem_itemsD]
theorem itemsM_len (x : Lett) (line : Int) : (itemsM x line).length ≤ (sortedM x).length := by
  have key : ∀ (S : List Ord2) (acc : List Item), (S.foldl (fun acc o => dstep acc (lineO o line).item) acc).length ≤ acc.length + S.length := fun S => by
    induction S with
    | nil => intro acc; simp
    | cons o S ih =>
      intro acc
      rw [List.foldl_cons]
      have h1 := ih (dstep acc (lineO o line).item)
      have h2 : (dstep acc (lineO o line).item).length ≤ acc.length + 1 := by unfold dstep; split <;> simp
      simp only [List.length_cons]
      omega
  rw [show (itemsM x line).length = (itemsD (sortedM x) line).length from (sortB_perm cmpT _).length_eq]
  have := key (sortedM x) []
  simpa [itemsD] using this
theorem items_rise (x : Lett) (line : Int) : (itemsM x line).Pairwise fun a b => cmpT a b < 0 :=
  sortB_rise keyT 3 keyT_len (fun _ _ => keyT_inj) (itemsD_nodup _ _)
theorem item_ahead {a b : Item} (h : cmpT a b < 0) : aheadB (keyL ⟨a, 0⟩) (keyL ⟨b, 0⟩) = true := by
  refine (ahead_cmp (l := keyL ⟨a, 0⟩) (m := keyL ⟨b, 0⟩) rfl).2 ?_
  unfold cmpT keyT at h
  unfold keyL
  simp only [cmpK_cons] at h ⊢
  by_cases h1 : cmpI a.good b.good = 0
  · rw [if_pos h1] at h ⊢
    by_cases h2 : cmpI a.size b.size = 0
    · rw [if_pos h2] at h ⊢
      by_cases h3 : cmpI a.colour b.colour = 0
      · rw [if_pos h3] at h; cases h
      · rw [if_neg h3] at h ⊢; exact h
    · rw [if_neg h2] at h ⊢; exact h
  · rw [if_neg h1] at h ⊢; exact h
theorem linesO_at {x : Lett} (hn : 1 ≤ x.lines.length ∧ x.lines.length ≤ 2) {k : Nat} (hk : k < x.lines.length) (o : Ord2) : (linesO x o).getD k default = lineO o (k : Int) := by
  unfold linesO lineO
  by_cases h : x.lines.length = 1
  · rw [if_pos h]
    obtain rfl : k = 0 := by omega
    rfl
  · rw [if_neg h]
    obtain rfl | rfl : k = 0 ∨ k = 1 := by omega
    · rfl
    · rw [if_neg (by decide)]; rfl
/-- What is sure. -/
theorem sureF_eq (k : Nat) (i f0 : Int) : ∀ (S : List Ord2), sureF k i f0 S = if (S.all fun o => fldL k (lineO o i) == f0) = true then f0 else -1 := by
  have key : ∀ (S : List Ord2) (a : Int), S.foldl (fun a o => if fldL k (lineO o i) = f0 then a else -1) a = if (S.all fun o => fldL k (lineO o i) == f0) = true then a else -1 := fun S => by
    induction S with
    | nil => intro a; rfl
    | cons o S ih =>
      intro a
      rw [List.foldl_cons, ih, List.all_cons]
      by_cases h : fldL k (lineO o i) = f0
      · rw [if_pos h]; simp [h]
      · rw [if_neg h]; simp [h]
  exact fun S => key S f0
theorem sure_in {x : Lett} (h : GL x) (h0 : sortedM x ≠ []) : (costSpan (allM x)).1 ≤ (costSpan (allM x)).2 ∧ x.clo ≤ (costSpan (allM x)).1 ∧ (costSpan (allM x)).2 ≤ x.chi := by
  have hne : allM x ≠ [] := fun e => h0 (by
    have := sorted_len x
    rw [e] at this
    exact List.eq_nil_of_length_eq_zero this)
  have hc := costSpan_of hne
  have hb : ∀ e ∈ allM x, x.clo ≤ e.2.clo ∧ e.2.clo ≤ e.2.chi ∧ e.2.chi ≤ x.chi := fun e he => by
    obtain ⟨o, f⟩ := e
    have h1 := getA_mem_iff.1 he
    rcases allM_told h.days o with ⟨h2, _⟩ | ⟨g, h2, h3⟩
    · rw [h1] at h2; cases h2
    · rw [h1] at h2
      obtain rfl := Option.some.inj h2
      obtain ⟨d1, e1, e2, e3⟩ := h3.clo
      obtain ⟨d2, f1, f2, f3⟩ := h3.chi
      have a1 := e2.cost
      have a2 := f2.cost
      have a3 := (h3.all d1 e1.1 e1.2 e2).2
      simp only
      omega
  obtain ⟨e, he, h1⟩ := hc.a1
  obtain ⟨e', he', h2⟩ := hc.b1
  have k1 := hb e he
  have k2 := hb e' he'
  have k3 := hc.a2 e' he'
  omega
end Wb
