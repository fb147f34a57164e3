import Derived.Test.YticjjabioiilfaaGreatDoorW
set_option linter.unusedVariables false
set_option linter.unusedSimpArgs false
/- The digits of a number. -/
namespace Wb
open Go Go.Proofs Enc Row
set_option linter.unusedSimpArgs false
set_option linter.unusedVariables false
set_option maxRecDepth 20000
set_option maxHeartbeats 8000000
theorem thaw_slot {τ τ' : List PV} {H : Heap} {i : Nat} {K : Key} {v sz n : Nat} {ex : Bool} {rs : List (List PV)} (hp : τ[i]? = some (.sref K v sz n ex)) (hK : H K = some (.rows sz rs v false)) (hn : n = rs.length)
    (hf : fg τ' (τ.set i (.sl rs ex))) : ThawS τ' (H.set K (.rows sz rs v true)) τ H := by
  refine ⟨H.set K (.rows sz rs v true), fun K' => ?_, thawL_slot i hp (thaw1_sref (set_at_eq _ _ _) hn) hf, fun _ => .inl rfl⟩
  by_cases e : K' = K
  · subst e; exact .inr ⟨_, hK, set_at_eq _ _ _⟩
  · exact .inl (set_at_ne _ _ e)
theorem natI_length (l : List Nat) : (natI l).length = l.length := by simp [natI]
/-- The digits of a number, the first one first. -/
def digN (n : Nat) : List Nat := if h : n = 0 then [] else digN (n / 10) ++ [n % 10]
termination_by n
decreasing_by omega
theorem digN_zero : digN 0 = [] := by rw [digN]; rfl
theorem digN_pos {n : Nat} (h : n ≠ 0) : digN n = digN (n / 10) ++ [n % 10] := by rw [digN, dif_neg h]
theorem digN_len : ∀ (k n : Nat), n < 10 ^ k → (digN n).length ≤ k
  | 0, n, h => by
    obtain rfl : n = 0 := by simpa using h
    rw [digN_zero]; simp
  | k + 1, n, h => by
    by_cases h0 : n = 0
    · subst h0; rw [digN_zero]; simp
    · rw [digN_pos h0, List.length_append]
      have := digN_len k (n / 10) (by rw [Nat.pow_succ] at h; omega)
      simp only [List.length_cons, List.length_nil]; omega
theorem digits_fn (n : Nat) (hn : n < 10000) : Fn E0 0 89 Tryz.f89 (Tryz.f89.body.getD .skip) [.int .i64 n] (.sl (il (natI (digN n))) false) := by
  unfold Fn Tryz.f89
  simp only [go_sem]
  refine ev_loopT (fun y : Nat × List Nat × Bool => [.int .i64 y.1, .undef, .sl [] true, .sl (il (natI y.2.1)) y.2.2] ++ List.replicate 10 .undef) (fun y H => y.1 < 10000 ∧ digN n = digN y.1 ++ y.2.1 ∧ (y.2.1 = [] → y.2.2 = true)) (fun y => y.1) (n, [], true) (.of_fg ?_) ⟨hn, by simp, fun _ => rfl⟩ ?_
  · simp only [go_sem, natI, il]
  · rintro K ⟨m, ds, ex⟩ H ⟨h1, h2, h3⟩ hK hE
    simp only at h1 h2 h3
    have hdl : ds.length ≤ 4 := by
      have := digN_len 4 n (by omega)
      rw [h2, List.length_append] at this; omega
    simp only [go_sem]
    rw [condK_bool]
    refine ⟨fun h => ?_, fun h => ?_⟩
    · have hm : m ≠ 0 := by have := of_decide_eq_true h; omega
      have e1 : (m : Int).tmod 10 = ((m % 10 : Nat) : Int) := rfl
      have e2 : (m : Int).tdiv 10 = ((m / 10 : Nat) : Int) := rfl
      have e3 : IntKind.i64.wrap ((m / 10 : Nat) : Int) = ((m / 10 : Nat) : Int) := wrap_id (by omega)
      have e4 : ((10 : Int) ≠ 0) = True := eq_true (by decide)
      have hdm := digN_pos hm
      have hrows : (∀ row ∈ il (natI ds), row.length = 1 ∧ cells1 row = true) = True := eq_true fun row hr => by
        obtain ⟨a, _, rfl⟩ := List.mem_map.1 hr; exact ⟨rfl, rfl⟩
      have hnx : digN n = digN (m / 10) ++ (m % 10 :: ds) := by rw [h2, hdm, List.append_assoc]; rfl
      have hlt : m / 10 < 10000 := by omega
      have hlm : m / 10 < m := by omega
      cases ds with
      | nil =>
        obtain rfl := h3 rfl
        have hn0 : natI ([] : List Nat) = [] := rfl
        have hil : il ([] : List Int) = [] := rfl
        simp only [go_sem, e1, e2, e3, e4, app, rowsOf, hn0, hil]
        refine hK (m / 10, [m % 10], true) _ _ _ (thaw_slot (i := 3) (rs := [[PV.int .i64 ((m % 10 : Nat) : Int)]]) rfl (set_at_eq _ _ _) rfl ?_) ⟨hlt, hnx, fun h => by cases h⟩ hlm
        simp only [go_sem, natI, il, List.map_cons, List.map_nil]
      | cons a l =>
        have hrows : (∀ row ∈ il (natI (a :: l)), row.length = 1 ∧ cells1 row = true) = True := eq_true fun row hr => by
          obtain ⟨b, _, rfl⟩ := List.mem_map.1 hr; exact ⟨rfl, rfl⟩
        have hb : ((1 + (natI (a :: l)).length) * 8 ≤ 35184372088832) = True := eq_true (by rw [natI_length]; omega)
        have hil : il (natI (a :: l)) = [PV.int .i64 (a : Int)] :: il (natI l) := rfl
        simp only [go_sem, e1, e2, e3, e4, app, rowsOf, hrows, il_length, hb]
        simp only [go_sem, hil, e1, e2, e3, e4]
        refine hK (m / 10, m % 10 :: a :: l, false) _ _ _ (thaw_slot (i := 3) (rs := [PV.int .i64 ((m % 10 : Nat) : Int)] :: [PV.int .i64 (a : Int)] :: il (natI l)) rfl (set_at_eq _ _ _) (by simp only [List.length_cons]; omega) ?_) ⟨hlt, hnx, fun h => by cases h⟩ hlm
        simp only [go_sem, natI, il, List.map_cons, List.map_nil]
    · have hm : m = 0 := by have : ¬ ((m : Int) > 0) := by simpa using h
                            omega
      subst hm
      rw [digN_zero, List.nil_append] at h2
      refine hE _ _ _ (by simp) ?_
      simp only [go_sem, h2]
def t89 : Spec := spec1 (fun (n : Int) => 0 ≤ n ∧ n < 10000) fun n => .sl (il (natI (digN n.toNat))) false
theorem t89_ok : SpecOK Tryz.prog glB 89 t89 := spec1_ok E0_ok Tryz.func89 rfl (by kernel_rfl) fun n h => by
  obtain ⟨m, rfl⟩ := Int.eq_ofNat_of_zero_le h.1
  exact digits_fn m (by omega)
end Wb
/- Digits that can be read, and a number's digits: plain. -/
namespace Wb
open Go Go.Proofs Enc Row
set_option linter.unusedSimpArgs false
set_option linter.unusedVariables false
set_option maxRecDepth 20000
set_option maxHeartbeats 8000000
/-- Each digit is one of those that can be read. -/
def allB : List Int → List Nat → Bool
  | [], [] => true
  | c :: cs, d :: ds => inF c d && allB cs ds
  | _, _ => false
def allIn (cs : List Int) (ds : List Nat) : Prop := allB cs ds = true
theorem allB_len : ∀ {cs : List Int} {ds : List Nat}, cs.length ≠ ds.length → allB cs ds = false
  | [], [], h => absurd rfl h
  | [], _ :: _, _ => rfl
  | _ :: _, [], _ => rfl
  | c :: cs, d :: ds, h => by
    have := allB_len (cs := cs) (ds := ds) fun e => h (by simp [e])
    rw [allB, this, Bool.and_false]
theorem allB_drop {cs : List Int} {ds : List Nat} {i : Nat} (hc : i < cs.length) (hd : i < ds.length) : allB (cs.drop i) (ds.drop i) = (inF (cs.getD i 0) (ds.getD i 0 : Nat) && allB (cs.drop (i + 1)) (ds.drop (i + 1))) := by
  have e1 : cs.getD i 0 = cs[i] := by simp [hc]
  have e2 : ds.getD i 0 = ds[i] := by simp [hd]
  rw [List.drop_eq_getElem_cons hc, List.drop_eq_getElem_cons hd, e1, e2]
  rfl
theorem allIn_cons {c : Int} {cs : List Int} {d : Nat} {ds : List Nat} (h1 : inF c d = true) (h2 : allIn cs ds) : allIn (c :: cs) (d :: ds) := by
  unfold allIn at h2 ⊢
  rw [allB, h1, h2]; rfl
theorem digN_snoc {m d : Nat} (hm : 0 < m ∨ 0 < d) (hd : d ≤ 9) : digN (10 * m + d) = digN m ++ [d] := by
  rw [digN_pos (by omega), show (10 * m + d) / 10 = m by omega, show (10 * m + d) % 10 = d by omega]
theorem readsP_dig : ∀ {cs : List Int} {m : Nat} {n : Int}, 0 < m → readsP cs false (m : Int) n → ∃ (N : Nat) (ds : List Nat), n = (N : Int) ∧ allIn cs ds ∧ digN N = digN m ++ ds
  | [], m, n, hm, h => ⟨m, [], h, rfl, by simp⟩
  | c :: cs, m, n, hm, ⟨d, h1, h2, _, h4⟩ => by
    have e : (10 * (m : Int) + (d : Int)) = ((10 * m + d : Nat) : Int) := by omega
    rw [e] at h4
    obtain ⟨N, ds, e1, e2, e3⟩ := readsP_dig (by omega) h4
    refine ⟨N, d :: ds, e1, allIn_cons h2 e2, ?_⟩
    rw [e3, digN_snoc (.inl hm) h1, List.append_assoc]; rfl
theorem readsP_first {cs : List Int} {n : Int} (hc : cs ≠ []) (h : readsP cs true 0 n) : ∃ N : Nat, n = (N : Int) ∧ allIn cs (digN N) := by
  match cs, hc, h with
  | c :: cs, _, ⟨d, h1, h2, h3, h4⟩ =>
    have hd := h3 rfl
    have e : (10 * (0 : Int) + (d : Int)) = ((d : Nat) : Int) := by omega
    rw [e] at h4
    obtain ⟨N, ds, e1, e2, e3⟩ := readsP_dig hd h4
    refine ⟨N, e1, ?_⟩
    rw [e3, show digN d = [d] by rw [digN_pos (by omega), show d / 10 = 0 by omega, digN_zero, show d % 10 = d by omega]; rfl]
    exact allIn_cons h2 e2
end Wb
/- Read digits, a line that can mean a line, one order ahead of another one. -/
namespace Wb
open Go Go.Proofs Enc Row
set_option linter.unusedSimpArgs false
set_option linter.unusedVariables false
set_option maxRecDepth 20000
set_option maxHeartbeats 8000000
noncomputable def E57t : List (Nat × Spec) := [(89, t89)] ++ E54t
theorem E57t_ok : AllOK E57t := ⟨⟨t89_ok, Tryz.call89⟩, E54t_ok⟩
noncomputable def E57 : Env := mkE E57t []
theorem E57_ok : EnvOK Tryz.prog E57 := envOK E57t_ok trivial
theorem E57_ti {t : Nat} : E57.ti t = ti t := rfl
theorem E57_q0 : (E57).eqt 26 = true := rfl
theorem E57_q1 : (E57).eqt 65 = true := rfl
theorem E57_q2 : (E57).eqt 77 = true := rfl
theorem E57_q3 : (E57).eqt 79 = true := rfl
theorem E57_q4 : (E57).eqt 182 = true := rfl
theorem E57_q5 : (E57).eqt 243 = true := rfl
theorem E57_q6 : (E57).keyt 3 = true := rfl
theorem E57_q7 : (E57).keyt 114 = true := rfl
theorem E57_q8 : (E57).keyt 169 = true := rfl
theorem E57_q9 : (E57).keyt 180 = true := rfl
theorem E57_q10 : (E57).keyt 193 = true := rfl
theorem E57_q11 : (E57).glob 0 = some [.fn 219 [] [], .fn 220 [] [], .fn 216 [] [], .fn 221 [] []] := rfl
theorem E57_q12 : (E57).glob 1 = some [.fn 222 [] [], .fn 223 [] []] := rfl
attribute [go_sem] E57_ti E57_q0 E57_q1 E57_q2 E57_q3 E57_q4 E57_q5 E57_q6 E57_q7 E57_q8 E57_q9 E57_q10 E57_q11 E57_q12
theorem natI_getD (l : List Nat) (i : Nat) : (natI l).getD i 0 = ((l.getD i 0 : Nat) : Int) := by
  unfold natI
  by_cases h : i < l.length
  · simp [h]
  · simp [h]
-- f95 reads
theorem reads_fn (x : LLine) (hx : x.digits.length ≤ 4) (n : Nat) (hn : n < 10000) : Fn E57 0 95 Tryz.f95 (Tryz.f95.body.getD .skip) [.agg (encLL x), .int .i64 n] (.bool (allB x.digits (digN n))) := by
  unfold Fn Tryz.f95
  have hn1 : ((n : Int) < 10000) = True := eq_true (by omega)
  have hn0 : (0 ≤ (n : Int)) = True := eq_true (by omega)
  have hdl := digN_len 4 n (by omega)
  generalize hD : digN n = ds at hdl
  have hL : (natI ds).length = ds.length := natI_length ds
  by_cases hlen : x.digits.length = ds.length
  · have hb : ((ds.length : Int) != (x.digits.length : Int)) = false := by simp [hlen]
    simp only [go_sem, @ct E57 89 t89 rfl, t89, encLL, il_length, callSpec, hn1, hn0, Int.toNat_natCast, hD, hL, hb]
    refine ev_loopS [2, 4, 5] (fun i : Nat => [(6, .int .i64 i)]) (fun i H => i ≤ ds.length ∧ H ([], 95000000) = some (.cells (encLL x) 1 false) ∧ allB (x.digits.drop i) (ds.drop i) = allB x.digits ds) (fun i => ds.length - i) 0 ?_ ⟨Nat.zero_le _, ?_, rfl⟩ ?_
    · simp only [go_sem, Int.natCast_zero]
    · simp only [go_sem, encLL]
    · simp only [go_sem]
      intro K i H ⟨hi, h1, h2⟩ hK hE
      simp only [go_sem, il_length, hL]
      rw [condK_bool]
      refine ⟨fun h => ?_, fun h => ?_⟩
      · have hi' : i < ds.length := by have := of_decide_eq_true h; omega
        have hii : ((i : Int) < (ds.length : Int)) = True := eq_true (by omega)
        have hij : ((i : Int) < (x.digits.length : Int)) = True := eq_true (by omega)
        have hi0 : (0 ≤ (i : Int)) = True := eq_true (by omega)
        have w2 : IntKind.i64.wrap ((i : Int) + 1) = (i : Int) + 1 := wrap_id (by omega)
        have hd := allB_drop (cs := x.digits) (ds := ds) (by omega) hi'
        have hdg : (0 ≤ ((ds.getD i 0 : Nat) : Int)) = True := eq_true (by omega)
        simp only [go_sem, @ct E57 87 sIn rfl, sIn, callSpec, h1, encLL, hii, hij, hi0, Int.toNat_natCast, il_length, hL, il_getD, natI_getD, hdg]
        rw [condK_bool]
        refine ⟨fun hc => ?_, fun hc => ?_⟩
        · have hc' : inF (x.digits.getD i 0) ((ds.getD i 0 : Nat) : Int) = false := by simpa using hc
          rw [hc', Bool.false_and] at hd
          simp only [go_sem]
          refine hE _ _ _ (by simp) ?_
          simp only [go_sem, ← h2, hd]
        · have hc' : inF (x.digits.getD i 0) ((ds.getD i 0 : Nat) : Int) = true := by simpa using hc
          rw [hc', Bool.true_and] at hd
          simp only [go_sem]
          refine hK (i + 1) _ _ ?_ ⟨by omega, ?_, by rw [← h2, hd]⟩ (by omega)
          · simp only [go_sem, w2, Int.natCast_add, Int.natCast_one]
          · simp only [go_sem, h1, encLL]
      · have hi' : i = ds.length := by have : ¬ ((i : Int) < (ds.length : Int)) := by simpa using h
                                       omega
        subst hi'
        have h3 : allB x.digits ds = true := by
          rw [← h2, List.drop_length, ← hlen, List.drop_length]; rfl
        refine hE _ _ _ (by simp) ?_
        simp only [go_sem, h3]
  · have hb : ((ds.length : Int) != (x.digits.length : Int)) = true := by simp only [bne_iff_ne, ne_eq]; omega
    have hr := allB_len hlen
    simp only [go_sem, @ct E57 89 t89 rfl, t89, encLL, il_length, callSpec, hn1, hn0, Int.toNat_natCast, hD, hL, hb, hr]
def t95 : Spec := spec2 (fun (x : LLine) (n : Int) => x.digits.length ≤ 4 ∧ 0 ≤ n ∧ n < 10000) fun x n => .bool (allB x.digits (digN n.toNat))
theorem t95_ok : SpecOK Tryz.prog glB 95 t95 := spec2_ok E57_ok Tryz.func95 rfl (by kernel_rfl) fun x n h => by
  obtain ⟨m, rfl⟩ := Int.eq_ofNat_of_zero_le h.2.1
  exact reads_fn x h.1 m (by have := h.2.2; omega)
-- f46 sooner
theorem dec_line1 (l : Line) : (dec (.agg (encL l)) : Option Line) = some l := Enc.dec_enc l
def soonB : List Line → List Line → Bool
  | a :: l, b :: m => if a = b then soonB l m else aheadB (keyL a) (keyL b)
  | _, _ => false
theorem soonB_drop {l m : List Line} {i : Nat} (hl : i < l.length) (hm : i < m.length) : soonB (l.drop i) (m.drop i) = if l.getD i default = m.getD i default then soonB (l.drop (i + 1)) (m.drop (i + 1)) else aheadB (keyL (l.getD i default)) (keyL (m.getD i default)) := by
  have e1 : l.getD i default = l[i] := by simp [hl]
  have e2 : m.getD i default = m[i] := by simp [hm]
  rw [List.drop_eq_getElem_cons hl, List.drop_eq_getElem_cons hm, e1, e2]
  rfl
theorem soonerL_fn (l m : List Line) (hl : big l.length) (hm : big m.length) : Fn E57 0 46 Tryz.f46 (Tryz.f46.body.getD .skip) [.sl (l.map encL) false, .sl (m.map encL) false] (.bool (soonB l m)) := by
  unfold big at hl hm
  unfold Fn Tryz.f46
  simp only [go_sem]
  refine ev_loopS [0, 1, 4] (fun i : Nat => [(5, .int .i64 i)]) (fun i H => i ≤ l.length ∧ i ≤ m.length ∧ soonB (l.drop i) (m.drop i) = soonB l m) (fun i => l.length - i) 0 ?_ ⟨Nat.zero_le _, Nat.zero_le _, rfl⟩ ?_
  · simp only [go_sem, Int.natCast_zero]
  · simp only [go_sem, List.length_map]
    intro K i H ⟨h1, h2, h3⟩ hK hE
    rw [condK_bool]
    refine ⟨fun h => ?_, fun h => ?_⟩
    · simp only [Bool.and_eq_true, decide_eq_true_eq] at h
      have a1 : i < l.length := by omega
      have a2 : i < m.length := by omega
      have hii : ((i : Int) < (l.length : Int)) = True := eq_true (by omega)
      have hij : ((i : Int) < (m.length : Int)) = True := eq_true (by omega)
      have hi0 : (0 ≤ (i : Int)) = True := eq_true (by omega)
      have w2 : IntKind.i64.wrap ((i : Int) + 1) = (i : Int) + 1 := wrap_id (by omega)
      have hd := soonB_drop a1 a2
      generalize hA : l.getD i default = a at hd
      generalize hB : m.getD i default = b at hd
      have hq := same29_eq a b
      have hda := dec_line1 a
      have hdb := dec_line1 b
      by_cases hne : a = b
      · rw [decide_eq_true hne] at hq
        rw [if_pos hne] at hd
        rcases a with ⟨⟨o0, o1, o2⟩, o3⟩
        rcases b with ⟨⟨p0, p1, p2⟩, p3⟩
        simp only [go_sem, encL] at hq
        simp only [go_sem, List.length_map, hii, hij, hi0, Int.toNat_natCast, getD_mapN encL l i _ a1, getD_mapN encL m i _ a2, hA, hB, encL, hq]
        refine hK (i + 1) _ _ ?_ ⟨by omega, by omega, by rw [← h3, hd]⟩ (by omega)
        simp only [go_sem, w2, Int.natCast_add, Int.natCast_one]
      · rw [decide_eq_false hne] at hq
        rw [if_neg hne] at hd
        rcases a with ⟨⟨o0, o1, o2⟩, o3⟩
        rcases b with ⟨⟨p0, p1, p2⟩, p3⟩
        simp only [go_sem, encL] at hq
        simp only [encL] at hda hdb
        simp only [go_sem, @ct E57 56 t56 rfl, t56, callSpec, List.length_map, hii, hij, hi0, Int.toNat_natCast, getD_mapN encL l i _ a1, getD_mapN encL m i _ a2, hA, hB, encL, hq, hda, hdb]
        refine hE _ _ _ (by simp) ?_
        simp only [go_sem, ← h3, hd]
    · have hf : soonB l m = false := by
        rw [← h3]
        by_cases a1 : i < l.length
        · have a2 : i = m.length := by
            refine Classical.byContradiction fun q => ?_
            have : i < m.length := by omega
            simp [a1, this] at h
          subst a2
          rw [List.drop_length]
          cases l.drop m.length <;> rfl
        · have a2 : i = l.length := by omega
          subst a2
          rw [List.drop_length]; rfl
      refine hE _ _ _ (by simp) ?_
      simp only [go_sem, hf]
def t46 : Spec := spec2 (fun (l m : List Line) => big l.length ∧ big m.length) fun l m => .bool (soonB l m)
theorem t46_ok : SpecOK Tryz.prog glB 46 t46 := spec2_ok E57_ok Tryz.func46 rfl (by kernel_rfl) fun l m h => soonerL_fn l m h.1 h.2
noncomputable def E58t : List (Nat × Spec) := [(95, t95), (46, t46)] ++ E57t
theorem E58t_ok : AllOK E58t := ⟨⟨t95_ok, Tryz.call95⟩, ⟨t46_ok, Tryz.call46⟩, E57t_ok⟩
noncomputable def E58 : Env := mkE E58t []
theorem E58_ok : EnvOK Tryz.prog E58 := envOK E58t_ok trivial
theorem E58_ti {t : Nat} : E58.ti t = ti t := rfl
theorem E58_q0 : (E58).eqt 26 = true := rfl
theorem E58_q1 : (E58).eqt 65 = true := rfl
theorem E58_q2 : (E58).eqt 77 = true := rfl
theorem E58_q3 : (E58).eqt 79 = true := rfl
theorem E58_q4 : (E58).eqt 182 = true := rfl
theorem E58_q5 : (E58).eqt 243 = true := rfl
theorem E58_q6 : (E58).keyt 3 = true := rfl
theorem E58_q7 : (E58).keyt 114 = true := rfl
theorem E58_q8 : (E58).keyt 169 = true := rfl
theorem E58_q9 : (E58).keyt 180 = true := rfl
theorem E58_q10 : (E58).keyt 193 = true := rfl
theorem E58_q11 : (E58).glob 0 = some [.fn 219 [] [], .fn 220 [] [], .fn 216 [] [], .fn 221 [] []] := rfl
theorem E58_q12 : (E58).glob 1 = some [.fn 222 [] [], .fn 223 [] []] := rfl
attribute [go_sem] E58_ti E58_q0 E58_q1 E58_q2 E58_q3 E58_q4 E58_q5 E58_q6 E58_q7 E58_q8 E58_q9 E58_q10 E58_q11 E58_q12
end Wb
