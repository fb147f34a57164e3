import Derived.Test.YticjjabioiilfaaGreatDoorL
set_option linter.unusedVariables false
set_option linter.unusedSimpArgs false
namespace Wb
open Go Go.Proofs Enc Row
set_option linter.unusedSimpArgs false
set_option linter.unusedVariables false
set_option maxRecDepth 20000
set_option maxHeartbeats 8000000
noncomputable def E48t : List (Nat × Spec) := [(87, sIn), (45, sTween), (58, sProper), (57, s20), (26, t26)] ++ E47t
theorem E48t_ok : AllOK E48t := ⟨⟨s104_ok, Tryz.call87⟩, ⟨s50_ok, Tryz.call45⟩, ⟨s69_ok, Tryz.call58⟩, ⟨s20_ok, Tryz.call57⟩, ⟨t26_ok, Tryz.call26⟩, E47t_ok⟩
noncomputable def E48 : Env := mkE E48t []
theorem E48_ok : EnvOK Tryz.prog E48 := envOK E48t_ok trivial
theorem E48_ti {t : Nat} : E48.ti t = ti t := rfl
theorem E48_e {t : Nat} : E48.eqt t = eqB t := rfl
theorem E48_k {t : Nat} : E48.keyt t = keyB t := rfl
theorem E48_g {t : Nat} : E48.glob t = glB t := rfl
attribute [go_sem] E48_ti E48_e E48_k E48_g
def ofI (a : Int) (n : Nat) : List Int := ((List.range n).filter fun (k : Nat) => inF a (k : Int)).map fun (k : Nat) => (k : Int)
theorem ofI_succ (a : Int) (n : Nat) : ofI a (n + 1) = ofI a n ++ if inF a n then [(n : Int)] else [] := by
 unfold ofI
 rw [List.range_succ, List.filter_append, List.map_append]
 cases h : inF a (n : Int) <;> simp [h]
theorem ofI_len (a : Int) (n : Nat) : (ofI a n).length ≤ n := by
 unfold ofI
 rw [List.length_map]
 exact Nat.le_trans (List.length_filter_le _ _) (by simp)
theorem Of_fn (a : Int) (n : Nat) (hn : n ≤ 62) : Fn E48 0 53 Tryz.f53 (Tryz.f53.body.getD .skip) [.int .i64 a, .int .i64 n] (.sl (il (ofI a n)) false) := by
 unfold Fn Tryz.f53
 simp only [go_sem]
 refine ev_loopS [0, 1, 4] (fun x : Nat × PV => [(5, x.2), (6, .int .i64 x.1)])
  (fun x H => x.1 ≤ n ∧ Own H (fun K => K = ([], 53006003)) x.2 1 (il (ofI a x.1))) (fun x => n - x.1) (0, .sl [] true) ?_ ⟨Nat.zero_le _, .nil⟩ ?_
 ·simp only [go_sem]
 ·simp only [go_sem]
  intro K x H ⟨hi, h3⟩ hK hE
  obtain ⟨i, p⟩ := x
  simp only at hi h3
  dsimp only
  obtain ⟨ex, ks, hz1, hz2, hks⟩ := h3.frz
  obtain ⟨hT, hC, hP, hV, hU⟩ := OwnTaint h3
  rw [condK_bool]
  refine ⟨fun h => ?_, fun h => ?_⟩
  ·have h' : i < n := by simpa using h
   have w2 : IntKind.i64.wrap ((i : Int) + 1) = (i : Int) + 1 := wrap_id (by omega)
   have hb := ofI_len a i
   simp only [go_sem, @ct E48 87 sIn rfl, sIn, callSpec, hU, hT, hC, Int.natCast_nonneg, Int.toNat_natCast]
   rw [condK_bool]
   refine ⟨fun hc => ?_, fun hc => ?_⟩
   ·simp only [go_sem, hT, hC, hP, hV, hU]
    refine app_one trivial rfl rfl (by decide) (by decide) (set_at_eq _ _ _) (h3.frame fun K hK => set_at_ne _ _ (by rw [hK]; simp)) rfl (by rw [il_length]; show ((ofI a i).length + 1) * 8 ≤ _; omega) (il_row _) ⟨rfl, rfl⟩ fun p' H' hO hF => ?_
    obtain ⟨hT', hC', hP', hV', hU'⟩ := OwnTaint hO
    simp only [go_sem, hT', hC', hP', hV', hU']
    refine hK (i + 1, p') _ _ ?_ ⟨h', by rw [ofI_succ, if_pos hc, il_append]; exact hO⟩ (by simp only; omega)
    simp only [go_sem, w2, Int.natCast_add, Int.natCast_one]
   ·simp only [go_sem]
    refine hK (i + 1, p) _ _ ?_ ⟨h', by rw [ofI_succ, if_neg (by simp [hc]), List.append_nil]; exact h3⟩ (by simp only; omega)
    simp only [go_sem, w2, Int.natCast_add, Int.natCast_one]
  ·have h' : i = n := by have : ¬ ((i : Int) < (n : Int)) := by simpa using h
                         omega
   subst h'
   refine hE _ _ _ (by simp) ?_
   simp only [go_sem, hU]
   exact h3.fin
def t53 : Spec := spec2 (fun (_ n : Int) => 0 ≤ n ∧ n ≤ 62) (fun a n => .sl (il (ofI a n.toNat)) false)
theorem t53_ok : SpecOK Tryz.prog glB 53 t53 := spec2_ok E48_ok Tryz.func53 rfl (by kernel_rfl) fun a n h => by
 obtain ⟨h3, h4⟩ := h
 obtain ⟨b, rfl⟩ := Int.eq_ofNat_of_zero_le h3
 exact Of_fn a b (by omega)
noncomputable def E49t : List (Nat × Spec) := [(53, t53)] ++ E48t
theorem E49t_ok : AllOK E49t := ⟨⟨t53_ok, Tryz.call53⟩, E48t_ok⟩
noncomputable def E49 : Env := mkE E49t []
theorem E49_ti {t : Nat} : E49.ti t = ti t := rfl
theorem E49_e {t : Nat} : E49.eqt t = eqB t := rfl
theorem E49_k {t : Nat} : E49.keyt t = keyB t := rfl
theorem E49_g {t : Nat} : E49.glob t = glB t := rfl
attribute [go_sem] E49_ti E49_e E49_k E49_g
def t100 : Spec := spec2 (fun (_ n : Int) => 0 ≤ n ∧ n ≤ 62) (fun a n => .int .i64 (ofI a n.toNat).length)
theorem ofI_ten (a : Int) : (ofI a 10).length = countF (readB a) := by
 unfold ofI countF readB
 rw [List.length_map, show List.range 10 = [0, 1, 2, 3, 4, 5, 6, 7, 8, 9] from rfl]
 show _ = (([((0 : Nat) : Int), ((1 : Nat) : Int), ((2 : Nat) : Int), ((3 : Nat) : Int), ((4 : Nat) : Int), ((5 : Nat) : Int), ((6 : Nat) : Int), ((7 : Nat) : Int), ((8 : Nat) : Int), ((9 : Nat) : Int)].map (inF a)).filter id).length
 rw [List.filter_map, List.length_map]
 rw [show ([((0 : Nat) : Int), ((1 : Nat) : Int), ((2 : Nat) : Int), ((3 : Nat) : Int), ((4 : Nat) : Int), ((5 : Nat) : Int), ((6 : Nat) : Int), ((7 : Nat) : Int), ((8 : Nat) : Int), ((9 : Nat) : Int)] : List Int) = [0, 1, 2, 3, 4, 5, 6, 7, 8, 9].map (fun (k : Nat) => (k : Int)) from rfl, List.filter_map, List.length_map]
 rfl
theorem ofI_four {a : Int} (h : 1 ≤ a ∧ a ≤ 15) : (ofI a 4).length = countF (readB a) := by
 obtain ⟨n, rfl⟩ := Int.eq_ofNat_of_zero_le (by omega : 0 ≤ a)
 have key : ∀ n ∈ List.range 16, (ofI (n : Int) 4).length = countF (readB (n : Int)) := by decide +kernel
 exact key n (List.mem_range.2 (by omega))
noncomputable def E50t : List (Nat × Spec) := [(100, t100), (14, t14)] ++ E49t
noncomputable def E50 : Env := mkE E50t []
theorem E50_ti {t : Nat} : E50.ti t = ti t := rfl
theorem E50_e {t : Nat} : E50.eqt t = eqB t := rfl
theorem E50_k {t : Nat} : E50.keyt t = keyB t := rfl
theorem E50_g {t : Nat} : E50.glob t = glB t := rfl
attribute [go_sem] E50_ti E50_e E50_k E50_g
def t59 : Spec := spec1 GLine fun _ => .bool true
noncomputable def E51t : List (Nat × Spec) := [(59, t59)] ++ E50t
noncomputable def E51 : Env := mkE E51t []
theorem E51_ti {t : Nat} : E51.ti t = ti t := rfl
theorem E51_e {t : Nat} : E51.eqt t = eqB t := rfl
theorem E51_k {t : Nat} : E51.keyt t = keyB t := rfl
theorem E51_g {t : Nat} : E51.glob t = glB t := rfl
attribute [go_sem] E51_ti E51_e E51_k E51_g
def t13 : Spec := spec1 LOk fun x => .bool (lettOk x)
theorem Mn.cost {x : Lett} {d : Int} {o : Ord2} (h : Mn x d o) : x.clo ≤ co x d o ∧ co x d o ≤ x.chi := by
 obtain ⟨i, a, b, c, e, f, g, h⟩ := h
 simpa only [inSpan, Bool.and_eq_true, decide_eq_true_eq] using h
end Wb
