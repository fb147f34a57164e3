import Derived.Test.YticjjabioiilfaaGreatDoorT
import Derived.Test.YticjjabioiilfaaGreatDoorZ
set_option linter.unusedVariables false
set_option linter.unusedSimpArgs false
namespace Wb
open Go Go.Proofs Enc Row
set_option linter.unusedSimpArgs false
set_option linter.unusedVariables false
set_option maxRecDepth 20000
set_option maxHeartbeats 16000000
def Own1 (H : Heap) (S : Key → Prop) (p : PV) (sz : Nat) (rs : List (List PV)) : Prop :=
 p = .sl rs true ∨ ∃ K v, S K ∧ p = .sref K v sz rs.length false ∧ H K = some (.rows sz rs v false)
theorem Own1.frame {H H' : Heap} {S : Key → Prop} {p : PV} {sz : Nat} {rs : List (List PV)} (h : Own1 H S p sz rs) (hH : ∀ K, S K → H' K = H K) : Own1 H' S p sz rs := by
 rcases h with h | ⟨K, v, h1, h2, h3⟩
 ·exact .inl h
 ·exact .inr ⟨K, v, h1, h2, (hH K h1).trans h3⟩
theorem OwnTaint1 {H : Heap} {S : Key → Prop} {p : PV} {sz : Nat} {rs : List (List PV)} (h : Own1 H S p sz rs) : taint p = True ∧ clean p = p ∧ cellP p = true ∧ valCells p = [p] ∧ ∀ {α : Type} (kk : PV → Prg α), unt p kk = kk p := by
 rcases h with rfl | ⟨K, v, _, rfl, _⟩ <;> exact ⟨rfl, rfl, rfl, rfl, fun _ => rfl⟩
theorem app_one1 {E : Env} {K K2 : Key} {t e sz v2 : Nat} {p : PV} {rs : List (List PV)} {row : List PV} {ex ro : Bool} {q : Prop} {Q : PV → Heap → Prop} {H : Heap} {S : Key → Prop} (hq : q) (hk : (E.ti t).kind = .slice e) (hsz : (E.ti e).size = sz) (h0 : 0 < sz) (hb0 : 0 < (E.ti e).bytes)
    (hx : H K2 = some (.rows sz [row] v2 ro)) (hO : Own1 H S p sz rs) (hS : S K) (hb : (rs.length + 1) * (E.ti e).bytes ≤ 35184372088832) (hrs : ∀ row ∈ rs, row.length = sz) (hrow : row.length = sz ∧ cells1 row = true)
    (hQ : ∀ p' H', Own1 H' S p' sz (rs ++ [row]) → (∀ K', ¬ S K' → H' K' = H K') → Q p' H') : (app E K t p (.sref K2 v2 sz 1 ex)).wp q Q H := by
 subst hsz
 unfold app
 rw [hk]
 refine ⟨fun _ => h0, ?_⟩
 simp only [rowsOf, frz, Prg.wp, hx]
 refine ⟨fun _ => by simp, fun _ => fun r hr => by rw [List.mem_singleton.1 hr]; exact hrow, ?_⟩
 rcases hO with rfl | ⟨K', v, h1, rfl, h2⟩
 ·refine ⟨fun _ => ⟨rfl, .inl (List.cons_ne_nil _ _), hrs, h0, hb0, hb⟩, fun v => rfl, ?_⟩
  refine hQ _ _ (.inr ⟨K, verOf H K + 1, hS, by simp, by simp [Heap.set]⟩) fun K' hK' => set_at_ne _ _ fun e => hK' (e ▸ hS)
 ·simp only [Prg.wp, h2]
  refine ⟨fun _ => ⟨trivial, trivial, trivial, trivial, h0, hb0, hb⟩, fun _ => trivial, hq, ?_⟩
  exact hQ _ _ (.inr ⟨K', v + 1, h1, by simp, by simp [Heap.set]⟩) fun K2 hK2 => set_at_ne _ _ fun e => hK2 (e ▸ h1)
theorem thaw_own1 {τ : List PV} {H : Heap} {i : Nat} {S : Key → Prop} {p : PV} {sz : Nat} {rs : List (List PV)} (hp : τ[i]? = some p) (hO : Own1 H S p sz rs) :
    ∃ ex H', (∀ τ', fg τ' (τ.set i (.sl rs ex)) → ThawS τ' H' τ H) ∧ ∀ K, ¬ S K → H' K = H K := by
 rcases hO with rfl | ⟨K, v, h1, rfl, h3⟩
 ·refine ⟨true, H, fun τ' hf => .of_fg ?_, fun _ _ => rfl⟩
  have e : τ.set i (.sl rs true) = τ := by
   refine List.ext_getElem? fun k => ?_
   rw [List.getElem?_set]
   by_cases h : i = k
   ·subst h
    rw [if_pos rfl, hp]
    have := (List.getElem?_eq_some_iff.1 hp).1
    rw [if_pos this]
   ·rw [if_neg h]
  rwa [e] at hf
 ·obtain ⟨H', a, b⟩ := thaw_sref (ex := false) (n := rs.length) hp h3 rfl
  exact ⟨false, H', a, fun K' hK' => b K' fun e => hK' (e ▸ h1)⟩
def cutP (lo hi c : Int) : Bool := decide (c > lo) && decide (c ≤ hi)
def cutsR (x : Lett) : List Int := x.dlo :: x.rack.issues.flatMap fun y => (ends3 y).filter (cutP x.dlo x.dhi)
def uStep (day u c : Int) : Int := if c > day then (if c - 1 < u then c - 1 else u) else u
def partsR (x : Lett) : List (Int × Int) := (List.range (turnsM x).length).map fun q => ((turnsM x).getD q 0, lastT x (turnsM x) q)
theorem filt_take1 {α : Type} [Inhabited α] (p : α → Bool) {l : List α} {k : Nat} (h : k < l.length) : (l.take (k + 1)).filter p = (l.take k).filter p ++ if p (l.getD k default) = true then [l.getD k default] else [] := by
 have e : l.getD k default = l[k] := by simp [h]
 rw [e, List.take_succ_eq_append_getElem h, List.filter_append]
 congr 1
 cases hp : p l[k] <;> simp [hp]
theorem uFold (day : Int) : ∀ (F : List Int) (u : Int), F.foldl (uStep day) u ≤ u ∧ (∀ c ∈ F, c > day → F.foldl (uStep day) u ≤ c - 1) ∧ (F.foldl (uStep day) u = u ∨ ∃ c ∈ F, c > day ∧ F.foldl (uStep day) u = c - 1)
 | [], u => ⟨Int.le_refl _, (fun c hc => by cases hc), .inl rfl⟩
 | a :: F, u => by
  obtain ⟨h1, h2, h3⟩ := uFold day F (uStep day u a)
  rw [List.foldl_cons]
  have h4 : uStep day u a ≤ u ∧ (a > day → uStep day u a ≤ a - 1) ∧ (uStep day u a = u ∨ a > day ∧ uStep day u a = a - 1) := by
   unfold uStep
   split
   ·split
    ·exact ⟨by omega, fun _ => Int.le_refl _, .inr ⟨by assumption, rfl⟩⟩
    ·exact ⟨Int.le_refl _, fun _ => by omega, .inl rfl⟩
   ·exact ⟨Int.le_refl _, fun h => by omega, .inl rfl⟩
  refine ⟨by omega, fun c hc hd => ?_, ?_⟩
  ·rcases List.mem_cons.1 hc with rfl | hc
   ·have := h4.2.1 hd; omega
   ·exact h2 c hc hd
  ·rcases h3 with e | ⟨c, hc, hd, e⟩
   ·rcases h4.2.2 with e2 | ⟨hd, e2⟩
    ·exact .inl (e.trans e2)
    ·exact .inr ⟨a, List.mem_cons_self .., hd, e.trans e2⟩
   ·exact .inr ⟨c, List.mem_cons_of_mem _ hc, hd, e⟩
theorem mem_cutsR {x : Lett} (hd : Days x) {c : Int} : c ∈ cutsR x ↔ c ∈ turnsM x := by
 rw [mem_turns]
 unfold cutsR rawT
 simp only [List.mem_cons, List.mem_flatMap, List.mem_filter, cutP, inSpan, Bool.and_eq_true, decide_eq_true_eq]
 constructor
 ·rintro (h | ⟨y, hy, h1, h2, h3⟩)
  ·exact .inl h
  ·exact .inr ⟨y, hy, h1, by omega, h3⟩
 ·rintro (h | ⟨y, hy, h1, h2, h3⟩)
  ·exact .inl h
  ·by_cases e : c = x.dlo
   ·exact .inl e
   ·exact .inr ⟨y, hy, h1, by omega, h3⟩
theorem turns_in {x : Lett} (hd : Days x) {t : Nat} (ht : t < (turnsM x).length) : x.dlo ≤ (turnsM x).getD t 0 ∧ (turnsM x).getD t 0 ≤ x.dhi := by
 have := turns_mem (getD_mem (0 : Int) ht)
 have := hd.le
 omega
theorem until_last {x : Lett} (hd : Days x) {t : Nat} (ht : t < (turnsM x).length) : (cutsR x).foldl (uStep ((turnsM x).getD t 0)) x.dhi = lastT x (turnsM x) t := by
 obtain ⟨h1, h2, h3⟩ := uFold ((turnsM x).getD t 0) (cutsR x) x.dhi
 have hs := List.pairwise_iff_getElem.1 (turns_sorted x)
 have hg : ∀ k (hk : k < (turnsM x).length), (turnsM x).getD k 0 = (turnsM x)[k] := fun k hk => by simp [hk]
 unfold lastT
 by_cases hl : t + 1 < (turnsM x).length
 ·rw [if_pos hl]
  have hlt : (turnsM x).getD t 0 < (turnsM x).getD (t + 1) 0 := by rw [hg t ht, hg _ hl]; exact hs t (t + 1) ht hl (by omega)
  have h4 := h2 _ ((mem_cutsR hd).2 (getD_mem (0 : Int) hl)) hlt
  have h5 := (turns_in hd hl).2
  rcases h3 with e | ⟨c, hc, hcd, e⟩
  ·omega
  ·obtain ⟨k, hk, ek⟩ := List.getElem_of_mem ((mem_cutsR hd).1 hc)
   have hkt : t < k := by
    refine Classical.byContradiction fun q => ?_
    by_cases e2 : k = t
    ·subst e2; rw [hg k hk, ek] at hcd; omega
    ·have := hs k t hk ht (by omega)
     rw [hg t ht] at hcd
     omega
   have : (turnsM x).getD (t + 1) 0 ≤ c := by
    rw [hg _ hl, ← ek]
    by_cases e3 : k = t + 1
    ·subst e3; exact Int.le_refl _
    ·exact Int.le_of_lt (hs (t + 1) k hl hk (by omega))
   omega
 ·rw [if_neg hl]
  rcases h3 with e | ⟨c, hc, hcd, e⟩
  ·exact e
  ·exfalso
   obtain ⟨k, hk, ek⟩ := List.getElem_of_mem ((mem_cutsR hd).1 hc)
   by_cases e2 : k = t
   ·subst e2; rw [hg k hk, ek] at hcd; omega
   ·have := hs k t hk ht (by omega)
    rw [hg t ht] at hcd
    omega
def dayT (x : Lett) (t : Nat) : Int := if t < (turnsM x).length then (turnsM x).getD t 0 else x.dhi + 1
theorem dayT_le {x : Lett} (hd : Days x) {t : Nat} : dayT x t ≤ x.dhi ↔ t < (turnsM x).length := by
 unfold dayT
 split
 ·rename_i h; exact ⟨fun _ => h, fun _ => (turns_in hd h).2⟩
 ·rename_i h; exact ⟨fun q => by omega, fun q => absurd q h⟩
theorem dayT_succ {x : Lett} (t : Nat) : lastT x (turnsM x) t + 1 = dayT x (t + 1) := by
 unfold lastT dayT
 split <;> omega
theorem dayT_zero {x : Lett} (hd : Days x) : dayT x 0 = x.dlo := by
 have h0 := turns_lo x
 obtain ⟨k, hk, ek⟩ := List.getElem_of_mem h0
 unfold dayT
 rw [if_pos (by omega)]
 have hg : (turnsM x).getD 0 0 = (turnsM x)[0] := by simp [show 0 < (turnsM x).length by omega]
 have h1 := turns_in hd (t := 0) (by omega)
 by_cases e : k = 0
 ·subst e; rw [hg, ek]
 ·have := List.pairwise_iff_getElem.1 (turns_sorted x) 0 k (by omega) hk (by omega)
  omega
theorem cutsR_len (x : Lett) (k : Nat) : (x.dlo :: (x.rack.issues.take k).flatMap fun y => (ends3 y).filter (cutP x.dlo x.dhi)).length ≤ 1 + 3 * x.rack.issues.length := by
 have := take_flat (fun y => (ends3 y).filter (cutP x.dlo x.dhi)) x.rack.issues (n := 3) (fun y _ => List.length_filter_le _ _) k
 rw [List.length_cons]; omega
theorem ev_loopO {E : Env} {h : Handler} {path : List Nat} {inR : Bool} {fid : Nat} {Q : Exit → List PV → Heap → Prop} {τ : List PV} {H : Heap} {α : Type} (i : Nat) {S : Key → Prop} {p : PV} {sz : Nat} {rs : List (List PV)} (hp : τ[i]? = some p) (hO : Own1 H S p sz rs)
    (T : α → List PV) (G : α → Heap → Prop) (m : α → Nat) {c : Code} (x0 : Bool → α) (h0 : ∀ ex, fg (T (x0 ex)) (τ.set i (.sl rs ex))) (h1 : ∀ ex H', (∀ K, ¬ S K → H' K = H K) → G (x0 ex) H')
    (step : ∀ (K : Exit → List PV → Heap → Prop) (x : α) (H : Heap), G x H → (∀ y τ H H', ThawS (T y) H' τ H → G y H' → m y < m x → K .normal τ H) → (∀ e τ H, e ≠ .normal → Q e τ H → K e τ H) → ev E h path inR fid c K (T x) H) :
    ev E h path inR fid (.loop c) Q τ H := by
 obtain ⟨ex, H', a, b⟩ := thaw_own1 hp hO
 exact ev_loopT T G m (x0 ex) (a _ (h0 ex)) (h1 ex H' b) step
theorem parts_row : ∀ (l : List (Int × Int)), ∀ row ∈ l.map encS, row.length = 2 := fun l row h => by
 obtain ⟨a, _, rfl⟩ := List.mem_map.1 h; rfl
theorem times_fn (x : Lett) (hX : GL x) : Fn E62 0 85 Tryz.f85 (Tryz.f85.body.getD .skip) [.agg (encLt x)] (.sl ((partsR x).map encS) false) := by
 unfold Fn Tryz.f85
 have hx0 := encLt_lit x
 have hd := hX.days
 have hdlo := hd.lo
 have hdhi := hd.hi
 have hdle := hd.le
 have hR4 := hX.rack.len
 have hF0 := cutsR_len x
 simp only [go_sem, hx0]
 refine ev_loopT (fun z : Nat × PV => [.undef, .ref ([], 85000000) 1 0, .undef, z.2, .int .i64 z.1] ++ List.replicate 106 .undef)
  (fun z H => z.1 ≤ x.rack.issues.length ∧ H ([], 85000000) = some (.cells (encLt x) 1 false) ∧ Own1 H (fun K => K = ([], 85011006)) z.2 1 (il (x.dlo :: (x.rack.issues.take z.1).flatMap fun y => (ends3 y).filter (cutP x.dlo x.dhi)))) (fun z => x.rack.issues.length - z.1)
  (0, .sl (il [x.dlo]) true) (thaw_slot2 (i := 3) (rs := [[.int .i64 x.dlo]]) rfl (set_at_eq _ _ _) rfl ?_) ⟨Nat.zero_le _, ?_, .inl (by simp)⟩ ?_
 ·simp only [go_sem, il, List.map_cons, List.map_nil, Int.natCast_zero]
 ·simp only [go_sem, hx0]
 ·rintro K ⟨i, p⟩ H ⟨hi, h1, h2⟩ hK hE
  simp only at hi h2
  obtain ⟨hT, hC, hP, hV, hU⟩ := OwnTaint1 h2
  simp only [go_sem, h1, hx0, List.length_map]
  rw [condK_bool]
  refine ⟨fun h => ?_, fun h => ?_⟩
  ·have hi' : i < x.rack.issues.length := by have := of_decide_eq_true h; omega
   have hii : ((i : Int) < (x.rack.issues.length : Int)) = True := eq_true (by omega)
   have hi0 : (0 ≤ (i : Int)) = True := eq_true (by omega)
   have w2 : IntKind.i64.wrap ((i : Int) + 1) = (i : Int) + 1 := wrap_id (by omega)
   have gy := hX.rack.issues _ (getD_mem default hi')
   have hfm := flatMap_take (fun y => (ends3 y).filter (cutP x.dlo x.dhi)) hi'
   have hFi := hF0 i
   generalize hB : (x.rack.issues.take i).flatMap (fun y => (ends3 y).filter (cutP x.dlo x.dhi)) = B at hfm hFi h2
   generalize hyy : x.rack.issues.getD i default = y at gy hfm
   have gd := gy.days
   have gh := gy.held
   have w3 : IntKind.i64.wrap (y.hi + 1) = y.hi + 1 := wrap_id (by omega)
   have w4 : IntKind.i64.wrap (y.held + 1) = y.held + 1 := wrap_id (by omega)
   have hends : il (ends3 y) = [[.int .i64 y.lo], [.int .i64 (y.hi + 1)], [.int .i64 (y.held + 1)]] := rfl
   simp only [go_sem, h1, hx0, hii, hi0, Int.toNat_natCast, List.length_map, getD_mapN encI x.rack.issues i _ hi', hyy, encI, w3, w4, hT, hC, hP, hV, hU]
   generalize hv : verOf H ([], 85006010) + 1 = v
   refine ev_loopS [1, 4, 6] (fun z : Nat × PV => [(3, z.2), (7, .int .i64 z.1)]) (fun z H => z.1 ≤ 3 ∧ H ([], 85000000) = some (.cells (encLt x) 1 false) ∧ H ([], 85006010) = some (.rows 1 (il (ends3 y)) v false) ∧ Own1 H (fun K => K = ([], 85011006)) z.2 1 (il (x.dlo :: (B ++ ((ends3 y).take z.1).filter (cutP x.dlo x.dhi))))) (fun z => 3 - z.1) (0, p) ?_ ⟨Nat.zero_le _, ?_, ?_, ?_⟩ ?_
   ·simp only [go_sem, Int.natCast_zero]
   ·simp only [go_sem, h1, hx0]
   ·simp only [go_sem, hends]
   ·simp only [List.take_zero, List.filter_nil, List.append_nil]
    exact h2.frame fun K hK => by simp only [go_sem, hK]
   ·simp only [go_sem]
    rintro K2 ⟨k, p2⟩ H2 ⟨hk, k0, k1, k2⟩ hK2 hE2
    simp only at hk k2
    obtain ⟨hT2, hC2, hP2, hV2, hU2⟩ := OwnTaint1 k2
    dsimp only
    rw [condK_bool]
    refine ⟨fun h => ?_, fun h => ?_⟩
    ·have hk' : k < 3 := by have := of_decide_eq_true h; omega
     have hkk : ((k : Int) < 3) = True := eq_true (by omega)
     have hkn : (k < 3) = True := eq_true hk'
     have hk0 : (0 ≤ (k : Int)) = True := eq_true (by omega)
     have w5 : IntKind.i64.wrap ((k : Int) + 1) = (k : Int) + 1 := wrap_id (by omega)
     have hl3 : (il (ends3 y)).length = 3 := rfl
     have hft := filt_take1 (cutP x.dlo x.dhi) (l := ends3 y) (k := k) hk'
     rw [show (default : Int) = 0 from rfl] at hft
     have hfl : (((ends3 y).take k).filter (cutP x.dlo x.dhi)).length ≤ 3 := by
      refine Nat.le_trans (List.length_filter_le _ _) ?_
      rw [List.length_take]; exact Nat.min_le_right ..
     have hgd := il_getD (ends3 y) k
     generalize hcc : (ends3 y).getD k 0 = c at hft hgd
     have hbb : (decide (c > x.dlo) && decide (c ≤ x.dhi)) = cutP x.dlo x.dhi c := rfl
     simp only [go_sem, k0, k1, hx0, hkk, hkn, hk0, hl3, hgd, Int.toNat_natCast]
     rw [condK_bool, hbb]
     refine ⟨fun hc => ?_, fun hc => ?_⟩
     ·rw [if_pos hc] at hft
      simp only [go_sem, k0, k1, hx0, hkk, hkn, hk0, hl3, hgd, Int.toNat_natCast, hT2, hC2, hP2, hV2, hU2]
      refine app_one1 trivial rfl rfl (by decide) (by decide) (set_at_eq _ _ _) (k2.frame fun K hK => set_at_ne _ _ (by rw [hK]; simp)) rfl (by rw [il_length, List.length_cons, List.length_append]; simp only [List.length_cons] at hFi; show (_ + 1) * 8 ≤ _; omega) (il_row _) ⟨rfl, rfl⟩ fun p' H' hO hF => ?_
      obtain ⟨hT', hC', hP', hV', hU'⟩ := OwnTaint1 hO
      simp only [go_sem, hT', hC', hP', hV', hU']
      refine hK2 (k + 1, p') _ _ ?_ ⟨by simp only; omega, (hF _ (by simp)).trans ((set_at_ne _ _ (by simp)).trans k0), (hF _ (by simp)).trans ((set_at_ne _ _ (by simp)).trans k1), by rw [show il (x.dlo :: (B ++ ((ends3 y).take (k + 1)).filter (cutP x.dlo x.dhi))) = il (x.dlo :: (B ++ ((ends3 y).take k).filter (cutP x.dlo x.dhi))) ++ [[.int .i64 c]] from by rw [hft, ← List.append_assoc, ← List.cons_append, il_append]; rfl]; exact hO⟩ (by simp only; omega)
      simp only [go_sem, w5, Int.natCast_add, Int.natCast_one]
     ·rw [if_neg (by simp [hc]), List.append_nil] at hft
      simp only [go_sem]
      refine hK2 (k + 1, p2) _ _ ?_ ⟨by simp only; omega, k0, k1, by rw [hft]; exact k2⟩ (by simp only; omega)
      simp only [go_sem, w5, Int.natCast_add, Int.natCast_one]
    ·have hk' : k = 3 := by have : ¬ ((k : Int) < 3) := by simpa using h
                            omega
     subst hk'
     have h3t : (ends3 y).take 3 = ends3 y := rfl
     rw [h3t, ← hfm] at k2
     refine hE2 _ _ _ (by simp) ?_
     simp only [go_sem, hT2, hC2, hP2, hV2, hU2]
     refine hK (i + 1, p2) _ _ _ (.of_fg ?_) ⟨hi', k0, k2⟩ (by simp only; omega)
     simp only [go_sem, w2, Int.natCast_add, Int.natCast_one]
  ·have hi' : i = x.rack.issues.length := by have : ¬ ((i : Int) < (x.rack.issues.length : Int)) := by simpa using h
                                             omega
   subst hi'
   rw [List.take_length] at h2
   have hFc : (x.dlo :: x.rack.issues.flatMap fun y => (ends3 y).filter (cutP x.dlo x.dhi)) = cutsR x := rfl
   have hFl := hF0 x.rack.issues.length
   rw [List.take_length, hFc] at hFl
   rw [hFc] at h2
   refine hE _ _ _ (by simp) ?_
   simp only [go_sem, h1, hx0]
   refine ev_loopO 3 rfl h2 (fun z : Nat × PV × Bool => [.undef, .ref ([], 85000000) 1 0, .undef, .sl (il (cutsR x)) z.2.2, .undef, .undef, .undef, .undef, z.2.1, .int .i64 (dayT x z.1)] ++ List.replicate 101 .undef)
    (fun z H => z.1 ≤ (turnsM x).length ∧ H ([], 85000000) = some (.cells (encLt x) 1 false) ∧ Own H (fun K => K = ([], 85021005)) z.2.1 2 (((partsR x).take z.1).map encS)) (fun z => (turnsM x).length - z.1) (fun ex => (0, .sl [] true, ex)) (fun ex => ?_) (fun ex H' hH' => ⟨Nat.zero_le _, ?_, .nil⟩) ?_
   ·simp only [go_sem, dayT_zero hd]
   ·rw [hH' _ (by simp)]; simp only [go_sem, h1]
   ·rintro K2 ⟨t, p8, ex⟩ H2 ⟨ht, t1, t2⟩ hK2 hE2
    simp only at ht t2
    obtain ⟨hT2, hC2, hP2, hV2, hU2⟩ := OwnTaint t2
    simp only [go_sem, t1, hx0]
    rw [condK_bool]
    refine ⟨fun h => ?_, fun h => ?_⟩
    ·have ht' : t < (turnsM x).length := (dayT_le hd).1 (by simpa using h)
     have hday : dayT x t = (turnsM x).getD t 0 := by unfold dayT; rw [if_pos ht']
     have hin := turns_in hd ht'
     have hun := until_last hd ht'
     have hnx := dayT_succ (x := x) t
     have hpl : (partsR x).length = (turnsM x).length := by simp [partsR]
     have hpt : (partsR x).take (t + 1) = (partsR x).take t ++ [((turnsM x).getD t 0, lastT x (turnsM x) t)] := by
      rw [List.take_succ_eq_append_getElem (by rw [hpl]; exact ht')]
      simp [partsR]
     have htn := turns_len hX.aok.t
     rw [← hday] at hun hin hpt
     have hlb := (part_same hd ht' (d := (turnsM x).getD t 0) (Int.le_refl _) (part_le hd ht')).2.1
     have hlb2 := part_le hd ht'
     rw [← hday] at hlb2
     generalize hdd : dayT x t = day at hun hin hpt hlb2 ⊢
     generalize hll : lastT x (turnsM x) t = last at hun hpt hnx hlb hlb2
     have w6 : IntKind.i64.wrap (last + 1) = dayT x (t + 1) := by rw [wrap_id (by omega)]; exact hnx
     simp only [go_sem, t1, hx0]
     refine ev_loopS [1, 3, 8, 9] (fun k : Nat => [(10, .int .i64 (((cutsR x).take k).foldl (uStep day) x.dhi)), (11, .int .i64 k)]) (fun k H => k ≤ (cutsR x).length ∧ H ([], 85000000) = some (.cells (encLt x) 1 false) ∧ Own H (fun K => K = ([], 85021005)) p8 2 (((partsR x).take t).map encS)) (fun k => (cutsR x).length - k) 0 ?_ ⟨Nat.zero_le _, ?_, t2⟩ ?_
     ·simp only [go_sem, Int.natCast_zero, List.take_zero, List.foldl_nil]
     ·simp only [go_sem, t1, hx0]
     ·simp only [go_sem, il_length]
      rintro K3 k H3 ⟨hk, k1, k2⟩ hK3 hE3
      rw [condK_bool]
      refine ⟨fun h => ?_, fun h => ?_⟩
      ·have hk' : k < (cutsR x).length := by have := of_decide_eq_true h; omega
       have hkk : ((k : Int) < ((cutsR x).length : Int)) = True := eq_true (by omega)
       have hk0 : (0 ≤ (k : Int)) = True := eq_true (by omega)
       have w5 : IntKind.i64.wrap ((k : Int) + 1) = (k : Int) + 1 := wrap_id (by omega)
       have hft := foldl_takeZ (uStep day) x.dhi hk'
       have hcm := turns_mem ((mem_cutsR hd).1 (getD_mem (0 : Int) hk'))
       generalize hcc : (cutsR x).getD k 0 = c at hft hcm
       generalize huu : ((cutsR x).take k).foldl (uStep day) x.dhi = u at hft
       have w7 : IntKind.i64.wrap (c - 1) = c - 1 := wrap_id (by omega)
       simp only [go_sem, hkk, hk0, Int.toNat_natCast, il_length, il_getD, hcc]
       rw [condK_bool]
       refine ⟨fun hc => ?_, fun hc => ?_⟩
       ·have hc' : c > day := by simpa using hc
        have hus : uStep day u c = if c - 1 < u then c - 1 else u := by unfold uStep; rw [if_pos hc']
        rw [hus] at hft
        simp only [go_sem, hkk, hk0, Int.toNat_natCast, il_length, il_getD, hcc, w7]
        refine hK3 (k + 1) _ _ ?_ ⟨hk', k1, k2⟩ (by omega)
        simp only [go_sem, w5, Int.natCast_add, Int.natCast_one, hft]
       ·have hc' : ¬ c > day := by simpa using hc
        have hus : uStep day u c = u := by unfold uStep; rw [if_neg hc']
        rw [hus] at hft
        simp only [go_sem]
        refine hK3 (k + 1) _ _ ?_ ⟨hk', k1, k2⟩ (by omega)
        simp only [go_sem, w5, Int.natCast_add, Int.natCast_one, hft]
      ·have hk' : k = (cutsR x).length := by have : ¬ ((k : Int) < ((cutsR x).length : Int)) := by simpa using h
                                             omega
       subst hk'
       rw [List.take_length, hun]
       refine hE3 _ _ _ (by simp) ?_
       simp only [go_sem, @ct E62 17 sTo rfl, sTo, callSpec, hT2, hC2, hP2, hV2, hU2]
       refine app_one trivial rfl rfl (by decide) (by decide) (set_at_eq _ _ _) (k2.frame fun K hK => set_at_ne _ _ (by rw [hK]; simp)) rfl (by rw [List.length_map, List.length_take, hpl]; show (_ + 1) * 16 ≤ _; omega) (parts_row _) ⟨rfl, rfl⟩ fun p' H' hO hF => ?_
       obtain ⟨hT', hC', hP', hV', hU'⟩ := OwnTaint hO
       simp only [go_sem, hT', hC', hP', hV', hU', w6]
       refine hK2 (t + 1, p', ex) _ _ _ (.of_fg ?_) ⟨ht', (hF _ (by simp)).trans ((set_at_ne _ _ (by simp)).trans k1), by simp only [hpt, List.map_append]; exact hO⟩ (by simp only; omega)
       simp only [go_sem]
    ·have ht' : t = (turnsM x).length := by
      have := (not_congr (dayT_le hd (t := t))).1 (by simpa using h)
      omega
     subst ht'
     have htl : (partsR x).take (turnsM x).length = partsR x := List.take_of_length_le (by simp [partsR])
     rw [htl] at t2
     refine hE2 _ _ _ (by simp) ?_
     simp only [go_sem, hT2, hC2, hP2, hV2, hU2]
     exact t2.fin
def t85 : Spec := spec1 GL fun x => .sl ((partsR x).map encS) false
theorem t85_ok : SpecOK Tryz.prog glB 85 t85 := spec1_ok E62_ok Tryz.func85 rfl (by kernel_rfl) fun x h => times_fn x h
end Wb
namespace Wb
open Go Go.Proofs Enc Row
set_option linter.unusedSimpArgs false
set_option linter.unusedVariables false
set_option maxRecDepth 20000
set_option maxHeartbeats 8000000
structure OptR where
 line : Line
 iss : Int
 costs : List Int
 deriving Inhabited, DecidableEq
def encOp (o : OptR) : List PV := [.int .i64 o.line.item.good, .int .i64 o.line.item.size, .int .i64 o.line.item.colour, .int .i64 o.line.many, .int .i64 o.iss, .sl (il o.costs) false]
def dOp : List PV → Option OptR
 | [.int .i64 a, .int .i64 b, .int .i64 c, .int .i64 d, .int .i64 e, .sl cs _] => (dL dZ cs).map fun l => ⟨⟨⟨a, b, c⟩, d⟩, e, l⟩
 | _ => none
theorem dOp_enc (o : OptR) : dOp (encOp o) = some o := by simp [dOp, encOp, dZ_il]
theorem dOp_wk (r : List PV) (o : OptR) (h : dOp r = some o) : wk.wkL r (encOp o) := by
 unfold dOp at h
 split at h
 ·simp only [Option.map_eq_some_iff] at h
  obtain ⟨l, h1, rfl⟩ := h
  exact ⟨rfl, rfl, rfl, rfl, rfl, ⟨dZ_wk h1, fun h => by cases h⟩, trivial⟩
 ·cases h
instance : Row OptR where
 row := encOp
 drow := dOp
 wk_drow := dOp_wk
 drow_row := dOp_enc
instance : Enc OptR := encOfRow OptR
theorem dec_opts (l : List OptR) (ex : Bool) : (dec (.sl (l.map encOp) ex) : Option (List OptR)) = some l := drows_rows (α := OptR) l
theorem dec_parts (l : List (Int × Int)) (ex : Bool) : (dec (.sl (l.map encS) ex) : Option (List (Int × Int))) = some l := drows_rows (α := Int × Int) l
attribute [go_sem] dec_opts dec_parts
def mR (X : Lett) (t i : Nat) : List Line := meantR (X.lines.getD t default) (X.rack.issues.getD i default)
def allR (X : Lett) (t : Nat) : List Line := putAll [] (X.rack.issues.flatMap (meantR (X.lines.getD t default)))
def issF (X : Lett) (t : Nat) (l : Line) : Nat → Int
 | 0 => 0
 | i + 1 => if l ∈ mR X t i then bits .or .i64 (issF X t l i) (shft true .i64 1 (i : Int)) else issF X t l i
def optsR (X : Lett) (t : Nat) (ps : List (Int × Int)) : List OptR := (allR X t).map fun l => ⟨l, issF X t l X.rack.issues.length, ps.map fun p => costM X.rack p.1 l⟩
theorem candR_len {y : LLine} (h : y.mhi - y.mlo ≤ 1) {g : Int} {is : Issue} (hi : GIssue g is) : (candR y is).length ≤ 1536 := by
 have h1 := flatMap_le (candE y) 64 is.entries fun e he => candE_len h (hi.entries e he).sizes.2
 have := hi.len
 unfold candR
 omega
theorem meantR_len {y : LLine} (h : y.mhi - y.mlo ≤ 1) {g : Int} {is : Issue} (hi : GIssue g is) : (meantR y is).length ≤ 1536 := by
 have h1 := putAll_len (candR y is) []
 have h2 := candR_len h hi
 unfold meantR
 simp only [List.length_nil] at h1
 omega
theorem meantR_sort (y : LLine) (is : Issue) : (meantR y is).Pairwise lineLt := putAll_sort List.Pairwise.nil
theorem nodup_of_lt {l : List Line} (h : l.Pairwise lineLt) : l.Nodup := by
 unfold List.Nodup
 refine List.Pairwise.imp (fun {a b} (hab : lineLt a b) => ?_) h
 intro e
 subst e
 exact lineLt_irrefl a hab
theorem allR_len {X : Lett} (hX : GL X) {t : Nat} (ht : t < X.lines.length) (k : Nat) : ((X.rack.issues.take k).flatMap (meantR (X.lines.getD t default))).length ≤ 6144 := by
 have gl := hX.line _ (getD_mem default ht)
 have h1 := take_flat (meantR (X.lines.getD t default)) X.rack.issues (n := 1536) (fun y hy => meantR_len gl.many.2.2.2 (hX.rack.issues y hy)) k
 have := hX.rack.len
 omega
theorem allR_sort (X : Lett) (t : Nat) : (allR X t).Pairwise lineLt := putAll_sort List.Pairwise.nil
theorem mem_allR {X : Lett} {t : Nat} {l : Line} : l ∈ allR X t ↔ ∃ i, i < X.rack.issues.length ∧ l ∈ mR X t i := by
 unfold allR mR
 rw [putAll_mem]
 simp only [List.not_mem_nil, false_or, List.mem_flatMap]
 constructor
 ·rintro ⟨y, hy, h⟩
  obtain ⟨i, hi, e⟩ := List.getElem_of_mem hy
  exact ⟨i, hi, by rw [show X.rack.issues.getD i default = y by simp [hi, e]]; exact h⟩
 ·rintro ⟨i, hi, h⟩
  exact ⟨_, getD_mem default hi, h⟩
theorem issF_bits (X : Lett) (t : Nat) (l : Line) : ∀ n : Nat, n ≤ 8 → ∃ m : Nat, issF X t l n = (m : Int) ∧ m < 2 ^ n ∧ ∀ d : Nat, inF (m : Int) (d : Int) = (decide (d < n) && decide (l ∈ mR X t d))
 | 0, _ => ⟨0, rfl, by simp, fun d => by
     have := inF_nat (a := 0) (k := d) (by decide)
     rw [this]; simp⟩
 | n + 1, h => by
  obtain ⟨m, h1, h2, h3⟩ := issF_bits X t l n (by omega)
  have hm : m < 2 ^ 62 := Nat.lt_of_lt_of_le h2 (Nat.pow_le_pow_right (by decide) (by omega))
  unfold issF
  by_cases hl : l ∈ mR X t n
  ·rw [if_pos hl]
   obtain ⟨k, e1, e2, e3⟩ := or_bit (a := issF X t l n) (by rw [h1]; omega) (by rw [h1]; exact Int.ofNat_lt.2 hm) (b := n) (by omega)
   refine ⟨k, e1, ?_, fun d => ?_⟩
   ·refine Nat.lt_pow_two_of_testBit _ fun i hi => ?_
    have := e3 i
    rw [inF_nat e2, h1, h3 i] at this
    rw [this]
    have a1 : decide (i < n) = false := decide_eq_false (by omega)
    have a2 : decide (n = i) = false := decide_eq_false (by omega)
    rw [a1, a2]; rfl
   ·rw [e3 d, h1, h3 d]
    by_cases hd : n = d
    ·subst hd; simp [hl]
    ·have : (d < n + 1) ↔ (d < n) := by omega
     simp [hd, this]
  ·rw [if_neg hl]
   refine ⟨m, h1, Nat.lt_of_lt_of_le h2 (Nat.pow_le_pow_right (by decide) (by omega)), fun d => ?_⟩
   rw [h3 d]
   by_cases hd : d = n
   ·subst hd; simp [hl]
   ·have : (d < n + 1) ↔ (d < n) := by omega
    simp [this]
def optRow (l : Line) (s : Int) (c : PV) : List PV := [.int .i64 l.item.good, .int .i64 l.item.size, .int .i64 l.item.colour, .int .i64 l.many, .int .i64 s, c]
def rows2 (A : List Line) (S : List Int) (C : List PV) : List (List PV) := (List.range A.length).map fun q => optRow (A.getD q default) (S.getD q 0) (C.getD q (.sl [] true))
theorem rows2_len (A : List Line) (S : List Int) (C : List PV) : (rows2 A S C).length = A.length := by simp [rows2]
theorem rows2_get {A : List Line} {S : List Int} {C : List PV} {k : Nat} (h : k < A.length) (z : List PV) : (rows2 A S C).getD k z = optRow (A.getD k default) (S.getD k 0) (C.getD k (.sl [] true)) := by
 simp [rows2, h]
theorem rows2_setS {A : List Line} {S : List Int} {C : List PV} {k : Nat} (h : k < A.length) (hS : S.length = A.length) (v : Int) : (rows2 A S C).set k (optRow (A.getD k default) v (C.getD k (.sl [] true))) = rows2 A (S.set k v) C := by
 refine List.ext_getElem (by simp [rows2]) fun q h1 h2 => ?_
 simp only [List.length_set, rows2_len] at h1
 by_cases e : k = q
 ·subst e
  simp [rows2, hS, h]
 ·simp [rows2, List.getElem_set, e, List.getElem?_set]
theorem rows2_setC {A : List Line} {S : List Int} {C : List PV} {k : Nat} (h : k < A.length) (hC : C.length = A.length) (c : PV) : (rows2 A S C).set k (optRow (A.getD k default) (S.getD k 0) c) = rows2 A S (C.set k c) := by
 refine List.ext_getElem (by simp [rows2]) fun q h1 h2 => ?_
 simp only [List.length_set, rows2_len] at h1
 by_cases e : k = q
 ·subst e
  simp [rows2, hC, h]
 ·simp [rows2, List.getElem_set, e, List.getElem?_set]
theorem rows2_zero (A : List Line) : A.map (fun l => optRow l 0 (.sl [] true)) = rows2 A (List.replicate A.length 0) (List.replicate A.length (.sl [] true)) := by
 refine List.ext_getElem (by simp [rows2]) fun q h1 h2 => ?_
 simp only [List.length_map] at h1
 simp [rows2, h1]
theorem rows2_fin {A : List Line} {S : List Int} {C : List PV} {f : Line → Int} {g : Line → List Int} (hS : ∀ q, q < A.length → S.getD q 0 = f (A.getD q default)) (hC : C = A.map fun l => .sl (il (g l)) false) :
    rows2 A S C = (A.map fun l => (⟨l, f l, g l⟩ : OptR)).map encOp := by
 refine List.ext_getElem (by simp [rows2]) fun q h1 h2 => ?_
 have h1' : q < A.length := by rw [rows2_len] at h1; exact h1
 have hq := hS q h1'
 subst hC
 simp only [rows2, List.getElem_map, List.getElem_range, hq, optRow, encOp]
 simp [h1']
def cK (A : List Line) (cs : Line → List Int) (k : Nat) : List PV := (A.take k).map (fun l => PV.sl (il (cs l)) false) ++ List.replicate (A.length - k) (.sl [] true)
theorem cK_len {A : List Line} (cs : Line → List Int) {k : Nat} (h : k ≤ A.length) : (cK A cs k).length = A.length := by
 simp only [cK, List.length_append, List.length_map, List.length_take, List.length_replicate]; omega
theorem cK_zero (A : List Line) (cs : Line → List Int) : cK A cs 0 = List.replicate A.length (.sl [] true) := by simp [cK]
theorem cK_all (A : List Line) (cs : Line → List Int) : cK A cs A.length = A.map fun l => PV.sl (il (cs l)) false := by simp [cK]
theorem cK_get {A : List Line} (cs : Line → List Int) {k : Nat} (h : k < A.length) : (cK A cs k).getD k (.sl [] true) = .sl [] true := by
 unfold cK
 rw [List.getD_eq_getElem?_getD, List.getElem?_append_right (by rw [List.length_map, List.length_take]; omega), List.length_map, List.length_take]
 rw [List.getElem?_replicate]
 split <;> rfl
theorem cK_set {A : List Line} (cs : Line → List Int) {k : Nat} (h : k < A.length) : (cK A cs k).set k (.sl (il (cs (A.getD k default))) false) = cK A cs (k + 1) := by
 unfold cK
 have e : A.getD k default = A[k] := by simp [h]
 have hl : ((A.take k).map (fun l => PV.sl (il (cs l)) false)).length = k := by rw [List.length_map, List.length_take]; omega
 rw [List.set_append_right _ _ (by omega), hl, Nat.sub_self, show A.length - k = (A.length - (k + 1)) + 1 by omega, List.replicate_succ, List.set_cons_zero, List.take_succ_eq_append_getElem h, List.map_append, e, List.append_assoc]
 rfl
end Wb
