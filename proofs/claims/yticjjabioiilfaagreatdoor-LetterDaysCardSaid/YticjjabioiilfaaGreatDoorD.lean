import Derived.Test.YticjjabioiilfaaGreatDoorC
import Derived.Test.YticjjabioiilfaaGreatDoorB
set_option linter.unusedVariables false
set_option linter.unusedSimpArgs false
namespace Wb
open Go Go.Proofs Enc Row
set_option linter.unusedSimpArgs false
set_option linter.unusedVariables false
set_option maxRecDepth 20000
set_option maxHeartbeats 4000000
noncomputable def E3 : Env := mkE E2t [(190, Tryz.f190)]
theorem E3_ok : EnvOK Tryz.prog E3 := envOK E2t_ok ⟨⟨Tryz.func190, Tryz.call190, by kernel_rfl⟩, trivial⟩
theorem E3_ti {t : Nat} : E3.ti t = ti t := rfl
theorem E3_e {t : Nat} : E3.eqt t = eqB t := rfl
theorem E3_k {t : Nat} : E3.keyt t = keyB t := rfl
theorem E3_g {t : Nat} : E3.glob t = glB t := rfl
attribute [go_sem] E3_ti E3_e E3_k E3_g
theorem E3_i107 : E3.inl 190 = some Tryz.f190 := rfl
def entPV : Option Entry → PV
 | some e => .agg (encE e)
 | none => .agg [.int .i64 0, .int .i64 0, .int .i64 0, .sl [] true]
def entryOf (good : Int) : List Entry → Option Entry
 | [] => none
 | e :: l => if e.good == good then some e else entryOf good l
theorem key_ne {K : Key} {path : List Nat} {s : Nat} (h : K.1.length < path.length) : (K = (path, s)) = False := by
 apply eq_false; rintro rfl; simp at h
theorem entryOf_drop (good : Int) {l : List Entry} {i : Nat} (h : i < l.length) : entryOf good (l.drop i) = if (l.getD i default).good == good then some (l.getD i default) else entryOf good (l.drop (i + 1)) := by
 rw [List.drop_eq_getElem_cons h]
 simp [entryOf, h]
theorem rec107 (good : Int) (l : List Entry) (hl : l.length ≤ 24) (K8 K5 K9 : Key) : ∀ (j k fuel : Nat) (path : List Nat) (H : Heap) (Q : PV → Heap → Prop), k + j = l.length → j < fuel →
    K8.1.length < path.length → K5.1.length < path.length → K9.1.length < path.length →
    H K8 = some (.cells [.sl (l.map encE) false] 1 false) → H K5 = some (.cells [.int .i64 good] 1 false) → H K9 = some (.cells [.fn 190 [] [.ref K8 1 0, .ref K5 1 0, .ref K9 1 0]] 1 false) →
    (∀ H', (∀ K, K.1.length < path.length → H' K = H K) → Q (.tup [entPV (entryOf good (l.drop k)), .bool (entryOf good (l.drop k)).isSome]) H') →
    callN E3 fuel path (.fn 190 [] []) [.int .i64 k, .ref K8 1 0, .ref K5 1 0, .ref K9 1 0] H Q := by
 intro j
 induction j with
 | zero =>
  intro k fuel path H Q hk hf p8 p5 p9 h8 h5 h9 hQ
  obtain ⟨n, rfl⟩ : ∃ n, fuel = n + 1 := ⟨fuel - 1, by omega⟩
  simp only [callN, E3_i107, Tryz.f190]
  simp only [go_sem, key_ne p8, key_ne p5, key_ne p9, h8, h5, h9]
  have hk : k = l.length := by omega
  subst hk
  simp only [beq_self_eq_true, go_sem]
  rw [List.drop_length] at hQ
  refine hQ _ fun K hK => ?_
  simp only [set_at, key_ne hK, if_false]
 | succ j ih =>
  intro k fuel path H Q hk hf p8 p5 p9 h8 h5 h9 hQ
  obtain ⟨n, rfl⟩ : ∃ n, fuel = n + 1 := ⟨fuel - 1, by omega⟩
  simp only [callN, E3_i107, Tryz.f190]
  have hlt : k < l.length := by omega
  have hi : (k : Int) < (l.length : Int) := by omega
  have hb : ((k : Int) == (l.length : Int)) = false := by simp; omega
  have w1 : IntKind.i64.wrap ((k : Int) + 1) = (k : Int) + 1 := wrap_id (by omega)
  have hg := getD_mapN encE l k
  simp only [go_sem, key_ne p8, key_ne p5, key_ne p9, h8, h5, h9, hb, hi, getD_mapN encE l k _ hlt, encE]
  rw [entryOf_drop good hlt] at hQ
  rw [condK_bool]
  refine ⟨fun h => ?_, fun h => ?_⟩
  ·simp only [go_sem, key_ne p8, key_ne p5, key_ne p9, h8, h5, h9, hb, hi, getD_mapN encE l k _ hlt, encE]
   rw [if_pos h] at hQ
   simp only [entPV, encE, Option.isSome] at hQ
   refine hQ _ fun K hK => ?_
   simp only [set_at, key_ne hK, if_false]
  ·simp only [go_sem, key_ne p8, key_ne p5, key_ne p9, h8, h5, h9, hb, hi, getD_mapN encE l k _ hlt, encE, w1, @callV_in E3 190 rfl, heavy_none]
   rw [if_neg (by rw [h]; simp)] at hQ
   have e1 : ∀ K : Key, K.1.length < (190005003 :: path).length → K ≠ (path, 190000000) → (H.set (path, 190000000) (.cells [.int .i64 0, .int .i64 0, .int .i64 0, .sl [] true] (verOf H (path, 190000000) + 1) false)) K = H K := fun K _ h => by simp [set_at, h]
   refine ih (k + 1) n _ _ _ (by omega) (by omega) (by simp; omega) (by simp; omega) (by simp; omega) ?_ ?_ ?_ fun H' hH' => ?_
   ·simp only [set_at, key_ne p8, if_false, h8]
   ·simp only [set_at, key_ne p5, if_false, h5]
   ·simp only [set_at, key_ne p9, if_false, h9]
   ·have e := hH' (path, 190000000) (by simp)
    rw [set_at, if_pos rfl] at e
    generalize hr : entryOf good (List.drop (k + 1) l) = r at hQ ⊢
    cases r with
    | none =>
     simp only [entPV, Option.isSome, go_sem, e]
     refine hQ _ fun K hK => ?_
     simp only [set_at, key_ne hK, if_false]
     exact (hH' K (by simp; omega)).trans (by simp only [set_at, key_ne hK, if_false])
    | some x =>
     simp only [entPV, encE, Option.isSome, go_sem, e]
     refine hQ _ fun K hK => ?_
     simp only [set_at, key_ne hK, if_false]
     exact (hH' K (by simp; omega)).trans (by simp only [set_at, key_ne hK, if_false])
theorem entry_fn73 (g : Int) (l : List Issue) (m : PV) (hm : cellP m = true) (i : Nat) (hi : i < l.length) (good : Int) (hl : (l.getD i default).entries.length ≤ 24) :
    Fn E3 30 165 Tryz.f165 (Tryz.f165.body.getD .skip) [.agg [.int .i64 g, .sl (l.map encI) false, m], .int .i64 i, .int .i64 good]
      (.tup [entPV (entryOf good (l.getD i default).entries), .bool (entryOf good (l.getD i default).entries).isSome]) := by
 unfold Fn Tryz.f165
 simp only [go_sem, getD_mapN encI l i _ hi, encI, hm, @callV_in E3 190 rfl, heavy_none, Int.ofNat_lt, hi]
 refine rec107 good _ hl _ _ _ _ 0 30 _ _ _ (Nat.zero_add _) (by omega) (by simp) (by simp) (by simp) ?_ ?_ ?_ fun H' hH' => ?_
 ·simp only [go_sem]
 ·simp only [go_sem]
 ·simp only [go_sem]
 ·have e0 := hH' ([], 165000002) (by simp)
  simp only [go_sem] at e0
  rw [List.drop_zero]
  generalize entryOf good (l.getD i default).entries = r
  cases r with
  | none => simp only [go_sem, e0, entPV, Option.isSome]
  | some x => simp only [go_sem, e0, entPV, Option.isSome, encE]
def s73 : Spec := spec3 (fun (x : Calc) (i good : Int) => 0 ≤ i ∧ i < x.r.issues.length ∧ ∀ y ∈ x.r.issues, y.entries.length ≤ 24)
 (fun x i good => .tup [entPV (entryOf good (x.r.issues.getD i.toNat default).entries), .bool (entryOf good (x.r.issues.getD i.toNat default).entries).isSome])
theorem s73_ok : SpecOK Tryz.prog glB 165 s73 := spec3_ok E3_ok Tryz.func165 rfl (by kernel_rfl) fun x i good h => by
 obtain ⟨h2, h3, h4⟩ := h
 obtain ⟨k, rfl⟩ := Int.eq_ofNat_of_zero_le h2
 have hk : k < x.r.issues.length := by omega
 exact entry_fn73 _ _ (.mp true 2 x.es) rfl k hk good (h4 _ (by simp [List.getD_eq_getElem?_getD, hk]))
def col (c : Int) (i : Nat) : List PV := [.bool (decide (0 < i) && inF c 0), .bool (decide (1 < i) && inF c 1), .bool (decide (2 < i) && inF c 2), .bool (decide (3 < i) && inF c 3)]
theorem shown_fn (y : Entry) : Fn E2 0 166 Tryz.f166 (Tryz.f166.body.getD .skip) [.agg (encE y)] (.agg (col y.colours 4)) := by
 unfold Fn Tryz.f166
 simp only [go_sem, encE]
 refine ev_loopS [1, 2, 3] (fun i : Nat => [(5, .int .i64 i)]) (fun i H => i ≤ 4 ∧ H (([], 166000000) : Key) = some (.cells (encE y) 1 false) ∧ H (([], 166000001) : Key) = some (.cells (col 0 0) 1 false) ∧ H (([], 166001000) : Key) = some (.cells (col y.colours i) 1 false)) (fun i => 4 - i) 0 ?_ ⟨by omega, ?_, ?_, ?_⟩ ?_
 ·simp only [go_sem]
 ·simp only [go_sem, encE]
 ·simp only [go_sem, col]
 ·simp only [go_sem, col]
 ·simp only [go_sem]
  intro K i H ⟨hi, h1, h2, h3⟩ hK hE
  have hc : i = 0 ∨ i = 1 ∨ i = 2 ∨ i = 3 ∨ i = 4 := by omega
  rcases hc with rfl | rfl | rfl | rfl | rfl
  ·simp only [go_sem, h1, h3, col, encE, Int.cast_ofNat_Int]
   refine hK 1 _ _ ?_ ⟨by omega, ?_, ?_, ?_⟩ (by omega)
   ·simp only [go_sem]; rfl
   ·simp only [go_sem, h1, encE]
   ·simp only [go_sem, h2]
   ·simp only [go_sem, col, inF]
  ·simp only [go_sem, h1, h3, col, encE, Int.cast_ofNat_Int]
   refine hK 2 _ _ ?_ ⟨by omega, ?_, ?_, ?_⟩ (by omega)
   ·simp only [go_sem]; rfl
   ·simp only [go_sem, h1, encE]
   ·simp only [go_sem, h2]
   ·simp only [go_sem, col, inF]
  ·simp only [go_sem, h1, h3, col, encE, Int.cast_ofNat_Int]
   refine hK 3 _ _ ?_ ⟨by omega, ?_, ?_, ?_⟩ (by omega)
   ·simp only [go_sem]; rfl
   ·simp only [go_sem, h1, encE]
   ·simp only [go_sem, h2]
   ·simp only [go_sem, col, inF]
  ·simp only [go_sem, h1, h3, col, encE, Int.cast_ofNat_Int]
   refine hK 4 _ _ ?_ ⟨by omega, ?_, ?_, ?_⟩ (by omega)
   ·simp only [go_sem]; rfl
   ·simp only [go_sem, h1, encE]
   ·simp only [go_sem, h2]
   ·simp only [go_sem, col, inF]
  ·simp only [go_sem, h1, h3, col, encE, Int.cast_ofNat_Int]
   refine hE _ _ _ (by simp) ?_
   simp only [go_sem, h2, h3, col]
def s111 : Spec := spec1 (fun (_ : Entry) => True) (fun y => .agg (col y.colours 4))
theorem s111_ok : SpecOK Tryz.prog glB 166 s111 := spec1_ok E2_ok Tryz.func166 rfl (by kernel_rfl) fun y _ => shown_fn y
theorem ofSize1_fn (f : Fit) (n : Int) : Fn E2 0 191 Tryz.f191 (Tryz.f191.body.getD .skip) [.agg (encF f), .eref [.int .i64 n] 0] (.bool (f.size == n)) := by
 unfold Fn Tryz.f191
 simp only [go_sem, encF]
def s127 : Spec := spec2 (fun (_ : Fit) (_ : Rf Int) => True) (fun f n => .bool (f.size == n.v))
theorem s127_ok : SpecOK Tryz.prog glB 191 s127 := spec2_ok E2_ok Tryz.func191 rfl (by kernel_rfl) fun f n _ => ofSize1_fn f n.v
theorem ofSize_fn (n : Int) : Fn E2 0 168 Tryz.f168 (Tryz.f168.body.getD .skip) [.int .i64 n] (.agg [.fn 191 [] [.eref [.int .i64 n] 0]]) := by
 unfold Fn Tryz.f168
 simp only [go_sem, encF]
def s112 : Spec := spec1 (fun (_ : Int) => True) (fun n => .agg [.fn 191 [] [.eref [.int .i64 n] 0]])
theorem s112_ok : SpecOK Tryz.prog glB 168 s112 := spec1_ok E2_ok Tryz.func168 rfl (by kernel_rfl) fun n _ => ofSize_fn n
def E4t : List (Nat × Spec) := [(165, s73), (166, s111), (191, s127), (168, s112)] ++ E2t
theorem E4t_ok : AllOK E4t := ⟨⟨s73_ok, Tryz.call165⟩, ⟨s111_ok, Tryz.call166⟩, ⟨s127_ok, Tryz.call191⟩, ⟨s112_ok, Tryz.call168⟩, E2t_ok⟩
noncomputable def E4 : Env := mkE E4t []
theorem E4_ok : EnvOK Tryz.prog E4 := envOK E4t_ok trivial
theorem E4_ti {t : Nat} : E4.ti t = ti t := rfl
theorem E4_e {t : Nat} : E4.eqt t = eqB t := rfl
theorem E4_k {t : Nat} : E4.keyt t = keyB t := rfl
theorem E4_g {t : Nat} : E4.glob t = glB t := rfl
attribute [go_sem] E4_ti E4_e E4_k E4_g
theorem index_fn (l : List Fit) (ex : Bool) (p : Fit → Bool) (g : Nat) (cap : PV) (s : Spec) (hs : E4.spec g = some s) (hcap : pureD 8 cap = true) (hp : ∀ f, s [.agg (encF f), cap] = some (True, .bool (p f))) (hl : big l.length) :
    Fn E4 0 167 Tryz.f167 (Tryz.f167.body.getD .skip) [.sl (l.map encF) ex, .fn g [] [cap]] (.int .i64 (findI p l 0)) := by
 unfold big at hl
 unfold Fn Tryz.f167
 simp only [go_sem]
 refine ev_loopS [0, 1] (fun i : Nat => [(7, .int .i64 l.length), (8, .int .i64 i)]) (fun i H => i ≤ l.length ∧ findI p (l.drop i) i = findI p l 0) (fun i => l.length - i) 0 ?_ ⟨Nat.zero_le _, by simp⟩ ?_
 ·simp only [go_sem]
 ·simp only [go_sem]
  intro K i H ⟨hi, hf⟩ hK hE
  rw [condK_bool]
  refine ⟨fun h => ?_, fun h => ?_⟩
  ·have h' : i < l.length := by simpa using h
   simp only [go_sem, h, getD_map _ _ _ _ h, @callV_spec E4 g s hs]
   have e1 : List.take 4 (encF (l.getD i default)) = encF (l.getD i default) := rfl
   rw [e1, callSpec_eq (by rw [show pureD.pureLs (pureD 8) [PV.agg (encF (l.getD i default)), cap] = (pureD 8 (.agg (encF (l.getD i default))) && (pureD 8 cap && true)) from rfl, hcap]; rfl) (hp _)]
   simp only [go_sem]
   refine ⟨⟨by simpa using h, rfl⟩, by simp [encF], ?_⟩
   rw [condK_bool]
   refine ⟨fun h2 => ?_, fun h2 => ?_⟩
   ·simp only [go_sem]
    refine hE _ _ _ (by simp) ?_
    simp only [go_sem]
    rw [← hf, findI_drop _ h', if_pos h2]
   ·simp only [go_sem]
    refine hK (i + 1) _ _ ?_ ⟨h', ?_⟩ (by omega)
    ·rw [wrap_id (by omega)]
     simp only [go_sem, Int.natCast_add, Int.natCast_one]
    ·rw [← hf, findI_drop _ h', h2]; rfl
  ·refine hE _ _ _ (by simp) ?_
   simp only [go_sem]
   have h' : i = l.length := by have : ¬ ((i : Int) < (l.length : Int)) := by simpa using h
                                omega
   rw [← hf, h']
   simp [findI]
def predF : Nat → List PV → Option (Fit → Bool)
 | 191, [.eref [.int .i64 k] 0] => some fun f => f.size == k
 | _, _ => none
def s102 : Spec := fun args => match args with
 | [.sl rs _, .fn g [] cap] => match dL dF rs, predF g cap with
  | some l, some p => some (big l.length, .int .i64 (findI p l 0))
  | _, _ => none
 | _ => none
theorem s102_ok : SpecOK Tryz.prog glB 167 s102 := specOK_of E4_ok Tryz.func167 (by kernel_rfl) fun args pre r h hp => by
 unfold s102 at h
 split at h
 ·split at h
  ·rename_i rs ex g cap l p hl hpr
   cases h
   unfold predF at hpr
   split at hpr
   ·cases hpr
    exact ⟨[.sl (l.map encF) _, .fn 191 [] [_]], _, ⟨⟨dL_wk dF_wk hl, id⟩, wk_refl _, trivial⟩, rfl, index_fn l _ _ 191 _ s127 rfl rfl (fun f => by simp only [s127, spec2, dec_fit, dec_rint]) hp⟩
   ·cases hpr
  ·cases h
 ·cases h
def leastF : Int → List Int → Int
 | a, [] => a
 | a, b :: l => leastF (if b < a then b else a) l
theorem leastF_drop (a : Int) {l : List Int} {i : Nat} (h : i < l.length) : leastF a (l.drop i) = leastF (if l.getD i 0 < a then l.getD i 0 else a) (l.drop (i + 1)) := by
 rw [List.drop_eq_getElem_cons h]
 simp [leastF, h]
theorem least_fn (a : Int) (l : List Int) (ex : Bool) (hl : big l.length) : Fn E0 0 146 Tryz.f146 (Tryz.f146.body.getD .skip) [.int .i64 a, .sl (il l) ex] (.int .i64 (leastF a l)) := by
 unfold big at hl
 unfold Fn Tryz.f146
 simp only [go_sem, il_length]
 refine ev_loopS [7, 8] (fun x : Nat × Int => [(0, .int .i64 x.2), (9, .int .i64 x.1)]) (fun x H => x.1 ≤ l.length ∧ leastF x.2 (l.drop x.1) = leastF a l) (fun x => l.length - x.1) (0, a) ?_ ⟨Nat.zero_le _, by simp⟩ ?_
 ·simp only [go_sem]
 ·simp only [go_sem]
  intro K x H ⟨hi, hf⟩ hK hE
  obtain ⟨i, b⟩ := x
  simp only at hi hf
  simp only [go_sem, il_length, il_get]
  rw [condK_bool]
  refine ⟨fun h => ?_, fun h => ?_⟩
  ·have h' : i < l.length := by simpa using h
   simp only [go_sem, il_length, il_get]
   refine ⟨by simpa using h, hK (i + 1, if l.getD i 0 < b then l.getD i 0 else b) _ _ ?_ ⟨h', ?_⟩ (by simp only; omega)⟩
   ·rw [wrap_id (by omega)]
    simp only [go_sem, Int.natCast_add, Int.natCast_one]
   ·rw [← hf, leastF_drop _ h']
  ·refine hE _ _ _ (by simp) ?_
   simp only [go_sem]
   have h' : i = l.length := by have : ¬ ((i : Int) < (l.length : Int)) := by simpa using h
                                omega
   rw [← hf, h']
   simp [leastF]
def s108 : Spec := spec2 (fun (_ : Int) (l : List Int) => big l.length) (fun a l => .int .i64 (leastF a l))
theorem s108_ok : SpecOK Tryz.prog glB 146 s108 := spec2_ok E0_ok Tryz.func146 rfl (by kernel_rfl) fun a l h => least_fn a l false h
def E5t : List (Nat × Spec) := [(167, s102), (146, s108)] ++ E4t
theorem E5t_ok : AllOK E5t := ⟨⟨s102_ok, Tryz.call167⟩, ⟨s108_ok, Tryz.call146⟩, E4t_ok⟩
noncomputable def E5 : Env := mkE E5t []
theorem E5_ok : EnvOK Tryz.prog E5 := envOK E5t_ok trivial
theorem E5_ti {t : Nat} : E5.ti t = ti t := rfl
theorem E5_e {t : Nat} : E5.eqt t = eqB t := rfl
theorem E5_k {t : Nat} : E5.keyt t = keyB t := rfl
theorem E5_g {t : Nat} : E5.glob t = glB t := rfl
attribute [go_sem] E5_ti E5_e E5_k E5_g
def inP (x : Item) (l : List Entry) : Option Int :=
 match entryOf x.good l with
 | some e => if inF e.colours x.colour then (e.sizes.find? (fun f => f.size == x.size)).map (·.price) else none
 | none => none
theorem findI_find {α : Type} [Inhabited α] (p : α → Bool) : ∀ (l : List α) (k : Nat), (l.find? p = none ∧ findI p l k = -1) ∨ (∃ j, j < l.length ∧ l.find? p = some (l.getD j default) ∧ findI p l k = ((k + j : Nat) : Int))
 | [], k => .inl ⟨rfl, rfl⟩
 | a :: l, k => by
  cases h : p a with
  | true => exact .inr ⟨0, by simp, by simp [h], by simp [findI, h]⟩
  | false =>
   rcases findI_find p l (k + 1) with ⟨h1, h2⟩ | ⟨j, h1, h2, h3⟩
   ·exact .inl ⟨by simp [h, h1], by simp [findI, h, h2]⟩
   ·exact .inr ⟨j + 1, by simp; omega, by simp [h, h2], by simp [findI, h, h3]; omega⟩
def optPV : Option Int → PV
 | some n => .tup [.int .i64 n, .bool true]
 | none => .tup [.int .i64 0, .bool false]
def zeroEntry : Entry := ⟨0, 0, 0, []⟩
theorem dec_zeroE (ex : Bool) : (dec (.agg [.int .i64 0, .int .i64 0, .int .i64 0, .sl [] ex]) : Option Entry) = some zeroEntry := rfl
theorem entryOf_mem {g : Int} : ∀ {l : List Entry} {e : Entry}, entryOf g l = some e → e ∈ l ∧ e.good = g
 | a :: l, e, h => by
  simp only [entryOf] at h
  split at h
  ·cases h; rename_i h1; exact ⟨by simp, by simpa using h1⟩
  ·obtain ⟨h1, h2⟩ := entryOf_mem h; exact ⟨by simp [h1], h2⟩
theorem in_fn (r : Rack) (es : List (List Int × PV)) (i : Nat) (hi : i < r.issues.length) (x : Item) (hx : 0 ≤ x.colour ∧ x.colour ≤ 3) (hl : ∀ y ∈ r.issues, y.entries.length ≤ 24) (hs : ∀ y ∈ r.issues, ∀ e ∈ y.entries, big e.sizes.length) :
    Fn E5 0 145 Tryz.f145 (Tryz.f145.body.getD .skip) [.agg (encC ⟨r, es⟩), .int .i64 i, .agg (encT x)] (optPV (inP x (r.issues.getD i default).entries)) := by
 have hi' : (i : Int) < (r.issues.length : Int) := by omega
 unfold Fn Tryz.f145
 simp only [go_sem, @ct E5 165 s73 rfl, s73, @ct E5 166 s111 rfl, s111, @ct E5 168 s112 rfl, s112, @ct E5 167 s102 rfl, s102, encC, encT, Int.toNat_natCast, hi', hl]
 refine ⟨hl, ?_⟩
 have hy : r.issues.getD i default ∈ r.issues := by simp [List.getD_eq_getElem?_getD, hi]
 generalize hoe : entryOf x.good (r.issues.getD i default).entries = oe
 unfold inP
 rw [hoe]
 have hc : x.colour = 0 ∨ x.colour = 1 ∨ x.colour = 2 ∨ x.colour = 3 := by omega
 cases oe with
 | none =>
  rcases hc with hc | hc | hc | hc
  ·simp only [go_sem, @ct E5 165 s73 rfl, s73, @ct E5 166 s111 rfl, s111, @ct E5 168 s112 rfl, s112, @ct E5 167 s102 rfl, s102, entPV, dec_zeroE, Option.isSome, zeroEntry, optPV, col, hc]
  ·simp only [go_sem, @ct E5 165 s73 rfl, s73, @ct E5 166 s111 rfl, s111, @ct E5 168 s112 rfl, s112, @ct E5 167 s102 rfl, s102, entPV, dec_zeroE, Option.isSome, zeroEntry, optPV, col, hc]
  ·simp only [go_sem, @ct E5 165 s73 rfl, s73, @ct E5 166 s111 rfl, s111, @ct E5 168 s112 rfl, s112, @ct E5 167 s102 rfl, s102, entPV, dec_zeroE, Option.isSome, zeroEntry, optPV, col, hc]
  ·simp only [go_sem, @ct E5 165 s73 rfl, s73, @ct E5 166 s111 rfl, s111, @ct E5 168 s112 rfl, s112, @ct E5 167 s102 rfl, s102, entPV, dec_zeroE, Option.isSome, zeroEntry, optPV, col, hc]
 | some e =>
  have he : e ∈ (r.issues.getD i default).entries := (entryOf_mem hoe).1
  have hbig := hs _ hy _ he
  simp only [go_sem, @ct E5 165 s73 rfl, s73, @ct E5 166 s111 rfl, s111, @ct E5 168 s112 rfl, s112, @ct E5 167 s102 rfl, s102, entPV, encE, dec_entry', Option.isSome, col]
  refine ⟨fun _ => by omega, fun _ => by omega, ?_⟩
  rcases hc with hc | hc | hc | hc
  ·simp only [go_sem, @ct E5 165 s73 rfl, s73, @ct E5 166 s111 rfl, s111, @ct E5 168 s112 rfl, s112, @ct E5 167 s102 rfl, s102, hc]
   rw [condK_bool]
   refine ⟨fun h => ?_, fun h => ?_⟩
   ·have hb : inF e.colours 0 = false := by
     revert h; cases inF e.colours 0 <;> cases inF e.colours 1 <;> cases inF e.colours 2 <;> cases inF e.colours 3 <;> simp
    simp only [go_sem, @ct E5 165 s73 rfl, s73, @ct E5 166 s111 rfl, s111, @ct E5 168 s112 rfl, s112, @ct E5 167 s102 rfl, s102, hb, optPV]
   ·have hb : inF e.colours 0 = true := by
     revert h; cases inF e.colours 0 <;> cases inF e.colours 1 <;> cases inF e.colours 2 <;> cases inF e.colours 3 <;> simp
    simp only [go_sem, @ct E5 165 s73 rfl, s73, @ct E5 166 s111 rfl, s111, @ct E5 168 s112 rfl, s112, @ct E5 167 s102 rfl, s102, predF, hbig, hb]
    rcases findI_find (fun f : Fit => f.size == x.size) e.sizes 0 with ⟨h1, h2⟩ | ⟨j, h1, h2, h3⟩
    ·simp only [go_sem, @ct E5 165 s73 rfl, s73, @ct E5 166 s111 rfl, s111, @ct E5 168 s112 rfl, s112, @ct E5 167 s102 rfl, s102, h1, h2, optPV]
    ·have h4 : decide (((0 + j : Nat) : Int) < 0) = false := by simp
     have h5 : ((0 + j : Nat) : Int) < (e.sizes.length : Int) := by omega
     simp only [go_sem, @ct E5 165 s73 rfl, s73, @ct E5 166 s111 rfl, s111, @ct E5 168 s112 rfl, s112, @ct E5 167 s102 rfl, s102, h2, h3, h4, h5, getD_mapN encF e.sizes j _ h1, encF, optPV]
     simp only [Nat.zero_add] at h4 h5
     simp only [go_sem, @ct E5 165 s73 rfl, s73, @ct E5 166 s111 rfl, s111, @ct E5 168 s112 rfl, s112, @ct E5 167 s102 rfl, s102, h2, h3, h4, h5, getD_mapN encF e.sizes j _ h1, encF, optPV]
  ·simp only [go_sem, @ct E5 165 s73 rfl, s73, @ct E5 166 s111 rfl, s111, @ct E5 168 s112 rfl, s112, @ct E5 167 s102 rfl, s102, hc]
   rw [condK_bool]
   refine ⟨fun h => ?_, fun h => ?_⟩
   ·have hb : inF e.colours 1 = false := by
     revert h; cases inF e.colours 0 <;> cases inF e.colours 1 <;> cases inF e.colours 2 <;> cases inF e.colours 3 <;> simp
    simp only [go_sem, @ct E5 165 s73 rfl, s73, @ct E5 166 s111 rfl, s111, @ct E5 168 s112 rfl, s112, @ct E5 167 s102 rfl, s102, hb, optPV]
   ·have hb : inF e.colours 1 = true := by
     revert h; cases inF e.colours 0 <;> cases inF e.colours 1 <;> cases inF e.colours 2 <;> cases inF e.colours 3 <;> simp
    simp only [go_sem, @ct E5 165 s73 rfl, s73, @ct E5 166 s111 rfl, s111, @ct E5 168 s112 rfl, s112, @ct E5 167 s102 rfl, s102, predF, hbig, hb]
    rcases findI_find (fun f : Fit => f.size == x.size) e.sizes 0 with ⟨h1, h2⟩ | ⟨j, h1, h2, h3⟩
    ·simp only [go_sem, @ct E5 165 s73 rfl, s73, @ct E5 166 s111 rfl, s111, @ct E5 168 s112 rfl, s112, @ct E5 167 s102 rfl, s102, h1, h2, optPV]
    ·have h4 : decide (((0 + j : Nat) : Int) < 0) = false := by simp
     have h5 : ((0 + j : Nat) : Int) < (e.sizes.length : Int) := by omega
     simp only [go_sem, @ct E5 165 s73 rfl, s73, @ct E5 166 s111 rfl, s111, @ct E5 168 s112 rfl, s112, @ct E5 167 s102 rfl, s102, h2, h3, h4, h5, getD_mapN encF e.sizes j _ h1, encF, optPV]
     simp only [Nat.zero_add] at h4 h5
     simp only [go_sem, @ct E5 165 s73 rfl, s73, @ct E5 166 s111 rfl, s111, @ct E5 168 s112 rfl, s112, @ct E5 167 s102 rfl, s102, h2, h3, h4, h5, getD_mapN encF e.sizes j _ h1, encF, optPV]
  ·simp only [go_sem, @ct E5 165 s73 rfl, s73, @ct E5 166 s111 rfl, s111, @ct E5 168 s112 rfl, s112, @ct E5 167 s102 rfl, s102, hc]
   rw [condK_bool]
   refine ⟨fun h => ?_, fun h => ?_⟩
   ·have hb : inF e.colours 2 = false := by
     revert h; cases inF e.colours 0 <;> cases inF e.colours 1 <;> cases inF e.colours 2 <;> cases inF e.colours 3 <;> simp
    simp only [go_sem, @ct E5 165 s73 rfl, s73, @ct E5 166 s111 rfl, s111, @ct E5 168 s112 rfl, s112, @ct E5 167 s102 rfl, s102, hb, optPV]
   ·have hb : inF e.colours 2 = true := by
     revert h; cases inF e.colours 0 <;> cases inF e.colours 1 <;> cases inF e.colours 2 <;> cases inF e.colours 3 <;> simp
    simp only [go_sem, @ct E5 165 s73 rfl, s73, @ct E5 166 s111 rfl, s111, @ct E5 168 s112 rfl, s112, @ct E5 167 s102 rfl, s102, predF, hbig, hb]
    rcases findI_find (fun f : Fit => f.size == x.size) e.sizes 0 with ⟨h1, h2⟩ | ⟨j, h1, h2, h3⟩
    ·simp only [go_sem, @ct E5 165 s73 rfl, s73, @ct E5 166 s111 rfl, s111, @ct E5 168 s112 rfl, s112, @ct E5 167 s102 rfl, s102, h1, h2, optPV]
    ·have h4 : decide (((0 + j : Nat) : Int) < 0) = false := by simp
     have h5 : ((0 + j : Nat) : Int) < (e.sizes.length : Int) := by omega
     simp only [go_sem, @ct E5 165 s73 rfl, s73, @ct E5 166 s111 rfl, s111, @ct E5 168 s112 rfl, s112, @ct E5 167 s102 rfl, s102, h2, h3, h4, h5, getD_mapN encF e.sizes j _ h1, encF, optPV]
     simp only [Nat.zero_add] at h4 h5
     simp only [go_sem, @ct E5 165 s73 rfl, s73, @ct E5 166 s111 rfl, s111, @ct E5 168 s112 rfl, s112, @ct E5 167 s102 rfl, s102, h2, h3, h4, h5, getD_mapN encF e.sizes j _ h1, encF, optPV]
  ·simp only [go_sem, @ct E5 165 s73 rfl, s73, @ct E5 166 s111 rfl, s111, @ct E5 168 s112 rfl, s112, @ct E5 167 s102 rfl, s102, hc]
   rw [condK_bool]
   refine ⟨fun h => ?_, fun h => ?_⟩
   ·have hb : inF e.colours 3 = false := by
     revert h; cases inF e.colours 0 <;> cases inF e.colours 1 <;> cases inF e.colours 2 <;> cases inF e.colours 3 <;> simp
    simp only [go_sem, @ct E5 165 s73 rfl, s73, @ct E5 166 s111 rfl, s111, @ct E5 168 s112 rfl, s112, @ct E5 167 s102 rfl, s102, hb, optPV]
   ·have hb : inF e.colours 3 = true := by
     revert h; cases inF e.colours 0 <;> cases inF e.colours 1 <;> cases inF e.colours 2 <;> cases inF e.colours 3 <;> simp
    simp only [go_sem, @ct E5 165 s73 rfl, s73, @ct E5 166 s111 rfl, s111, @ct E5 168 s112 rfl, s112, @ct E5 167 s102 rfl, s102, predF, hbig, hb]
    rcases findI_find (fun f : Fit => f.size == x.size) e.sizes 0 with ⟨h1, h2⟩ | ⟨j, h1, h2, h3⟩
    ·simp only [go_sem, @ct E5 165 s73 rfl, s73, @ct E5 166 s111 rfl, s111, @ct E5 168 s112 rfl, s112, @ct E5 167 s102 rfl, s102, h1, h2, optPV]
    ·have h4 : decide (((0 + j : Nat) : Int) < 0) = false := by simp
     have h5 : ((0 + j : Nat) : Int) < (e.sizes.length : Int) := by omega
     simp only [go_sem, @ct E5 165 s73 rfl, s73, @ct E5 166 s111 rfl, s111, @ct E5 168 s112 rfl, s112, @ct E5 167 s102 rfl, s102, h2, h3, h4, h5, getD_mapN encF e.sizes j _ h1, encF, optPV]
     simp only [Nat.zero_add] at h4 h5
     simp only [go_sem, @ct E5 165 s73 rfl, s73, @ct E5 166 s111 rfl, s111, @ct E5 168 s112 rfl, s112, @ct E5 167 s102 rfl, s102, h2, h3, h4, h5, getD_mapN encF e.sizes j _ h1, encF, optPV]
def s91 : Spec := spec3 (fun (x : Calc) (i : Int) (t : Item) => 0 ≤ i ∧ i < x.r.issues.length ∧ (0 ≤ t.colour ∧ t.colour ≤ 3) ∧ (∀ y ∈ x.r.issues, y.entries.length ≤ 24) ∧ ∀ y ∈ x.r.issues, ∀ e ∈ y.entries, big e.sizes.length)
 (fun x i t => optPV (inP t (x.r.issues.getD i.toNat default).entries))
theorem s91_ok : SpecOK Tryz.prog glB 145 s91 := spec3_ok E5_ok Tryz.func145 rfl (by kernel_rfl) fun x i t h => by
 obtain ⟨h2, h3, h4, h5, h6⟩ := h
 obtain ⟨k, rfl⟩ := Int.eq_ofNat_of_zero_le h2
 exact in_fn x.r x.es k (by omega) t h4 h5 h6
theorem on_fn (x : Calc) (k a b : Int) : Fn E2 0 143 Tryz.f143 (Tryz.f143.body.getD .skip) [.agg (encC x), .int .i64 k, .agg [.int .i64 a, .int .i64 b]] (.fn 164 [] [.eref (encC x) 0, .eref [.int .i64 k] 0, .eref [.int .i64 a, .int .i64 b] 0]) := by
 unfold Fn Tryz.f143
 simp only [go_sem, encC]
def s60 : Spec := spec3 (fun (_ : Calc) (_ : Int) (_ : Int × Int) => True) (fun x k d => .fn 164 [] [.eref (encC x) 0, .eref [.int .i64 k] 0, .eref [.int .i64 d.1, .int .i64 d.2] 0])
theorem s60_ok : SpecOK Tryz.prog glB 143 s60 := spec3_ok E2_ok Tryz.func143 rfl (by kernel_rfl) fun x k d _ => on_fn x k d.1 d.2
def hiK (k : Nat) (y : Issue) : Int := if k = 0 then y.hi else y.held
def ovl (k : Nat) (a b : Int) (y : Issue) : Bool := decide (y.lo ≤ b) && decide (a ≤ hiK k y)
theorem key_ne' {K : Key} {path : List Nat} {s : Nat} (h : K.1 ≠ path) : (K = (path, s)) = False := by
 apply eq_false; rintro rfl; exact h rfl
theorem on_loop {E : Env} (hti : ∀ t, E.ti t = ti t) (h222 : E.spec 222 = some s152) (h223 : E.spec 223 = some s153) (hg : E.glob = glB) (h164 : E.inl 164 = some Tryz.f164) (x : Calc) (hx : big x.r.issues.length) (k : Nat) (hk : k = 0 ∨ k = 1) (a b : Int) (K : Key) (v n : Nat) (path : List Nat) (H : Heap) (Q : PV → Heap → Prop)
    (J : Nat → Heap → Prop) (hJ : ∀ i H H', J i H → (∀ K : Key, K.1 ≠ path → H' K = H K) → J i H') (h0 : J 0 H)
    (hr : ∀ i H Q', i < x.r.issues.length → J i H → ovl k a b (x.r.issues.getD i default) = true → (∀ H', J (i + 1) H' → Q' (.bool true) H') → callN E n (164004015 :: path) (.yld K v) [.int .i64 i] H Q')
    (hs : ∀ i H, i < x.r.issues.length → J i H → ovl k a b (x.r.issues.getD i default) = false → J (i + 1) H)
    (hQ : ∀ H, J x.r.issues.length H → Q (.tup []) H) :
    callN E (n + 1) path (.fn 164 [] []) [.yld K v, .eref (encC x) 0, .eref [.int .i64 k] 0, .eref [.int .i64 a, .int .i64 b] 0] H Q := by
 unfold big at hx
 simp only [callN, h164, Tryz.f164]
 simp only [go_sem, hti, @ct E 222 s152 h222, s152, @ct E 223 s153 h223, s153, encC]
 refine ev_loopS [0, 1, 2, 3] (fun i : Nat => [(10, .int .i64 x.r.issues.length), (11, .int .i64 i)]) (fun i H => i ≤ x.r.issues.length ∧ J i H) (fun i => x.r.issues.length - i) 0 ?_ ⟨Nat.zero_le _, h0⟩ ?_
 ·simp only [go_sem, hti, @ct E 222 s152 h222, s152, @ct E 223 s153 h223, s153]
 ·simp only [go_sem, hti, @ct E 222 s152 h222, s152, @ct E 223 s153 h223, s153]
  intro K' i H ⟨hi, hf⟩ hK hE
  rw [condK_bool]
  refine ⟨fun h => ?_, fun h => ?_⟩
  ·have h' : i < x.r.issues.length := by simpa using h
   rcases hk with rfl | rfl
   ·have ho' : ovl 0 a b (x.r.issues.getD i default) = (decide ((x.r.issues.getD i default).lo ≤ b) && decide (a ≤ (x.r.issues.getD i default).hi)) := rfl
    have hi2 : (i : Int) < (x.r.issues.length : Int) := by omega
    have w2 : IntKind.i64.wrap ((i : Int) + 1) = (i : Int) + 1 := wrap_id (by omega)
    have hb1 : Region.binds Region.Mode.any { on := 6, ground := Ground.data } = true := rfl
    cases ho : ovl 0 a b (x.r.issues.getD i default) with
    | false =>
     rw [ho'] at ho
     simp only [go_sem, hti, @ct E 222 s152 h222, s152, @ct E 223 s153 h223, s153, Int.cast_ofNat_Int, Int.natCast_zero, hg, glB, hi2, hb1, ho, callV_yldT, heavy_some]
     refine hK (i + 1) _ _ ?_ ⟨h', ?_⟩ (by omega)
     ·simp only [go_sem, hti, @ct E 222 s152 h222, s152, @ct E 223 s153 h223, s153, w2, Int.natCast_add, Int.natCast_one]
     ·exact hs i _ h' (hJ _ _ _ hf fun K hK => by simp only [set_at, key_ne' hK, if_false]) (by rw [ho']; exact ho)
    | true =>
     rw [ho'] at ho
     simp only [go_sem, hti, @ct E 222 s152 h222, s152, @ct E 223 s153 h223, s153, Int.cast_ofNat_Int, Int.natCast_zero, hg, glB, hi2, hb1, ho, callV_yldT, heavy_some]
     refine hr i _ _ h' (hJ _ _ _ hf fun K hK => by simp only [set_at, key_ne' hK, if_false]) (by rw [ho']; exact ho) fun H' hH' => ?_
     simp only [go_sem, hti, @ct E 222 s152 h222, s152, @ct E 223 s153 h223, s153]
     refine hK (i + 1) _ _ ?_ ⟨h', hH'⟩ (by omega)
     simp only [go_sem, hti, @ct E 222 s152 h222, s152, @ct E 223 s153 h223, s153, w2, Int.natCast_add, Int.natCast_one]
   ·have ho' : ovl 1 a b (x.r.issues.getD i default) = (decide ((x.r.issues.getD i default).lo ≤ b) && decide (a ≤ (x.r.issues.getD i default).held)) := rfl
    have hi2 : (i : Int) < (x.r.issues.length : Int) := by omega
    have w2 : IntKind.i64.wrap ((i : Int) + 1) = (i : Int) + 1 := wrap_id (by omega)
    have hb1 : Region.binds Region.Mode.any { on := 6, ground := Ground.data } = true := rfl
    cases ho : ovl 1 a b (x.r.issues.getD i default) with
    | false =>
     rw [ho'] at ho
     simp only [go_sem, hti, @ct E 222 s152 h222, s152, @ct E 223 s153 h223, s153, Int.cast_ofNat_Int, Int.natCast_zero, hg, glB, hi2, hb1, ho, callV_yldT, heavy_some]
     refine hK (i + 1) _ _ ?_ ⟨h', ?_⟩ (by omega)
     ·simp only [go_sem, hti, @ct E 222 s152 h222, s152, @ct E 223 s153 h223, s153, w2, Int.natCast_add, Int.natCast_one]
     ·exact hs i _ h' (hJ _ _ _ hf fun K hK => by simp only [set_at, key_ne' hK, if_false]) (by rw [ho']; exact ho)
    | true =>
     rw [ho'] at ho
     simp only [go_sem, hti, @ct E 222 s152 h222, s152, @ct E 223 s153 h223, s153, Int.cast_ofNat_Int, Int.natCast_zero, hg, glB, hi2, hb1, ho, callV_yldT, heavy_some]
     refine hr i _ _ h' (hJ _ _ _ hf fun K hK => by simp only [set_at, key_ne' hK, if_false]) (by rw [ho']; exact ho) fun H' hH' => ?_
     simp only [go_sem, hti, @ct E 222 s152 h222, s152, @ct E 223 s153 h223, s153]
     refine hK (i + 1) _ _ ?_ ⟨h', hH'⟩ (by omega)
     simp only [go_sem, hti, @ct E 222 s152 h222, s152, @ct E 223 s153 h223, s153, w2, Int.natCast_add, Int.natCast_one]
  ·refine hE _ _ _ (by simp) ?_
   have h' : i = x.r.issues.length := by have : ¬ ((i : Int) < (x.r.issues.length : Int)) := by simpa using h
                                         omega
   subst h'
   simp only [go_sem, hti, @ct E 222 s152 h222, s152, @ct E 223 s153 h223, s153]
   exact hQ _ hf
theorem ev_range_on {E : Env} (hti : ∀ t, E.ti t = ti t) (h222 : E.spec 222 = some s152) (h223 : E.spec 223 = some s153) (hg : E.glob = glB) (h164 : E.inl 164 = some Tryz.f164) (hsp : E.spec 164 = none) {x : Calc} (hx : big x.r.issues.length) {k : Nat} (hk : k = 0 ∨ k = 1) {a b : Int}
    {path : List Nat} {fid n : Nat} {f : Operand} {ps : Array Nat} {asg body : Code} {Q : Exit → List PV → Heap → Prop} {τ : List PV} {H : Heap} (p0 site : Nat) (hps : ps.toList = [p0]) (hsite : fid * 1000000 + 900000 + p0 = site)
    (hf : opd τ f = .fn 164 [] [.eref (encC x) 0, .eref [.int .i64 k] 0, .eref [.int .i64 a, .int .i64 b] 0])
    (J : Nat → Heap → Prop) (hJ : ∀ i H H', J i H → (∀ K : Key, K ≠ (path, site) → K.1 ≠ site :: path → H' K = H K) → J i H') (h0 : J 0 H)
    (d : Nat) (ha : ∀ (i : Nat) H2 (Kc : Exit → List PV → Heap → Prop), Kc .normal ((τ.set p0 (.int .i64 i)).set d (.int .i64 i)) H2 → ev E (callN E n) (164004015 :: site :: path) true fid asg Kc (τ.set p0 (.int .i64 i)) H2)
    (hr : ∀ i H1 (K : Exit → List PV → Heap → Prop), i < x.r.issues.length → J i H1 → ovl k a b (x.r.issues.getD i default) = true →
      (∀ τ' H', H' (path, site) = H1 (path, site) → J (i + 1) H' → K .normal τ' H') → ev E (callN E n) (164004015 :: site :: path) true fid body K ((τ.set p0 (.int .i64 i)).set d (.int .i64 i)) H1)
    (hs : ∀ i H, i < x.r.issues.length → J i H → ovl k a b (x.r.issues.getD i default) = false → J (i + 1) H)
    (hQ : ∀ H, J x.r.issues.length H → Q .normal τ H) : ev E (callN E (n + 2)) path false fid (.rangeFunc f ps asg body) Q τ H := by
 have hst : ∀ i H b, J i H → J i (H.set (path, site) b) := fun i H b h => hJ _ _ _ h fun K h1 h2 => by simp only [set_at, h1, if_false]
 simp only [ev, hf, hps]
 rw [show fid * 1000000 + 900000 + [p0].getD 0 0 = site from hsite]
 refine ⟨trivial, ?_⟩
 show callN E (n + 2) (site :: path) (.fn 164 [] []) _ _ _
 let v := verOf H (path, site) + 1
 let rc : Rec := { st := .ready, pending := none, fn := fid, params := [p0], assign := asg, body := body, tmps := τ }
 refine on_loop hti h222 h223 hg h164 x hx k hk a b (path, site) v (n + 1) (site :: path) _ _ (fun i H => J i H ∧ H (path, site) = some (.loop rc v)) ?_ ⟨hst _ _ _ h0, by simp [set_at, rc, v]⟩ ?_ ?_ ?_
 ·rintro i H H' ⟨h1, h2⟩ h3
  refine ⟨hJ _ _ _ h1 fun K e1 e2 => h3 K e2, (h3 _ ?_).trans h2⟩
  intro h; have := congrArg List.length h; simp at this
 ·rintro i H Q' hi ⟨h1, h2⟩ ho hQ'
  simp only [callN, h2, rc]
  refine ⟨trivial, trivial, rfl, ?_⟩
  refine ha i H _ ⟨h2, ?_⟩
  refine hr i _ _ hi (hst _ _ _ h1) ho fun τ' H' e1 e2 => ?_
  rw [set_at, if_pos rfl] at e1
  exact ⟨e1, hQ' _ ⟨hst _ _ _ e2, by simp [set_at, rc]⟩⟩
 ·rintro i H hi ⟨h1, h2⟩ ho
  exact ⟨hs i H hi h1 ho, h2⟩
 ·rintro H ⟨h1, h2⟩
  show rangeK (path, site) v τ Q H
  unfold rangeK
  rw [h2]
  exact ⟨rfl, by simp [rc], hQ _ (hst _ _ _ h1)⟩
def E6t : List (Nat × Spec) := [(145, s91), (143, s60)] ++ E5t
theorem E6t_ok : AllOK E6t := ⟨⟨s91_ok, Tryz.call145⟩, ⟨s60_ok, Tryz.call143⟩, E5t_ok⟩
noncomputable def E6 : Env := mkE E6t [(164, Tryz.f164)]
theorem E6_ok : EnvOK Tryz.prog E6 := envOK E6t_ok ⟨⟨Tryz.func164, Tryz.call164, by kernel_rfl⟩, trivial⟩
theorem E6_ti {t : Nat} : E6.ti t = ti t := rfl
theorem E6_e {t : Nat} : E6.eqt t = eqB t := rfl
theorem E6_k {t : Nat} : E6.keyt t = keyB t := rfl
theorem E6_g {t : Nat} : E6.glob t = glB t := rfl
attribute [go_sem] E6_ti E6_e E6_k E6_g
def offers (on : Int) (x : Item) (l : List Issue) : List Int := (l.filter (ovl 1 on on)).filterMap fun y => inP x y.entries
def priceP (r : Rack) (on : Int) (x : Item) : Option Int :=
 match offers on x r.issues with
 | [] => none
 | a :: l => some (leastF a (a :: l))
theorem il_append (a b : List Int) : il (a ++ b) = il a ++ il b := by simp [il]
theorem take_offers (on : Int) (x : Item) {l : List Issue} {i : Nat} (h : i < l.length) (ho : ovl 1 on on (l.getD i default) = true) : offers on x (l.take (i + 1)) = offers on x (l.take i) ++ (inP x (l.getD i default).entries).toList := by
 have e : l.getD i default = l[i] := by simp [h]
 rw [e] at ho ⊢
 rw [List.take_succ_eq_append_getElem h]
 unfold offers
 rw [List.filter_append, List.filterMap_append]
 simp only [List.filter_cons, ho, if_true, List.filter_nil, List.filterMap_cons, List.filterMap_nil]
 cases inP x l[i].entries <;> rfl
theorem take_offers_no (on : Int) (x : Item) {l : List Issue} {i : Nat} (h : i < l.length) (ho : ovl 1 on on (l.getD i default) = false) : offers on x (l.take (i + 1)) = offers on x (l.take i) := by
 have e : l.getD i default = l[i] := by simp [h]
 rw [e] at ho
 rw [List.take_succ_eq_append_getElem h]
 unfold offers
 rw [List.filter_append, List.filterMap_append]
 simp [List.filter_cons, ho]
theorem offers_len (on : Int) (x : Item) (l : List Issue) : (offers on x l).length ≤ l.length := by
 unfold offers
 exact Nat.le_trans (List.length_filterMap_le _ _) (List.length_filter_le _ _)
theorem price_fn (r : Rack) (es : List (List Int × PV)) (on : Int) (x : Item) (hx : 0 ≤ x.colour ∧ x.colour ≤ 3) (hi : r.issues.length ≤ 4) (hl : ∀ y ∈ r.issues, y.entries.length ≤ 24) (hs : ∀ y ∈ r.issues, ∀ e ∈ y.entries, big e.sizes.length) :
    Fn E6 2 121 Tryz.f121 (Tryz.f121.body.getD .skip) [.agg (encC ⟨r, es⟩), .int .i64 on, .agg (encT x)] (optPV (priceP r on x)) := by
 unfold Fn Tryz.f121
 simp only [go_sem, @ct E6 144 sday rfl, sday, @ct E6 143 s60 rfl, s60, @ct E6 145 s91 rfl, s91, @ct E6 146 s108 rfl, s108, encC, encT]
 refine ev_range_on (fun _ => E6_ti) rfl rfl rfl rfl rfl (x := ⟨r, es⟩) (k := 1) (show r.issues.length < 4611686018427387904 by omega) (.inr rfl) 16 121900016 rfl rfl rfl
  (fun i H => H (([], 121000000) : Key) = some (.cells (encC ⟨r, es⟩) 1 false) ∧ H (([], 121000001) : Key) = some (.cells (encT x) 1 false) ∧ ∃ p, H (([], 121001000) : Key) = some (.cells [p] 1 false) ∧ Own H (fun K => K = ([164004015, 121900016], 121006003)) p 1 (il (offers on x (r.issues.take i))))
  ?_ ?_ 9 ?_ ?_ ?_ ?_
 ·rintro i H H' ⟨h1, h2, p, h3, h4⟩ hH
  refine ⟨(hH _ (by simp) (by simp)).trans h1, (hH _ (by simp) (by simp)).trans h2, p, (hH _ (by simp) (by simp)).trans h3, h4.frame fun K hK => ?_⟩
  subst hK
  exact hH _ (by simp) (by simp)
 ·refine ⟨?_, ?_, _, ?_, .inl ⟨?_, rfl⟩⟩
  ·simp only [go_sem, encC]
  ·simp only [go_sem, encT]
  ·simp only [go_sem]
  ·rfl
 ·intro i H2 Kc h
  simp only [go_sem]
  exact h
 ·rintro i H1 K hi ⟨h1, h2, p, h3, h4⟩ ho hK
  simp only [go_sem, @ct E6 145 s91 rfl, s91, h1, h2, encC, encT, Int.ofNat_lt, hi, Int.natCast_nonneg]
  refine ⟨⟨hx, hl, hs⟩, ?_⟩
  have ho' : ovl 1 on on (r.issues.getD i default) = true := ho
  have hi' : i < r.issues.length := hi
  have htk := take_offers on x hi' ho'
  show Prg.wp True (match optPV (inP x (r.issues.getD i default).entries) with | PV.tnt q v => Prg.chk q (Prg.ret v) | v => Prg.ret v) _ _
  generalize hin : inP x (r.issues.getD i default).entries = o at htk ⊢
  cases o with
  | none =>
   simp only [go_sem, @ct E6 145 s91 rfl, s91, optPV]
   refine hK _ _ rfl ⟨h1, h2, p, h3, ?_⟩
   rw [htk]
   simpa using h4
  | some m =>
   have hlen : (offers on x (r.issues.take i)).length ≤ 4 := Nat.le_trans (offers_len on x _) (by simp; omega)
   rcases h4 with ⟨e1, rfl⟩ | ⟨K2, v, rfl, rfl, h5⟩
   ·simp only [go_sem, @ct E6 145 s91 rfl, s91, optPV, h1, h2, h3, app, rowsOf, List.not_mem_nil, cells1, cellP, List.mem_singleton, forall_eq]
    have hil : il (offers on x (r.issues.take (i + 1))) = [[.int .i64 m]] := by rw [htk, il_append, e1]; rfl
    refine hK _ _ ?_ ⟨?_, ?_, .sref ([164004015, 121900016], 121006003) (verOf H1 ([164004015, 121900016], 121006003) + 1) 1 1 false, ?_, .inr ⟨([164004015, 121900016], 121006003), verOf H1 ([164004015, 121900016], 121006003) + 1, rfl, ?_, ?_⟩⟩
    ·simp only [go_sem]
    ·simp only [go_sem, h1]
    ·simp only [go_sem, h2]
    ·simp only [go_sem]
    ·rw [hil]; rfl
    ·rw [hil]; simp only [go_sem]
   ·simp only [go_sem, @ct E6 145 s91 rfl, s91, optPV, h1, h2, h3, h5, app, rowsOf, List.not_mem_nil, cells1, cellP, List.mem_singleton, forall_eq, il_length]
    have hil : il (offers on x (r.issues.take (i + 1))) = il (offers on x (r.issues.take i)) ++ [[.int .i64 m]] := by rw [htk, il_append]; rfl
    refine ⟨by omega, hK _ _ ?_ ⟨?_, ?_, .sref ([164004015, 121900016], 121006003) (v + 1) 1 ((offers on x (r.issues.take i)).length + 1) false, ?_, .inr ⟨([164004015, 121900016], 121006003), v + 1, rfl, ?_, ?_⟩⟩⟩
    ·simp only [go_sem]
    ·simp only [go_sem, h1]
    ·simp only [go_sem, h2]
    ·simp only [go_sem]
    ·rw [hil]; simp [il_length]
    ·rw [hil]; simp only [go_sem]
 ·rintro i H hi ⟨h1, h2, p, h3, h4⟩ ho
  refine ⟨h1, h2, p, h3, ?_⟩
  rw [take_offers_no on x (show i < r.issues.length from hi) ho]
  exact h4
 ·rintro H ⟨h1, h2, p, h3, h4⟩
  simp only [List.take_length] at h4
  rcases h4 with ⟨e1, rfl⟩ | ⟨K2, v, rfl, rfl, h5⟩
  ·have e2 : offers on x r.issues = [] := by cases h : offers on x r.issues with
    | nil => rfl
    | cons a l => rw [h] at e1; simp [il] at e1
   simp only [go_sem, @ct E6 146 s108 rfl, s108, h1, h2, h3, priceP, e2, optPV]
  ·generalize ho : offers on x r.issues = o at h3 h5
   cases o with
   | nil =>
    simp only [go_sem, @ct E6 146 s108 rfl, s108, h1, h2, h3, h5, priceP, ho, optPV, il_length]
   | cons a l =>
    have hlen : big (a :: l).length := by rw [← ho]; exact Nat.lt_of_le_of_lt (offers_len on x _) (by omega)
    have h0 : (((l.length + 1 : Nat) : Int) == 0) = false := by simp; omega
    have h00 : (0 : Int) < ((l.length + 1 : Nat) : Int) := by omega
    have hg0 : (il (a :: l)).getD 0 [PV.int .i64 0] = [.int .i64 a] := rfl
    simp only [go_sem, @ct E6 146 s108 rfl, s108, h1, h2, h3, h5, priceP, ho, optPV, il_length, h0, h00, hg0]
    have e9 : (dec (.sl (il (a :: l)) false) : Option (List Int)) = some (a :: l) := dec_il _ _
    simp only [callSpec, go_sem, @ct E6 146 s108 rfl, s108, h1, h2, h3, h5, priceP, ho, optPV, il_length, h0, h00, hg0, e9]
    exact hlen
def Sane (r : Rack) : Prop := r.issues.length ≤ 4 ∧ (∀ y ∈ r.issues, y.entries.length ≤ 24) ∧ ∀ y ∈ r.issues, ∀ e ∈ y.entries, big e.sizes.length
def s82 : Spec := spec3 (fun (x : Calc) (_ : Int) (t : Item) => (0 ≤ t.colour ∧ t.colour ≤ 3) ∧ Sane x.r) (fun x on t => optPV (priceP x.r on t))
theorem s82_ok : SpecOK Tryz.prog glB 121 s82 := spec3_ok E6_ok Tryz.func121 rfl (by kernel_rfl) fun x on t h => price_fn x.r x.es on t h.1 h.2.1 h.2.2.1 h.2.2.2
end Wb
