import Derived.Test.YticjjabioiilfaaGreatDoorD
import Derived.Test.YticjjabioiilfaaGreatDoorU
import Derived.Test.YticjjabioiilfaaGreatDoorE
set_option linter.unusedVariables false
set_option linter.unusedSimpArgs false
namespace Wb
open Go Go.Proofs Enc Row
set_option linter.unusedSimpArgs false
set_option linter.unusedVariables false
set_option maxRecDepth 20000
set_option maxHeartbeats 4000000
theorem m87_ok : MutOK Tryz.prog glB 128 sortM := sortM_ok Tryz.slices_Sort_int_none fun blk off cap zs w a b c => Tryz.slices_Sort_int blk off cap zs w a b c
theorem m88_ok : MutOK Tryz.prog glB 129 compactM := compactM_ok Tryz.slices_Compact_int_empty fun blk off cap zs w a b c => Tryz.slices_Compact_int blk off cap zs w a b c
def Mt : List (Nat × MSpec) := [(128, sortM), (129, compactM)]
theorem Mt_ok : MutAll Mt := ⟨⟨m87_ok, Tryz.call128⟩, ⟨m88_ok, Tryz.call129⟩, trivial⟩
def E7t : List (Nat × Spec) := [(121, s82)] ++ E6t
theorem E7t_ok : AllOK E7t := ⟨⟨s82_ok, Tryz.call121⟩, E6t_ok⟩
theorem big_of_le {n : Nat} (h : n ≤ 17592186044416) : big n := by unfold big; omega
def s68 : Spec := spec2 (fun (r : Rack) (e : Entry) => okInt r.goods ∧ -9223372036854775808 < r.goods ∧ big e.sizes.length) (fun r e => .bool (isEntryOk r.goods e))
theorem s68_ok : SpecOK Tryz.prog glB 99 s68 := spec2_ok E1_ok Tryz.func99 rfl (by kernel_rfl) fun r e h => isEntry_fn r.goods _ false e h.2.2 ⟨by have := h.1.1; omega, h.1.2⟩
def E8t : List (Nat × Spec) := [(99, s68)] ++ E7t
theorem E8t_ok : AllOK E8t := ⟨⟨s68_ok, Tryz.call99⟩, E7t_ok⟩
noncomputable def E8 : Env := mkM E8t [] Mt
theorem E8_ok : EnvOK Tryz.prog E8 := envMOK E8t_ok trivial Mt_ok
theorem E8_ti {t : Nat} : E8.ti t = ti t := rfl
theorem E8_e {t : Nat} : E8.eqt t = eqB t := rfl
theorem E8_k {t : Nat} : E8.keyt t = keyB t := rfl
theorem E8_g {t : Nat} : E8.glob t = glB t := rfl
attribute [go_sem] E8_ti E8_e E8_k E8_g
def MapHas (es : List (List Int × PV)) (ns : List Int) : Prop := ∀ n, mget es [n] = if n ∈ ns then some (.bool true) else none
theorem mget_mset (es : List (List Int × PV)) (k k' : List Int) (v : PV) : mget (mset es k v) k' = if k = k' then some v else mget es k' := by
 induction es with
 | nil => simp [mset, mget]
 | cons e es ih =>
  obtain ⟨a, b⟩ := e
  simp only [mset]
  by_cases h : a = k
  ·subst h
   simp only [if_true, mget]
   by_cases h2 : a = k' <;> simp [h2]
  ·simp only [h, if_false, mget, ih]
   by_cases h2 : a = k'
   ·subst h2; simp [h, Ne.symm h]
   ·simp [h2]
theorem MapHas.nil : MapHas [] [] := fun n => by simp [mget]
theorem MapHas.add {es : List (List Int × PV)} {ns : List Int} (h : MapHas es ns) (m : Int) : MapHas (mset es [m] (.bool true)) (ns ++ [m]) := fun n => by
 rw [mget_mset, h n]
 by_cases e : m = n
 ·simp [e]
 ·simp [e, Ne.symm e]
theorem MapHas.found {es : List (List Int × PV)} {ns : List Int} (h : MapHas es ns) (n : Int) : Wb.found { kind := .boolk, size := 1, bytes := 1, zero := [.bool false] } false (mget es [n]) = .bool (decide (n ∈ ns)) := by
 rw [h n]
 by_cases e : n ∈ ns <;> simp [Wb.found, e, loadAt, TK.isAgg]
theorem findI_neg (ns : List Int) (n : Int) : decide (findI (fun a => a == n) ns 0 < 0) = !decide (n ∈ ns) := by
 rcases findI_find (fun a : Int => a == n) ns 0 with ⟨h1, h2⟩ | ⟨j, h1, h2, h3⟩
 ·rw [h2]
  have : n ∉ ns := fun h => by
   have := List.find?_eq_none.1 h1 n h
   simp at this
  simp [this]
 ·rw [h3]
  have hm := List.mem_of_find?_eq_some h2
  have hp := List.find?_some h2
  simp at hp
  have : n ∈ ns := by rw [← hp]; simpa using hm
  simp [this]
theorem isEntry_eq (g : Int) (e : Entry) : isEntryOk g e = (entryOk e && (decide (0 ≤ e.good) && decide (e.good ≤ g - 1))) := by
 unfold isEntryOk isEntryB entryOk
 cases decide (1 ≤ e.number) && decide (e.number ≤ 9999) <;> cases decide (0 ≤ e.good) && decide (e.good ≤ g - 1) <;> cases decide (1 ≤ e.colours) && decide (e.colours ≤ 15) <;>
  cases decide (1 ≤ (e.sizes.length : Int)) && decide ((e.sizes.length : Int) ≤ 8) <;> cases fitsOk 0 e.sizes <;> rfl
theorem entriesOk_drop (g : Int) (ns gs : List Int) {l : List Entry} {j : Nat} (h : j < l.length) : entriesOk g ns gs (l.drop j) =
    (isEntryOk g (l.getD j default) && !decide ((l.getD j default).number ∈ ns) && !decide ((l.getD j default).good ∈ gs) && entriesOk g (ns ++ [(l.getD j default).number]) (gs ++ [(l.getD j default).good]) (l.drop (j + 1))) := by
 have e : l.getD j default = l[j] := by simp [h]
 rw [e, List.drop_eq_getElem_cons h]
 simp only [entriesOk, findI_neg, isEntry_eq]
def issuePre (x : Issue) : Bool := (decide (0 ≤ x.lo) && decide (x.lo ≤ x.hi) && decide (x.hi ≤ 20000)) && (decide (x.lo ≤ x.held) && decide (x.held ≤ 20000)) && decide ((x.entries.length : Int) ≤ 24)
theorem issueOk_eq (g : Int) (x : Issue) : issueOk g x = (issuePre x && entriesOk g [] [] x.entries) := rfl
theorem all_drop {α : Type} [Inhabited α] (p : α → Bool) {l : List α} {i : Nat} (h : i < l.length) : (l.drop i).all p = (p (l.getD i default) && (l.drop (i + 1)).all p) := by
 have e : l.getD i default = l[i] := by simp [h]
 rw [e, List.drop_eq_getElem_cons h]
 rfl
theorem map_take_succ {α β : Type} [Inhabited α] (f : α → β) {l : List α} {j : Nat} (h : j < l.length) : (l.take (j + 1)).map f = (l.take j).map f ++ [f (l.getD j default)] := by
 have e : l.getD j default = l[j] := by simp [h]
 rw [e, List.take_succ_eq_append_getElem h, List.map_append]
 rfl
theorem check_fn (r : Rack) (hr : okRack r) : Fn E8 0 57 Tryz.f57 (Tryz.f57.body.getD .skip) [.agg (encR r)] (.int .i64 (if rackOk r then 0 else 10)) := by
 obtain ⟨hgo, hil, his⟩ := hr
 unfold Fn Tryz.f57
 simp only [go_sem, @ct E8 92 sTween rfl, sTween, encR]
 refine ev_loopS [1] (fun x : Nat × Bool => [(3, .bool x.2), (20, .sl (r.issues.map encI) false), (21, .int .i64 r.issues.length), (22, .int .i64 x.1)])
  (fun x H => x.1 ≤ r.issues.length ∧ H (([], 57000000) : Key) = some (.cells (encR r) 1 false) ∧ rackOk r = (x.2 && (r.issues.drop x.1).all (issueOk r.goods)) ∧ (x.2 = true → 1 ≤ r.goods))
  (fun x => r.issues.length - x.1) (0, (decide (1 ≤ r.goods) && decide (r.goods ≤ 24)) && (decide (1 ≤ (r.issues.length : Int)) && decide ((r.issues.length : Int) ≤ 4))) ?_ ⟨Nat.zero_le _, ?_, by simp [rackOk], fun h => by simp at h; omega⟩ ?_
 ·simp only [go_sem]
 ·simp only [go_sem, encR]
 ·simp only [go_sem]
  intro K x H ⟨hi, h1, hf, hgd⟩ hK hE
  obtain ⟨i, ok⟩ := x
  simp only at hi hf hgd
  rw [condK_bool]
  refine ⟨fun h => ?_, fun h => ?_⟩
  ·have h' : i < r.issues.length := by simpa using h
   have hii : (i : Int) < (r.issues.length : Int) := by omega
   have hy : r.issues.getD i default ∈ r.issues := by simp [List.getD_eq_getElem?_getD, h']
   generalize hye : r.issues.getD i default = y at hy
   have hok := his y hy
   simp only [go_sem, @ct E8 92 sTween rfl, sTween, @ct E8 98 sProper rfl, sProper, h1, encR, hii, getD_mapN encI r.issues i _ h', hye, encI]
   have hpre : (ok && (decide (0 ≤ y.lo) && decide (y.lo ≤ y.hi) && decide (y.hi ≤ 20000)) && (decide (y.lo ≤ y.held) && decide (y.held ≤ 20000)) && decide ((y.entries.length : Int) ≤ 24)) = (ok && issuePre y) := by
    unfold issuePre; cases ok <;> simp [Bool.and_assoc]
   rw [hpre]
   rw [all_drop _ h', hye] at hf
   rw [condK_bool]
   refine ⟨fun h2 => ?_, fun h2 => ?_⟩
   ·simp only [go_sem]
    refine hE _ _ _ (by simp) ?_
    simp only [go_sem]
    have h3 : rackOk r = false := by
     rw [hf, issueOk_eq]
     simp only [Bool.not_eq_true'] at h2
     revert h2; cases ok <;> cases issuePre y <;> simp
    simp only [go_sem, h3]
   ·have h3 : ok = true ∧ issuePre y = true := by
     revert h2; cases ok <;> cases issuePre y <;> simp
    obtain ⟨rfl, h4⟩ := h3
    have hgd := hgd rfl
    have h24 : y.entries.length ≤ 24 := by
     simp only [issuePre, Bool.and_eq_true, decide_eq_true_eq] at h4; omega
    simp only [go_sem, h4, encI]
    generalize hv5 : verOf H ([], 57004002) + 1 = v5
    generalize hv6 : verOf H ([], 57008000) + 1 = v6
    generalize hv7 : verOf H ([], 57008001) + 1 = v7
    refine ev_loopS [1, 5, 6, 7, 20, 21, 22, 51, 52] (fun x : Nat × Bool => [(3, .bool x.2), (53, .int .i64 x.1)])
     (fun x H => x.1 ≤ y.entries.length ∧ H (([], 57000000) : Key) = some (.cells (encR r) 1 false) ∧
      (∃ es, H (([], 57008000) : Key) = some (.map false 1 es v6 false) ∧ MapHas es ((y.entries.take x.1).map (·.number))) ∧ (∃ es, H (([], 57008001) : Key) = some (.map false 1 es v7 false) ∧ MapHas es ((y.entries.take x.1).map (·.good))) ∧
      entriesOk r.goods [] [] y.entries = (x.2 && entriesOk r.goods ((y.entries.take x.1).map (·.number)) ((y.entries.take x.1).map (·.good)) (y.entries.drop x.1)))
     (fun x => y.entries.length - x.1) (0, true) ?_ ⟨Nat.zero_le _, ?_, ⟨[], ?_, MapHas.nil⟩, ⟨[], ?_, MapHas.nil⟩, by simp⟩ ?_
    ·simp only [go_sem]
    ·simp only [go_sem, h1, encR]
    ·simp only [go_sem, hv6]
    ·simp only [go_sem, hv7]
    ·simp only [go_sem]
     intro K2 x H2 ⟨hj, g1, ⟨es6, g6, m6⟩, ⟨es7, g7, m7⟩, g2⟩ hK2 hE2
     obtain ⟨j, ok2⟩ := x
     simp only at hj g2 m6 m7
     rw [condK_bool]
     refine ⟨fun h => ?_, fun h => ?_⟩
     ·have hj' : j < y.entries.length := by simpa using h
      have hjj : (j : Int) < (y.entries.length : Int) := by omega
      have he : y.entries.getD j default ∈ y.entries := by simp [List.getD_eq_getElem?_getD, hj']
      rw [entriesOk_drop _ _ _ hj'] at g2
      have htn : (y.entries.take (j + 1)).map (·.number) = (y.entries.take j).map (·.number) ++ [(y.entries.getD j default).number] := map_take_succ _ hj'
      have htg : (y.entries.take (j + 1)).map (·.good) = (y.entries.take j).map (·.good) ++ [(y.entries.getD j default).good] := map_take_succ _ hj'
      rw [← htn, ← htg] at g2
      generalize hee : y.entries.getD j default = e at *
      have hoe := hok.2.2.2.2 e he
      have hbg := big_of_le hoe.2.2.2.1
      have w2 : IntKind.i64.wrap ((j : Int) + 1) = (j : Int) + 1 := wrap_id (by omega)
      simp only [go_sem, @ct E8 99 s68 rfl, s68, g1, g6, g7, encR, hjj, getD_mapN encE y.entries j _ hj', hee, encE, look, mapPut, keyOf, ints, m6.found e.number, m7.found e.good, hgo, hbg]
      refine ⟨fun _ => by omega, hK2 (j + 1, ok2 && isEntryOk r.goods e && !decide (e.number ∈ (y.entries.take j).map (·.number)) && !decide (e.good ∈ (y.entries.take j).map (·.good))) _ _ ?_ ⟨hj', ?_, ⟨mset es6 [e.number] (.bool true), ?_, ?_⟩, ⟨mset es7 [e.good] (.bool true), ?_, ?_⟩, ?_⟩ (by simp only; omega)⟩
      ·simp only [go_sem, w2, Int.natCast_add, Int.natCast_one]
      ·simp only [go_sem, g1, encR]
      ·simp only [go_sem]
      ·rw [htn]; exact m6.add _
      ·simp only [go_sem]
      ·rw [htg]; exact m7.add _
      ·rw [g2]; simp only [Bool.and_assoc]
     ·refine hE2 _ _ _ (by simp) ?_
      have hj' : j = y.entries.length := by have : ¬ ((j : Int) < (y.entries.length : Int)) := by simpa using h
                                            omega
      subst hj'
      simp only [go_sem]
      have w2 : IntKind.i64.wrap ((i : Int) + 1) = (i : Int) + 1 := wrap_id (by omega)
      refine hK (i + 1, ok2) _ _ ?_ ⟨h', g1, ?_, fun _ => hgd⟩ (by simp only; omega)
      ·simp only [go_sem, w2, Int.natCast_add, Int.natCast_one]
      ·rw [hf, issueOk_eq, h4, g2]
       simp [entriesOk]
  ·refine hE _ _ _ (by simp) ?_
   have h' : i = r.issues.length := by have : ¬ ((i : Int) < (r.issues.length : Int)) := by simpa using h
                                       omega
   subst h'
   simp only [List.drop_length, List.all_nil, Bool.and_true] at hf
   simp only [go_sem]
   rw [condK_bool]
   refine ⟨fun h => ?_, fun h => ?_⟩
   ·have : ok = false := by simpa using h
    simp only [go_sem, hf, this]
   ·have : ok = true := by simpa using h
    simp only [go_sem, hf, this]
def s20 : Spec := spec1 (fun (r : Rack) => okRack r) (fun r => .int .i64 (if rackOk r then 0 else 10))
theorem s20_ok : SpecOK Tryz.prog glB 57 s20 := spec1_ok E8_ok Tryz.func57 rfl (by kernel_rfl) fun r h => check_fn r h
theorem il_one (a : Int) : il [a] = [[PV.int .i64 a]] := rfl
theorem il_nil : il [] = [] := rfl
def Two (H : Heap) (K6 K7 : Key) (p6 p7 : PV) (a b : List Int) : Prop :=
 (a = [] ∧ b = [] ∧ p6 = .sl [] true ∧ p7 = .sl [] true) ∨ ∃ v6 v7, p6 = .sref K6 v6 1 a.length false ∧ p7 = .sref K7 v7 1 b.length false ∧ H K6 = some (.rows 1 (il a) v6 false) ∧ H K7 = some (.rows 1 (il b) v7 false)
theorem refCheck_fn (r : Rack) (hr : okRack r) : Fn E8 0 79 Tryz.f79 (Tryz.f79.body.getD .skip) [.agg (encR r)] (.int .i64 (if rackOk r then 0 else 10)) := by
 obtain ⟨hgo, hil, his⟩ := hr
 unfold Fn Tryz.f79
 simp only [go_sem, @ct E8 45 sTween rfl, sTween, encR]
 refine ev_loopS [1] (fun x : Nat × Bool => [(3, .bool x.2), (4, .int .i64 x.1)])
  (fun x H => x.1 ≤ r.issues.length ∧ H (([], 79000000) : Key) = some (.cells (encR r) 1 false) ∧ rackOk r = (x.2 && (r.issues.drop x.1).all (issueOk r.goods)) ∧ (x.2 = true → 1 ≤ r.goods))
  (fun x => r.issues.length - x.1) (0, (decide (1 ≤ r.goods) && decide (r.goods ≤ 24)) && (decide (1 ≤ (r.issues.length : Int)) && decide ((r.issues.length : Int) ≤ 4))) ?_ ⟨Nat.zero_le _, ?_, by simp [rackOk], fun h => by simp at h; omega⟩ ?_
 ·simp only [go_sem]
 ·simp only [go_sem, encR]
 ·simp only [go_sem]
  intro K x H ⟨hi, h1, hf, hgd⟩ hK hE
  obtain ⟨i, ok⟩ := x
  simp only at hi hf hgd
  simp only [go_sem, h1, encR]
  rw [condK_bool]
  refine ⟨fun h => ?_, fun h => ?_⟩
  ·have hh : ok = true ∧ (i : Int) < (r.issues.length : Int) := by simpa using h
   obtain ⟨rfl, hii⟩ := hh
   have h' : i < r.issues.length := by omega
   have hgd := hgd rfl
   have hy : r.issues.getD i default ∈ r.issues := by simp [List.getD_eq_getElem?_getD, h']
   generalize hye : r.issues.getD i default = y at hy
   have hok := his y hy
   rw [all_drop _ h', hye] at hf
   simp only [go_sem, @ct E8 45 sTween rfl, sTween, @ct E8 58 sProper rfl, sProper, h1, encR, hii, getD_mapN encI r.issues i _ h', hye, encI]
   have hpre : ((decide (0 ≤ y.lo) && decide (y.lo ≤ y.hi) && decide (y.hi ≤ 20000)) && (decide (y.lo ≤ y.held) && decide (y.held ≤ 20000)) && decide ((y.entries.length : Int) ≤ 24)) = issuePre y := rfl
   rw [hpre]
   generalize hv5 : verOf H ([], 79005005) + 1 = v5
   refine ev_loopS [1, 4, 5] (fun x : Nat × Bool × PV × PV => [(3, .bool x.2.1), (8, .int .i64 x.1), (6, x.2.2.1), (7, x.2.2.2)])
    (fun x H => x.1 ≤ y.entries.length ∧ H (([], 79000000) : Key) = some (.cells (encR r) 1 false) ∧ H (([], 79005005) : Key) = some (.cells (encI y) v5 false) ∧
     Two H ([], 79013004) ([], 79013009) x.2.2.1 x.2.2.2 ((y.entries.take x.1).map (·.number)) ((y.entries.take x.1).map (·.good)) ∧ (x.2.1 = true → issuePre y = true) ∧
     issueOk r.goods y = (x.2.1 && entriesOk r.goods ((y.entries.take x.1).map (·.number)) ((y.entries.take x.1).map (·.good)) (y.entries.drop x.1)))
    (fun x => y.entries.length - x.1) (0, issuePre y, .sl [] true, .sl [] true) ?_ ⟨Nat.zero_le _, ?_, ?_, .inl ⟨rfl, rfl, rfl, rfl⟩, id, by simp [issueOk_eq]⟩ ?_
   ·simp only [go_sem]
   ·simp only [go_sem, h1, encR]
   ·simp only [go_sem, encI]
   ·simp only [go_sem]
    intro K2 x H2 ⟨hj, g1, g5, g6, gp, g2⟩ hK2 hE2
    obtain ⟨j, ok2, p6, p7⟩ := x
    simp only at hj g2 g6 gp
    simp only [go_sem, g1, g5, encR, encI]
    rw [condK_bool]
    refine ⟨fun h => ?_, fun h => ?_⟩
    ·have hh : ok2 = true ∧ (j : Int) < (y.entries.length : Int) := by simpa using h
     obtain ⟨rfl, hjj⟩ := hh
     have hj' : j < y.entries.length := by omega
     have h24 : y.entries.length ≤ 24 := by
      have := gp rfl
      simp only [issuePre, Bool.and_eq_true, decide_eq_true_eq] at this; omega
     have he : y.entries.getD j default ∈ y.entries := by simp [List.getD_eq_getElem?_getD, hj']
     rw [entriesOk_drop _ _ _ hj'] at g2
     have htn : (y.entries.take (j + 1)).map (·.number) = (y.entries.take j).map (·.number) ++ [(y.entries.getD j default).number] := map_take_succ _ hj'
     have htg : (y.entries.take (j + 1)).map (·.good) = (y.entries.take j).map (·.good) ++ [(y.entries.getD j default).good] := map_take_succ _ hj'
     rw [← htn, ← htg] at g2
     have hln : ((y.entries.take j).map (·.number)).length ≤ 24 := by simp; omega
     have hlg : ((y.entries.take j).map (·.good)).length ≤ 24 := by simp; omega
     generalize hee : y.entries.getD j default = e at *
     have hoe := hok.2.2.2.2 e he
     have hbg : e.sizes.length < 4611686018427387904 := big_of_le hoe.2.2.2.1
     have w2 : IntKind.i64.wrap ((j : Int) + 1) = (j : Int) + 1 := wrap_id (by omega)
     have w3 : IntKind.i64.wrap (r.goods - 1) = r.goods - 1 := wrap_id (by have := hgo.2; omega)
     generalize (y.entries.take j).map (·.number) = ns at *
     generalize (y.entries.take j).map (·.good) = gs at *
     have hbn : ns.length < 4611686018427387904 := by omega
     have hbs : gs.length < 4611686018427387904 := by omega
     rcases g6 with ⟨rfl, rfl, rfl, rfl⟩ | ⟨v6, v7, rfl, rfl, g7, g8⟩
     ·simp only [go_sem, @ct E8 45 sTween rfl, sTween, @ct E8 115 sEntry rfl, sEntry, @ct E8 96 sPlace rfl, sPlace, callSpec, g1, g5, encR, encI, hjj, getD_mapN encE y.entries j _ hj', hee, encE, w3, hbg, app, rowsOf, cells1, cellP, forall_eq, dL]
      refine ⟨rfl, rfl, hK2 (j + 1, isEntryOk r.goods e && !decide (e.number ∈ ([] : List Int)) && !decide (e.good ∈ ([] : List Int)), .sref ([], 79013004) (verOf H2 ([], 79013004) + 1) 1 (0 + 1) false, .sref ([], 79013009) (verOf H2 ([], 79013009) + 1) 1 (0 + 1) false) _ _ ?_ ⟨hj', ?_, ?_, .inr ⟨verOf H2 ([], 79013004) + 1, verOf H2 ([], 79013009) + 1, ?_, ?_, ?_, ?_⟩, fun _ => gp rfl, ?_⟩ (by simp only; omega)⟩
      ·simp only [go_sem, w2, Int.natCast_add, Int.natCast_one, isEntry_eq, findI_neg, List.length_nil, Nat.zero_add]
      ·simp only [go_sem, g1, encR]
      ·simp only [go_sem, g5, encI]
      ·rw [htn]; simp
      ·rw [htg]; simp
      ·rw [htn]; simp only [go_sem, il_append, il_one, il_nil]
      ·rw [htg]; simp only [go_sem, il_append, il_one, il_nil]
      ·rw [g2]; simp only [Bool.true_and]
     ·simp only [go_sem, @ct E8 45 sTween rfl, sTween, @ct E8 115 sEntry rfl, sEntry, @ct E8 96 sPlace rfl, sPlace, callSpec, g1, g5, encR, encI, hjj, getD_mapN encE y.entries j _ hj', hee, encE, w3, hbg, app, rowsOf, cells1, cellP, forall_eq, il_length, g7, g8, hbn, hbs]
      refine ⟨by omega, rfl, by omega, rfl, hK2 (j + 1, isEntryOk r.goods e && !decide (e.number ∈ ns) && !decide (e.good ∈ gs), .sref ([], 79013004) (v6 + 1) 1 (ns.length + 1) false, .sref ([], 79013009) (v7 + 1) 1 (gs.length + 1) false) _ _ ?_ ⟨hj', ?_, ?_, .inr ⟨v6 + 1, v7 + 1, ?_, ?_, ?_, ?_⟩, fun _ => gp rfl, ?_⟩ (by simp only; omega)⟩
      ·simp only [go_sem, w2, Int.natCast_add, Int.natCast_one, isEntry_eq, findI_neg, List.length_nil, Nat.zero_add]
      ·simp only [go_sem, g1, encR]
      ·simp only [go_sem, g5, encI]
      ·rw [htn]; simp
      ·rw [htg]; simp
      ·rw [htn]; simp only [go_sem, il_append, il_one, il_nil]
      ·rw [htg]; simp only [go_sem, il_append, il_one, il_nil]
      ·rw [g2]; simp only [Bool.true_and]
    ·refine hE2 _ _ _ (by simp) ?_
     simp only [go_sem]
     have w2 : IntKind.i64.wrap ((i : Int) + 1) = (i : Int) + 1 := wrap_id (by omega)
     refine hK (i + 1, ok2) _ _ ?_ ⟨h', g1, ?_, fun _ => hgd⟩ (by simp only; omega)
     ·simp only [go_sem, w2, Int.natCast_add, Int.natCast_one]
     ·rw [hf, g2]
      cases ok2 with
      | false => rfl
      | true =>
       have hj' : j = y.entries.length := by have : ¬ ((j : Int) < (y.entries.length : Int)) := by simpa using h
                                             omega
       subst hj'
       simp [entriesOk]
  ·refine hE _ _ _ (by simp) ?_
   simp only [go_sem]
   rw [condK_bool]
   refine ⟨fun h2 => ?_, fun h2 => ?_⟩
   ·have : ok = false := by simpa using h2
    subst this
    simp only [Bool.false_and] at hf
    simp only [go_sem, hf]
   ·have : ok = true := by simpa using h2
    subst this
    have h' : i = r.issues.length := by have : ¬ ((i : Int) < (r.issues.length : Int)) := by simpa using h
                                        omega
    subst h'
    simp only [List.drop_length, List.all_nil, Bool.and_true] at hf
    simp only [go_sem, hf]
def s21 : Spec := spec1 (fun (r : Rack) => okRack r) (fun r => .int .i64 (if rackOk r then 0 else 10))
theorem s21_ok : SpecOK Tryz.prog glB 79 s21 := spec1_ok E8_ok Tryz.func79 rfl (by kernel_rfl) fun r h => refCheck_fn r h
def dRowC : List PV → Option Calc
 | [.int .i64 g, .sl rs _, .mp true 2 es] => (dL dI rs).map fun l => ⟨⟨g, l⟩, es⟩
 | _ => none
instance : Row Calc where
 row := encC
 drow := dRowC
 wk_drow r a h := by
  unfold dRowC at h
  split at h
  ·simp only [Option.map_eq_some_iff] at h
   obtain ⟨l, h1, rfl⟩ := h
   exact ⟨rfl, ⟨dL_wk dI_wk h1, fun h => by cases h⟩, wk_refl _, trivial⟩
  ·cases h
 drow_row x := by simp [dRowC, encC, dI_map]
theorem dec_rcalc (g : Int) (l : List Issue) (ex : Bool) (es : List (List Int × PV)) : (dec (.eref [.int .i64 g, .sl (l.map encI) ex, .mp true 2 es] 0) : Option (Rf Calc)) = some ⟨⟨⟨g, l⟩, es⟩⟩ := by
 show (dRowC [.int .i64 g, .sl (l.map encI) ex, .mp true 2 es]).map Rf.mk = _
 simp [dRowC, dI_map]
theorem dec_line' (l : Line) : (dec (.agg (encL l)) : Option Line) = some l := rfl
theorem dec_lines (l : List Line) (ex : Bool) : (dec (.sl (l.map encL) ex) : Option (List Line)) = some l := drows_rows l
def gOk (g : Int) : Prop := -9223372036854775807 ≤ g ∧ g ≤ 9223372036854775807
def lineOk (g : Int) (l : Line) : Bool := itemOk g l.item.good l.item.size l.item.colour && (decide (1 ≤ l.many) && decide (l.many ≤ 1000))
theorem line_fn (l : Line) (x : Calc) (hg : gOk x.r.goods) : Fn E8 0 119 Tryz.f119 (Tryz.f119.body.getD .skip) [.agg (encL l), .eref (encC x) 0] (.bool (!lineOk x.r.goods l)) := by
 unfold gOk at hg
 unfold Fn Tryz.f119
 simp only [go_sem, @ct E8 120 s81 rfl, s81, @ct E8 92 sTween rfl, sTween, encL, encC, hg]
 unfold lineOk
 cases itemOk x.r.goods l.item.good l.item.size l.item.colour <;> simp
def s114 : Spec := spec2 (fun (_ : Line) (x : Rf Calc) => gOk x.v.r.goods) (fun l x => .bool (!lineOk x.v.r.goods l))
theorem s114_ok : SpecOK Tryz.prog glB 119 s114 := spec2_ok E8_ok Tryz.func119 rfl (by kernel_rfl) fun l x h => line_fn l x.v h
def E9t : List (Nat × Spec) := [(57, s20), (79, s21), (119, s114)] ++ E8t
theorem E9t_ok : AllOK E9t := ⟨⟨s20_ok, Tryz.call57⟩, ⟨s21_ok, Tryz.call79⟩, ⟨s114_ok, Tryz.call119⟩, E8t_ok⟩
noncomputable def E9 : Env := mkM E9t [] Mt
theorem E9_ok : EnvOK Tryz.prog E9 := envMOK E9t_ok trivial Mt_ok
theorem E9_ti {t : Nat} : E9.ti t = ti t := rfl
theorem E9_e {t : Nat} : E9.eqt t = eqB t := rfl
theorem E9_k {t : Nat} : E9.keyt t = keyB t := rfl
theorem E9_g {t : Nat} : E9.glob t = glB t := rfl
attribute [go_sem] E9_ti E9_e E9_k E9_g
theorem indexL_fn (l : List Line) (ex : Bool) (p : Line → Bool) (g : Nat) (cap : PV) (s : Spec) (hs : E9.spec g = some s) (hcap : pureD 8 cap = true) (hp : ∀ f, s [.agg (encL f), cap] = some (True, .bool (p f))) (hl : big l.length) :
    Fn E9 0 142 Tryz.f142 (Tryz.f142.body.getD .skip) [.sl (l.map encL) ex, .fn g [] [cap]] (.int .i64 (findI p l 0)) := by
 unfold big at hl
 unfold Fn Tryz.f142
 simp only [go_sem]
 refine ev_loopS [0, 1] (fun i : Nat => [(7, .int .i64 l.length), (8, .int .i64 i)]) (fun i H => i ≤ l.length ∧ findI p (l.drop i) i = findI p l 0) (fun i => l.length - i) 0 ?_ ⟨Nat.zero_le _, by simp⟩ ?_
 ·simp only [go_sem]
 ·simp only [go_sem]
  intro K i H ⟨hi, hf⟩ hK hE
  rw [condK_bool]
  refine ⟨fun h => ?_, fun h => ?_⟩
  ·have h' : i < l.length := by simpa using h
   simp only [go_sem, h, getD_map encL _ _ _ h, @callV_spec E9 g s hs]
   have e1 : List.take 4 (encL (l.getD i default)) = encL (l.getD i default) := rfl
   rw [e1, callSpec_eq (by rw [show pureD.pureLs (pureD 8) [PV.agg (encL (l.getD i default)), cap] = (pureD 8 (.agg (encL (l.getD i default))) && (pureD 8 cap && true)) from rfl, hcap]; rfl) (hp _)]
   simp only [go_sem]
   refine ⟨⟨by simpa using h, rfl⟩, by simp [encL], ?_⟩
   rw [condK_bool]
   refine ⟨fun h2 => ?_, fun h2 => ?_⟩
   ·simp only [go_sem]
    refine hE _ _ _ (by simp) ?_
    simp only [go_sem]
    rw [← hf, findI_drop _ h', if_pos h2]
   ·simp only [go_sem]
    refine hK (i + 1) _ _ ?_ ⟨h', ?_⟩ (by omega)
    ·rw [wrap_id (by omega)]
     simp only [go_sem, Int.natCast_add, Int.natCast_one]
    ·rw [← hf, findI_drop _ h', h2]; rfl
  ·refine hE _ _ _ (by simp) ?_
   simp only [go_sem]
   have h' : i = l.length := by have : ¬ ((i : Int) < (l.length : Int)) := by simpa using h
                                omega
   rw [← hf, h']
   simp [findI]
def predL : Nat → List PV → Option ((Line → Bool) × Prop)
 | 119, [.eref [.int .i64 g, .sl rs _, .mp true 2 es] 0] => (dL dI rs).map fun _ => (fun l => !lineOk g l, gOk g)
 | _, _ => none
def s128 : Spec := fun args => match args with
 | [.sl rs _, .fn g [] cap] => match dL dLn rs, predL g cap with
  | some l, some p => some (big l.length ∧ p.2, .int .i64 (findI p.1 l 0))
  | _, _ => none
 | _ => none
theorem s128_ok : SpecOK Tryz.prog glB 142 s128 := specOK_of E9_ok Tryz.func142 (by kernel_rfl) fun args pre r h hp => by
 unfold s128 at h
 split at h
 ·split at h
  ·rename_i rs ex g cap l p hl hpr
   cases h
   unfold predL at hpr
   split at hpr
   ·simp only [Option.map_eq_some_iff] at hpr
    obtain ⟨li, h2, rfl⟩ := hpr
    exact ⟨[.sl (l.map encL) _, .fn 119 [] [.eref [.int .i64 _, .sl (li.map encI) false, .mp true 2 _] 0]], _, ⟨⟨dL_wk (f := dLn) (enc := encL) (fun r a h => Row.wk_drow (α := Line) r a h) hl, id⟩, ⟨rfl, trivial, ⟨⟨rfl, ⟨dL_wk dI_wk h2, fun h => by cases h⟩, rfl, trivial⟩, rfl⟩, trivial⟩, trivial⟩, rfl,
     indexL_fn l _ _ 119 _ s114 rfl rfl (fun f => by simp only [s114, spec2, dec_line', dec_rcalc]; rw [eq_true (show gOk _ from hp.2)]) hp.1⟩
   ·cases hpr
  ·cases h
 ·cases h
def E10t : List (Nat × Spec) := [(142, s128)] ++ E9t
theorem E10t_ok : AllOK E10t := ⟨⟨s128_ok, Tryz.call142⟩, E9t_ok⟩
noncomputable def E10 : Env := mkM E10t [] Mt
theorem E10_ok : EnvOK Tryz.prog E10 := envMOK E10t_ok trivial Mt_ok
theorem E10_ti {t : Nat} : E10.ti t = ti t := rfl
theorem E10_e {t : Nat} : E10.eqt t = eqB t := rfl
theorem E10_k {t : Nat} : E10.keyt t = keyB t := rfl
theorem E10_g {t : Nat} : E10.glob t = glB t := rfl
attribute [go_sem] E10_ti E10_e E10_k E10_g
theorem dLn_map (l : List Line) : dL dLn (l.map encL) = some l := dL_map (α := Line) (f := dLn) (enc := encL) (fun a => rfl) l
theorem contains_fn (l : List Line) (ex : Bool) (g : Int) (li : List Issue) (es : List (List Int × PV)) (hl : big l.length) (hg : gOk g) :
    Fn E10 0 118 Tryz.f118 (Tryz.f118.body.getD .skip) [.sl (l.map encL) ex, .fn 119 [] [.eref [.int .i64 g, .sl (li.map encI) false, .mp true 2 es] 0]] (.bool (decide (findI (fun l => !lineOk g l) l 0 ≥ 0))) := by
 unfold Fn Tryz.f118
 simp only [go_sem, @ct E10 142 s128 rfl, s128, predL, dLn_map, hl, hg]
def s113 : Spec := fun args => match args with
 | [.sl rs _, .fn g [] cap] => match dL dLn rs, predL g cap with
  | some l, some p => some (big l.length ∧ p.2, .bool (decide (findI p.1 l 0 ≥ 0)))
  | _, _ => none
 | _ => none
theorem s113_ok : SpecOK Tryz.prog glB 118 s113 := specOK_of E10_ok Tryz.func118 (by kernel_rfl) fun args pre r h hp => by
 unfold s113 at h
 split at h
 ·split at h
  ·rename_i rs ex g cap l p hl hpr
   cases h
   unfold predL at hpr
   split at hpr
   ·simp only [Option.map_eq_some_iff] at hpr
    obtain ⟨li, h2, rfl⟩ := hpr
    exact ⟨[.sl (l.map encL) _, .fn 119 [] [.eref [.int .i64 _, .sl (li.map encI) false, .mp true 2 _] 0]], _, ⟨⟨dL_wk (f := dLn) (enc := encL) (fun r a h => Row.wk_drow (α := Line) r a h) hl, id⟩, ⟨rfl, trivial, ⟨⟨rfl, ⟨dL_wk dI_wk h2, fun h => by cases h⟩, rfl, trivial⟩, rfl⟩, trivial⟩, trivial⟩, rfl,
     contains_fn l _ _ li _ hp.1 hp.2⟩
   ·cases hpr
  ·cases h
 ·cases h
def E11t : List (Nat × Spec) := [(118, s113)] ++ E10t
theorem E11t_ok : AllOK E11t := ⟨⟨s113_ok, Tryz.call118⟩, E10t_ok⟩
noncomputable def E11 : Env := mkM E11t [] Mt
theorem E11_ok : EnvOK Tryz.prog E11 := envMOK E11t_ok trivial Mt_ok
theorem E11_ti {t : Nat} : E11.ti t = ti t := rfl
theorem E11_e {t : Nat} : E11.eqt t = eqB t := rfl
theorem E11_k {t : Nat} : E11.keyt t = keyB t := rfl
theorem E11_g {t : Nat} : E11.glob t = glB t := rfl
attribute [go_sem] E11_ti E11_e E11_k E11_g
def areLinesB (g : Int) (l : List Line) : Bool := decide ((l.length : Int) ≤ 20) && l.all (lineOk g)
theorem findI_all {α : Type} [Inhabited α] (p : α → Bool) (l : List α) : (!decide (findI (fun a => !p a) l 0 ≥ 0)) = l.all p := by
 rcases findI_find (fun a => !p a) l 0 with ⟨h1, h2⟩ | ⟨j, h1, h2, h3⟩
 ·rw [h2]
  have : l.all p = true := by
   rw [List.all_eq_true]; intro a ha
   have := List.find?_eq_none.1 h1 a ha
   simpa using this
  simp [this]
 ·rw [h3]
  have hp := List.find?_some h2
  have : l.all p = false := by
   rw [List.all_eq_false]
   exact ⟨_, List.mem_of_find?_eq_some h2, by simpa using hp⟩
  simp [this]
theorem areLines_fn (x : Calc) (l : List Line) (hl : big l.length) (hg : gOk x.r.goods) : Fn E11 0 93 Tryz.f93 (Tryz.f93.body.getD .skip) [.agg (encC x), .sl (l.map encL) false] (.bool (areLinesB x.r.goods l)) := by
 unfold Fn Tryz.f93
 unfold areLinesB
 rw [← findI_all]
 simp only [go_sem, @ct E11 118 s113 rfl, s113, encC, callSpec, predL, dLn_map, dI_map, hl, hg]
def s93 : Spec := spec2 (fun (x : Calc) (l : List Line) => big l.length ∧ gOk x.r.goods) (fun x l => .bool (areLinesB x.r.goods l))
theorem s93_ok : SpecOK Tryz.prog glB 93 s93 := spec2_ok E11_ok Tryz.func93 rfl (by kernel_rfl) fun x l h => areLines_fn x l h.1 h.2
def sumF (r : Rack) (on : Int) : Int → List Line → Option Int
 | acc, [] => some acc
 | acc, l :: ls => match priceP r on l.item with
  | some n => sumF r on (acc + n * (l.many - l.many / 12)) ls
  | none => none
theorem sumF_drop (r : Rack) (on acc : Int) {ls : List Line} {i : Nat} (h : i < ls.length) : sumF r on acc (ls.drop i) = match priceP r on (ls.getD i default).item with
    | some n => sumF r on (acc + n * ((ls.getD i default).many - (ls.getD i default).many / 12)) (ls.drop (i + 1))
    | none => none := by
 have e : ls.getD i default = ls[i] := by simp [h]
 rw [e, List.drop_eq_getElem_cons h]
 rfl
def E12t : List (Nat × Spec) := [(93, s93)] ++ E11t
theorem E12t_ok : AllOK E12t := ⟨⟨s93_ok, Tryz.call93⟩, E11t_ok⟩
noncomputable def E12 : Env := mkM E12t [] Mt
theorem E12_ok : EnvOK Tryz.prog E12 := envMOK E12t_ok trivial Mt_ok
theorem E12_ti {t : Nat} : E12.ti t = ti t := rfl
theorem E12_e {t : Nat} : E12.eqt t = eqB t := rfl
theorem E12_k {t : Nat} : E12.keyt t = keyB t := rfl
theorem E12_g {t : Nat} : E12.glob t = glB t := rfl
attribute [go_sem] E12_ti E12_e E12_k E12_g
def cents (r : Rack) : Prop := ∀ on x n, priceP r on x = some n → 1 ≤ n ∧ n ≤ 100000
theorem sum_fn (x : Calc) (on : Int) (ls : List Line) (hl : ls.length ≤ 20) (hs : Sane x.r) (hc : cents x.r) (hls : ∀ l ∈ ls, (0 ≤ l.item.colour ∧ l.item.colour ≤ 3) ∧ 1 ≤ l.many ∧ l.many ≤ 1000) :
    Fn E12 0 94 Tryz.f94 (Tryz.f94.body.getD .skip) [.agg (encC x), .int .i64 on, .sl (ls.map encL) false] (optPV (sumF x.r on 0 ls)) := by
 unfold Fn Tryz.f94
 simp only [go_sem, @ct E12 121 s82 rfl, s82, encC]
 refine ev_loopS [1, 3, 6, 7, 13] (fun x : Nat × Int => [(8, .int .i64 x.2), (14, .int .i64 ls.length), (15, .int .i64 x.1)])
  (fun y H => y.1 ≤ ls.length ∧ H (([], 94000000) : Key) = some (.cells (encC x) 1 false) ∧ sumF x.r on 0 ls = sumF x.r on y.2 (ls.drop y.1) ∧ 0 ≤ y.2 ∧ y.2 ≤ 100000000 * y.1) (fun y => ls.length - y.1) (0, 0) ?_ ⟨Nat.zero_le _, ?_, by simp, by simp, by simp⟩ ?_
 ·simp only [go_sem]
 ·simp only [go_sem, encC]
 ·simp only [go_sem]
  intro K y H ⟨hi, h1, hf, hb1, hb2⟩ hK hE
  obtain ⟨i, acc⟩ := y
  simp only at hi hf hb1 hb2
  dsimp only
  rw [condK_bool]
  refine ⟨fun h => ?_, fun h => ?_⟩
  ·have h' : i < ls.length := by simpa using h
   have hii : (i : Int) < (ls.length : Int) := by omega
   have hy : ls.getD i default ∈ ls := by simp [List.getD_eq_getElem?_getD, h']
   rw [sumF_drop _ _ _ h'] at hf
   generalize hye : ls.getD i default = l at hy hf
   have hok := hls l hy
   simp only [go_sem, @ct E12 121 s82 rfl, s82, h1, encC, hii, getD_mapN encL ls i _ h', hye, encL]
   refine ⟨⟨hok.1, hs⟩, ?_⟩
   show Prg.wp True (match optPV (priceP x.r on l.item) with | PV.tnt q v => Prg.chk q (Prg.ret v) | v => Prg.ret v) _ _
   generalize hp : priceP x.r on l.item = o at hf
   cases o with
   | none =>
    simp only [go_sem, optPV]
    refine hE _ _ _ (by simp) ?_
    simp only [go_sem, hf, optPV]
   | some n =>
    have hn := hc on l.item n hp
    have ht : l.many.tdiv 12 = l.many / 12 := Int.tdiv_eq_ediv_of_nonneg (by omega)
    have hq : 0 ≤ l.many / 12 ∧ l.many / 12 ≤ l.many := by omega
    have hm1 : n * (l.many - l.many / 12) ≤ 100000 * 1000 := Int.mul_le_mul hn.2 (by omega) (by omega) (by omega)
    have hm0 : 0 ≤ n * (l.many - l.many / 12) := Int.mul_nonneg (by omega) (by omega)
    have w0 : IntKind.i64.wrap (l.many / 12) = l.many / 12 := wrap_id (by omega)
    have w1 : IntKind.i64.wrap (l.many - l.many / 12) = l.many - l.many / 12 := wrap_id (by omega)
    have w2 : IntKind.i64.wrap (n * (l.many - l.many / 12)) = n * (l.many - l.many / 12) := wrap_id (by omega)
    have w3 : IntKind.i64.wrap (acc + n * (l.many - l.many / 12)) = acc + n * (l.many - l.many / 12) := wrap_id (by omega)
    have w4 : IntKind.i64.wrap ((i : Int) + 1) = (i : Int) + 1 := wrap_id (by omega)
    simp only [go_sem, optPV, ht, w0, w1, w2, w3, w4]
    refine ⟨by omega, hK (i + 1, acc + n * (l.many - l.many / 12)) _ _ ?_ ⟨h', ?_, hf, by omega, by push_cast; omega⟩ (by simp only; omega)⟩
    ·simp only [go_sem, Int.natCast_add, Int.natCast_one]
    ·simp only [go_sem, h1, encC]
  ·have h' : i = ls.length := by have : ¬ ((i : Int) < (ls.length : Int)) := by simpa using h
                                 omega
   subst h'
   simp only [List.drop_length, sumF] at hf
   refine hE _ _ _ (by simp) ?_
   simp only [go_sem, optPV, hf]
def s94 : Spec := spec3 (fun (x : Calc) (_ : Int) (ls : List Line) => ls.length ≤ 20 ∧ Sane x.r ∧ cents x.r ∧ ∀ l ∈ ls, (0 ≤ l.item.colour ∧ l.item.colour ≤ 3) ∧ 1 ≤ l.many ∧ l.many ≤ 1000) (fun x on ls => optPV (sumF x.r on 0 ls))
theorem s94_ok : SpecOK Tryz.prog glB 94 s94 := spec3_ok E12_ok Tryz.func94 rfl (by kernel_rfl) fun x on ls h => sum_fn x on ls h.1 h.2.1 h.2.2.1 h.2.2.2
def E13t : List (Nat × Spec) := [(94, s94)] ++ E12t
theorem E13t_ok : AllOK E13t := ⟨⟨s94_ok, Tryz.call94⟩, E12t_ok⟩
noncomputable def E13 : Env := mkM E13t [] Mt
theorem E13_ok : EnvOK Tryz.prog E13 := envMOK E13t_ok trivial Mt_ok
theorem E13_ti {t : Nat} : E13.ti t = ti t := rfl
theorem E13_e {t : Nat} : E13.eqt t = eqB t := rfl
theorem E13_k {t : Nat} : E13.keyt t = keyB t := rfl
theorem E13_g {t : Nat} : E13.glob t = glB t := rfl
attribute [go_sem] E13_ti E13_e E13_k E13_g
def isDaysB (d : Int × Int) : Bool := decide (0 ≤ d.1) && decide (d.1 ≤ d.2) && decide (d.2 ≤ 20000)
def isNumB (n : Int) : Bool := decide (1 ≤ n) && decide (n ≤ 9999)
def isDayB (n : Int) : Bool := decide (0 ≤ n) && decide (n ≤ 20000)
def isIssB (r : Rack) (n : Int) : Bool := decide (0 ≤ n) && decide (n ≤ (r.issues.length : Int) - 1)
def isItemB (r : Rack) (t : Item) : Bool := itemOk r.goods t.good t.size t.colour
def isFootB (d : Int × Int) : Bool := decide (1 ≤ d.1) && decide (d.1 ≤ d.2) && decide (d.2 ≤ 400)
theorem c92_fn (x : Calc) (n : Int) (ls : List Line) (hp : gOk x.r.goods ∧ big ls.length) : Fn E13 0 91 Tryz.f91 (Tryz.f91.body.getD .skip) [.agg (encC x), .eref [.int .i64 n] 0, .eref [.sl (ls.map encL) false] 0] (.bool (isDayB n && areLinesB x.r.goods ls)) := by
 obtain ⟨hp1, hp2⟩ := hp
 unfold Fn Tryz.f91
 simp only [go_sem, @ct E13 92 sTween rfl, sTween, @ct E13 93 s93 rfl, s93, encC, encT, isDaysB, isNumB, isDayB, isIssB, isItemB, isFootB, hp1, hp2, dec_lines]
def s92 : Spec := spec3 (fun (x : Calc) (n : Rf (Int)) (ls : Rf (List Line)) => gOk x.r.goods ∧ big ls.v.length) (fun x n ls => .bool (isDayB n.v && areLinesB x.r.goods ls.v))
theorem s92_ok : SpecOK Tryz.prog glB 91 s92 := spec3_ok E13_ok Tryz.func91 rfl (by kernel_rfl) fun x n ls h => c92_fn x n.v ls.v h
def E14t : List (Nat × Spec) := [(91, s92)] ++ E13t
theorem E14t_ok : AllOK E14t := ⟨⟨s92_ok, Tryz.call91⟩, E13t_ok⟩
noncomputable def E14 : Env := mkM E14t [] Mt
theorem E14_ok : EnvOK Tryz.prog E14 := envMOK E14t_ok trivial Mt_ok
theorem E14_ti {t : Nat} : E14.ti t = ti t := rfl
theorem E14_e {t : Nat} : E14.eqt t = eqB t := rfl
theorem E14_k {t : Nat} : E14.keyt t = keyB t := rfl
theorem E14_g {t : Nat} : E14.glob t = glB t := rfl
attribute [go_sem] E14_ti E14_e E14_k E14_g
abbrev Ents := List (List Int × PV)
def entsE (i : Int) : List Entry → Ents → Ents
 | [], m => m
 | e :: l, m => entsE i l (mset m [i, e.number] (.agg (encE e)))
def entsI : Nat → List Issue → Ents → Ents
 | _, [], m => m
 | i, y :: l, m => entsI (i + 1) l (entsE i y.entries m)
def ents (r : Rack) : Ents := entsI 0 r.issues []
theorem entsE_drop (i : Int) {l : List Entry} {j : Nat} (m : Ents) (h : j < l.length) : entsE i (l.drop j) m = entsE i (l.drop (j + 1)) (mset m [i, (l.getD j default).number] (.agg (encE (l.getD j default)))) := by
 have e : l.getD j default = l[j] := by simp [h]
 rw [e, List.drop_eq_getElem_cons h]; rfl
theorem entsI_drop {l : List Issue} {i : Nat} (m : Ents) (h : i < l.length) : entsI i (l.drop i) m = entsI (i + 1) (l.drop (i + 1)) (entsE i (l.getD i default).entries m) := by
 have e : l.getD i default = l[i] := by simp [h]
 rw [e, List.drop_eq_getElem_cons h]; rfl
def zeroC : PV := .agg [.int .i64 0, .sl [] true, .nilmap]
def openPV (r : Rack) (p : Rack → Bool) : PV :=
 if rackOk r then (if p r then .tup [.agg (encC ⟨r, ents r⟩), .int .i64 0] else .tup [zeroC, .int .i64 11]) else .tup [zeroC, .int .i64 10]
theorem callSpec_rack {s : Spec} {caps : List PV} {g : Int} {rs : List (List PV)} {K : Key} {v : Nat} {m : Ents} {ro : Bool} {pre : Prop} {b : Bool} {H : Heap} {Q : PV → Heap → Prop} (hal : allT caps) (hcl : caps.map clean = caps) (hfz : ∀ k : List PV → List Key → Prg PV, frzL (frz 8) caps k = k caps [])
    (hK : H K = some (.map true 2 m v ro)) (hp : s (.agg [.int .i64 g, .sl rs false, .mp true 2 m] :: caps) = some (pre, .bool b)) (h1 : pre) (hQ : Q (.bool b) H) :
    (callSpec s (.agg [.int .i64 g, .sl rs false, .mref K v] :: caps)).wp True Q H := by
 unfold callSpec untL
 refine ⟨fun _ => ⟨trivial, hal⟩, ?_⟩
 have e : (PV.agg [.int .i64 g, .sl rs false, .mref K v] :: caps).map clean = .agg [.int .i64 g, .sl rs false, .mref K v] :: caps := by rw [List.map_cons, hcl]; rfl
 rw [e]
 show (frz 8 (.agg [.int .i64 g, .sl rs false, .mref K v]) fun t ks => frzL (frz 8) caps fun ts ks' => _).wp True Q H
 simp only [hfz]
 show ((match H K with | some (.map ag kl es v' _) => Prg.chk (v = v') _ | _ => Prg.chk False (.ret default)) : Prg PV).wp True Q H
 rw [hK]
 refine ⟨fun _ => rfl, ?_⟩
 show (match s (.agg [.int .i64 g, .sl rs false, .mp true 2 m] :: caps) with | some (pre, r) => Prg.chk pre (if flat r then Prg.ret r else roAll _ (Prg.ret r)) | none => bad).wp True Q H
 rw [hp]
 exact ⟨fun _ => h1, hQ⟩
theorem opened_fn (r : Rack) (hr : okRack r) (g : Nat) (caps : List PV) (p : Rack → Bool) (s : Spec) (hs : E14.spec g = some s) (hal : allT caps) (hcl : caps.map clean = caps) (hfz : ∀ k : List PV → List Key → Prg PV, frzL (frz 8) caps k = k caps [])
    (pre : Prop) (hpre : rackOk r = true → pre) (hp : ∀ es : Ents, s (.agg (encC ⟨r, es⟩) :: caps) = some (pre, .bool (p r))) :
    Fn E14 0 90 Tryz.f90 (Tryz.f90.body.getD .skip) [.agg (encR r), .fn g [] caps] (openPV r p) := by
 have hr' := hr
 obtain ⟨hgo, hil, his⟩ := hr
 unfold Fn Tryz.f90
 simp only [go_sem, @ct E14 57 s20 rfl, s20, encR, hr']
 rw [condK_bool]
 refine ⟨fun h => ?_, fun h => ?_⟩
 ·have hk : rackOk r = false := by
   cases hk : rackOk r with
   | false => rfl
   | true => rw [hk] at h; simp at h
  simp only [go_sem, @ct E14 57 s20 rfl, s20, encR, hk, openPV, zeroC]
 ·have hk : rackOk r = true := by
   cases hk : rackOk r with
   | true => rfl
   | false => rw [hk] at h; simp at h
  have hp1 := hpre hk
  simp only [go_sem, @ct E14 57 s20 rfl, s20, encR, hk]
  refine ev_loopS [1, 4, 7] (fun x : Nat => [(22, .sl (r.issues.map encI) false), (23, .int .i64 r.issues.length), (24, .int .i64 x)])
   (fun x H => x ≤ r.issues.length ∧ H (([], 90000001) : Key) = some (.cells [.int .i64 0, .sl [] true, .nilmap] 1 false) ∧ H (([], 90004003) : Key) = some (.cells [.int .i64 r.goods, .sl (r.issues.map encI) false, .mref ([], 90004001) 1] 1 false) ∧
    ∃ m : Ents, H (([], 90004001) : Key) = some (.map true 2 m 1 false) ∧ entsI x (r.issues.drop x) m = ents r)
   (fun x => r.issues.length - x) 0 ?_ ⟨Nat.zero_le _, ?_, ?_, [], ?_, rfl⟩ ?_
  ·simp only [go_sem]
  ·simp only [go_sem]
  ·simp only [go_sem]
  ·simp only [go_sem]
  ·simp only [go_sem]
   intro K i H ⟨hi, h1, h2, m, h3, hm⟩ hK hE
   rw [condK_bool]
   refine ⟨fun h => ?_, fun h => ?_⟩
   ·have h' : i < r.issues.length := by simpa using h
    have hii : (i : Int) < (r.issues.length : Int) := by omega
    have hy : r.issues.getD i default ∈ r.issues := by simp [List.getD_eq_getElem?_getD, h']
    rw [entsI_drop m h'] at hm
    generalize hye : r.issues.getD i default = y at hy hm
    have hok := his y hy
    simp only [go_sem, h1, h2, hii, getD_mapN encI r.issues i _ h', hye, encI]
    generalize hv9 : verOf H ([], 90007003) + 1 = v9
    refine ev_loopS [1, 4, 7, 8, 22, 23, 24, 30, 31] (fun x : Nat => [(32, .int .i64 x)])
     (fun x H => x ≤ y.entries.length ∧ H (([], 90000001) : Key) = some (.cells [.int .i64 0, .sl [] true, .nilmap] 1 false) ∧ H (([], 90004003) : Key) = some (.cells [.int .i64 r.goods, .sl (r.issues.map encI) false, .mref ([], 90004001) 1] 1 false) ∧
      ∃ m : Ents, H (([], 90004001) : Key) = some (.map true 2 m 1 false) ∧ entsI (i + 1) (r.issues.drop (i + 1)) (entsE i (y.entries.drop x) m) = ents r)
     (fun x => y.entries.length - x) 0 ?_ ⟨Nat.zero_le _, ?_, ?_, m, ?_, hm⟩ ?_
    ·simp only [go_sem]
    ·simp only [go_sem, h1]
    ·simp only [go_sem, h2]
    ·simp only [go_sem, h3]
    ·simp only [go_sem]
     intro K2 j H2 ⟨hj, g1, g2, m2, g3, gm⟩ hK2 hE2
     rw [condK_bool]
     refine ⟨fun h => ?_, fun h => ?_⟩
     ·have hj' : j < y.entries.length := by simpa using h
      have hjj : (j : Int) < (y.entries.length : Int) := by omega
      have w2 : IntKind.i64.wrap ((j : Int) + 1) = (j : Int) + 1 := wrap_id (by have := hok.2.2.2.1; omega)
      rw [entsE_drop _ m2 hj'] at gm
      generalize hee : y.entries.getD j default = e at *
      simp only [go_sem, g1, g2, g3, hjj, getD_mapN encE y.entries j _ hj', hee, encE, mapPut, keyOf, ints, w2]
      refine hK2 (j + 1) _ _ ?_ ⟨hj', ?_, ?_, mset m2 [(i : Int), e.number] (.agg (encE e)), ?_, gm⟩ (by omega)
      ·simp only [go_sem, Int.natCast_add, Int.natCast_one]
      ·simp only [go_sem, g1]
      ·simp only [go_sem, g2]
      ·simp only [go_sem, encE]
     ·have hj' : j = y.entries.length := by have : ¬ ((j : Int) < (y.entries.length : Int)) := by simpa using h
                                            omega
      subst hj'
      refine hE2 _ _ _ (by simp) ?_
      have w2 : IntKind.i64.wrap ((i : Int) + 1) = (i : Int) + 1 := wrap_id (by omega)
      simp only [go_sem, w2]
      refine hK (i + 1) _ _ ?_ ⟨h', g1, g2, m2, g3, ?_⟩ (by omega)
      ·simp only [go_sem, Int.natCast_add, Int.natCast_one]
      ·simpa [entsE] using gm
   ·have h' : i = r.issues.length := by have : ¬ ((i : Int) < (r.issues.length : Int)) := by simpa using h
                                        omega
    subst h'
    simp only [List.drop_length, entsI] at hm
    subst hm
    have hps := hp (ents r)
    simp only [encC] at hps
    refine hE _ _ _ (by simp) ?_
    simp only [go_sem, h1, h2, h3, @callV_spec E14 g s hs]
    refine callSpec_rack hal hcl hfz h3 hps hp1 ?_
    simp only [go_sem]
    rw [condK_bool]
    refine ⟨fun h => ?_, fun h => ?_⟩
    ·have hpr : p r = false := by simpa using h
     simp only [go_sem, h1, h2, h3, openPV, hk, hpr, zeroC]
    ·have hpr : p r = true := by simpa using h
     simp only [go_sem, h1, h2, h3, openPV, hk, hpr, encC]
structure GFit (f : Fit) : Prop where
 size : 1 ≤ f.size ∧ f.size ≤ 99
 foot : 1 ≤ f.lo ∧ f.lo ≤ f.hi ∧ f.hi ≤ 400
 price : 1 ≤ f.price ∧ f.price ≤ 100000
structure GEntry (g : Int) (e : Entry) : Prop where
 number : 1 ≤ e.number ∧ e.number ≤ 9999
 good : 0 ≤ e.good ∧ e.good ≤ g - 1
 colours : 1 ≤ e.colours ∧ e.colours ≤ 15
 sizes : 1 ≤ e.sizes.length ∧ e.sizes.length ≤ 8
 fits : ∀ f ∈ e.sizes, GFit f
 rising : (e.sizes.map (·.size)).Pairwise (· < ·)
structure GIssue (g : Int) (y : Issue) : Prop where
 days : 0 ≤ y.lo ∧ y.lo ≤ y.hi ∧ y.hi ≤ 20000
 held : y.lo ≤ y.held ∧ y.held ≤ 20000
 len : y.entries.length ≤ 24
 entries : ∀ e ∈ y.entries, GEntry g e
 numbers : (y.entries.map (·.number)).Nodup
 goods : (y.entries.map (·.good)).Nodup
structure GRack (r : Rack) : Prop where
 goods : 1 ≤ r.goods ∧ r.goods ≤ 24
 len : 1 ≤ r.issues.length ∧ r.issues.length ≤ 4
 issues : ∀ y ∈ r.issues, GIssue r.goods y
theorem fitsOk_good : ∀ (last : Int) (l : List Fit), 0 ≤ last → fitsOk last l = true → (∀ f ∈ l, GFit f ∧ last < f.size) ∧ (l.map (·.size)).Pairwise (· < ·)
 | _, [], _, _ => ⟨(fun f h => by cases h), List.Pairwise.nil⟩
 | last, f :: l, h0, h => by
  simp only [fitsOk, fitOk, Bool.and_eq_true, decide_eq_true_eq] at h
  obtain ⟨h1, h2⟩ := h
  obtain ⟨h3, h4⟩ := fitsOk_good f.size l (by omega) h2
  refine ⟨fun a ha => ?_, ?_⟩
  ·rcases List.mem_cons.1 ha with e | e
   ·subst e; exact ⟨⟨by omega, by omega, by omega⟩, by omega⟩
   ·exact ⟨(h3 a e).1, by have := (h3 a e).2; omega⟩
  ·rw [List.map_cons, List.pairwise_cons]
   refine ⟨fun s hs => ?_, h4⟩
   obtain ⟨a, ha, rfl⟩ := List.mem_map.1 hs
   exact (h3 a ha).2
theorem entryOk_good {g : Int} {e : Entry} (h : isEntryOk g e = true) : GEntry g e := by
 simp only [isEntryOk, isEntryB, Bool.and_eq_true, decide_eq_true_eq] at h
 obtain ⟨h1, h2⟩ := h
 obtain ⟨h3, h4⟩ := fitsOk_good 0 e.sizes (by omega) h2
 exact ⟨by omega, by omega, by omega, by omega, fun f hf => (h3 f hf).1, h4⟩
theorem entriesOk_good (g : Int) : ∀ (l : List Entry) (ns gs : List Int), entriesOk g ns gs l = true → (∀ e ∈ l, GEntry g e ∧ e.number ∉ ns ∧ e.good ∉ gs) ∧ (l.map (·.number)).Nodup ∧ (l.map (·.good)).Nodup
 | [], _, _, _ => ⟨(fun e h => by cases h), List.nodup_nil, List.nodup_nil⟩
 | e :: l, ns, gs, h => by
  simp only [entriesOk, findI_neg, ← isEntry_eq, Bool.and_eq_true, Bool.not_eq_true', decide_eq_false_iff_not] at h
  obtain ⟨⟨⟨h1, h2⟩, h3⟩, h4⟩ := h
  obtain ⟨h5, h6, h7⟩ := entriesOk_good g l _ _ h4
  refine ⟨fun a ha => ?_, ?_, ?_⟩
  ·rcases List.mem_cons.1 ha with e' | e'
   ·subst e'; exact ⟨entryOk_good h1, h2, h3⟩
   ·obtain ⟨k1, k2, k3⟩ := h5 a e'
    exact ⟨k1, fun h => k2 (by simp [h]), fun h => k3 (by simp [h])⟩
  ·rw [List.map_cons, List.nodup_cons]
   refine ⟨fun hm => ?_, h6⟩
   obtain ⟨a, ha, he⟩ := List.mem_map.1 hm
   exact (h5 a ha).2.1 (by simp [he])
  ·rw [List.map_cons, List.nodup_cons]
   refine ⟨fun hm => ?_, h7⟩
   obtain ⟨a, ha, he⟩ := List.mem_map.1 hm
   exact (h5 a ha).2.2 (by simp [he])
theorem rack_good {r : Rack} (h : rackOk r = true) : GRack r := by
 simp only [rackOk, Bool.and_eq_true, decide_eq_true_eq, List.all_eq_true] at h
 obtain ⟨⟨h1, h2⟩, h3⟩ := h
 refine ⟨h1, by omega, fun y hy => ?_⟩
 have h4 := h3 y hy
 rw [issueOk_eq] at h4
 simp only [issuePre, Bool.and_eq_true, decide_eq_true_eq] at h4
 obtain ⟨h5, h6⟩ := h4
 obtain ⟨h7, h8, h9⟩ := entriesOk_good _ _ _ _ h6
 exact ⟨by omega, by omega, by omega, fun e he => (h7 e he).1, h8, h9⟩
theorem GRack.sane {r : Rack} (h : GRack r) : Sane r :=
 ⟨h.len.2, fun y hy => (h.issues y hy).len, fun y hy e he => by have := ((h.issues y hy).entries e he).sizes.2; unfold big; omega⟩
theorem GRack.gOk {r : Rack} (h : GRack r) : gOk r.goods := by have := h.goods; unfold Wb.gOk; omega
theorem leastF_mem : ∀ (l : List Int) (a : Int), leastF a l = a ∨ leastF a l ∈ l
 | [], a => .inl rfl
 | b :: l, a => by
  rw [leastF]
  rcases leastF_mem l (if b < a then b else a) with h | h
  ·rw [h]; split
   ·exact .inr (by simp)
   ·exact .inl rfl
  ·exact .inr (by simp [h])
theorem GRack.cents {r : Rack} (h : GRack r) : cents r := fun on x n hn => by
 unfold priceP at hn
 split at hn
 ·cases hn
 ·rename_i a l ho
  cases hn
  have hall : ∀ m ∈ offers on x r.issues, 1 ≤ m ∧ m ≤ 100000 := fun m hm => by
   unfold offers at hm
   simp only [List.mem_filterMap, List.mem_filter] at hm
   obtain ⟨y, ⟨hy, _⟩, hi⟩ := hm
   unfold inP at hi
   split at hi
   ·rename_i e he
    split at hi
    ·simp only [Option.map_eq_some_iff] at hi
     obtain ⟨f, hf, rfl⟩ := hi
     exact (((h.issues y hy).entries e (entryOf_mem he).1).fits f (List.mem_of_find?_eq_some hf)).price
    ·cases hi
   ·cases hi
  rw [ho] at hall
  rcases leastF_mem (a :: l) a with e | e
  ·rw [e]; exact hall a (by simp)
  ·exact hall _ e
def predO : Nat → List PV → Option ((Rack → Bool) × Prop)
 | 91, [.eref [.int .i64 n] 0, .eref [.sl rs _] 0] => (dL dLn rs).map fun ls => (fun r => isDayB n && areLinesB r.goods ls, big ls.length)
 | _, _ => none
def s56 : Spec := fun args => match args with
 | [p, .fn g [] cap] => match (dec p : Option Rack), predO g cap with
  | some r, some q => some (okRack r ∧ q.2, openPV r q.1)
  | _, _ => none
 | _ => none
theorem s56_ok : SpecOK Tryz.prog glB 90 s56 := specOK_of E14_ok Tryz.func90 (by kernel_rfl) fun args pre v h hp => by
 unfold s56 at h
 split at h
 ·split at h
  ·rename_i p g cap r q hr hq
   cases h
   obtain ⟨hok, hq2⟩ := hp
   unfold predO at hq
   split at hq
   ·simp only [Option.map_eq_some_iff] at hq
    obtain ⟨ls, h2, rfl⟩ := hq
    exact ⟨[.agg (encR r), .fn 91 [] [.eref [.int .i64 _] 0, .eref [.sl (ls.map encL) false] 0]], _, ⟨Enc.wk_dec (α := Rack) _ _ hr, ⟨rfl, trivial, ⟨wkL_refl _, rfl⟩, ⟨⟨⟨dL_wk (f := dLn) (enc := encL) (fun r a h => Row.wk_drow (α := Line) r a h) h2, fun h => by cases h⟩, trivial⟩, rfl⟩, trivial⟩, trivial⟩, rfl, opened_fn r hok 91 _ _ s92 rfl (by simp only [allT, taint, and_self]) rfl (fun k => rfl) (gOk r.goods ∧ big ls.length) (fun h => ⟨(rack_good h).gOk, hq2⟩) (fun es => by simp only [s92, spec3, encC, dec_calc, dec_rint, dec_rlines])⟩
   ·cases hq
  ·cases h
 ·cases h
def E15t : List (Nat × Spec) := [(90, s56)] ++ E14t
theorem E15t_ok : AllOK E15t := ⟨⟨s56_ok, Tryz.call90⟩, E14t_ok⟩
noncomputable def E15 : Env := mkM E15t [] Mt
theorem E15_ti {t : Nat} : E15.ti t = ti t := rfl
theorem E15_e {t : Nat} : E15.eqt t = eqB t := rfl
theorem E15_k {t : Nat} : E15.keyt t = keyB t := rfl
theorem E15_g {t : Nat} : E15.glob t = glB t := rfl
attribute [go_sem] E15_ti E15_e E15_k E15_g
def E16t : List (Nat × Spec) := E15t
theorem E16t_ok : AllOK E16t := E15t_ok
def E17t : List (Nat × Spec) := [] ++ E16t
theorem E17t_ok : AllOK E17t := E16t_ok
noncomputable def E17 : Env := mkM E17t [(164, Tryz.f164)] Mt
theorem E17_ok : EnvOK Tryz.prog E17 := envMOK E17t_ok ⟨⟨Tryz.func164, Tryz.call164, by kernel_rfl⟩, trivial⟩ Mt_ok
theorem E17_ti {t : Nat} : E17.ti t = ti t := rfl
theorem E17_e {t : Nat} : E17.eqt t = eqB t := rfl
theorem E17_k {t : Nat} : E17.keyt t = keyB t := rfl
theorem E17_g {t : Nat} : E17.glob t = glB t := rfl
attribute [go_sem] E17_ti E17_e E17_k E17_g
def asked3 (r : Rack) (q : Rack → Bool) (o : Option Int) : Int × Int :=
 if rackOk r then (if q r then (match o with | some n => (n, 0) | none => (0, 4)) else (0, 11)) else (0, 10)
def qSum (on : Int) (ls : List Line) (r : Rack) : Bool := isDayB on && areLinesB r.goods ls
def sumM (r : Rack) (on : Int) (ls : List Line) : Int × Int := asked3 r (qSum on ls) (sumF r on 0 ls)
theorem lines_ok {g : Int} {ls : List Line} (h : areLinesB g ls = true) : ls.length ≤ 20 ∧ ∀ l ∈ ls, (0 ≤ l.item.colour ∧ l.item.colour ≤ 3) ∧ 1 ≤ l.many ∧ l.many ≤ 1000 := by
 simp only [areLinesB, Bool.and_eq_true, decide_eq_true_eq, List.all_eq_true] at h
 refine ⟨by omega, fun l hl => ?_⟩
 have := h.2 l hl
 simp only [lineOk, itemOk, Bool.and_eq_true, decide_eq_true_eq] at this
 omega
theorem Sum_fn (r : Rack) (hr : okRack r) (on : Int) (ls : List Line) (hls : big ls.length) : Fn E17 0 42 Tryz.f42 (Tryz.f42.body.getD .skip) [.agg (encR r), .int .i64 on, .sl (ls.map encL) false] (.tup [.int .i64 (sumM r on ls).1, .int .i64 (sumM r on ls).2]) := by
 obtain ⟨g, l⟩ := r
 unfold Fn Tryz.f42 sumM asked3
 cases hk : rackOk ⟨g, l⟩ with
 | false => simp only [go_sem, @ct E17 90 s56 rfl, s56, encR, callSpec, predO, dLn_map, hr, hls, openPV, hk, zeroC]
 | true =>
  have hq : (isDayB on && areLinesB (⟨g, l⟩ : Rack).goods ls) = qSum on ls ⟨g, l⟩ := rfl
  have hq' : (isDayB on && areLinesB g ls) = qSum on ls ⟨g, l⟩ := rfl
  cases hqq : qSum on ls ⟨g, l⟩ with
  | false => simp only [go_sem, @ct E17 90 s56 rfl, s56, encR, callSpec, predO, dLn_map, hr, hls, openPV, hk, hq, hq', hqq, zeroC]
  | true =>
   have hl := lines_ok (g := g) (ls := ls) (by rw [← hq'] at hqq; simp only [Bool.and_eq_true] at hqq; exact hqq.2)
   have hs := (rack_good hk).sane
   have hcc := (rack_good hk).cents
   simp only [go_sem, @ct E17 90 s56 rfl, s56, @ct E17 94 s94 rfl, s94, encR, encC, callSpec, predO, dLn_map, hr, hls, openPV, hk, hq, hq', hqq, dec_lines, hl.1, hs, hcc]
   refine ⟨hl.2, ?_⟩
   cases hp : sumF ⟨g, l⟩ on 0 ls with
   | none => simp only [go_sem, optPV]
   | some n => simp only [go_sem, optPV]
def s34 : Spec := spec3 (fun (r : Rack) (_ : Int) (ls : List Line) => okRack r ∧ big ls.length) (fun r on ls => .tup [.int .i64 (sumM r on ls).1, .int .i64 (sumM r on ls).2])
theorem s34_ok : SpecOK Tryz.prog glB 42 s34 := spec3_ok E17_ok Tryz.func42 rfl (by kernel_rfl) fun r on ls h => Sum_fn r h.1 on ls h.2
def E18t : List (Nat × Spec) := [(42, s34), (79, s21)] ++ E17t
theorem E18t_ok : AllOK E18t := ⟨⟨s34_ok, Tryz.call42⟩, ⟨s21_ok, Tryz.call79⟩, E17t_ok⟩
noncomputable def E18 : Env := mkE E18t []
theorem E18_ok : EnvOK Tryz.prog E18 := envOK E18t_ok trivial
theorem E18_ti {t : Nat} : E18.ti t = ti t := rfl
theorem E18_e {t : Nat} : E18.eqt t = eqB t := rfl
theorem E18_k {t : Nat} : E18.keyt t = keyB t := rfl
theorem E18_g {t : Nat} : E18.glob t = glB t := rfl
attribute [go_sem] E18_ti E18_e E18_k E18_g
def askM (r : Rack) (q : Bool) : Int := if rackOk r then (if q then 0 else 11) else 10
theorem asked_fn (r : Rack) (hr : okRack r) (q : Bool) : Fn E18 0 160 Tryz.f160 (Tryz.f160.body.getD .skip) [.agg (encR r), .bool q] (.int .i64 (askM r q)) := by
 unfold Fn Tryz.f160 askM
 cases hk : rackOk r with
 | false => simp only [go_sem, @ct E18 79 s21 rfl, s21, encR, callSpec, hr, hk]
 | true => cases q <;> simp only [go_sem, @ct E18 79 s21 rfl, s21, encR, callSpec, hr, hk]
def s61 : Spec := spec2 (fun (r : Rack) (_ : Bool) => okRack r) (fun r q => .int .i64 (askM r q))
theorem s61_ok : SpecOK Tryz.prog glB 160 s61 := spec2_ok E18_ok Tryz.func160 rfl (by kernel_rfl) fun r q h => asked_fn r h q
theorem fold_take {α β : Type} [Inhabited α] (f : β → α → β) (b : β) {l : List α} {i : Nat} (h : i < l.length) : (l.take (i + 1)).foldl f b = f ((l.take i).foldl f b) (l.getD i default) := by
 have e : l.getD i default = l[i] := by simp [h]
 rw [e, List.take_succ_eq_append_getElem h, List.foldl_append]; rfl
theorem entryOf_find (good : Int) : ∀ l : List Entry, entryOf good l = l.find? (fun e => e.good == good)
 | [] => rfl
 | e :: l => by
  unfold entryOf
  rw [List.find?_cons]
  cases h : e.good == good <;> simp [entryOf_find good l]
def costS1 (z a : Int) (f : Fit) : Int := if f.size = z ∧ (a = 0 ∨ f.price < a) then f.price else a
def costI (on : Int) (t : Item) (a : Int) (y : Issue) : Int :=
 match entryOf t.good y.entries with
 | some e => if decide (y.lo ≤ on) && decide (on ≤ y.held) && inF e.colours t.colour then e.sizes.foldl (costS1 t.size) a else a
 | none => a
def costL (on : Int) (t : Item) (l : List Issue) : Int := l.foldl (costI on t) 0
theorem col_any (l : List Entry) : ∃ f : Nat → Int, ∀ k, ((l.map encE).getD k [.int .i64 0, .int .i64 0, .int .i64 0, .sl [] true]).getD 2 (.int .i64 0) = .int .i64 (f k) := by
 refine ⟨fun k => if k < l.length then (l.getD k default).colours else 0, fun k => ?_⟩
 dsimp only
 split
 ·rename_i h; rw [getD_mapN encE l k _ h]; rfl
 ·rename_i h
  rw [List.getD_eq_getElem?_getD (l := l.map encE), List.getElem?_eq_none (by rw [List.length_map]; omega)]; rfl
theorem cost_fn (r : Rack) (on : Int) (t : Item) (hs : Sane r) (hc : 0 ≤ t.colour) : Fn E18 0 189 Tryz.f189 (Tryz.f189.body.getD .skip) [.agg (encR r), .int .i64 on, .agg (encT t)] (.int .i64 (costL on t r.issues)) := by
 obtain ⟨g, l⟩ := r
 obtain ⟨a, b, c⟩ := t
 simp only at hc
 obtain ⟨hs1, hs2, hs3⟩ := hs
 simp only at hs1 hs2 hs3
 unfold Fn Tryz.f189 costL
 simp only [go_sem, encR, encT]
 refine ev_loopS [1, 3, 5] (fun i : Nat => [(7, .int .i64 ((l.take i).foldl (costI on ⟨a, b, c⟩) 0)), (8, .int .i64 i)])
  (fun i H => i ≤ l.length ∧ H (([], 189000000) : Key) = some (.cells [.int .i64 g, .sl (l.map encI) false] 1 false) ∧ H (([], 189000001) : Key) = some (.cells [.int .i64 a, .int .i64 b, .int .i64 c] 1 false))
  (fun i => l.length - i) 0 ?_ ⟨Nat.zero_le _, ?_, ?_⟩ ?_
 ·simp only [go_sem]; rfl
 ·simp only [go_sem]
 ·simp only [go_sem]
 ·simp only [go_sem]
  intro K i H ⟨hi, h1, h2⟩ hK hE
  simp only [go_sem, h1]
  rw [condK_bool]
  refine ⟨fun h => ?_, fun h => ?_⟩
  ·have h' : i < l.length := by simpa using h
   have hii : (i : Int) < (l.length : Int) := by omega
   have w2 : IntKind.i64.wrap ((i : Int) + 1) = (i : Int) + 1 := wrap_id (by omega)
   have hft := fold_take (costI on ⟨a, b, c⟩) 0 h'
   have hy : l.getD i default ∈ l := by simp [List.getD_eq_getElem?_getD, h']
   have hy24 := hs2 _ hy
   have hy8 := hs3 _ hy
   generalize hyy : l.getD i default = y at *
   generalize (l.take i).foldl (costI on ⟨a, b, c⟩) 0 = acc at *
   have hb24 : big y.entries.length := Nat.lt_of_le_of_lt hy24 (by omega)
   have hbg : y.entries.length < 4611686018427387904 := hb24
   have hof := findI_find (fun e => e.good == a) y.entries 0
   rw [← entryOf_find] at hof
   have hcI : costI on ⟨a, b, c⟩ acc y = (match entryOf a y.entries with | some e => if decide (y.lo ≤ on) && decide (on ≤ y.held) && inF e.colours c then e.sizes.foldl (costS1 b) acc else acc | none => acc) := rfl
   rw [hcI] at hft
   simp only [go_sem, @ct E18 198 sOf rfl, sOf, h1, h2, hii, getD_mapN encI l i _ h', hyy, encI, hbg, callSpec]
   obtain ⟨vf, hvf⟩ := col_any y.entries
   cases hsp : (decide (y.lo ≤ on) && decide (on ≤ y.held)) with
   | false =>
    have hft' : (l.take (i + 1)).foldl (costI on ⟨a, b, c⟩) 0 = acc := by rw [hft]; cases entryOf a y.entries <;> simp [hsp]
    simp only [go_sem, @ct E18 45 sTween rfl, sTween, @ct E18 87 sIn rfl, sIn, h1, h2, hc, hvf, hsp]
    refine hK (i + 1) _ _ ?_ ⟨h', ?_, ?_⟩ (by omega)
    ·simp only [go_sem, w2, Int.natCast_add, Int.natCast_one, hft']
    ·simp only [go_sem, h1]
    ·simp only [go_sem, h2]
   | true =>
    rcases hof with ⟨e1, e2⟩ | ⟨j, hj, e1, e2⟩
    ·rw [e1] at hft
     simp only at hft
     simp only [go_sem, @ct E18 45 sTween rfl, sTween, @ct E18 87 sIn rfl, sIn, h1, h2, hc, hvf, hsp, e2]
     refine hK (i + 1) _ _ ?_ ⟨h', ?_, ?_⟩ (by omega)
     ·simp only [go_sem, w2, Int.natCast_add, Int.natCast_one, hft]
     ·simp only [go_sem, h1]
     ·simp only [go_sem, h2]
    ·rw [e1] at hft
     have hjj : (j : Int) < (y.entries.length : Int) := by omega
     have hje : y.entries.getD j default ∈ y.entries := by simp [List.getD_eq_getElem?_getD, hj]
     have he8 := hy8 _ hje
     generalize hee : y.entries.getD j default = e at *
     have hj0 : ¬ ((j : Int) < 0) := by omega
     have e3 : findI (fun e => e.good == a) y.entries 0 = (j : Int) := by rw [e2, Nat.zero_add]
     simp only [hsp, Bool.true_and] at hft
     cases hin : inF e.colours c with
     | false =>
      simp only [hin, if_false, Bool.false_eq_true] at hft
      simp only [go_sem, @ct E18 45 sTween rfl, sTween, @ct E18 87 sIn rfl, sIn, h1, h2, hsp, e3, hj0, hjj, getD_mapN encE y.entries j _ hj, hee, encE, hc, hin, Int.natCast_nonneg]
      refine hK (i + 1) _ _ ?_ ⟨h', ?_, ?_⟩ (by omega)
      ·simp only [go_sem, w2, Int.natCast_add, Int.natCast_one, hft]
      ·simp only [go_sem, h1]
      ·simp only [go_sem, h2]
     | true =>
      simp only [hin, if_true] at hft
      simp only [go_sem, @ct E18 45 sTween rfl, sTween, @ct E18 87 sIn rfl, sIn, h1, h2, hsp, e3, hj0, hjj, getD_mapN encE y.entries j _ hj, hee, encE, hc, hin, Int.natCast_nonneg]
      refine ev_loopS [1, 3, 5, 8, 11] (fun m : Nat => [(7, .int .i64 ((e.sizes.take m).foldl (costS1 b) acc)), (12, .int .i64 m)])
       (fun m H => m ≤ e.sizes.length ∧ H (([], 189000000) : Key) = some (.cells [.int .i64 g, .sl (l.map encI) false] 1 false) ∧ H (([], 189000001) : Key) = some (.cells [.int .i64 a, .int .i64 b, .int .i64 c] 1 false))
       (fun m => e.sizes.length - m) 0 ?_ ⟨Nat.zero_le _, ?_, ?_⟩ ?_
      ·simp only [go_sem]; rfl
      ·simp only [go_sem, h1]
      ·simp only [go_sem, h2]
      ·simp only [go_sem]
       intro K2 m H2 ⟨hm, k1, k2⟩ hK2 hE2
       rw [condK_bool]
       refine ⟨fun h => ?_, fun h => ?_⟩
       ·have hm' : m < e.sizes.length := by simpa using h
        have hmm : (m : Int) < (e.sizes.length : Int) := by omega
        have w3 : IntKind.i64.wrap ((m : Int) + 1) = (m : Int) + 1 := wrap_id (by unfold big at he8; omega)
        have hfm := fold_take (costS1 b) acc hm'
        generalize hff : e.sizes.getD m default = f at *
        generalize (e.sizes.take m).foldl (costS1 b) acc = ac at *
        simp only [go_sem, k1, k2, hmm, getD_mapN encF e.sizes m _ hm', hff, encF]
        refine ⟨fun q1 q2 => ⟨q1, q2⟩, ?_⟩
        rw [condK_bool]
        refine ⟨fun hcd => ?_, fun hcd => ?_⟩
        ·have hcd' : f.size = b ∧ (ac = 0 ∨ f.price < ac) := by simpa using hcd
         rw [show costS1 b ac f = f.price from if_pos hcd'] at hfm
         simp only [go_sem, k1, k2, hmm, getD_mapN encF e.sizes m _ hm', hff, encF]
         refine hK2 (m + 1) _ _ ?_ ⟨hm', k1, k2⟩ (by omega)
         simp only [go_sem, w3, Int.natCast_add, Int.natCast_one, hfm]
        ·have hcd' : ¬ (f.size = b ∧ (ac = 0 ∨ f.price < ac)) := by simpa using hcd
         rw [show costS1 b ac f = ac from if_neg hcd'] at hfm
         simp only [go_sem]
         refine hK2 (m + 1) _ _ ?_ ⟨hm', k1, k2⟩ (by omega)
         simp only [go_sem, w3, Int.natCast_add, Int.natCast_one, hfm]
       ·refine hE2 _ _ _ (by simp) ?_
        have hm' : m = e.sizes.length := by have : ¬ ((m : Int) < (e.sizes.length : Int)) := by simpa using h
                                            omega
        subst hm'
        simp only [go_sem, List.take_length]
        refine hK (i + 1) _ _ ?_ ⟨h', ?_, ?_⟩ (by omega)
        ·simp only [go_sem, w2, Int.natCast_add, Int.natCast_one, hft]
        ·simp only [go_sem, k1]
        ·simp only [go_sem, k2]
  ·have h' : i = l.length := by have : ¬ ((i : Int) < (l.length : Int)) := by simpa using h
                                omega
   subst h'
   refine hE _ _ _ (by simp) ?_
   simp only [go_sem, List.take_length]
def comb (a : Int) : Option Int → Int
 | none => a
 | some m => if a = 0 ∨ m < a then m else a
theorem costS_none {z : Int} : ∀ {l : List Fit} (a : Int), (∀ f ∈ l, f.size ≠ z) → l.foldl (costS1 z) a = a
 | [], a, _ => rfl
 | f :: l, a, h => by
  rw [List.foldl_cons, show costS1 z a f = a from if_neg (fun e => h f (by simp) e.1)]
  exact costS_none a fun x hx => h x (by simp [hx])
theorem costS_find {z : Int} : ∀ {l : List Fit} (a : Int), (l.map (·.size)).Pairwise (· < ·) → l.foldl (costS1 z) a = comb a ((l.find? (fun f => f.size == z)).map (·.price))
 | [], a, _ => rfl
 | f :: l, a, h => by
  rw [List.map_cons, List.pairwise_cons] at h
  rw [List.foldl_cons, List.find?_cons]
  by_cases hz : f.size = z
  ·have hz' : (f.size == z) = true := by simpa using hz
   rw [hz', costS_none]
   ·simp only [costS1, hz, true_and, comb, Option.map]
   ·intro x hx
    have := h.1 x.size (List.mem_map_of_mem hx)
    omega
  ·have hz' : (f.size == z) = false := by simpa using hz
   rw [hz', show costS1 z a f = a from if_neg (fun e => hz e.1)]
   exact costS_find a h.2
theorem costI_eq {g : Int} {y : Issue} (h : GIssue g y) (on : Int) (t : Item) (a : Int) : costI on t a y = comb a (if ovl 1 on on y then inP t y.entries else none) := by
 have ho : ovl 1 on on y = (decide (y.lo ≤ on) && decide (on ≤ y.held)) := rfl
 unfold costI inP
 rw [ho]
 cases he : entryOf t.good y.entries with
 | none => simp [comb]
 | some e =>
  have hm := entryOf_mem he
  have hr := (h.entries e hm.1).rising
  cases hs : (decide (y.lo ≤ on) && decide (on ≤ y.held)) with
  | false => simp [comb]
  | true =>
   cases hi : inF e.colours t.colour with
   | false => simp [comb, hi]
   | true => simp [hi, costS_find a hr]
theorem costL_eq {g : Int} (on : Int) (t : Item) : ∀ {l : List Issue} (a : Int), (∀ y ∈ l, GIssue g y) → l.foldl (costI on t) a = (offers on t l).foldl (fun a m => comb a (some m)) a
 | [], a, _ => rfl
 | y :: l, a, h => by
  rw [List.foldl_cons, costI_eq (h y (by simp)), costL_eq on t _ fun x hx => h x (by simp [hx])]
  unfold offers
  rw [List.filter_cons]
  cases ovl 1 on on y with
  | false => simp [comb]
  | true =>
   simp only [if_true]
   rw [List.filterMap_cons]
   cases inP t y.entries <;> simp [comb]
theorem inP_pos {g : Int} {y : Issue} (h : GIssue g y) {t : Item} {m : Int} (hm : inP t y.entries = some m) : 1 ≤ m := by
 unfold inP at hm
 split at hm
 ·rename_i e he
  split at hm
  ·rw [Option.map_eq_some_iff] at hm
   obtain ⟨f, hf, rfl⟩ := hm
   exact ((h.entries e (entryOf_mem he).1).fits f (List.mem_of_find?_eq_some hf)).price.1
  ·cases hm
 ·cases hm
theorem offers_pos {g : Int} {l : List Issue} (h : ∀ y ∈ l, GIssue g y) (on : Int) (t : Item) : ∀ m ∈ offers on t l, 1 ≤ m := by
 intro m hm
 unfold offers at hm
 rw [List.mem_filterMap] at hm
 obtain ⟨y, hy, hm⟩ := hm
 exact inP_pos (h y (List.mem_filter.1 hy).1) hm
theorem comb_least : ∀ (l : List Int) (a : Int), 1 ≤ a → (∀ m ∈ l, 1 ≤ m) → l.foldl (fun a m => comb a (some m)) a = leastF a l
 | [], a, _, _ => rfl
 | m :: l, a, ha, h => by
  have h1 := h m (by simp)
  rw [List.foldl_cons, leastF]
  have e : comb a (some m) = if m < a then m else a := by
   simp only [comb]
   by_cases hm : m < a
   ·rw [if_pos (.inr hm), if_pos hm]
   ·rw [if_neg hm, if_neg (by omega)]
  rw [e]
  exact comb_least l _ (by split <;> omega) fun x hx => h x (by simp [hx])
theorem cost_price {r : Rack} (h : GRack r) (on : Int) (t : Item) : costL on t r.issues = (priceP r on t).getD 0 := by
 unfold costL priceP
 rw [costL_eq on t 0 h.issues]
 have hp := offers_pos h.issues on t
 cases ho : offers on t r.issues with
 | nil => rfl
 | cons a l =>
  rw [ho] at hp
  have h1 := hp a (by simp)
  rw [List.foldl_cons]
  have e : comb 0 (some a) = a := by simp [comb]
  rw [e, comb_least l a h1 fun x hx => hp x (by simp [hx])]
  simp only [Option.getD, leastF]
  simp
def s84 : Spec := spec3 (fun (r : Rack) (_ : Int) (t : Item) => GRack r ∧ 0 ≤ t.colour) (fun r on t => .int .i64 ((priceP r on t).getD 0))
theorem s84_ok : SpecOK Tryz.prog glB 189 s84 := spec3_ok E18_ok Tryz.func189 rfl (by kernel_rfl) fun r on t h => by rw [← cost_price h.1]; exact cost_fn r on t h.1.sane h.2
def itemW (g a b c : Int) : Bool := decide (0 ≤ a) && decide (a ≤ IntKind.i64.wrap (g - 1)) && (decide (1 ≤ b) && decide (b ≤ 99)) && (decide (0 ≤ c) && decide (c ≤ 3))
theorem itemW_good {r : Rack} (h : rackOk r = true) (a b c : Int) : itemW r.goods a b c = itemOk r.goods a b c := by
 have := (rack_good h).goods
 unfold itemW itemOk
 rw [wrap_id (by omega)]
theorem itemW_fn (r : Rack) (t : Item) : Fn E18 0 188 Tryz.f188 (Tryz.f188.body.getD .skip) [.agg (encR r), .agg (encT t)] (.bool (itemW r.goods t.good t.size t.colour)) := by
 obtain ⟨g, l⟩ := r
 obtain ⟨a, b, c⟩ := t
 unfold Fn Tryz.f188 itemW
 simp only [go_sem, @ct E18 45 sTween rfl, sTween, encR, encT]
def s83w : Spec := spec2 (fun (x : Rack) (t : Item) => True) (fun x t => .bool (itemW x.goods t.good t.size t.colour))
theorem s83w_ok : SpecOK Tryz.prog glB 188 s83w := spec2_ok E18_ok Tryz.func188 rfl (by kernel_rfl) fun x t h => itemW_fn x t
def E19t : List (Nat × Spec) := [(188, s83w), (160, s61), (189, s84)] ++ E18t
theorem E19t_ok : AllOK E19t := ⟨⟨s83w_ok, Tryz.call188⟩, ⟨s61_ok, Tryz.call160⟩, ⟨s84_ok, Tryz.call189⟩, E18t_ok⟩
noncomputable def E19 : Env := mkE E19t []
theorem E19_ok : EnvOK Tryz.prog E19 := envOK E19t_ok trivial
theorem E19_ti {t : Nat} : E19.ti t = ti t := rfl
theorem E19_e {t : Nat} : E19.eqt t = eqB t := rfl
theorem E19_k {t : Nat} : E19.keyt t = keyB t := rfl
theorem E19_g {t : Nat} : E19.glob t = glB t := rfl
attribute [go_sem] E19_ti E19_e E19_k E19_g
theorem askM_bad {r : Rack} (h : rackOk r = false) (q : Bool) : askM r q = 10 := by simp [askM, h]
theorem askM_no {r : Rack} (h : rackOk r = true) : askM r false = 11 := by simp [askM, h]
theorem askM_yes {r : Rack} (h : rackOk r = true) : askM r true = 0 := by simp [askM, h]
def lineW (g : Int) (l : Line) : Bool := itemW g l.item.good l.item.size l.item.colour && (decide (1 ≤ l.many) && decide (l.many ≤ 1000))
def linesW (g : Int) (ls : List Line) : Bool := decide ((ls.length : Int) ≤ 20) && ls.all (lineW g)
theorem linesW_good {r : Rack} (h : rackOk r = true) (ls : List Line) : linesW r.goods ls = areLinesB r.goods ls := by
 unfold linesW areLinesB
 congr 1
 congr 1
 funext l
 unfold lineW lineOk
 rw [itemW_good h]
theorem refLines_fn (r : Rack) (ls : List Line) (hl : big ls.length) : Fn E19 0 162 Tryz.f162 (Tryz.f162.body.getD .skip) [.agg (encR r), .sl (ls.map encL) false] (.bool (linesW r.goods ls)) := by
 obtain ⟨g, l⟩ := r
 unfold Fn Tryz.f162
 have hl' : ls.length < 4611686018427387904 := hl
 simp only [go_sem, encR]
 refine ev_loopS [1, 2] (fun x : Nat × Bool => [(5, .bool x.2), (6, .int .i64 x.1)])
  (fun x H => x.1 ≤ ls.length ∧ H (([], 162000000) : Key) = some (.cells [.int .i64 g, .sl (l.map encI) false] 1 false) ∧ linesW g ls = (x.2 && (ls.drop x.1).all (lineW g)))
  (fun x => ls.length - x.1) (0, decide ((ls.length : Int) ≤ 20)) ?_ ⟨Nat.zero_le _, ?_, rfl⟩ ?_
 ·simp only [go_sem]
 ·simp only [go_sem]
 ·simp only [go_sem]
  intro K x H ⟨hi, h1, hf⟩ hK hE
  obtain ⟨i, ok⟩ := x
  simp only at hi hf
  dsimp only
  rw [condK_bool]
  refine ⟨fun h => ?_, fun h => ?_⟩
  ·obtain ⟨hok, h''⟩ : ok = true ∧ (i : Int) < (ls.length : Int) := by simpa using h
   subst hok
   have h' : i < ls.length := by omega
   have w2 : IntKind.i64.wrap ((i : Int) + 1) = (i : Int) + 1 := wrap_id (by omega)
   rw [all_drop (lineW g) h'] at hf
   generalize hyy : ls.getD i default = y at *
   simp only [go_sem, @ct E19 188 s83w rfl, s83w, @ct E19 45 sTween rfl, sTween, h1, h'', getD_mapN encL ls i _ h', hyy, encL, callSpec, encT]
   refine hK (i + 1, lineW g y) _ _ ?_ ⟨h', ?_, by simpa using hf⟩ (by simp only; omega)
   ·simp only [go_sem, w2, Int.natCast_add, Int.natCast_one, lineW]
   ·simp only [go_sem, h1]
  ·refine hE _ _ _ (by simp) ?_
   simp only [go_sem]
   cases ok with
   | false => simp only [Bool.false_and] at hf; simp only [go_sem, hf]
   | true =>
    have h' : i = ls.length := by have : ¬ ((i : Int) < (ls.length : Int)) := by simpa using h
                                  omega
    subst h'
    simp only [List.drop_length, List.all_nil, Bool.and_true] at hf
    simp only [go_sem, hf]
def s95 : Spec := spec2 (fun (x : Rack) (l : List Line) => big l.length) (fun x l => .bool (linesW x.goods l))
theorem s95_ok : SpecOK Tryz.prog glB 162 s95 := spec2_ok E19_ok Tryz.func162 rfl (by kernel_rfl) fun x l h => refLines_fn x l h
def add1 (r : Rack) (on : Int) (a : Int × Bool) (l : Line) : Int × Bool := (a.1 + (priceP r on l.item).getD 0 * (l.many - l.many / 12), a.2 && decide (0 < (priceP r on l.item).getD 0))
theorem adds_fn (r : Rack) (on : Int) (ls : List Line) (hG : GRack r) (hn : ls.length ≤ 20) (hl : ∀ l ∈ ls, (0 ≤ l.item.colour ∧ l.item.colour ≤ 3) ∧ 1 ≤ l.many ∧ l.many ≤ 1000) :
    Fn E19 0 163 Tryz.f163 (Tryz.f163.body.getD .skip) [.agg (encR r), .int .i64 on, .sl (ls.map encL) false] (.tup [.int .i64 (ls.foldl (add1 r on) (0, true)).1, .bool (ls.foldl (add1 r on) (0, true)).2]) := by
 obtain ⟨g, l⟩ := r
 unfold Fn Tryz.f163
 simp only [go_sem, encR]
 refine ev_loopS [1, 2, 3] (fun i : Nat => [(8, .int .i64 ((ls.take i).foldl (add1 ⟨g, l⟩ on) (0, true)).1), (9, .bool ((ls.take i).foldl (add1 ⟨g, l⟩ on) (0, true)).2), (10, .int .i64 i)])
  (fun i H => i ≤ ls.length ∧ H (([], 163000000) : Key) = some (.cells [.int .i64 g, .sl (l.map encI) false] 1 false) ∧ 0 ≤ ((ls.take i).foldl (add1 ⟨g, l⟩ on) (0, true)).1 ∧ ((ls.take i).foldl (add1 ⟨g, l⟩ on) (0, true)).1 ≤ 100000000 * i)
  (fun i => ls.length - i) 0 ?_ ⟨Nat.zero_le _, ?_, by simp, by simp⟩ ?_
 ·simp only [go_sem]; exact ⟨rfl, rfl⟩
 ·simp only [go_sem]
 ·simp only [go_sem]
  intro K i H ⟨hi, h1, b1, b2⟩ hK hE
  rw [condK_bool]
  refine ⟨fun h => ?_, fun h => ?_⟩
  ·have h' : i < ls.length := by simpa using h
   have hii : (i : Int) < (ls.length : Int) := by omega
   have w2 : IntKind.i64.wrap ((i : Int) + 1) = (i : Int) + 1 := wrap_id (by omega)
   have hft := fold_take (add1 ⟨g, l⟩ on) (0, true) h'
   have hy : ls.getD i default ∈ ls := by simp [List.getD_eq_getElem?_getD, h']
   have hly := hl _ hy
   generalize hyy : ls.getD i default = y at *
   generalize (ls.take i).foldl (add1 ⟨g, l⟩ on) (0, true) = acc at *
   have hcc := hG.cents on y.item
   have hc0 : 0 ≤ (priceP ⟨g, l⟩ on y.item).getD 0 ∧ (priceP ⟨g, l⟩ on y.item).getD 0 ≤ 100000 := by
    cases hp : priceP ⟨g, l⟩ on y.item with
    | none => simp
    | some n => have := hcc n hp; simp only [Option.getD]; omega
   have e1 : add1 ⟨g, l⟩ on acc y = (acc.1 + (priceP ⟨g, l⟩ on y.item).getD 0 * (y.many - y.many / 12), acc.2 && decide (0 < (priceP ⟨g, l⟩ on y.item).getD 0)) := rfl
   rw [e1] at hft
   have he : (⟨y.item.good, y.item.size, y.item.colour⟩ : Item) = y.item := rfl
   generalize hpn : (priceP ⟨g, l⟩ on y.item).getD 0 = n at *
   have ht : y.many.tdiv 12 = y.many / 12 := Int.tdiv_eq_ediv_of_nonneg (by omega)
   have hq : 0 ≤ y.many / 12 ∧ y.many / 12 ≤ y.many := by omega
   have hm1 : n * (y.many - y.many / 12) ≤ 100000 * 1000 := Int.mul_le_mul hc0.2 (by omega) (by omega) (by omega)
   have hm0 : 0 ≤ n * (y.many - y.many / 12) := Int.mul_nonneg (by omega) (by omega)
   have w0 : IntKind.i64.wrap (y.many / 12) = y.many / 12 := wrap_id (by omega)
   have w1 : IntKind.i64.wrap (y.many - y.many / 12) = y.many - y.many / 12 := wrap_id (by omega)
   have w3 : IntKind.i64.wrap (n * (y.many - y.many / 12)) = n * (y.many - y.many / 12) := wrap_id (by omega)
   have w4 : IntKind.i64.wrap (acc.1 + n * (y.many - y.many / 12)) = acc.1 + n * (y.many - y.many / 12) := wrap_id (by omega)
   simp only [go_sem, @ct E19 189 s84 rfl, s84, h1, hii, getD_mapN encL ls i _ h', hyy, encL, callSpec, encT, hG, hly.1.1, ht, w0, w1, w3, w4, he, hpn, gt_iff_lt]
   refine ⟨by omega, hK (i + 1) _ _ ?_ ⟨h', ?_, ?_, ?_⟩ (by omega)⟩
   ·simp only [go_sem, w2, Int.natCast_add, Int.natCast_one, hft]
   ·simp only [go_sem, h1]
   ·rw [hft]; simp only; omega
   ·rw [hft]; simp only; push_cast; omega
  ·have h' : i = ls.length := by have : ¬ ((i : Int) < (ls.length : Int)) := by simpa using h
                                 omega
   subst h'
   refine hE _ _ _ (by simp) ?_
   simp only [go_sem, List.take_length]
theorem add_none (r : Rack) (on : Int) : ∀ (ls : List Line) (a : Int), (ls.foldl (add1 r on) (a, false)).2 = false
 | [], a => rfl
 | l :: ls, a => by rw [List.foldl_cons]; exact add_none r on ls _
theorem add_sum {r : Rack} (h : cents r) (on : Int) : ∀ (ls : List Line) (a : Int), sumF r on a ls = if (ls.foldl (add1 r on) (a, true)).2 then some (ls.foldl (add1 r on) (a, true)).1 else none
 | [], a => rfl
 | l :: ls, a => by
  rw [List.foldl_cons, sumF]
  cases hp : priceP r on l.item with
  | none =>
   have e : add1 r on (a, true) l = (a, false) := by simp [add1, hp]
   rw [e, add_none]; rfl
  | some n =>
   have := h on l.item n hp
   have e : add1 r on (a, true) l = (a + n * (l.many - l.many / 12), true) := by
    have h0 : 0 < n := by omega
    simp [add1, hp, h0]
   rw [e]
   exact add_sum h on ls _
def s96 : Spec := spec3 (fun (r : Rack) (_ : Int) (ls : List Line) => GRack r ∧ ls.length ≤ 20 ∧ ∀ l ∈ ls, (0 ≤ l.item.colour ∧ l.item.colour ≤ 3) ∧ 1 ≤ l.many ∧ l.many ≤ 1000) (fun r on ls => .tup [.int .i64 (ls.foldl (add1 r on) (0, true)).1, .bool (ls.foldl (add1 r on) (0, true)).2])
theorem s96_ok : SpecOK Tryz.prog glB 163 s96 := spec3_ok E19_ok Tryz.func163 rfl (by kernel_rfl) fun r on ls h => adds_fn r on ls h.1 h.2.1 h.2.2
def E20t : List (Nat × Spec) := [(162, s95), (163, s96)] ++ E19t
theorem E20t_ok : AllOK E20t := ⟨⟨s95_ok, Tryz.call162⟩, ⟨s96_ok, Tryz.call163⟩, E19t_ok⟩
noncomputable def E20 : Env := mkE E20t []
theorem E20_ok : EnvOK Tryz.prog E20 := envOK E20t_ok trivial
theorem E20_ti {t : Nat} : E20.ti t = ti t := rfl
theorem E20_e {t : Nat} : E20.eqt t = eqB t := rfl
theorem E20_k {t : Nat} : E20.keyt t = keyB t := rfl
theorem E20_g {t : Nat} : E20.glob t = glB t := rfl
attribute [go_sem] E20_ti E20_e E20_k E20_g
theorem refSum_fn (r : Rack) (hr : okRack r) (on : Int) (ls : List Line) (hls : big ls.length) : Fn E20 0 141 Tryz.f141 (Tryz.f141.body.getD .skip) [.agg (encR r), .int .i64 on, .sl (ls.map encL) false] (.tup [.int .i64 (sumM r on ls).1, .int .i64 (sumM r on ls).2]) := by
 obtain ⟨g, l⟩ := r
 unfold Fn Tryz.f141 sumM asked3
 cases hk : rackOk ⟨g, l⟩ with
 | false => simp only [go_sem, @ct E20 161 sisDayR rfl, sisDayR, @ct E20 162 s95 rfl, s95, @ct E20 160 s61 rfl, s61, encR, callSpec, dLn_map, dec_lines, hr, hls, askM_bad hk, hk]
 | true =>
  have hw : linesW g ls = areLinesB g ls := linesW_good hk ls
  have hq : (decide (0 ≤ on) && decide (on ≤ 20000) && areLinesB g ls) = qSum on ls ⟨g, l⟩ := rfl
  cases hqq : qSum on ls ⟨g, l⟩ with
  | false => simp only [go_sem, @ct E20 161 sisDayR rfl, sisDayR, @ct E20 162 s95 rfl, s95, @ct E20 160 s61 rfl, s61, encR, callSpec, dLn_map, dec_lines, hr, hls, askM_no hk, hk, hw, hq, hqq]
  | true =>
   have hl := lines_ok (g := g) (ls := ls) (by rw [← hq] at hqq; simp only [Bool.and_eq_true] at hqq; exact hqq.2)
   have hG := rack_good hk
   simp only [go_sem, @ct E20 161 sisDayR rfl, sisDayR, @ct E20 162 s95 rfl, s95, @ct E20 160 s61 rfl, s61, @ct E20 163 s96 rfl, s96, encR, callSpec, dLn_map, dec_lines, hr, hls, askM_yes hk, hk, hw, hq, hqq, hG, hl.1]
   refine ⟨hl.2, ?_⟩
   rw [add_sum hG.cents]
   generalize ls.foldl (add1 ⟨g, l⟩ on) (0, true) = x
   obtain ⟨s, b⟩ := x
   cases b <;> simp only [go_sem]
theorem s35_ok : SpecOK Tryz.prog glB 141 s34 := spec3_ok E20_ok Tryz.func141 rfl (by kernel_rfl) fun r on ls h => refSum_fn r h.1 on ls h.2
end Wb
namespace Wb
open Go Go.Proofs Enc Row
set_option linter.unusedSimpArgs false
set_option linter.unusedVariables false
theorem sortL_perm (l : List Int) : (sortL l).Perm l := List.mergeSort_perm l _
theorem sortL_sorted (l : List Int) : (sortL l).Pairwise (· ≤ ·) := by
 have := List.pairwise_mergeSort (le := fun (x y : Int) => decide (x ≤ y)) (fun a b c => by simp; omega) (fun a b => by simp; omega) l
 exact this.imp fun h => by simpa using h
theorem compact_up (d : Array Int) (h : ∀ i j, i ≤ j → j < d.size → d[i]! ≤ d[j]!) : ∀ m, m ≤ d.size → (Lib.compactUpTo d m).Pairwise (· < ·) ∧ ∀ x, x ∈ Lib.compactUpTo d m ↔ ∃ j, j < m ∧ d[j]! = x
 | 0, _ => ⟨by simp [Lib.compactUpTo], fun x => by simp [Lib.compactUpTo]⟩
 | m + 1, hm => by
  obtain ⟨h1, h2⟩ := compact_up d h m (by omega)
  rw [Lib.compactUpTo_succ]
  by_cases hk : Lib.keeps d m = true
  ·rw [if_pos hk]
   have hk' : m = 0 ∨ d[m]! ≠ d[m - 1]! := by simpa [Lib.keeps] using hk
   refine ⟨?_, fun x => ?_⟩
   ·rw [List.pairwise_append]
    refine ⟨h1, by simp, fun a ha b hb => ?_⟩
    obtain ⟨j, hj, rfl⟩ := (h2 a).1 ha
    have hb : b = d[m]! := by simpa using hb
    subst hb
    rcases hk' with hk' | hk'
    ·omega
    ·have := h j (m - 1) (by omega) (by omega)
     have := h (m - 1) m (by omega) (by omega)
     omega
   ·rw [List.mem_append, h2]
    constructor
    ·rintro (⟨j, hj, e⟩ | hx)
     ·exact ⟨j, by omega, e⟩
     ·exact ⟨m, by omega, (by simpa using hx : x = d[m]!).symm⟩
    ·rintro ⟨j, hj, e⟩
     by_cases hjm : j = m
     ·subst hjm; exact .inr (by simp [e])
     ·exact .inl ⟨j, by omega, e⟩
  ·rw [if_neg hk, List.append_nil]
   have hk' : ¬ (m = 0 ∨ d[m]! ≠ d[m - 1]!) := by simpa [Lib.keeps] using hk
   refine ⟨h1, fun x => ?_⟩
   rw [h2]
   constructor
   ·rintro ⟨j, hj, e⟩; exact ⟨j, by omega, e⟩
   ·rintro ⟨j, hj, e⟩
    by_cases hjm : j = m
    ·subst hjm
     have hm0 : j ≠ 0 := fun q => hk' (.inl q)
     have e2 : d[j]! = d[j - 1]! := Classical.byContradiction fun q => hk' (.inr q)
     exact ⟨j - 1, by omega, by rw [← e2, e]⟩
    ·exact ⟨j, by omega, e⟩
theorem compact_sort (l : List Int) : (Lib.compact (sortL l)).Pairwise (· < ·) ∧ ∀ x, x ∈ Lib.compact (sortL l) ↔ x ∈ l := by
 have hs := sortL_sorted l
 have hp := sortL_perm l
 generalize sortL l = s at *
 have hget : ∀ j, j < s.length → s.toArray[j]! = s.getD j 0 := fun j hj => by simp [hj]
 have hm : ∀ i j, i ≤ j → j < s.toArray.size → s.toArray[i]! ≤ s.toArray[j]! := fun i j hij hj => by
  have hj' : j < s.length := by simpa using hj
  by_cases e : i = j
  ·subst e; omega
  ·have := List.pairwise_iff_getElem.1 hs i j (by omega) hj' (by omega)
   have hi' : i < s.length := by omega
   simpa [hi', hj'] using this
 obtain ⟨h1, h2⟩ := compact_up s.toArray hm s.length (by simp)
 refine ⟨h1, fun x => (h2 x).trans ?_⟩
 rw [← hp.mem_iff, List.mem_iff_getElem]
 constructor
 ·rintro ⟨j, hj, e⟩; exact ⟨j, hj, by rw [← e]; simp [hj]⟩
 ·rintro ⟨j, hj, e⟩; exact ⟨j, hj, by rw [← e]; simp [hj]⟩
theorem strict_ext : ∀ {a b : List Int}, a.Pairwise (· < ·) → b.Pairwise (· < ·) → (∀ x, x ∈ a ↔ x ∈ b) → a = b
 | [], [], _, _, _ => rfl
 | [], y :: b, _, _, h => by have := (h y).2 (by simp); cases this
 | x :: a, [], _, _, h => by have := (h x).1 (by simp); cases this
 | x :: a, y :: b, ha, hb, h => by
  rw [List.pairwise_cons] at ha hb
  have e : x = y := by
   have h1 := (h x).1 (by simp)
   have h2 := (h y).2 (by simp)
   rw [List.mem_cons] at h1 h2
   rcases h1 with h1 | h1
   ·exact h1
   ·rcases h2 with h2 | h2
    ·exact h2.symm
    ·have := hb.1 x h1; have := ha.1 y h2; omega
  subst e
  congr 1
  refine strict_ext ha.2 hb.2 fun z => ⟨fun hz => ?_, fun hz => ?_⟩
  ·have := (h z).1 (by simp [hz])
   rw [List.mem_cons] at this
   rcases this with rfl | q
   ·have := ha.1 z hz; omega
   ·exact q
  ·have := (h z).2 (by simp [hz])
   rw [List.mem_cons] at this
   rcases this with rfl | q
   ·have := hb.1 z hz; omega
   ·exact q
end Wb
