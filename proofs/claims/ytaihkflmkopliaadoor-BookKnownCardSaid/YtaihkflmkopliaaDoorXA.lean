import Derived.Test.YtaihkflmkopliaaDoorI
import Derived.Test.YtaihkflmkopliaaDoorB
set_option linter.unusedVariables false
set_option linter.unusedSimpArgs false
/- What is said of single racks: the racks, and what the models tell of them (BookKnown). -/
namespace Wb
open Go Go.Proofs Enc Row
set_option linter.unusedSimpArgs false
set_option linter.unusedVariables false
set_option maxRecDepth 20000
set_option maxHeartbeats 4000000
def i1 : Issue := ⟨260, 450, 450, [⟨12, 0, 1, [⟨40, 250, 258, 980⟩, ⟨42, 262, 270, 990⟩]⟩, ⟨13, 2, 4, [⟨1, 1, 400, 50⟩]⟩]⟩
def e0 : Entry := ⟨11, 0, 3, [⟨40, 250, 258, 900⟩, ⟨41, 256, 264, 950⟩]⟩
def e1 : Entry := ⟨12, 1, 1, [⟨7, 1, 400, 300⟩]⟩
theorem rackC_lit : rackC = ⟨3, [⟨100, 280, 300, [e0, e1]⟩, i1]⟩ := rfl
def zI : Issue := ⟨0, 0, 0, []⟩
def bads : List Rack := [
  ⟨0, []⟩,
  ⟨25, [⟨100, 280, 300, [e0, e1]⟩, i1]⟩,
  ⟨3, []⟩,
  ⟨3, [zI, zI, zI, zI, zI]⟩,
  ⟨3, [⟨100, 20001, 300, [e0, e1]⟩, i1]⟩,
  ⟨3, [⟨100, 280, 99, [e0, e1]⟩, i1]⟩,
  ⟨3, [⟨100, 280, 300, [e0, ⟨11, 1, 1, [⟨7, 1, 400, 300⟩]⟩]⟩, i1]⟩,
  ⟨3, [⟨100, 280, 300, [e0, ⟨12, 0, 1, [⟨7, 1, 400, 300⟩]⟩]⟩, i1]⟩,
  ⟨3, [⟨100, 280, 300, [e0, ⟨12, 3, 1, [⟨7, 1, 400, 300⟩]⟩]⟩, i1]⟩,
  ⟨3, [⟨100, 280, 300, [⟨11, 0, 16, [⟨40, 250, 258, 900⟩, ⟨41, 256, 264, 950⟩]⟩, e1]⟩, i1]⟩,
  ⟨3, [⟨100, 280, 300, [⟨11, 0, 3, []⟩, e1]⟩, i1]⟩,
  ⟨3, [⟨100, 280, 300, [⟨11, 0, 3, [⟨40, 250, 258, 900⟩, ⟨40, 256, 264, 950⟩]⟩, e1]⟩, i1]⟩,
  ⟨3, [⟨100, 280, 300, [⟨11, 0, 3, [⟨40, 0, 5, 900⟩, ⟨41, 256, 264, 950⟩]⟩, e1]⟩, i1]⟩,
  ⟨3, [⟨100, 280, 300, [⟨11, 0, 3, [⟨40, 250, 258, 0⟩, ⟨41, 256, 264, 950⟩]⟩, e1]⟩, i1]⟩]
/-- The racks as they stand: nil slices, and slices that were made, are known to have no room behind them. -/
def badRows : List (List PV) := (bads.map encR).set 0 [.int .i64 0, .sl [] true] |>.set 2 [.int .i64 3, .sl [] true]
  |>.set 3 [.int .i64 3, .sl (List.replicate 5 [.int .i64 0, .int .i64 0, .int .i64 0, .sl [] true]) true]
  |>.set 10 [.int .i64 3, .sl [[.int .i64 100, .int .i64 280, .int .i64 300, .sl [[.int .i64 11, .int .i64 0, .int .i64 3, .sl [] true], encE e1] false], encI i1] false]
theorem bads_no : ∀ r ∈ bads, rackOk r = false := by decide +kernel
theorem bads_okR : ∀ r ∈ bads, okRack r := by
  intro r hr
  simp only [bads, List.mem_cons, List.not_mem_nil, or_false] at hr
  rcases hr with h | h | h | h | h | h | h | h | h | h | h | h | h | h <;> subst h <;> simp [okRack, i1, e0, e1, zI, okIssue, okEntry, okFit, okInt]
theorem no_means {r : Rack} (h : rackOk r = false) (d : Int × Int) (n : Int) : (meansM r d n).2 = 10 := by simp [meansM, h]
theorem no_num {r : Rack} (h : rackOk r = false) (i n j : Int) : (numM r i n j).2 = 10 := by simp [numM, entErr, h]
theorem no_twins {r : Rack} (h : rackOk r = false) (n : Int) : (twinsM r n).2 = 10 := by simp [twinsM, h]
theorem no_price {r : Rack} (h : rackOk r = false) (n : Int) (t : Item) : (priceM r n t).2 = 10 := by simp [priceM, asked3, h]
theorem no_prices {r : Rack} (h : rackOk r = false) (d : Int × Int) (t : Item) : (pricesM r d t).2 = 10 := by simp [pricesM, h]
theorem no_last {r : Rack} (h : rackOk r = false) (t : Item) : (lastM r t).2 = 10 := by simp [lastM, asked3, h]
theorem no_sum {r : Rack} (h : rackOk r = false) (n : Int) (l : List Line) : (sumM r n l).2 = 10 := by simp [sumM, asked3, h]
theorem no_cheap {r : Rack} (h : rackOk r = false) (d : Int × Int) (l : List Line) : (cheapM r d l).2.2 = 10 := by simp [cheapM, h]
theorem no_fits {r : Rack} (h : rackOk r = false) (i n : Int) (d : Int × Int) : (fitsM r i n d).2 = 10 := by simp [fitsM, entErr, h]
theorem no_sure {r : Rack} (h : rackOk r = false) (i n : Int) (d : Int × Int) : (sureM r i n d).2 = 10 := by simp [sureM, entErr, h]
theorem k_a : (meansM rackC (1, 0) 12).2 = 11 := by decide +kernel
theorem k_b : (meansM rackC (1, 2) 10000).2 = 11 := by decide +kernel
theorem k_c : (numM rackC 2 11 0).2 = 11 := by decide +kernel
theorem k_d : (twinsM rackC 20001).2 = 11 := by decide +kernel
theorem k_e : (priceM rackC 0 ⟨3, 1, 0⟩).2 = 11 := by decide +kernel
theorem k_f : (priceM rackC 0 ⟨0, 100, 0⟩).2 = 11 := by decide +kernel
theorem k_g : (pricesM rackC (0, 1) ⟨0, 40, 4⟩).2 = 11 := by decide +kernel
theorem k_h : (lastM rackC ⟨0, 0, 0⟩).2 = 11 := by decide +kernel
theorem k_i : (sumM rackC 270 [⟨⟨0, 40, 0⟩, 1001⟩]).2 = 11 := by decide +kernel
theorem k_j : (cheapM rackC (0, 1) (List.replicate 21 ⟨⟨0, 0, 0⟩, 0⟩)).2.2 = 11 := by decide +kernel
theorem k_k : (fitsM rackC 0 11 (255, 401)).2 = 11 := by decide +kernel
theorem k_m : (sureM rackC 0 0 (255, 256)).2 = 11 := by decide +kernel
theorem k_a2 : (numM rackC 0 12 1).2 = 4 := by decide +kernel
theorem k_b2 : (numM rackC 0 13 1).2 = 4 := by decide +kernel
theorem k_c2 : (priceM rackC 99 ⟨0, 40, 0⟩).2 = 4 := by decide +kernel
theorem k_d2 : (priceM rackC 301 ⟨0, 40, 1⟩).2 = 4 := by decide +kernel
theorem k_e2 : (lastM rackC ⟨2, 1, 0⟩).2 = 4 := by decide +kernel
theorem k_f2 : (sumM rackC 259 orderC).2 = 4 := by decide +kernel
theorem cuts_g : cutsM rackC (0, 259) = [0, 100] := by
  refine strict_ext (compact_sort _).1 (by decide) fun x => ?_
  unfold cutsM
  rw [(compact_sort _).2, show rawCuts (0, 259) rackC.issues = [0, 100] by decide]
theorem k_g2 : (cheapM rackC (0, 259) orderC).2.2 = 4 := by
  unfold cheapM
  rw [if_pos rackC_ok, if_pos (by decide), cuts_g]
  decide
theorem k_h2 : (fitsM rackC 0 13 (255, 256)).2 = 4 := by decide +kernel
theorem k_i2 : (sureM rackC 0 11 (255, 260)).2 = 4 := by decide +kernel
theorem k_a3 : meansM rackC (290, 300) 12 = ([(1, 0)], 0) := by decide +kernel
theorem k_b3 : numM rackC 1 12 0 = (11, 0) := by decide +kernel
theorem k_c3 : twinsM rackC 200 = ([], 0) := by
  unfold twinsM
  rw [if_pos rackC_ok, if_pos (by decide)]
  rw [strict_ext (twL_strict (twAt 200 rackC.issues).t 10000) (b := []) (by simp) fun x => ?_]
  rw [mem_twL, twAt_pair]
  have e : (rackC.issues.filter (ovl 0 200 200)).flatMap (·.entries) = [e0, e1] := by rfl
  rw [e]
  simp only [e0, e1, hasPair, List.mem_cons, List.not_mem_nil, or_false, exists_eq_or_imp, exists_eq_left]
  refine ⟨fun ⟨_, _, h⟩ => ?_, fun h => h.elim⟩
  rcases h with (⟨_, _, h⟩ | ⟨a, b, _⟩) | ⟨a, b, _⟩ | ⟨_, _, h⟩ <;> first | exact absurd rfl h | omega
theorem k_d3 : priceM rackC 301 ⟨0, 40, 0⟩ = (980, 0) := by decide +kernel
theorem k_e3 : lastM rackC ⟨0, 40, 0⟩ = (450, 0) := by decide +kernel
theorem k_f3 : fitsM rackC 0 11 (259, 270) = ([41], 0) := by decide +kernel
theorem k_g3 : fitsM rackC 0 11 (100, 200) = ([], 0) := by decide +kernel
theorem k_h3 : sumM rackC 5 [] = (0, 0) := by decide +kernel
theorem k_i3 : sureM rackC 0 11 (257, 258) = (40, 0) := by decide +kernel
theorem cuts_j : cutsM rackC (7, 9) = [7] := by
  refine strict_ext (compact_sort _).1 (by decide) fun x => ?_
  unfold cutsM
  rw [(compact_sort _).2, show rawCuts (7, 9) rackC.issues = [7] by decide]
theorem k_j3 : cheapM rackC (7, 9) [] = (7, 0, 0) := by
  unfold cheapM
  rw [if_pos rackC_ok, if_pos (by decide), cuts_j]
  decide
end Wb
/- The chapter's rack, made anew: what lies in the store then. -/
namespace Wb
open Go Go.Proofs Enc Row
set_option linter.unusedSimpArgs false
set_option linter.unusedVariables false
set_option maxRecDepth 20000
set_option maxHeartbeats 4000000
theorem bindsK_data (n : Nat) : Region.binds .any { on := n, ground := .data } = true := rfl
theorem bindsK_phase (n : Nat) : Region.binds .any { on := n, ground := .phase } = true := rfl
theorem bindsK_chain (n : Nat) : Region.binds .any { on := n, ground := .chain } = true := rfl
theorem bindsK_guard (n : Nat) : Region.binds .any { on := n, ground := .guard } = true := rfl
attribute [go_sem] bindsK_data bindsK_phase bindsK_chain bindsK_guard
/-- The types: which slice literals hold what they hold alive. -/
def dpP (t : Nat) : Bool := t == 22 || t == 62 || t == 65 || t == 93
theorem dp22 : dpP 22 = true := rfl
theorem dp62 : dpP 62 = true := rfl
theorem dp65 : dpP 65 = true := rfl
theorem dp93 : dpP 93 = true := rfl
theorem dp48 : dpP 48 = false := rfl
theorem dp28 : dpP 28 = false := rfl
theorem dp36 : dpP 36 = false := rfl
def tiD (t : Nat) : TI := { ti t with deep := dpP t }
theorem tiokD (t : Nat) : TIok Tryd.prog t (tiD t) := ⟨(tiok t).kind, (tiok t).info, (tiok t).agg⟩
theorem tiD_eq (t : Nat) : tiD t = { kind := (ti t).kind, size := (ti t).size, bytes := (ti t).bytes, zero := (ti t).zero, deep := dpP t } := rfl
/-- The rack's cells, and its blocks. -/
def rkC (p : List Nat) (H : Heap) : List PV := [.int .i64 3, .aref (p, 53001020) (verOf H (p, 53001020) + 1) 0 4 2]
def rkH (p : List Nat) (H : Heap) : Heap :=
  ((((((((H.set (p, 53000000) (.cells [.int .i64 0, .sl [] true] (verOf H (p, 53000000) + 1) false)).set
    (p, 53001003) (.cells [.int .i64 40, .int .i64 250, .int .i64 258, .int .i64 900, .int .i64 41, .int .i64 256, .int .i64 264, .int .i64 950] (verOf H (p, 53001003) + 1) false)).set
    (p, 53001006) (.cells [.int .i64 7, .int .i64 1, .int .i64 400, .int .i64 300] (verOf H (p, 53001006) + 1) false)).set
    (p, 53001008) (.cells [.int .i64 11, .int .i64 0, .int .i64 3, .aref (p, 53001003) (verOf H (p, 53001003) + 1) 0 4 2, .int .i64 12, .int .i64 1, .int .i64 1, .aref (p, 53001006) (verOf H (p, 53001006) + 1) 0 4 1] (verOf H (p, 53001008) + 1) false)).set
    (p, 53001013) (.cells [.int .i64 40, .int .i64 250, .int .i64 258, .int .i64 980, .int .i64 42, .int .i64 262, .int .i64 270, .int .i64 990] (verOf H (p, 53001013) + 1) false)).set
    (p, 53001016) (.cells [.int .i64 1, .int .i64 1, .int .i64 400, .int .i64 50] (verOf H (p, 53001016) + 1) false)).set
    (p, 53001018) (.cells [.int .i64 12, .int .i64 0, .int .i64 1, .aref (p, 53001013) (verOf H (p, 53001013) + 1) 0 4 2, .int .i64 13, .int .i64 2, .int .i64 4, .aref (p, 53001016) (verOf H (p, 53001016) + 1) 0 4 1] (verOf H (p, 53001018) + 1) false)).set
    (p, 53001020) (.cells [.int .i64 100, .int .i64 280, .int .i64 300, .aref (p, 53001008) (verOf H (p, 53001008) + 1) 0 4 2, .int .i64 260, .int .i64 450, .int .i64 450, .aref (p, 53001018) (verOf H (p, 53001018) + 1) 0 4 2] (verOf H (p, 53001020) + 1) false)).set
    (p, 53000000) (.cells (rkC p H) (verOf H (p, 53000000) + 1) false)
theorem callN_in {E : Env} {n g : Nat} {fn : Func} {c : Code} (h : E.inl g = some fn) (hb : fn.body = some c) (path : List Nat) (a b args : List PV) (H : Heap) (Q : PV → Heap → Prop) :
    callN E (n + 1) path (.fn g a b) args H Q = (args.length ≤ fn.ntmps ∧ ev E (callN E n) path false g c (retK E fn.results.toList Q) (args ++ List.replicate (fn.ntmps - args.length) .undef) H) := by
  simp only [callN, h, hb]
theorem rack_in {E : Env} (hti : ∀ {t}, E.ti t = tiD t) (h44 : E.spec 44 = some sTo) (h105 : E.spec 105 = some sfit) (h53 : E.inl 53 = some Tryd.f53) (n : Nat) (p : List Nat) (H : Heap) (Q : PV → Heap → Prop) :
    callN E (n + 1) p (.fn 53 [] []) [] H Q = Q (.agg (rkC p H)) (rkH p H) := by
  rw [callN_in h53 rfl]
  unfold Tryd.f53
  simp only [go_sem, Nat.reduceAdd, Nat.reduceSub, Nat.reduceMul, Nat.reduceEqDiff, Nat.reduceLT, Nat.reduceLeDiff, Nat.reduceBEq, Nat.reduceBNe, Int.reduceToNat, Int.reduceLE, Int.reduceLT, Int.reduceNe, Int.reduceNeg, reduceCtorEq, Int.reduceBEq, Int.reduceBNe, hti, @callV_spec E 44 sTo h44, @callV_specT E 44 sTo h44, @stepV_spec E 44 sTo h44, @effV_spec E 44 sTo h44, sTo, @callV_spec E 105 sfit h105, @callV_specT E 105 sfit h105, @stepV_spec E 105 sfit h105, @effV_spec E 105 sfit h105, sfit, tiD_eq, dp22, dp62, dp65, callSpec, buildCells]
  rfl
theorem rkH_off {p : List Nat} {K : Key} (h : K.1 ≠ p) (H : Heap) : rkH p H K = H K := by
  have e : ∀ n, K ≠ (p, n) := fun n e => h (by rw [e])
  simp only [rkH, set_at, e, if_false]
theorem rkH_eq {p : List Nat} {H H' : Heap} (h1 : ∀ K : Key, ¬ K.1 = p → H' K = H K) (h2 : ∀ K : Key, K.1 = p → H' K = rkH p H K) : H' = rkH p H := by
  funext K
  by_cases e : K.1 = p
  · exact h2 K e
  · rw [h1 K e, rkH_off e]
/-- The rack, made: what it turns. -/
def e53 : ESpec := fun path args => match args with
  | [] => some {
      pre := fun _ => True
      D := fun K => K.1 = path
      S := fun K => K.1 = path
      post := fun H v H' => v = .agg (rkC path H) ∧ ∀ K, K.1 = path → H' K = rkH path H K }
  | _ => none
theorem rk_same {p : List Nat} {H H1 : Heap} (h : ∀ K : Key, K.1 = p → H1 K = H K) : rkC p H1 = rkC p H ∧ ∀ K : Key, K.1 = p → rkH p H1 K = rkH p H K := by
  have e : ∀ n, verOf H1 (p, n) = verOf H (p, n) := fun n => by simp only [verOf, h (p, n) rfl]
  have c : rkC p H1 = rkC p H := by simp only [rkC, e]
  refine ⟨c, fun K hK => ?_⟩
  simp only [rkH, c, e, set_at, h K hK]
theorem e53_dep (path : List Nat) (args : List PV) (e : Eff) (h : e53 path args = some e) : EffDep e := by
  unfold e53 at h
  split at h
  · cases h
    refine ⟨fun _ _ _ _ => trivial, fun H H1 v H' hD hp => ?_, fun H v H1 H2 hS hp => ⟨hp.1, fun K hK => (hS K hK).trans (hp.2 K hK)⟩, fun H _ => ⟨_, rkH path H, fun K hK => rkH_off hK H, rfl, fun _ _ => rfl⟩⟩
    obtain ⟨a, b⟩ := rk_same hD
    exact ⟨by rw [a]; exact hp.1, fun K hK => by rw [b K hK]; exact hp.2 K hK⟩
  · cases h
noncomputable def il53 : List (Nat × Func) := [(53, Tryd.f53)]
theorem il53_ok : InlOK il53 := ⟨⟨Tryd.func53, Tryd.call53, by kernel_rfl⟩, trivial⟩
noncomputable def E42t : List (Nat × Spec) := [(44, sTo), (105, sfit)]
theorem E42t_ok : AllOK E42t := ⟨⟨s44_ok, Tryd.call44⟩, ⟨s105_ok, Tryd.call105⟩, trivial⟩
noncomputable def E42 : Env := { mkE E42t il53 with ti := tiD }
theorem E42_ok : EnvOK Tryd.prog E42 :=
  have h := envOK E42t_ok il53_ok
  ⟨tiokD, h.spec, h.inl, h.eqt, h.keyt, h.mixed, h.mt, h.eff⟩
theorem e53_ok : EffOK Tryd.prog glB 53 e53 := effOK_of (n := 1) E42_ok e53_dep fun path args e h => by
  unfold e53 at h
  split at h
  · cases h
    refine ⟨[], trivial, fun H Q _ hQ => ?_⟩
    rw [rack_in (E := E42) rfl rfl rfl rfl 0]
    exact hQ _ _ (fun K hK => rkH_off hK H) ⟨rfl, fun _ _ => rfl⟩
  · cases h
theorem forall_rk {p : List Nat} {H : Heap} {P : PV → Heap → Prop} : (∀ (v : PV) (H' : Heap), (∀ K : Key, ¬ K.1 = p → H' K = H K) → (v = .agg (rkC p H) ∧ ∀ K : Key, K.1 = p → H' K = rkH p H K) → P v H') ↔ P (.agg (rkC p H)) (rkH p H) :=
  ⟨fun h => h _ _ (fun K hK => rkH_off hK H) ⟨rfl, fun _ _ => rfl⟩, fun h v H' h1 h2 => by rw [h2.1, rkH_eq h1 h2.2]; exact h⟩
/-- The rack's blocks, as they are met. -/
def rkK (p : List Nat) : List Key := [(p, 53001020), (p, 53001008), (p, 53001003), (p, 53001006), (p, 53001018), (p, 53001013), (p, 53001016)]
def rkR (p : List Nat) : List Key := (rkK p).reverse
theorem frz_rk {α : Type} [Inhabited α] {q : Prop} {p : List Nat} {H G : Heap} (hG : ∀ n, n ≠ 53000000 → G (p, n) = rkH p H (p, n)) {k : PV → List Key → Prg α} {Q : α → Heap → Prop} : Prg.wp q (frz 8 (.agg (rkC p H)) k) Q G = Prg.wp q (k (.agg (encR rackC)) (rkK p)) Q G := by
  have g20 := hG 53001020 (by decide)
  have g8 := hG 53001008 (by decide)
  have g3 := hG 53001003 (by decide)
  have g6 := hG 53001006 (by decide)
  have g18 := hG 53001018 (by decide)
  have g13 := hG 53001013 (by decide)
  have g16 := hG 53001016 (by decide)
  simp only [rkH, set_at, Prod.mk.injEq, true_and, Nat.reduceEqDiff, if_false, if_true] at g20 g8 g3 g6 g18 g13 g16
  simp only [go_sem, Nat.reduceAdd, Nat.reduceSub, Nat.reduceMul, Nat.reduceEqDiff, Nat.reduceLT, Nat.reduceLeDiff, Nat.reduceBEq, Nat.reduceBNe, Int.reduceToNat, Int.reduceLE, Int.reduceLT, Int.reduceNe, Int.reduceNeg, reduceCtorEq, Int.reduceBEq, Int.reduceBNe, rkC, g20, g8, g3, g6, g18, g13, g16]
  rfl
theorem frz_rkF {α : Type} [Inhabited α] {q : Prop} {p : List Nat} {H G : Heap} (hG : ∀ n, n ≠ 53000000 → G (p, n) = rkH p H (p, n)) {k : PV → List Key → Prg α} {Q : α → Heap → List Key → List Key → Prop} {R W : List Key} : Prg.wpF q (frz 8 (.agg (rkC p H)) k) Q G R W = Prg.wpF q (k (.agg (encR rackC)) (rkK p)) Q G (rkR p ++ R) W := by
  have g20 := hG 53001020 (by decide)
  have g8 := hG 53001008 (by decide)
  have g3 := hG 53001003 (by decide)
  have g6 := hG 53001006 (by decide)
  have g18 := hG 53001018 (by decide)
  have g13 := hG 53001013 (by decide)
  have g16 := hG 53001016 (by decide)
  simp only [rkH, set_at, Prod.mk.injEq, true_and, Nat.reduceEqDiff, if_false, if_true] at g20 g8 g3 g6 g18 g13 g16
  simp only [go_sem, Nat.reduceAdd, Nat.reduceSub, Nat.reduceMul, Nat.reduceEqDiff, Nat.reduceLT, Nat.reduceLeDiff, Nat.reduceBEq, Nat.reduceBNe, Int.reduceToNat, Int.reduceLE, Int.reduceLT, Int.reduceNe, Int.reduceNeg, reduceCtorEq, Int.reduceBEq, Int.reduceBNe, rkC, g20, g8, g3, g6, g18, g13, g16]
  rfl
end Wb
