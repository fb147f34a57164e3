import Derived.Test.YtjdljckgphbkmaaDoorI
import Derived.Test.YtjdljckgphbkmaaDoorB
set_option linter.unusedVariables false
set_option linter.unusedSimpArgs false
/- What is said of single books: the books, and what the models tell of them (ParcelKnown). -/
namespace Wb
open Go Go.Proofs Enc Row
set_option linter.unusedSimpArgs false
set_option linter.unusedVariables false
set_option maxRecDepth 20000
set_option maxHeartbeats 4000000
def pc1 : Piece := ⟨10, 500, 300, false⟩
def pc2 : Piece := ⟨20, 800, 1200, false⟩
def pc3 : Piece := ⟨5, 200, 100, true⟩
def pc4 : Piece := ⟨30, 1500, 2000, false⟩
def kd1 : Kind := ⟨25, 1000, [10, 12, 14, 16, 18], 2⟩
def kd2 : Kind := ⟨60, 3000, [20, 24, 28, 32, 36], 5⟩
def bads : List PBook := [
  ⟨[], [], 0, 0, 0, 0, []⟩,
  ⟨[⟨0, 0, 0, false⟩, ⟨0, 0, 0, false⟩, ⟨0, 0, 0, false⟩, ⟨0, 0, 0, false⟩, ⟨0, 0, 0, false⟩, ⟨0, 0, 0, false⟩, ⟨0, 0, 0, false⟩, ⟨0, 0, 0, false⟩], [kd1, kd2], 500, 1000, 1000, 3, [1, 2, 5, 10]⟩,
  ⟨[⟨501, 500, 300, false⟩, pc2, pc3, pc4], [kd1, kd2], 500, 1000, 1000, 3, [1, 2, 5, 10]⟩,
  ⟨[⟨10, 500, -1, false⟩, pc2, pc3, pc4], [kd1, kd2], 500, 1000, 1000, 3, [1, 2, 5, 10]⟩,
  ⟨[pc1, pc2, pc3, pc4], [⟨25, 1000, [1, 1, 1, 1], 2⟩, kd2], 500, 1000, 1000, 3, [1, 2, 5, 10]⟩,
  ⟨[pc1, pc2, pc3, pc4], [kd1, ⟨60, 3000, [20, 24, 28, 32, 0], 5⟩], 500, 1000, 1000, 3, [1, 2, 5, 10]⟩,
  ⟨[pc1, pc2, pc3, pc4], [kd1, ⟨60, 5001, [20, 24, 28, 32, 36], 5⟩], 500, 1000, 1000, 3, [1, 2, 5, 10]⟩,
  ⟨[pc1, pc2, pc3, pc4], [kd1, kd2], 0, 1000, 1000, 3, [1, 2, 5, 10]⟩,
  ⟨[pc1, pc2, pc3, pc4], [kd1, kd2], 500, 1000, 0, 3, [1, 2, 5, 10]⟩,
  ⟨[pc1, pc2, pc3, pc4], [kd1, kd2], 500, 1000, 1000, 3, [1, 2, 2]⟩,
  ⟨[pc1, pc2, pc3, pc4], [kd1, kd2], 500, 1000, 1000, 3, []⟩,
  ⟨[pc1, pc2, pc3, pc4], [kd1, kd2], 500, 1000, 1000, 1001, [1, 2, 5, 10]⟩]
def wrong : List Parc := [⟨2, [0]⟩, ⟨-1, [0]⟩, ⟨0, []⟩, ⟨0, [4]⟩, ⟨0, [1, 0]⟩, ⟨0, [0, 0]⟩]
def large : PBook := ⟨[pc1, ⟨61, 800, 1200, false⟩, pc3, pc4], [kd1, kd2], 500, 1000, 1000, 3, [1, 2, 5, 10]⟩
def odd : PBook := ⟨[pc1, pc2, pc3, pc4], [kd1, kd2], 500, 1000, 1000, 3, [3, 7]⟩
theorem bads_no : ∀ b ∈ bads, bookOk b = false := by decide +kernel
theorem bads_big : ∀ b ∈ bads, Big4 b := by
  intro b hb
  simp only [bads, List.mem_cons, List.not_mem_nil, or_false] at hb
  rcases hb with h | h | h | h | h | h | h | h | h | h | h | h <;> subst h <;> refine ⟨?_, ?_, ?_, ?_⟩ <;> simp [big, kd1, kd2]
theorem no_fits {b : PBook} (h : bookOk b = false) (q : Parc) : (fitsM b q).2 = 60 := by simp [fitsM, h]
theorem no_post {b : PBook} (h : bookOk b = false) (q : Parc) (z : Int) : (postM b q z).2 = 60 := by simp [postM, h]
theorem no_div {b : PBook} (h : bookOk b = false) (l : List Parc) : (isDivM b l).2 = 60 := by simp [isDivM, h]
theorem no_whole {b : PBook} (h : bookOk b = false) (c : Bool) (z : Int) : (wholeM c b z).2 = 60 := by simp [wholeM, h]
theorem no_cheap {b : PBook} (h : bookOk b = false) (z : Int) : (cheapestM b z).2 = 60 := by simp [cheapestM, no_whole h]
theorem no_cost {b : PBook} (h : bookOk b = false) (z : Int) : (costM b z).2 = 60 := no_whole h true z
theorem no_few {b : PBook} (h : bookOk b = false) : (fewM b).2 = 60 := no_whole h false 0
theorem no_big {b : PBook} (h : bookOk b = false) : (bigM b).2 = 60 := by simp [bigM, h]
theorem no_stamp {b : PBook} (h : bookOk b = false) (c : Int) : (stampO b c).2 = 60 := by simp [stampO, h]
theorem no_send {b : PBook} (h : bookOk b = false) (z c : Int) : (sendM b z c).2 = 60 := by simp [sendM, h]
theorem wr_fits : ∀ q ∈ wrong, (fitsM bk q).2 = 61 := by decide +kernel
theorem wr_post : ∀ q ∈ wrong, (postM bk q 0).2 = 61 := by decide +kernel
theorem wr_div : ∀ q ∈ wrong, isDivM bk [⟨0, [2]⟩, ⟨1, [0, 1, 3]⟩, q] = (false, 0) := by decide +kernel
theorem k_a1 : (postM bk ⟨0, [0]⟩ 5).2 = 61 := by decide +kernel
theorem k_c1 : (cheapestM bk (-1)).2 = 61 := by decide +kernel
theorem k_d1 : (costM bk 5).2 = 61 := by decide +kernel
theorem k_e1 : (stampO bk 20001).2 = 61 := by decide +kernel
theorem k_f1 : (sendM bk 5 0).2 = 61 := by decide +kernel
theorem k_g1 : (sendM bk 0 (-1)).2 = 61 := by decide +kernel
theorem k_h1 : (postM bk ⟨0, [0, 1]⟩ 0).2 = 4 := by decide +kernel
theorem k_a2 : (cheapestM large 0).2 = 4 := by decide +kernel
theorem k_c2 : (fewM large).2 = 4 := by decide +kernel
theorem k_d2 : bigM large = ([1], 0) := by decide +kernel
theorem k_e2 : fitsM bk ⟨1, [0, 2]⟩ = (false, 0) := by decide +kernel
theorem k_f2 : isDivM bk [⟨1, [0, 1, 3]⟩] = (false, 0) := by decide +kernel
theorem k_a3 : postM bk ⟨0, [1]⟩ 0 = (15, 0) := by decide +kernel
theorem k_c3 : costM bk 4 = (88, 0) := by decide +kernel
theorem k_d3 : sendM bk 0 15 = ([1], 0) := by decide +kernel
theorem k_e3 : sendM bk 0 9 = ([], 0) := by decide +kernel
theorem k_f3 : stampO odd 11 = ([4, 0], 0) := by decide +kernel
theorem k_g3 : stampO odd 0 = ([0, 0], 0) := by decide +kernel
theorem k_h3 : stampO odd 21 = ([0, 3], 0) := by decide +kernel
end Wb
/- The chapter's book, made anew: what lies in the store then. -/
namespace Wb
open Go Go.Proofs Enc Row
set_option linter.unusedSimpArgs false
set_option linter.unusedVariables false
set_option maxRecDepth 20000
set_option maxHeartbeats 4000000
/-- The types: slice literals hold what they hold alive. -/
def dpP (t : Nat) : Bool := t != 40
theorem dp22 : dpP 22 = true := rfl
theorem dp23 : dpP 23 = true := rfl
theorem dp24 : dpP 24 = true := rfl
theorem dp77 : dpP 77 = true := rfl
theorem dp40 : dpP 40 = false := rfl
def tiD (t : Nat) : TI := { ti t with deep := dpP t }
theorem tiokD (t : Nat) : TIok Tryd.prog t (tiD t) := ⟨(tiok t).kind, (tiok t).info, (tiok t).agg⟩
theorem tiD_eq (t : Nat) : tiD t = { kind := (ti t).kind, size := (ti t).size, bytes := (ti t).bytes, zero := (ti t).zero, deep := dpP t } := rfl
def zB : List PV := [.sl [] true, .sl [] true, .int .i64 0, .int .i64 0, .int .i64 0, .int .i64 0, .sl [] true]
/-- The book's cells, and its blocks. -/
def bkC (p : List Nat) (H : Heap) : List PV :=
  [.aref (p, 53001004) (verOf H (p, 53001004) + 1) 0 4 4, .aref (p, 53001009) (verOf H (p, 53001009) + 1) 0 4 2, .int .i64 500, .int .i64 1000, .int .i64 1000, .int .i64 3, .aref (p, 53001010) (verOf H (p, 53001010) + 1) 0 1 4]
def bkH (p : List Nat) (H : Heap) : Heap :=
  ((((((H.set (p, 53000000) (.cells zB (verOf H (p, 53000000) + 1) false)).set
    (p, 53001004) (.cells [.int .i64 10, .int .i64 500, .int .i64 300, .bool false, .int .i64 20, .int .i64 800, .int .i64 1200, .bool false, .int .i64 5, .int .i64 200, .int .i64 100, .bool true, .int .i64 30, .int .i64 1500, .int .i64 2000, .bool false] (verOf H (p, 53001004) + 1) false)).set
    (p, 53001005) (.cells [.int .i64 10, .int .i64 12, .int .i64 14, .int .i64 16, .int .i64 18] (verOf H (p, 53001005) + 1) false)).set
    (p, 53001007) (.cells [.int .i64 20, .int .i64 24, .int .i64 28, .int .i64 32, .int .i64 36] (verOf H (p, 53001007) + 1) false)).set
    (p, 53001009) (.cells [.int .i64 25, .int .i64 1000, .aref (p, 53001005) (verOf H (p, 53001005) + 1) 0 1 5, .int .i64 2, .int .i64 60, .int .i64 3000, .aref (p, 53001007) (verOf H (p, 53001007) + 1) 0 1 5, .int .i64 5] (verOf H (p, 53001009) + 1) false)).set
    (p, 53001010) (.cells [.int .i64 1, .int .i64 2, .int .i64 5, .int .i64 10] (verOf H (p, 53001010) + 1) false)).set
    (p, 53000000) (.cells (bkC p H) (verOf H (p, 53000000) + 1) false)
theorem book_in {E : Env} (hti : ∀ {t}, E.ti t = tiD t) (h82 : E.spec 82 = some s82) (h53 : E.inl 53 = some Tryd.f53) (n : Nat) (p : List Nat) (H : Heap) (Q : PV → Heap → Prop) :
    callN E (n + 1) p (.fn 53 [] []) [] H Q = Q (.agg (bkC p H)) (bkH p H) := by
  rw [callN_in h53 rfl]
  unfold Tryd.f53
  simp only [go_sem, Nat.reduceAdd, Nat.reduceSub, Nat.reduceMul, Nat.reduceEqDiff, Nat.reduceLT, Nat.reduceLeDiff, Nat.reduceBEq, Nat.reduceBNe, Int.reduceToNat, Int.reduceLE, Int.reduceLT, Int.reduceNe, Int.reduceNeg, reduceCtorEq, Int.reduceBEq, Int.reduceBNe, hti, @callV_spec E 82 s82 h82, @callV_specT E 82 s82 h82, @stepV_spec E 82 s82 h82, @effV_spec E 82 s82 h82, s82, tiD_eq, dp22, dp23, dp24, callSpec, buildCells]
  rfl
theorem bkH_off {p : List Nat} {K : Key} (h : K.1 ≠ p) (H : Heap) : bkH p H K = H K := by
  have e : ∀ n, K ≠ (p, n) := fun n e => h (by rw [e])
  simp only [bkH, set_at, e, if_false]
theorem bkH_eq {p : List Nat} {H H' : Heap} (h1 : ∀ K : Key, ¬ K.1 = p → H' K = H K) (h2 : ∀ K : Key, K.1 = p → H' K = bkH p H K) : H' = bkH p H := by
  funext K
  by_cases e : K.1 = p
  · exact h2 K e
  · rw [h1 K e, bkH_off e]
/-- The book, made: what it turns. -/
def e53 : ESpec := fun path args => match args with
  | [] => some {
      pre := fun _ => True
      D := fun K => K.1 = path
      S := fun K => K.1 = path
      post := fun H v H' => v = .agg (bkC path H) ∧ ∀ K, K.1 = path → H' K = bkH path H K }
  | _ => none
theorem bk_same {p : List Nat} {H H1 : Heap} (h : ∀ K : Key, K.1 = p → H1 K = H K) : bkC p H1 = bkC p H ∧ ∀ K : Key, K.1 = p → bkH p H1 K = bkH p H K := by
  have e : ∀ n, verOf H1 (p, n) = verOf H (p, n) := fun n => by simp only [verOf, h (p, n) rfl]
  have c : bkC p H1 = bkC p H := by simp only [bkC, e]
  refine ⟨c, fun K hK => ?_⟩
  simp only [bkH, c, e, set_at, h K hK]
theorem e53_dep (path : List Nat) (args : List PV) (e : Eff) (h : e53 path args = some e) : EffDep e := by
  unfold e53 at h
  split at h
  · cases h
    refine ⟨fun _ _ _ _ => trivial, fun H H1 v H' hD hp => ?_, fun H v H1 H2 hS hp => ⟨hp.1, fun K hK => (hS K hK).trans (hp.2 K hK)⟩, fun H _ => ⟨_, bkH path H, fun K hK => bkH_off hK H, rfl, fun _ _ => rfl⟩⟩
    obtain ⟨a, b⟩ := bk_same hD
    exact ⟨by rw [a]; exact hp.1, fun K hK => by rw [b K hK]; exact hp.2 K hK⟩
  · cases h
noncomputable def il53 : List (Nat × Func) := [(53, Tryd.f53)]
theorem il53_ok : InlOK il53 := ⟨⟨Tryd.func53, Tryd.call53, by kernel_rfl⟩, trivial⟩
noncomputable def E42t : List (Nat × Spec) := [(82, s82)]
theorem E42t_ok : AllOK E42t := ⟨⟨s82_ok, Tryd.call82⟩, trivial⟩
noncomputable def E42 : Env := { mkE E42t il53 with ti := tiD }
theorem E42_ok : EnvOK Tryd.prog E42 :=
  have h := envOK E42t_ok il53_ok
  ⟨tiokD, h.spec, h.inl, h.eqt, h.keyt, h.mixed, h.mt, h.eff⟩
theorem e53_ok : EffOK Tryd.prog glB 53 e53 := effOK_of (n := 1) E42_ok e53_dep fun path args e h => by
  unfold e53 at h
  split at h
  · cases h
    refine ⟨[], trivial, fun H Q _ hQ => ?_⟩
    rw [book_in (E := E42) rfl rfl rfl 0]
    exact hQ _ _ (fun K hK => bkH_off hK H) ⟨rfl, fun _ _ => rfl⟩
  · cases h
noncomputable def E43t : List (Nat × Spec) := [(23, s23), (33, s33x), (20, s20), (24, s24), (31, s31)] ++ E11t
theorem E43t_ok : AllOK E43t := ⟨⟨s23_ok, Tryd.call23⟩, ⟨s33x_ok, Tryd.call33⟩, ⟨s20_ok, Tryd.call20⟩, ⟨s24_ok, Tryd.call24⟩, ⟨s31_ok, Tryd.call31⟩, E11t_ok⟩
noncomputable def E43 : Env := { mkF E43t il53 [] [(53, e53)] with ti := tiD }
theorem E43_ok : EnvOK Tryd.prog E43 :=
  have h := envFOK (mt := []) (ef := [(53, e53)]) E43t_ok il53_ok trivial ⟨⟨e53_ok, Tryd.call53⟩, trivial⟩
  ⟨tiokD, h.spec, h.inl, h.eqt, h.keyt, h.mixed, h.mt, h.eff⟩
theorem E43_ti {t : Nat} : E43.ti t = tiD t := rfl
theorem E43_q0 : (E43).eqt 130 = true := rfl
theorem E43_q1 : (E43).keyt 3 = true := rfl
theorem E43_q2 : (E43).keyt 85 = true := rfl
attribute [go_sem] E43_ti E43_q0 E43_q1 E43_q2
end Wb
