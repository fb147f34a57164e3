import Derived.Test.YticjjabioiilfaaGreatDoorA
set_option linter.unusedVariables false
set_option linter.unusedSimpArgs false
namespace Wb
open Go Go.RowKit
section
variable {P : Program} {E : Env} {B : Nat} {w0 : World} {μ : Map} {H : Heap} {w : World} {q : Prop} {K : PV → Heap → Prop}
def Dfr (B : Nat) (μ : Map) (w : World) (ds : List Deferred) : Prop :=
 B ≤ w.heap.size ∧ ∃ rs : List Nat, ds = rs.map (fun r => { target := .collected r, args := #[] }) ∧ rs.Nodup ∧
  ∀ r ∈ rs, B ≤ r ∧ r < w.heap.size ∧ (∀ K, μ K ≠ some r) ∧ w.heap[r]? = some (.deferred (some []))
theorem Dfr.nil (h : B ≤ w.heap.size) : Dfr B μ w [] := ⟨h, [], rfl, List.nodup_nil, fun _ h => by cases h⟩
theorem Dfr.evo {μ' : Map} {H' : Heap} {w' : World} {ds : List Deferred} (h : Dfr B μ w ds) (e : Evo μ H w μ' H' w') : Dfr B μ' w' ds := by
 obtain ⟨h0, rs, h1, h2, h3⟩ := h
 refine ⟨Nat.le_trans h0 e.size, rs, h1, h2, fun r hr => ?_⟩
 obtain ⟨a, b, c, d⟩ := h3 r hr
 exact ⟨a, Nat.lt_of_lt_of_le b e.size, (e.fr r b c).2, (e.fr r b c).1.trans d⟩
structure St (B : Nat) (w0 : World) (μ : Map) (H : Heap) (w : World) (τ : List PV) (a : Act) : Prop where
 sim : Sim w0 μ H w
 tm : RepL w (Zof μ H w) (ctx μ H w) τ a.tmps
 df : Dfr B μ w a.defers
def Ls (B : Nat) (w0 : World) (μ : Map) (H : Heap) (w : World) (Q : List PV → Heap → Prop) (a' : Act) (w' : World) : Prop :=
 ∃ τ' μ' H', Q τ' H' ∧ St B w0 μ' H' w' τ' a' ∧ Evo μ H w μ' H' w'
theorem Ls.trans {μ' : Map} {H' : Heap} {w' : World} (e : Evo μ H w μ' H' w') {Q : List PV → Heap → Prop} {a'' : Act} {w'' : World} (h : Ls B w0 μ' H' w' Q a'' w'') : Ls B w0 μ H w Q a'' w'' := by
 obtain ⟨τ, μ2, H2, h1, h2, h3⟩ := h
 exact ⟨τ, μ2, H2, h1, h2, e.trans h3⟩
theorem RepL.put {Z : Nat → Prop} {C : Ctx} {τ : List PV} {a : Act} (h : RepL w Z C τ a.tmps) {v : PV} {x : Value} (hv : Rep w Z C v x) (dst : Option Nat) : RepL w Z C (putT τ dst v) (a.put dst x).tmps := by
 cases dst with
 | none => exact h
 | some d =>
  refine ⟨by simp [putT, Act.put, h.1], fun j p y hj hy => ?_⟩
  simp only [putT, Act.put, List.getElem?_set, Array.getElem?_setIfInBounds] at hj hy
  by_cases e : d = j
  ·subst e
   simp only [if_true] at hj hy
   split at hj
   ·split at hy
    ·cases hj; cases hy; exact hv
    ·cases hy
   ·cases hj
  ·simp only [e, if_false] at hj hy
   exact h.2 j p y hj hy
theorem St.put {τ : List PV} {a : Act} (h : St B w0 μ H w τ a) {μ' : Map} {H' : Heap} {w' : World} (hs : Sim w0 μ' H' w') (e : Evo μ H w μ' H' w') {v : PV} {x : Value} (hv : RP μ' H' w' v x) (dst : Option Nat) :
    St B w0 μ' H' w' (putT τ dst v) (a.put dst x) :=
 ⟨hs, RepL.put (h.tm.evo e) hv dst, by cases dst <;> exact h.df.evo e⟩
theorem upon_ran {ro : Option Nat} {o : Oper} {a : Act} {next : Act → World → Prop} {Q' : Exit → Act → World → Prop} {r : Result Next} (h : RanC P ro w0 μ H w K r)
    (hn : ∀ v x w' μ' H', K v H' → Sim w0 μ' H' w' → Evo μ H w μ' H' w' → RP μ' H' w' v x → next (a.put o.dst x) w') : o.uponIn (Fr ro) 0 P a next Q' r := by
 have hb : ∀ e w', BackK w0 μ H w K e w' → (match e with
  | .returned v => next (a.put o.dst v) w'
  | .panicked chain => Q' (.panic chain) a w'
  | .outgrown => LetsOut Q') := fun e w' h => by
  obtain ⟨pv, x, μ', H', rfl, h1, h2, h3, h4⟩ := h
  exact hn _ _ _ _ _ h1 h2 h3 h4
 rcases h with ⟨pv, H', μ', w', x, h1, h2, h3, h4, rfl | ⟨rfl, rfl⟩⟩ | ⟨f, args, rfl, h2⟩ | ⟨l, f, tmps, as, body, rfl, h2⟩
 ·exact hn _ _ _ _ _ h1 h2 h3 h4
 ·exact hn _ _ _ _ _ h1 h2 h3 h4
 ·refine ⟨fun h => by simp [Fr, Fence.wide] at h, h2.mono fun e w' h => ?_⟩
  have := hb e w' h
  cases e <;> exact this
 ·refine ⟨fun h => by simp [Fr, Fence.wide] at h, h2.mono fun e w' h => ?_⟩
  have := hb e w' h
  cases e <;> exact this
theorem op_sound (he : EnvOK P E) (hgl : GlobOK E.glob w0) {h : Handler} (hh : HandlerOK P w0 h) {path : List Nat} {s : Nat} {ops : Array Oper} {o : Oper} {τ : List PV} {a : Act} {ro : Option Nat}
    (hst : St B w0 μ H w τ a) (hg : gok ops τ o.guard = true) (ha : ask E h path s ops o τ H K) {next : Act → World → Prop} {Q' : Exit → Act → World → Prop}
    (hn : ∀ v x w' μ' H', K v H' → Evo μ H w μ' H' w' → St B w0 μ' H' w' (putT τ o.dst v) (a.put o.dst x) → next (a.put o.dst x) w') :
    if Region.wanted o (yielded ops a.tmps) then o.wpIn (Fr ro) 0 P a w next Q' else (∀ f, o.about P w a.eval = some f → (Fr ro).fn f) ∧ next (a.put o.dst undef) w := by
 rcases ask_sound (ro := ro) he hgl hh hst.sim hst.tm hg ha with ⟨h1, h2, h3⟩ | ⟨h1, v, H', μ', h2, h3, h4, h5⟩
 ·rw [if_pos h1]
  refine ⟨fun _ _ => trivial, ?_⟩
  rw [Oper.semAt_eq _ _ _ h2]
  exact upon_ran h3 fun v x w' μ' H' k1 k2 k3 k4 => hn v x w' μ' H' k1 k3 (hst.put k2 k3 k4 o.dst)
 ·rw [if_neg (by simp [h1])]
  exact ⟨fun _ _ => trivial, hn v undef w μ' H' h2 h4 (hst.put h3 h4 h5 o.dst)⟩
theorem ops_sound (he : EnvOK P E) (hgl : GlobOK E.glob w0) {h : Handler} (hh : HandlerOK P w0 h) {path : List Nat} {s : Nat} {ops : Array Oper} {ro : Option Nat} {Q : List PV → Heap → Prop} {Q' : Exit → Act → World → Prop} :
    ∀ (rest : List Oper) (i : Nat) (τ : List PV) (H : Heap) (μ : Map) (w : World) (a : Act), (∀ j, rest[j]? = ops[i + j]?) → evOps E h path s ops rest i Q τ H → St B w0 μ H w τ a →
      (∀ a' w', Ls B w0 μ H w Q a' w' → Q' .normal a' w') → wpOpsIn (Fr ro) 0 P ops Q' (List.range' i rest.length) a w
 | [], i, τ, H, μ, w, a, _, hev, hst, hQ => hQ a w ⟨τ, μ, H, hev, hst, Evo.refl _ _ _⟩
 | o :: rest, i, τ, H, μ, w, a, hl, hev, hst, hQ => by
  obtain ⟨hg, ha⟩ := evOps_cons.1 hev
  have h0 : ops[i]? = some o := by simpa using (hl 0).symm
  simp only [List.length_cons, List.range'_succ, wpOpsIn, h0]
  exact op_sound he hgl hh hst hg ha fun v x w' μ' H' k1 k2 k3 =>
   ops_sound he hgl hh rest (i + 1) _ H' μ' w' _ (fun j => by have := hl (j + 1); simpa [Nat.add_assoc, Nat.add_comm 1 j] using this) k1 k3 fun a'' w'' k => hQ _ _ (k.trans k2)
end
def Prg.out {α : Type} : Prg α → Heap → List Key → List Key → α × Heap × List Key × List Key
 | .ret a, H, R, W => (a, H, R, W)
 | .get K k, H, R, W => (k (H K)).out H (K :: R) W
 | .alc K mk k, H, R, W => (k (verOf H K + 1)).out (H.set K (mk (verOf H K + 1))) R (K :: W)
 | .put K b k, H, R, W => k.out (H.set K b) R (K :: W)
 | .ro K k, H, R, W => k.out (H.marked K) R (K :: W)
 | .chk _ k, H, R, W => k.out H R W
def Prg.safe {α : Type} (q : Prop) : Prg α → Heap → Prop
 | .ret _, _ => True
 | .get K k, H => (k (H K)).safe q H
 | .alc K mk k, H => (∀ v, (mk v).ver = v) ∧ (k (verOf H K + 1)).safe q (H.set K (mk (verOf H K + 1)))
 | .put K b k, H => q ∧ k.safe q (H.set K b)
 | .ro K k, H => k.safe q (H.marked K)
 | .chk p k, H => (q → p) ∧ k.safe q H
theorem wpF_iff {α : Type} {q : Prop} {Q : α → Heap → List Key → List Key → Prop} : ∀ (m : Prg α) (H : Heap) (R W : List Key),
    m.wpF q Q H R W ↔ m.safe q H ∧ Q (m.out H R W).1 (m.out H R W).2.1 (m.out H R W).2.2.1 (m.out H R W).2.2.2
 | .ret a, H, R, W => by simp [Prg.wpF, Prg.safe, Prg.out]
 | .get K k, H, R, W => wpF_iff (k (H K)) H (K :: R) W
 | .alc K mk k, H, R, W => by
  simp only [Prg.wpF, Prg.safe, Prg.out, wpF_iff (k (verOf H K + 1)), and_assoc]
 | .put K b k, H, R, W => by simp only [Prg.wpF, Prg.safe, Prg.out, wpF_iff k, and_assoc]
 | .ro K k, H, R, W => by
  have := wpF_iff (q := q) (Q := Q) k (H.marked K) R (K :: W)
  exact this
 | .chk p k, H, R, W => by simp only [Prg.wpF, Prg.safe, Prg.out, wpF_iff k, and_assoc]
theorem wp_iff {α : Type} {q : Prop} {Q : α → Heap → Prop} : ∀ (m : Prg α) (H : Heap) (R W : List Key), m.wp q Q H ↔ m.safe q H ∧ Q (m.out H R W).1 (m.out H R W).2.1
 | .ret a, H, R, W => by simp [Prg.wp, Prg.safe, Prg.out]
 | .get K k, H, R, W => wp_iff (k (H K)) H (K :: R) W
 | .alc K mk k, H, R, W => by
  simp only [Prg.wp, Prg.safe, Prg.out, wp_iff (k (verOf H K + 1)) _ R (K :: W), and_assoc]
 | .put K b k, H, R, W => by simp only [Prg.wp, Prg.safe, Prg.out, wp_iff k _ R (K :: W), and_assoc]
 | .ro K k, H, R, W => by
  have := wp_iff (q := q) (Q := Q) k (H.marked K) R (K :: W)
  exact this
 | .chk p k, H, R, W => by simp only [Prg.wp, Prg.safe, Prg.out, wp_iff k _ R W, and_assoc]
theorem out_sub {α : Type} : ∀ (m : Prg α) (H : Heap) (R W : List Key), (∀ K ∈ R, K ∈ (m.out H R W).2.2.1) ∧ (∀ K ∈ W, K ∈ (m.out H R W).2.2.2)
 | .ret a, H, R, W => ⟨fun _ h => h, fun _ h => h⟩
 | .get K k, H, R, W => ⟨fun K' h => (out_sub (k (H K)) H (K :: R) W).1 K' (List.mem_cons_of_mem _ h), (out_sub (k (H K)) H (K :: R) W).2⟩
 | .alc K mk k, H, R, W => ⟨(out_sub (k _) _ R (K :: W)).1, fun K' h => (out_sub (k _) _ R (K :: W)).2 K' (List.mem_cons_of_mem _ h)⟩
 | .put K b k, H, R, W => ⟨(out_sub k _ R (K :: W)).1, fun K' h => (out_sub k _ R (K :: W)).2 K' (List.mem_cons_of_mem _ h)⟩
 | .ro K k, H, R, W => ⟨(out_sub k _ R (K :: W)).1, fun K' h => (out_sub k _ R (K :: W)).2 K' (List.mem_cons_of_mem _ h)⟩
 | .chk _ k, H, R, W => out_sub k H R W
structure Local {α : Type} (m : Prg α) (q : Prop) (H H' : Heap) (R W : List Key) : Prop where
 val : (m.out H' R W).1 = (m.out H R W).1
 rd : (m.out H' R W).2.2.1 = (m.out H R W).2.2.1
 wr : (m.out H' R W).2.2.2 = (m.out H R W).2.2.2
 same : ∀ K, K ∈ (m.out H R W).2.2.1 ∨ K ∈ (m.out H R W).2.2.2 → (m.out H' R W).2.1 K = (m.out H R W).2.1 K
 off : ∀ K, K ∉ (m.out H R W).2.2.2 → (m.out H' R W).2.1 K = H' K
 ok : m.safe q H → m.safe q H'
theorem set_same {H H' : Heap} {K : Key} {b : PB} {p : Key → Prop} (h : ∀ K', p K' → H' K' = H K') : ∀ K', p K' → H'.set K b K' = H.set K b K' := fun K' hp => by
 simp only [set_at]
 split
 ·rfl
 ·exact h K' hp
theorem marked_same {H H' : Heap} {K : Key} {p : Key → Prop} (hK : p K) (h : ∀ K', p K' → H' K' = H K') : ∀ K', p K' → H'.marked K K' = H.marked K K' := fun K' hp => by
 simp only [marked_at, h K hK]
 split
 ·rfl
 ·exact h K' hp
theorem local_out {α : Type} {q : Prop} : ∀ (m : Prg α) (H H' : Heap) (R W : List Key), (∀ K, K ∈ (m.out H R W).2.2.1 ∨ K ∈ (m.out H R W).2.2.2 → H' K = H K) → Local m q H H' R W
 | .ret a, H, H', R, W, h => ⟨rfl, rfl, rfl, h, fun _ _ => rfl, fun _ => trivial⟩
 | .get K k, H, H', R, W, h => by
  have e : H' K = H K := h K (.inl ((out_sub (k (H K)) H (K :: R) W).1 K (List.mem_cons_self ..)))
  have ih := local_out (q := q) (k (H K)) H H' (K :: R) W h
  refine ⟨?_, ?_, ?_, ?_, ?_, ?_⟩ <;> simp only [Prg.out, Prg.safe, e]
  ·exact ih.val
  ·exact ih.rd
  ·exact ih.wr
  ·exact ih.same
  ·exact ih.off
  ·exact ih.ok
 | .alc K mk k, H, H', R, W, h => by
  have hK : K ∈ (Prg.out (.alc K mk k) H R W).2.2.2 := (out_sub (k _) _ R (K :: W)).2 K (List.mem_cons_self ..)
  have e : H' K = H K := h K (.inr hK)
  have ev : verOf H' K = verOf H K := by simp only [verOf, e]
  have ih := local_out (q := q) (k (verOf H K + 1)) (H.set K (mk (verOf H K + 1))) (H'.set K (mk (verOf H K + 1))) R (K :: W) (set_same h)
  refine ⟨?_, ?_, ?_, ?_, ?_, ?_⟩ <;> simp only [Prg.out, Prg.safe, ev]
  ·exact ih.val
  ·exact ih.rd
  ·exact ih.wr
  ·exact ih.same
  ·intro K' hK'
   rw [ih.off K' hK', set_at, if_neg]
   rintro rfl; exact hK' hK
  ·exact fun h => ⟨h.1, ih.ok h.2⟩
 | .put K b k, H, H', R, W, h => by
  have hK : K ∈ (Prg.out (.put K b k) H R W).2.2.2 := (out_sub k _ R (K :: W)).2 K (List.mem_cons_self ..)
  have ih := local_out (q := q) k (H.set K b) (H'.set K b) R (K :: W) (set_same h)
  refine ⟨ih.val, ih.rd, ih.wr, ih.same, fun K' hK' => ?_, fun h => ⟨h.1, ih.ok h.2⟩⟩
  exact (ih.off K' hK').trans (by rw [set_at, if_neg]; rintro rfl; exact hK' hK)
 | .ro K k, H, H', R, W, h => by
  have hK : K ∈ (Prg.out (.ro K k) H R W).2.2.2 := (out_sub k _ R (K :: W)).2 K (List.mem_cons_self ..)
  have ih := local_out (q := q) k (H.marked K) (H'.marked K) R (K :: W) (marked_same (.inr hK) h)
  refine ⟨ih.val, ih.rd, ih.wr, ih.same, fun K' hK' => ?_, ih.ok⟩
  exact (ih.off K' hK').trans (by rw [marked_at, if_neg]; rintro rfl; exact hK' hK)
 | .chk p k, H, H', R, W, h => by
  have ih := local_out (q := q) k H H' R W h
  exact ⟨ih.val, ih.rd, ih.wr, ih.same, ih.off, fun h => ⟨h.1, ih.ok h.2⟩⟩
section
variable (E : Env) (path : List Nat) (s : Nat) (ops : Array Oper)
def gq (o : Oper) (τ : List PV) : Prop := (gcond ops τ o.guard).getD True
def good (o : Oper) (i : Nat) (τ : List PV) (H : Heap) : Prop := gok ops τ o.guard = true ∧ (stepOf E (path, s + i) τ o.op).safe (gq ops o τ) H
def tag (g : Option Prop) (v : PV) : PV := match g with | none => v | some q => .tnt q v
def rv (o : Oper) (i : Nat) (τ : List PV) (H : Heap) : PV := tag (gcond ops τ o.guard) ((stepOf E (path, s + i) τ o.op).out H [] []).1
def rH (o : Oper) (i : Nat) (τ : List PV) (H : Heap) : Heap := ((stepOf E (path, s + i) τ o.op).out H [] []).2.1
def rR (o : Oper) (i : Nat) (τ : List PV) (H : Heap) : List Key := ((stepOf E (path, s + i) τ o.op).out H [] []).2.2.1
def rW (o : Oper) (i : Nat) (τ : List PV) (H : Heap) : List Key := ((stepOf E (path, s + i) τ o.op).out H [] []).2.2.2
end
section
variable {E : Env} {path : List Nat} {s : Nat} {ops : Array Oper}
theorem lightF_iff {m : Prg PV} {g : Option Prop} {K : PV → Heap → List Key → List Key → Prop} {H : Heap} :
    lightF m g K H ↔ m.safe (g.getD True) H ∧ K (tag g (m.out H [] []).1) (m.out H [] []).2.1 (m.out H [] []).2.2.1 (m.out H [] []).2.2.2 := by
 cases g <;> exact wpF_iff _ _ _ _
def stp (E : Env) (path : List Nat) (s : Nat) (ops : Array Oper) (o : Oper) (i : Nat) (fps : List FP) (τ : List PV) (H : Heap) (C : PV → Heap → FP → Prop) : Prop :=
 match effOf E ((s + i) :: path) τ o.op with
 | some e => o.guard = none ∧ e.pre H ∧ (∃ (v : PV) (H' : Heap), (∀ K, ¬ e.S K → H' K = H K) ∧ e.post H v H') ∧ compatE ops o fps e.D e.S ∧ ∀ v H', (∀ K, ¬ e.S K → H' K = H K) → e.post H v H' → C v H' (.eff i e.D e.S)
 | none => good E path s ops o i τ H ∧ compat ops o fps (rR E path s o i τ H) (rW E path s o i τ H) ∧ C (rv E path s ops o i τ H) (rH E path s o i τ H) (.det i (rR E path s o i τ H) (rW E path s o i τ H))
def EffSat (E : Env) : Prop := ∀ n s, E.eff n = some s → ∀ path args e, s path args = some e → EffDep e
theorem effOf_dep (hE : EffSat E) {p : List Nat} {τ : List PV} {o : Op} {e : Eff} (h : effOf E p τ o = some e) : EffDep e := by
 unfold effOf at h
 split at h
 ·unfold effV at h
  split at h
  ·unfold effN at h
   split at h
   ·rename_i s hs1 hs2
    simp only [Option.map_eq_some_iff] at h
    obtain ⟨e0, h1, rfl⟩ := h
    have d := hE _ _ (by assumption) _ _ _ h1
    exact ⟨fun H H' hD hp => ⟨hp.1, d.preD H H' hD hp.2⟩, d.postD, d.postS, fun H hp => d.sat H hp.2⟩
   ·cases h
  ·cases h
 ·cases h
theorem evDraw_stp (hE : EffSat E) {o : Oper} {rest : List Oper} {i : Nat} {fps : List FP} {Q : List PV → Heap → Prop} {τ : List PV} {H : Heap} (h : evDraw E path s ops (o :: rest) i fps Q τ H) :
    stp E path s ops o i fps τ H fun v H' f => evDraw E path s ops rest (i + 1) (f :: fps) Q (putT τ o.dst v) H' := by
 rw [evDraw] at h
 unfold stp
 cases he : effOf E ((s + i) :: path) τ o.op with
 | some e =>
  rw [he] at h
  obtain ⟨h1, h2, h3, h4⟩ := h
  exact ⟨h1, h2, (effOf_dep hE he).sat H h2, h3, h4⟩
 | none =>
  rw [he] at h
  simp only [lightF_iff] at h
  exact ⟨⟨h.1, h.2.1⟩, h.2.2.1, h.2.2.2⟩
theorem stp_mono {o : Oper} {i : Nat} {fps : List FP} {τ : List PV} {H : Heap} {C C' : PV → Heap → FP → Prop} (h : stp E path s ops o i fps τ H C) (hc : ∀ v H f, C v H f → C' v H f) : stp E path s ops o i fps τ H C' := by
 unfold stp at h ⊢
 split
 ·rename_i e he
  rw [he] at h
  exact ⟨h.1, h.2.1, h.2.2.1, h.2.2.2.1, fun v H' h1 h2 => hc _ _ _ (h.2.2.2.2 v H' h1 h2)⟩
 ·rename_i he
  rw [he] at h
  exact ⟨h.1, h.2.1, hc _ _ _ h.2.2⟩
theorem stp_sat {o : Oper} {i : Nat} {fps : List FP} {τ : List PV} {H : Heap} {C : PV → Heap → FP → Prop} (h : stp E path s ops o i fps τ H C) : ∃ v H' f, C v H' f := by
 unfold stp at h
 split at h
 ·obtain ⟨v, H', h1, h2⟩ := h.2.2.1
  exact ⟨v, H', _, h.2.2.2.2 v H' h1 h2⟩
 ·exact ⟨_, _, _, h.2.2⟩
theorem opd_put {τ : List PV} {dst : Option Nat} {v : PV} {x : Operand} (h : ∀ d, dst = some d → x ≠ .tmp d) : opd (putT τ dst v) x = opd τ x := by
 cases dst with
 | none => rfl
 | some d =>
  cases x with
  | tmp t =>
   have hne : d ≠ t := fun e => h d rfl (by rw [e])
   simp [opd, putT, List.getD_eq_getElem?_getD, List.getElem?_set_ne hne]
  | _ => rfl
theorem lop_congr {K : Key} {τ τ' : List PV} {op : Op} (h : ∀ x ∈ op.operands, opd τ x = opd τ' x) : lop E K τ op = lop E K τ' op := by
 have pairs : ∀ ps : Array (Nat × Operand), (∀ x ∈ ps.toList.map (·.2), opd τ x = opd τ' x) → (ps.toList.map fun p => (p.1, opd τ p.2)) = ps.toList.map fun p => (p.1, opd τ' p.2) := fun ps hp =>
  List.map_congr_left fun p hm => by rw [hp p.2 (List.mem_map.2 ⟨p, hm, rfl⟩)]
 have maps : ∀ xs : List Operand, (∀ x ∈ xs, opd τ x = opd τ' x) → xs.map (opd τ) = xs.map (opd τ') := fun xs h => List.map_congr_left h
 cases op <;> simp only [Op.operands] at h <;> simp only [lop]
 case build t ps => rw [pairs ps fun x hx => h x (by simpa using hx)]
 case buildSlice t n ps => rw [pairs ps fun x hx => h x (by simpa using hx)]
 case makeFunc fn first cap =>
  rw [maps first.toList fun x hx => h x (by simp at hx; simp [hx]), maps cap.toList fun x hx => h x (by simp at hx; simp [hx])]
 case slice t x lo hi mx =>
  have e : ∀ o : Option Operand, (∀ y, o = some y → opd τ y = opd τ' y) → (o.map fun o => clean (opd τ o)) = o.map fun o => clean (opd τ' o) := fun o ho => by
   cases o with
   | none => rfl
   | some y => simp [ho y rfl]
  rw [h x (by simp), maps (lo.toList ++ hi.toList ++ mx.toList) (fun y hy => h y (by
      simp only [List.mem_append, Option.mem_toList, Option.mem_def] at hy
      rcases hy with (hy | hy) | hy <;> subst hy <;> simp)), e lo (fun y hy => h y (by subst hy; simp)), e hi (fun y hy => h y (by subst hy; simp)), e mx (fun y hy => h y (by subst hy; simp))]
 case call c =>
  obtain ⟨callee, args, ats⟩ := c
  cases callee with
  | builtin b => simp only [Call.operands] at h; simp only; rw [maps args.toList fun x hx => h x (by simpa using hx)]
  | _ => rfl
 all_goals (first | rfl | (simp_all; done))
theorem stepOf_congr {K : Key} {τ τ' : List PV} {op : Op} (h : ∀ x ∈ op.operands, opd τ x = opd τ' x) : stepOf E K τ op = stepOf E K τ' op := by
 unfold stepOf
 split
 ·rename_i f as ats
  simp only [Op.operands, Call.operands] at h
  rw [h f (by simp), List.map_congr_left (l := as.toList) fun x hx => h x (by simp at hx; simp [hx])]
 ·exact lop_congr h
theorem effOf_congr {p : List Nat} {τ τ' : List PV} {op : Op} (h : ∀ x ∈ op.operands, opd τ x = opd τ' x) : effOf E p τ op = effOf E p τ' op := by
 unfold effOf
 split
 ·rename_i f as ats
  simp only [Op.operands, Call.operands] at h
  rw [h f (by simp), List.map_congr_left (l := as.toList) fun x hx => h x (by simp at hx; simp [hx])]
 ·rfl
theorem effOf_put {p : List Nat} {o : Oper} {τ : List PV} {dst : Option Nat} {v : PV} (h : ∀ d, dst = some d → d ∉ o.looksAt ops) : effOf E p (putT τ dst v) o.op = effOf E p τ o.op :=
 effOf_congr fun x hx => opd_put fun d hd hxd => h d hd (by
  subst hxd
  exact List.mem_append_left _ (List.mem_filterMap.2 ⟨.tmp d, by simpa using hx, rfl⟩))
theorem stepOf_put {K : Key} {o : Oper} {τ : List PV} {dst : Option Nat} {v : PV} (h : ∀ d, dst = some d → d ∉ o.looksAt ops) : stepOf E K (putT τ dst v) o.op = stepOf E K τ o.op :=
 stepOf_congr fun x hx => opd_put fun d hd hxd => h d hd (by
  subst hxd
  exact List.mem_append_left _ (List.mem_filterMap.2 ⟨.tmp d, by simpa using hx, rfl⟩))
theorem gtmp_put {o : Oper} {τ : List PV} {dst : Option Nat} {v : PV} (h : ∀ d, dst = some d → d ∉ o.looksAt ops) {j : Nat} {want : Bool} (hg : o.guard = some (j, want)) : gtmp ops (putT τ dst v) j = gtmp ops τ j := by
 unfold gtmp
 rw [dstAt_eq, Array.getElem?_toList]
 cases ht : (ops[j]?).bind (·.dst) with
 | none => rfl
 | some t =>
  cases dst with
  | none => rfl
  | some d =>
   have hne : d ≠ t := fun e => h d rfl (by subst e; simp [Oper.looksAt, hg, ht])
   simp [putT, List.getD_eq_getElem?_getD, List.getElem?_set_ne hne]
theorem guard_put {o : Oper} {τ : List PV} {dst : Option Nat} {v : PV} (h : ∀ d, dst = some d → d ∉ o.looksAt ops) :
    gok ops (putT τ dst v) o.guard = gok ops τ o.guard ∧ gcond ops (putT τ dst v) o.guard = gcond ops τ o.guard := by
 cases hg : o.guard with
 | none => exact ⟨rfl, rfl⟩
 | some jw => obtain ⟨j, want⟩ := jw; simp only [gok, gcond, gtmp_put h hg, and_self]
theorem putT_comm {τ : List PV} {x y : Option Nat} {v u : PV} (h : ∀ d, x = some d → y ≠ some d) : putT (putT τ x v) y u = putT (putT τ y u) x v := by
 cases x with
 | none => rfl
 | some d =>
  cases y with
  | none => rfl
  | some e => exact List.set_comm _ _ fun he => h d rfl (by rw [he])
end
section
variable {E : Env} {path : List Nat} {s : Nat} {ops : Array Oper}
theorem disj_iff {L M : List Key} : disj L M ↔ ∀ K ∈ L, K ∉ M := by
 induction L with
 | nil => simp [disj]
 | cons K L ih => simp [disj, ih]
theorem disj_symm {L M : List Key} (h : disj L M) : disj M L := disj_iff.2 fun K hM hL => disj_iff.1 h K hL hM
theorem disjP_iff {L : List Key} {S : Key → Prop} : disjP L S ↔ ∀ K ∈ L, ¬ S K := by
 induction L with
 | nil => simp [disjP]
 | cons K L ih => simp [disjP, ih]
def okF (ops : Array Oper) (o : Oper) (p : FP) (R W : List Key) : Prop :=
 match p with
 | .det i R' W' => (disj W R' ∧ disj W W' ∧ disj R W') ∨ (waitsFor o i || waits2 ops o i) = true
 | .eff i D S => (disjP W D ∧ disjP W S ∧ disjP R S) ∨ (waitsFor o i || waits2 ops o i) = true
def okE (ops : Array Oper) (o : Oper) (p : FP) (D S : Key → Prop) : Prop :=
 match p with
 | .det i R' W' => (disjP W' D ∧ disjP W' S ∧ disjP R' S) ∨ (waitsFor o i || waits2 ops o i) = true
 | .eff i _ _ => (waitsFor o i || waits2 ops o i) = true
theorem compat_iff {o : Oper} {R W : List Key} : ∀ {fps : List FP}, compat ops o fps R W ↔ ∀ p ∈ fps, okF ops o p R W
 | [] => by simp [compat]
 | .det i R' W' :: ps => by simp [compat, compat_iff (fps := ps), okF]
 | .eff i D S :: ps => by simp [compat, compat_iff (fps := ps), okF]
theorem compatE_iff {o : Oper} {D S : Key → Prop} : ∀ {fps : List FP}, compatE ops o fps D S ↔ ∀ p ∈ fps, okE ops o p D S
 | [] => by simp [compatE]
 | .det i R' W' :: ps => by simp [compatE, compatE_iff (fps := ps), okE]
 | .eff i D S :: ps => by simp [compatE, compatE_iff (fps := ps), okE]
theorem stp_perm {o : Oper} {i : Nat} {fps fps' : List FP} {τ : List PV} {H : Heap} {C C' : PV → Heap → FP → Prop} (hp : ∀ p, p ∈ fps' → p ∈ fps) (h : stp E path s ops o i fps τ H C) (hc : ∀ v H f, C v H f → C' v H f) : stp E path s ops o i fps' τ H C' := by
 unfold stp at h ⊢
 split
 ·rename_i e he
  rw [he] at h
  exact ⟨h.1, h.2.1, h.2.2.1, compatE_iff.2 fun p hp' => compatE_iff.1 h.2.2.2.1 p (hp p hp'), fun v H' h1 h2 => hc _ _ _ (h.2.2.2.2 v H' h1 h2)⟩
 ·rename_i he
  rw [he] at h
  exact ⟨h.1, compat_iff.2 fun p hp' => compat_iff.1 h.2.1 p (hp p hp'), hc _ _ _ h.2.2⟩
def anyI (E : Env) (path : List Nat) (s : Nat) (ops : Array Oper) (Q : List PV → Heap → Prop) : Nat → Array Bool → List FP → List PV → Heap → Prop
 | 0, listed, _, τ, H => Region.ready .any ops listed = [] ∧ Q τ H
 | fuel + 1, listed, fps, τ, H => (Region.ready .any ops listed = [] → Q τ H) ∧
  ∀ i ∈ Region.ready .any ops listed, ∀ o, ops[i]? = some o → stp E path s ops o i fps τ H fun v H' f =>
   anyI E path s ops Q fuel (listed.setIfInBounds i true) (f :: fps) (putT τ o.dst v) H'
theorem anyI_perm {Q : List PV → Heap → Prop} : ∀ (fuel : Nat) {listed : Array Bool} {fps fps' : List FP} {τ : List PV} {H : Heap}, (∀ p, p ∈ fps' → p ∈ fps) → anyI E path s ops Q fuel listed fps τ H → anyI E path s ops Q fuel listed fps' τ H
 | 0, _, _, _, _, _, _, h => h
 | fuel + 1, _, _, _, _, _, hp, h => ⟨h.1, fun i hi o ho => stp_perm hp (h.2 i hi o ho) fun v H' f hC => anyI_perm fuel (fun p hp' => by
  rcases List.mem_cons.1 hp' with e | e
  ·rw [e]; exact List.mem_cons_self ..
  ·exact List.mem_cons_of_mem _ (hp p e)) hC⟩
theorem swap {oi oj : Oper} {i j : Nat} {τ : List PV} {H : Heap} (hap : oi.apart ops oj = true) (gi : good E path s ops oi i τ H)
    (gj : good E path s ops oj j (putT τ oi.dst (rv E path s ops oi i τ H)) (rH E path s oi i τ H))
    (h1 : disj (rW E path s oj j (putT τ oi.dst (rv E path s ops oi i τ H)) (rH E path s oi i τ H)) (rR E path s oi i τ H))
    (h2 : disj (rW E path s oj j (putT τ oi.dst (rv E path s ops oi i τ H)) (rH E path s oi i τ H)) (rW E path s oi i τ H))
    (h3 : disj (rR E path s oj j (putT τ oi.dst (rv E path s ops oi i τ H)) (rH E path s oi i τ H)) (rW E path s oi i τ H)) :
    good E path s ops oj j τ H ∧ rR E path s oj j τ H = rR E path s oj j (putT τ oi.dst (rv E path s ops oi i τ H)) (rH E path s oi i τ H) ∧
    rW E path s oj j τ H = rW E path s oj j (putT τ oi.dst (rv E path s ops oi i τ H)) (rH E path s oi i τ H) ∧
    good E path s ops oi i (putT τ oj.dst (rv E path s ops oj j τ H)) (rH E path s oj j τ H) ∧
    rR E path s oi i (putT τ oj.dst (rv E path s ops oj j τ H)) (rH E path s oj j τ H) = rR E path s oi i τ H ∧
    rW E path s oi i (putT τ oj.dst (rv E path s ops oj j τ H)) (rH E path s oj j τ H) = rW E path s oi i τ H ∧
    rH E path s oi i (putT τ oj.dst (rv E path s ops oj j τ H)) (rH E path s oj j τ H) = rH E path s oj j (putT τ oi.dst (rv E path s ops oi i τ H)) (rH E path s oi i τ H) ∧
    rv E path s ops oj j τ H = rv E path s ops oj j (putT τ oi.dst (rv E path s ops oi i τ H)) (rH E path s oi i τ H) ∧
    rv E path s ops oi i (putT τ oj.dst (rv E path s ops oj j τ H)) (rH E path s oj j τ H) = rv E path s ops oi i τ H := by
 obtain ⟨a1, a2, a3⟩ := Oper.apart_spec hap
 have ej : ∀ v, stepOf E (path, s + j) (putT τ oi.dst v) oj.op = stepOf E (path, s + j) τ oj.op := fun v => stepOf_put (ops := ops) a1
 have ei : ∀ v, stepOf E (path, s + i) (putT τ oj.dst v) oi.op = stepOf E (path, s + i) τ oi.op := fun v => stepOf_put (ops := ops) a3
 have gcj : ∀ v, gok ops (putT τ oi.dst v) oj.guard = gok ops τ oj.guard ∧ gcond ops (putT τ oi.dst v) oj.guard = gcond ops τ oj.guard := fun v => guard_put a1
 have gci : ∀ v, gok ops (putT τ oj.dst v) oi.guard = gok ops τ oi.guard ∧ gcond ops (putT τ oj.dst v) oi.guard = gcond ops τ oi.guard := fun v => guard_put a3
 have offi : ∀ K, K ∉ rW E path s oi i τ H → rH E path s oi i τ H K = H K := (local_out (q := True) (stepOf E (path, s + i) τ oi.op) H H [] [] fun _ _ => rfl).off
 simp only [rR, rW, rH, rv, good, gq, ej, (gcj _).1, (gcj _).2] at *
 have Lj := local_out (q := (gcond ops τ oj.guard).getD True) (stepOf E (path, s + j) τ oj.op) ((stepOf E (path, s + i) τ oi.op).out H [] []).2.1 H [] [] (fun K hK => by
  rw [offi K]
  rcases hK with hK | hK
  ·exact disj_iff.1 h3 K hK
  ·exact disj_iff.1 h2 K hK)
 rw [Lj.val, Lj.rd, Lj.wr]
 simp only [ei, (gci _).1, (gci _).2]
 have offj : ∀ K, K ∉ ((stepOf E (path, s + j) τ oj.op).out ((stepOf E (path, s + i) τ oi.op).out H [] []).2.1 [] []).2.2.2 → ((stepOf E (path, s + j) τ oj.op).out H [] []).2.1 K = H K := Lj.off
 have Li := local_out (q := (gcond ops τ oi.guard).getD True) (stepOf E (path, s + i) τ oi.op) H ((stepOf E (path, s + j) τ oj.op).out H [] []).2.1 [] [] (fun K hK => by
  refine offj K fun hj => ?_
  rcases hK with hK | hK
  ·exact disj_iff.1 h1 K hj hK
  ·exact disj_iff.1 h2 K hj hK)
 have offij : ∀ K, K ∉ ((stepOf E (path, s + j) τ oj.op).out ((stepOf E (path, s + i) τ oi.op).out H [] []).2.1 [] []).2.2.2 →
     ((stepOf E (path, s + j) τ oj.op).out ((stepOf E (path, s + i) τ oi.op).out H [] []).2.1 [] []).2.1 K = ((stepOf E (path, s + i) τ oi.op).out H [] []).2.1 K :=
  (local_out (q := True) (stepOf E (path, s + j) τ oj.op) ((stepOf E (path, s + i) τ oi.op).out H [] []).2.1 ((stepOf E (path, s + i) τ oi.op).out H [] []).2.1 [] [] fun _ _ => rfl).off
 rw [Li.val, Li.rd, Li.wr]
 refine ⟨⟨gj.1, Lj.ok gj.2⟩, (by trivial), (by trivial), ⟨gi.1, Li.ok gi.2⟩, (by trivial), (by trivial), ?_, (by trivial), (by trivial)⟩
 funext K
 by_cases hi : K ∈ ((stepOf E (path, s + i) τ oi.op).out H [] []).2.2.2
 ·have hj : K ∉ ((stepOf E (path, s + j) τ oj.op).out ((stepOf E (path, s + i) τ oi.op).out H [] []).2.1 [] []).2.2.2 := fun h => disj_iff.1 h2 K h hi
  rw [Li.same K (.inr hi), offij K hj]
 ·rw [Li.off K hi]
  by_cases hj : K ∈ ((stepOf E (path, s + j) τ oj.op).out ((stepOf E (path, s + i) τ oi.op).out H [] []).2.1 [] []).2.2.2
  ·exact Lj.same K (.inr hj)
  ·rw [offj K hj, offij K hj, offi K hi]
theorem waitsFor_no {o : Oper} {i : Nat} (h : ∀ e ∈ o.after, Region.binds .any e = true → e.on ≠ i) : waitsFor o i = false := by
 unfold waitsFor
 rw [Bool.eq_false_iff]
 intro h'
 simp only [List.any_eq_true, Bool.and_eq_true, beq_iff_eq] at h'
 obtain ⟨e, he, h1, h2⟩ := h'
 exact h e (by simpa using he) h1 h2
def Closed (ops : Array Oper) (listed : Array Bool) : Prop := ∀ k ok, ops[k]? = some ok → listed.getD k false = true → ∀ e ∈ ok.after, Region.binds .any e = true → listed.getD e.on false = true
theorem waits2_no {o : Oper} {i : Nat} {listed : Array Bool} (hc : Closed ops listed) (hall : ∀ e ∈ o.after, Region.binds .any e = true → listed.getD e.on false = true) (hi : listed.getD i false ≠ true) : waits2 ops o i = false := by
 unfold waits2
 rw [Bool.eq_false_iff]
 intro h'
 simp only [List.any_eq_true, Bool.and_eq_true] at h'
 obtain ⟨e, he, h1, h2⟩ := h'
 cases ho : ops[e.on]? with
 | none => rw [ho] at h2; cases h2
 | some o' =>
  rw [ho] at h2
  simp only [waitsFor, List.any_eq_true, Bool.and_eq_true, beq_iff_eq] at h2
  obtain ⟨e', he', h3, h4⟩ := h2
  exact hi (h4 ▸ hc e.on o' ho (hall e (by simpa using he) h1) e' (by simpa using he') h3)
theorem Closed.set {listed : Array Bool} (hc : Closed ops listed) {j : Nat} {oj : Oper} (hoj : ops[j]? = some oj) (hall : ∀ e ∈ oj.after, Region.binds .any e = true → listed.getD e.on false = true) : Closed ops (listed.setIfInBounds j true) := by
 have up : ∀ k, listed.getD k false = true → (listed.setIfInBounds j true).getD k false = true := fun k hk => by
  by_cases e : j = k
  ·subst e
   have hlt : j < listed.size := by
    rcases Nat.lt_or_ge j listed.size with h | h
    ·exact h
    ·simp [Array.getElem?_eq_none h] at hk
   simp [hlt]
  ·rw [getD_set_ne false e]; exact hk
 intro k ok hok hk e he hb
 by_cases e' : j = k
 ·subst e'
  rw [hoj] at hok; cases hok
  exact up _ (hall e he hb)
 ·rw [getD_set_ne false e'] at hk
  exact up _ (hc k ok hok hk e he hb)
theorem stp_swap (hE : EffSat E) {oi oj : Oper} {i j : Nat} {fps : List FP} {τ : List PV} {H : Heap} (hap : oi.apart ops oj = true) (hno : (waitsFor oj i || waits2 ops oj i) = false) {K : PV → PV → Heap → FP → FP → Prop}
    (h : stp E path s ops oi i fps τ H fun v H1 f => stp E path s ops oj j (f :: fps) (putT τ oi.dst v) H1 fun u H2 g => K v u H2 f g) :
    stp E path s ops oj j fps τ H fun u H1 g => stp E path s ops oi i (g :: fps) (putT τ oj.dst u) H1 fun v H2 f => K v u H2 f g := by
 obtain ⟨a1, a2, a3⟩ := Oper.apart_spec hap
 have xj : ∀ v, effOf E ((s + j) :: path) (putT τ oi.dst v) oj.op = effOf E ((s + j) :: path) τ oj.op := fun v => effOf_put (ops := ops) a1
 have xi : ∀ v, effOf E ((s + i) :: path) (putT τ oj.dst v) oi.op = effOf E ((s + i) :: path) τ oi.op := fun v => effOf_put (ops := ops) a3
 have ej : ∀ v, stepOf E (path, s + j) (putT τ oi.dst v) oj.op = stepOf E (path, s + j) τ oj.op := fun v => stepOf_put (ops := ops) a1
 have ei : ∀ v, stepOf E (path, s + i) (putT τ oj.dst v) oi.op = stepOf E (path, s + i) τ oi.op := fun v => stepOf_put (ops := ops) a3
 have gcj : ∀ v, gok ops (putT τ oi.dst v) oj.guard = gok ops τ oj.guard ∧ gcond ops (putT τ oi.dst v) oj.guard = gcond ops τ oj.guard := fun v => guard_put a1
 have gci : ∀ v, gok ops (putT τ oj.dst v) oi.guard = gok ops τ oi.guard ∧ gcond ops (putT τ oj.dst v) oi.guard = gcond ops τ oi.guard := fun v => guard_put a3
 unfold stp at h ⊢
 simp only [xj, xi] at h ⊢
 cases hei : effOf E ((s + i) :: path) τ oi.op with
 | none =>
  cases hej : effOf E ((s + j) :: path) τ oj.op with
  | none =>
   simp only [hei, hej] at h ⊢
   obtain ⟨gi, ci, gj, cj, hK⟩ := h
   have hd := (compat_iff.1 cj _ (List.mem_cons_self ..)).resolve_right (by rw [hno]; simp)
   obtain ⟨s1, s2, s3, s4, s5, s6, s7, s8, s9⟩ := swap hap gi gj hd.1 hd.2.1 hd.2.2
   refine ⟨s1, ?_, s4, ?_, ?_⟩
   ·rw [s2, s3]; exact compat_iff.2 fun p hp => compat_iff.1 cj p (List.mem_cons_of_mem _ hp)
   ·rw [s5, s6, s2, s3]
    refine compat_iff.2 fun p hp => ?_
    rcases List.mem_cons.1 hp with e | e
    ·subst e
     exact .inl ⟨disj_symm hd.2.2, disj_symm hd.2.1, disj_symm hd.1⟩
    ·exact compat_iff.1 ci p e
   ·rw [s5, s6, s7, s9, s2, s3, s8]; exact hK
  | some e =>
   simp only [hei, hej] at h ⊢
   obtain ⟨gi, ci, hg, hp, hsat, ce, hK⟩ := h
   have d := effOf_dep hE hej
   have hd := (compatE_iff.1 ce _ (List.mem_cons_self ..)).resolve_right (by rw [hno]; simp)
   simp only [rW, rR, rH, rv, good, gq] at *
   simp only [ei, (gci _).1, (gci _).2]
   generalize stepOf E (path, s + i) τ oi.op = m at *
   obtain ⟨d1, d2, d3⟩ := hd
   rw [disjP_iff] at d1 d2 d3
   have offi : ∀ K, K ∉ (m.out H [] []).2.2.2 → (m.out H [] []).2.1 K = H K := (local_out (q := True) m H H [] [] fun _ _ => rfl).off
   have hpre : e.pre H := d.preD _ H (fun K hD => (offi K fun hW => d1 K hW hD).symm) hp
   refine ⟨hg, hpre, d.sat H hpre, compatE_iff.2 fun p hp => compatE_iff.1 ce p (List.mem_cons_of_mem _ hp), fun u Hj hf hpo => ?_⟩
   have L := local_out (q := (gcond ops τ oi.guard).getD True) m H Hj [] [] fun K hK => hf K (by rcases hK with hK | hK; exact d3 K hK; exact d2 K hK)
   rw [L.val, L.rd, L.wr]
   refine ⟨⟨gi.1, L.ok gi.2⟩, compat_iff.2 fun p hp => ?_, hK u _ (fun K hS => ?_) (d.postD H _ u _ (fun K hD => offi K fun hW => d1 K hW hD) (d.postS H u Hj _ (fun K hS => L.off K fun hW => d2 K hW hS) hpo))⟩
   ·rcases List.mem_cons.1 hp with e' | e'
    ·subst e'; exact .inl ⟨disjP_iff.2 d1, disjP_iff.2 d2, disjP_iff.2 d3⟩
    ·exact compat_iff.1 ci p e'
   ·by_cases hW : K ∈ (m.out H [] []).2.2.2
    ·exact L.same K (.inr hW)
    ·rw [L.off K hW, hf K hS, offi K hW]
 | some e =>
  cases hej : effOf E ((s + j) :: path) τ oj.op with
  | none =>
   simp only [hei, hej] at h ⊢
   obtain ⟨hg, hp, hsat, ce, hK⟩ := h
   have d := effOf_dep hE hei
   simp only [rW, rR, rH, rv, good, gq] at *
   simp only [ej, (gcj _).1, (gcj _).2] at hK
   generalize stepOf E (path, s + j) τ oj.op = m at *
   obtain ⟨v0, H0, f0, p0⟩ := hsat
   obtain ⟨g0, c0, _⟩ := hK v0 H0 f0 p0
   have hd := (compat_iff.1 c0 _ (List.mem_cons_self ..)).resolve_right (by rw [hno]; simp)
   obtain ⟨d1, d2, d3⟩ := hd
   rw [disjP_iff] at d1 d2 d3
   have L0 := local_out (q := (gcond ops τ oj.guard).getD True) m H0 H [] [] fun K hK => (f0 K (by rcases hK with hK | hK; exact d3 K hK; exact d2 K hK)).symm
   rw [← L0.rd] at d3
   rw [← L0.wr] at d1 d2
   refine ⟨⟨g0.1, L0.ok g0.2⟩, compat_iff.2 fun p hp => ?_, hg, ?_, ?_, compatE_iff.2 fun p hp => ?_, fun v H2 hf hpo => ?_⟩
   ·rw [L0.rd, L0.wr]; exact compat_iff.1 c0 p (List.mem_cons_of_mem _ hp)
   ·exact d.preD H _ (fun K hD => L0.off K fun hW => d1 K (by rw [L0.wr]; exact hW) hD) hp
   ·exact d.sat _ (d.preD H _ (fun K hD => L0.off K fun hW => d1 K (by rw [L0.wr]; exact hW) hD) hp)
   ·rcases List.mem_cons.1 hp with e' | e'
    ·subst e'; exact .inl ⟨disjP_iff.2 d1, disjP_iff.2 d2, disjP_iff.2 d3⟩
    ·exact compatE_iff.1 ce p e'
   ·let H1 : Heap := fun K => if K ∈ (m.out H [] []).2.2.2 then H K else H2 K
    have offj : ∀ K, K ∉ (m.out H [] []).2.2.2 → (m.out H [] []).2.1 K = H K := (local_out (q := True) m H H [] [] fun _ _ => rfl).off
    have hH1 : ∀ K, ¬ e.S K → H1 K = H K := fun K hS => by
     by_cases hW : K ∈ (m.out H [] []).2.2.2
     ·exact if_pos hW
     ·exact (if_neg hW).trans ((hf K hS).trans (offj K hW))
    obtain ⟨g1, c1, k1⟩ := hK v H1 hH1 (d.postD _ H v H1 (fun K hD => (offj K fun hW => d1 K hW hD).symm) (d.postS _ v H2 H1 (fun K hS => if_neg fun hW => d2 K hW hS) hpo))
    have L1 := local_out (q := (gcond ops τ oj.guard).getD True) m H H1 [] [] fun K hK => hH1 K (by rcases hK with hK | hK; exact d3 K hK; exact d2 K hK)
    rw [L1.val, L1.rd, L1.wr] at k1
    have eH : (m.out H1 [] []).2.1 = H2 := by
     funext K
     by_cases hW : K ∈ (m.out H [] []).2.2.2
     ·rw [L1.same K (.inr hW), hf K fun hS => d2 K hW hS]
     ·rw [L1.off K hW]; exact if_neg hW
    rw [eH] at k1
    exact k1
  | some e' =>
   simp only [hei, hej] at h ⊢
   obtain ⟨hg, hp, ⟨v0, H0, f0, p0⟩, ce, hK⟩ := h
   have hw := compatE_iff.1 (hK v0 H0 f0 p0).2.2.2.1 _ (List.mem_cons_self ..)
   exact absurd (show (waitsFor oj i || waits2 ops oj i) = true from hw) (by rw [hno]; simp)
theorem anyI_first (hE : EffSat E) {Q : List PV → Heap → Prop} {i : Nat} {oi : Oper} (hi : ops[i]? = some oi) :
    ∀ (fuel : Nat) (listed : Array Bool) (fps : List FP) (τ : List PV) (H : Heap),
      (∀ j oj, ops[j]? = some oj → j ≠ i → listed.getD j true = false → (∀ e ∈ oj.after, Region.binds .any e = true → e.on ≠ i) → oi.apart ops oj = true) →
      i ∈ Region.ready .any ops listed → Closed ops listed →
      (stp E path s ops oi i fps τ H fun v H' f => anyI E path s ops Q fuel (listed.setIfInBounds i true) (f :: fps) (putT τ oi.dst v) H') →
      anyI E path s ops Q (fuel + 1) listed fps τ H := by
 intro fuel
 induction fuel with
 | zero =>
  intro listed fps τ H _ hr _ h
  refine ⟨fun h => (by rw [h] at hr; cases hr), fun j hj oj hoj => ?_⟩
  by_cases hji : j = i
  ·subst hji; rw [hi] at hoj; cases hoj; exact h
  ·obtain ⟨v, H', f, hC⟩ := stp_sat h
   have := ready_mono hj hji
   rw [hC.1] at this
   cases this
 | succ fuel ih =>
  intro listed fps τ H hfree hr hcl h
  refine ⟨fun h => (by rw [h] at hr; cases hr), fun j hj oj hoj => ?_⟩
  by_cases hji : j = i
  ·subst hji; rw [hi] at hoj; cases hoj; exact h
  ·obtain ⟨hjun, oj', hoj', hall⟩ := mem_ready.1 hj
   rw [hoj] at hoj'
   cases hoj'
   have hnot : ∀ e ∈ oj.after, Region.binds .any e = true → e.on ≠ i := fun e he hb heq => by
    have h1 := hall e he hb
    have h0 := (mem_ready.1 hr).1
    rw [heq] at h1
    rcases Nat.lt_or_ge i listed.size with h' | h'
    ·simp [h'] at h0 h1; rw [h0] at h1; cases h1
    ·simp [Array.getElem?_eq_none h'] at h1
   have hni : listed.getD i false ≠ true := fun h1 => by
    have h0 := (mem_ready.1 hr).1
    rcases Nat.lt_or_ge i listed.size with h' | h'
    ·simp [h'] at h0 h1; rw [h0] at h1; cases h1
    ·simp [Array.getElem?_eq_none h'] at h1
   have hap := hfree j oj hoj hji hjun hnot
   obtain ⟨a1, a2, a3⟩ := Oper.apart_spec hap
   have h2 := stp_mono h fun v H' f hC => hC.2 j (ready_mono hj hji) oj hoj
   have h3 := stp_swap (K := fun v u H2 f g => anyI E path s ops Q fuel ((listed.setIfInBounds i true).setIfInBounds j true) (g :: f :: fps) (putT (putT τ oi.dst v) oj.dst u) H2) hE hap (by rw [waitsFor_no hnot, waits2_no hcl hall hni]; rfl) h2
   refine stp_mono h3 fun u H1 g hC => ih (listed.setIfInBounds j true) _ _ _ (fun k ok hk hki hun hno => ?_) (ready_mono hr (Ne.symm hji)) (hcl.set hoj hall) (stp_mono hC fun v H2 f hD => ?_)
   ·refine hfree k ok hk hki ?_ hno
    by_cases hjk : j = k
    ·subst hjk; exact hjun
    ·rw [getD_set_ne true hjk] at hun; exact hun
   ·rw [Array.setIfInBounds_comm _ _ hji, ← putT_comm a2]
    refine anyI_perm fuel (fun p hp => ?_) hD
    simp only [List.mem_cons] at hp ⊢
    rcases hp with h | h | h
    ·exact .inr (.inl h)
    ·exact .inl h
    ·exact .inr (.inr h)
theorem anyI_lex (hE : EffSat E) {Q : List PV → Heap → Prop} : ∀ (l : List Oper) (k : Nat) (listed : Array Bool) (fps : List FP) (τ : List PV) (H : Heap), (∀ j, l[j]? = ops[k + j]?) →
    Region.lexFrom .any ops l.length k listed = true → Closed ops listed → evDraw E path s ops l k fps Q τ H → anyI E path s ops Q l.length listed fps τ H
 | [], _, _, _, _, _, _, hB, _, h => ⟨by simpa [Region.lexFrom] using hB, h⟩
 | o :: l, k, listed, fps, τ, H, hl, hB, hcl, h => by
  have h0 : ops[k]? = some o := by simpa using (hl 0).symm
  simp only [List.length_cons, Region.lexFrom, Bool.and_eq_true] at hB
  obtain ⟨⟨hr, hf⟩, hB'⟩ := hB
  exact anyI_first hE h0 l.length listed fps τ H (Region.free_spec h0 hf) (by simpa using hr) hcl
   (stp_mono (evDraw_stp hE h) fun v H' f hC => anyI_lex hE l (k + 1) _ _ _ _ (fun j => by have := hl (j + 1); simpa [Nat.add_assoc, Nat.add_comm 1 j] using this) hB' (hcl.set h0 (by
    obtain ⟨_, o', ho', hall⟩ := mem_ready.1 (show k ∈ Region.ready .any ops listed by simpa using hr)
    rw [h0] at ho'; cases ho'; exact hall)) hC)
end
section
variable {P : Program} {E : Env} {B : Nat} {w0 : World} {μ : Map} {H : Heap} {w : World} {q : Prop} {K : PV → Heap → Prop}
theorem wp_up {α : Type} {Q : α → Heap → Prop} (hq : q) : ∀ (m : Prg α) {H : Heap}, m.wp q Q H → m.wp True Q H
 | .ret _, _, h => h
 | .get _ k, H, h => wp_up hq (k _) h
 | .alc _ _ k, _, h => ⟨h.1, wp_up hq (k _) h.2⟩
 | .put _ _ k, _, h => ⟨trivial, wp_up hq k h.2⟩
 | .ro _ k, _, h => wp_up hq k h
 | .chk _ k, _, h => ⟨fun _ => h.1 hq, wp_up hq k h.2⟩
theorem stepOf_sound (he : EnvOK P E) (hgl : GlobOK E.glob w0) (hs : Sim w0 μ H w) {Ky : Key} {o : Oper} {τ : List PV} {a : Act} {ro : Option Nat} (ht : RepL w (Zof μ H w) (ctx μ H w) τ a.tmps) (hq : q)
    (h : (stepOf E Ky τ o.op).wp q K H) : (∀ c, o.op ≠ .defer c) ∧ RanC P ro w0 μ H w K ((execOp a.eval o).run P w) := by
 unfold stepOf at h
 split at h
 ·rename_i f as ats ho
  refine ⟨(fun c hc => by rw [ho] at hc; cases hc), ?_⟩
  have hh : HandlerOK P w0 fun _ _ _ _ _ => False := fun _ _ _ _ _ _ _ _ _ h => h.elim
  have key : ∀ {K : PV → Heap → Prop}, callV E (fun _ _ _ _ _ => False) [] (opd τ f) (as.toList.map (opd τ)) none K H → RanC P ro w0 μ H w K ((execOp a.eval o).run P w) := fun hc =>
   callV_yes (g := none) he hgl hh hs ht ho trivial hc
  unfold stepV at h
  split at h
  ·rename_i n first cap hv
   split at h
   ·rename_i sp hsp
    refine key ?_
    rw [hv]; simp only [callV, hsp, light]; exact wp_up hq _ h
   ·exact (bad_wp hq h).elim
  ·rename_i p n first cap hv
   split at h
   ·rename_i sp hsp
    refine key ?_
    rw [hv]; simp only [callV, hsp, light]; exact wp_up hq _ h
   ·exact (bad_wp hq h).elim
  ·exact (bad_wp hq h).elim
 ·exact ⟨lop_nodefer hq h, .inl (lop_sound he hgl hs hq ht h)⟩
theorem op_fin {o : Oper} {ops : Array Oper} {τ : List PV} {a : Act} {ro : Option Nat} (hst : St B w0 μ H w τ a) {next : Act → World → Prop} {Q' : Exit → Act → World → Prop}
    (hr : (Region.wanted o (yielded ops a.tmps) = true ∧ (∀ c, o.op ≠ .defer c) ∧ RanC P ro w0 μ H w K ((execOp a.eval o).run P w)) ∨
      (Region.wanted o (yielded ops a.tmps) = false ∧ ∃ v H' μ', K v H' ∧ Sim w0 μ' H' w ∧ Evo μ H w μ' H' w ∧ RP μ' H' w v Go.undef))
    (hn : ∀ v x w' μ' H', K v H' → Evo μ H w μ' H' w' → St B w0 μ' H' w' (putT τ o.dst v) (a.put o.dst x) → next (a.put o.dst x) w') :
    if Region.wanted o (yielded ops a.tmps) then o.wpIn (Fr ro) 0 P a w next Q' else (∀ f, o.about P w a.eval = some f → (Fr ro).fn f) ∧ next (a.put o.dst undef) w := by
 rcases hr with ⟨h1, h2, h3⟩ | ⟨h1, v, H', μ', h2, h3, h4, h5⟩
 ·rw [if_pos h1]
  refine ⟨fun _ _ => trivial, ?_⟩
  rw [Oper.semAt_eq _ _ _ h2]
  exact upon_ran h3 fun v x w' μ' H' k1 k2 k3 k4 => hn v x w' μ' H' k1 k3 (hst.put k2 k3 k4 o.dst)
 ·rw [if_neg (by simp [h1])]
  exact ⟨fun _ _ => trivial, hn v undef w μ' H' h2 h4 (hst.put h3 h4 h5 o.dst)⟩
theorem good_sound (he : EnvOK P E) (hgl : GlobOK E.glob w0) {path : List Nat} {s i : Nat} {ops : Array Oper} {o : Oper} {τ : List PV} {a : Act} {ro : Option Nat} (hst : St B w0 μ H w τ a) (hg : good E path s ops o i τ H)
    (hK : K (rv E path s ops o i τ H) (rH E path s o i τ H)) :
    (Region.wanted o (yielded ops a.tmps) = true ∧ (∀ c, o.op ≠ .defer c) ∧ RanC P ro w0 μ H w K ((execOp a.eval o).run P w)) ∨
      (Region.wanted o (yielded ops a.tmps) = false ∧ ∃ v H' μ', K v H' ∧ Sim w0 μ' H' w ∧ Evo μ H w μ' H' w ∧ RP μ' H' w v Go.undef) := by
 obtain ⟨h1, h2⟩ := hg
 obtain ⟨g1, g2⟩ := guard_spec hst.tm h1
 unfold gq at h2
 unfold rv at hK
 cases hgc : gcond ops τ o.guard with
 | none =>
  rw [hgc] at h2 hK
  have hw : (stepOf E (path, s + i) τ o.op).wp True K H := (wp_iff _ _ [] []).2 ⟨h2, hK⟩
  have := stepOf_sound (ro := ro) he hgl hst.sim hst.tm trivial hw
  exact .inl ⟨g1 hgc, this⟩
 | some q =>
  rw [hgc] at h2 hK
  have hw : (stepOf E (path, s + i) τ o.op).wp q (fun v H => K (.tnt q v) H) H := (wp_iff _ _ [] []).2 ⟨h2, hK⟩
  by_cases hq : q
  ·have := stepOf_sound (ro := ro) he hgl hst.sim hst.tm hq hw
   exact .inl ⟨(g2 q hgc).1 hq, this.1, this.2.tnt hq⟩
  ·obtain ⟨v, H', μ', k1, k2, k3⟩ := skip_wp hq _ hw hst.sim
   exact .inr ⟨(g2 q hgc).2 hq, .tnt q v, H', μ', k1, k2, k3, .tnt (fun h => absurd h hq) fun _ => rfl⟩
def hEff (E : Env) : Handler := fun path f as H Q => ∃ n s e, f = .fn n [] [] ∧ E.eff n = some s ∧ s path as = some e ∧ e.pre H ∧ ∀ v H', (∀ K, ¬ e.S K → H' K = H K) → e.post H v H' → Q v H'
theorem hEff_ok (he : EnvOK P E) (hgl : GlobOK E.glob w0) : HandlerOK P w0 (hEff E) := fun path f as H Q μ w ro xs h hs hr => by
 obtain ⟨n, s, e, rfl, h1, h2, h3, h4⟩ := h
 obtain ⟨⟨_, k1⟩, k2⟩ := he.eff n s h1
 refine ⟨k2, calls_fr ((k1 w0 hgl path as e h2 μ H w xs h3 hs hr).mono fun e' w' hb => ?_)⟩
 obtain ⟨pv, x, μ', H', b1, b2, b3, b4, b5⟩ := hb
 exact ⟨pv, x, μ', H', b1, h4 pv H' b2.1 b2.2, b3, b4, b5⟩
theorem stp_sound (he : EnvOK P E) (hgl : GlobOK E.glob w0) {path : List Nat} {s i : Nat} {ops : Array Oper} {o : Oper} {fps : List FP} {τ : List PV} {a : Act} {ro : Option Nat} {C : PV → Heap → FP → Prop} (hst : St B w0 μ H w τ a) (h : stp E path s ops o i fps τ H C) :
    (Region.wanted o (yielded ops a.tmps) = true ∧ (∀ c, o.op ≠ .defer c) ∧ RanC P ro w0 μ H w (fun v H' => ∃ f, C v H' f) ((execOp a.eval o).run P w)) ∨
      (Region.wanted o (yielded ops a.tmps) = false ∧ ∃ v H' μ', (∃ f, C v H' f) ∧ Sim w0 μ' H' w ∧ Evo μ H w μ' H' w ∧ RP μ' H' w v Go.undef) := by
 unfold stp at h
 split at h
 ·rename_i e hef
  obtain ⟨hg, hp, _, _, hC⟩ := h
  have hgok : gok ops τ o.guard = true := by rw [hg]; rfl
  obtain ⟨g1, _⟩ := guard_spec hst.tm hgok
  refine .inl ⟨g1 (by rw [hg]; rfl), ?_, ?_⟩
  ·rintro c hc; rw [hc] at hef; simp [effOf] at hef
  ·unfold effOf at hef
   split at hef
   ·rename_i f as ats ho
    unfold effV at hef
    split at hef
    ·rename_i n first cap hv
     unfold effN at hef
     split at hef
     ·rename_i sp hs1 hs2
      simp only [Option.map_eq_some_iff] at hef
      obtain ⟨e0, h1, rfl⟩ := hef
      refine callV_yes (g := none) he hgl (hEff_ok he hgl) hst.sim (path := (s + i) :: path) hst.tm ho trivial ?_
      rw [hv]
      simp only [callV, hs1]
      exact ⟨fun _ => hp.1, n, sp, e0, rfl, hs2, h1, hp.2, fun v H' k1 k2 => ⟨_, hC v H' k1 k2⟩⟩
     ·cases hef
    ·cases hef
   ·cases hef
 ·exact good_sound he hgl hst h.1 ⟨_, h.2.2⟩
theorem any_sound (he : EnvOK P E) (hgl : GlobOK E.glob w0) {path : List Nat} {s : Nat} {ops : Array Oper} {ro : Option Nat} {Q : List PV → Heap → Prop} {Q' : Exit → Act → World → Prop} :
    ∀ (fuel t : Nat) (listed : Array Bool) (fps : List FP) (τ : List PV) (H : Heap) (μ : Map) (w : World) (a : Act), anyI E path s ops Q fuel listed fps τ H → St B w0 μ H w τ a →
      (∀ a' w', Ls B w0 μ H w Q a' w' → Q' .normal a' w') → wpOpsIn (Fr ro) 0 P ops Q' (Region.linearise.go .any ops fuel t listed []) a w := by
 intro fuel
 induction fuel with
 | zero =>
  intro t listed fps τ H μ w a h hst hQ
  simpa [Region.linearise.go, wpOpsIn] using hQ a w ⟨τ, μ, H, h.2, hst, Evo.refl _ _ _⟩
 | succ fuel ih =>
  intro t listed fps τ H μ w a h hst hQ
  obtain ⟨h₀, h₁⟩ := h
  simp only [Region.linearise.go]
  change wpOpsIn (Fr ro) 0 P ops Q' (match (Region.ready .any ops listed)[t % (Region.ready .any ops listed).length]? with
   | some i => Region.linearise.go .any ops fuel (t / (Region.ready .any ops listed).length) (listed.setIfInBounds i true) [i]
   | none => [].reverse) a w
  cases hi : (Region.ready .any ops listed)[t % (Region.ready .any ops listed).length]? with
  | none =>
   have hnil : Region.ready .any ops listed = [] := by
    cases hr : Region.ready .any ops listed with
    | nil => rfl
    | cons x xs =>
     rw [hr] at hi
     have hlt : t % (x :: xs).length < (x :: xs).length := Nat.mod_lt _ (by simp)
     simp at hi
     simp at hlt
     omega
   simpa [wpOpsIn] using hQ a w ⟨τ, μ, H, h₀ hnil, hst, Evo.refl _ _ _⟩
  | some i =>
   simp only []
   rw [linearise_go_acc, List.reverse_singleton, List.singleton_append]
   have hmem := List.mem_of_getElem? hi
   obtain ⟨_, o, ho, _⟩ := mem_ready.1 hmem
   have e1 := h₁ i hmem o ho
   simp only [wpOpsIn, ho]
   exact op_fin hst (stp_sound he hgl hst e1) fun v x w' μ' H' k1 k2 k3 => by
    obtain ⟨f, k1⟩ := k1
    exact ih _ _ _ _ _ μ' w' _ k1 k3 fun a'' w'' k => hQ _ _ (k.trans k2)
theorem St.drew {τ : List PV} {a : Act} (h : St B w0 μ H w τ a) : St B w0 μ H w.drew τ a := ⟨h.sim.drew, h.tm.evo (Evo.drew h.sim), h.df.evo (Evo.drew h.sim)⟩
theorem draw_sound (he : EnvOK P E) (hgl : GlobOK E.glob w0) {path : List Nat} {s id : Nat} {ops : Array Oper} {ro : Option Nat} {Q : List PV → Heap → Prop} {Q' : Exit → Act → World → Prop} {τ : List PV} {a : Act}
    (hB : Region.lexB .any ops = true) (h : evDraw E path s ops ops.toList 0 [] Q τ H) (hst : St B w0 μ H w τ a) (hQ : ∀ a' w', Ls B w0 μ H w Q a' w' → Q' .normal a' w') :
    (Code.region id ops true).wpIn (Fr ro) 0 P Q' a w := by
 refine wpIn_region_draw fun t => ?_
 simp only [Region.schedule, he.mixed, Bool.true_or, if_true]
 simp only [Region.lexB, Bool.and_eq_true] at hB
 have := anyI_lex (fun n s hn => (he.eff n s hn).1.1) ops.toList 0 (Array.replicate ops.size false) [] τ H (by simp) (by simpa using hB.2) (fun k ok _ hk => by
  rcases Nat.lt_or_ge k ops.size with h' | h'
  ·simp [h'] at hk
  ·simp [Array.getElem?_eq_none, h'] at hk) h
 rw [show ops.toList.length = ops.size by simp] at this
 exact any_sound he hgl ops.size t _ [] τ H μ w.drew a this hst.drew fun a' w' k => hQ _ _ (k.trans (Evo.drew hst.sim))
end
section
variable {P : Program} {E : Env} {B : Nat} {w0 : World} {μ : Map} {H : Heap} {w : World}
def plainE : Exit → Prop
 | .normal => True
 | .exit _ => True
 | .ret => True
 | _ => False
def Le (B : Nat) (w0 : World) (μ : Map) (H : Heap) (w : World) (Q : Exit → List PV → Heap → Prop) (e : Exit) (a' : Act) (w' : World) : Prop := plainE e ∧ Ls B w0 μ H w (Q e) a' w'
theorem Le.trans {μ' : Map} {H' : Heap} {w' : World} (e : Evo μ H w μ' H' w') {Q : Exit → List PV → Heap → Prop} {x : Exit} {a'' : Act} {w'' : World} (h : Le B w0 μ' H' w' Q x a'' w'') : Le B w0 μ H w Q x a'' w'' := ⟨h.1, h.2.trans e⟩
theorem Le.here {Q : Exit → List PV → Heap → Prop} {x : Exit} (hx : plainE x) {τ : List PV} {a : Act} (h : Q x τ H) (hst : St B w0 μ H w τ a) : Le B w0 μ H w Q x a w := ⟨hx, τ, μ, H, h, hst, Evo.refl _ _ _⟩
theorem least (S : Nat → Prop) : ∀ n, S n → ∃ m, S m ∧ ∀ k, S k → m ≤ k := fun n => by
 induction n using Nat.strongRecOn with
 | _ n ih =>
  intro h
  by_cases hk : ∃ k, k < n ∧ S k
  ·obtain ⟨k, h1, h2⟩ := hk; exact ih k h1 h2
  ·exact ⟨n, h, fun k hk' => Nat.le_of_not_lt fun hlt => hk ⟨k, hlt, hk'⟩⟩
theorem wpIn_loop_rel {F : Fence} {n : Nat} {c : Code} {Q : Exit → Act → World → Prop} {a : Act} {w : World} (I : Nat → Act → World → Prop) (m : Nat) (h₀ : I m a w)
    (round : ∀ m a w, I m a w → c.wpIn F n P (Exit.then (fun a' w' => ∃ m', m' < m ∧ I m' a' w') Q) a w) : (Code.loop c).wpIn F n P Q a w := by
 classical
 have hl : ∀ a w, (∃ m, I m a w) → ∃ m, I m a w ∧ ∀ k, I k a w → m ≤ k := fun a w ⟨m, h⟩ => least _ m h
 refine wpIn_loop (fun a w => ∃ m, I m a w) (fun a w => if h : ∃ m, I m a w then Classical.choose (hl a w h) else 0) ⟨m, h₀⟩ fun a w hI => ?_
 have hm := Classical.choose_spec (hl a w hI)
 refine wpIn_mono (round _ a w hm.1) fun e a' w' he => ?_
 cases e <;> try exact he
 obtain ⟨m', h1, h2⟩ := he
 refine ⟨⟨m', h2⟩, ?_⟩
 have h3 : ∃ m, I m a' w' := ⟨m', h2⟩
 simp only [h3, hI, dif_pos]
 exact Nat.lt_of_le_of_lt ((Classical.choose_spec (hl a' w' h3)).2 m' h2) h1
theorem stepR_scope {b : Frame} {a : Act} {k : List Item} {cs : List Frame} {w : World} {c : Code} : step P (lone (b.atR a (.code (.scope c) :: k)) cs w) = .next (lone (b.atR a (.code c :: .inScope c :: k)) cs w) :=
 step_lone_go (by simp [stepG, stepG.exec, Frame.atR])
theorem stepR_inScope {b : Frame} {a : Act} {k : List Item} {cs : List Frame} {w : World} {c : Code} : step P (lone (b.atR a (.inScope c :: k)) cs w) = .next (lone (b.atR a k) cs w) :=
 step_lone_go (by simp [stepG, stepG.exec, Frame.atR])
theorem wpIn_scope {F : Fence} {n : Nat} {c : Code} {Q : Exit → Act → World → Prop} {a : Act} (h : c.wpIn F n P (Exit.noGoto Q) a w) : (Code.scope c).wpIn F n P Q a w := by
 intro b k cs hro hb hr
 have h0 : (lone (b.atR a (.code (.scope c) :: k)) cs w).fenced P F := fenced_calm hb hr rfl
 obtain ⟨e, a₁, w₁, hq, harr⟩ := h b (.inScope c :: k) cs hro hb hr
 cases e with
 | normal => exact ⟨.normal, a₁, w₁, hq, .head h0 stepR_scope (StepsIn.trans harr (.one (fenced_calm hb hr rfl) stepR_inScope))⟩
 | exit id =>
  have hx : exitTo id (.inScope c :: k) = exitTo id k := by simp [exitTo]
  exact ⟨.exit id, a₁, w₁, hq, fun k' hk => .head h0 stepR_scope (harr.1 k' (by rw [hx]; exact hk)),
   fun hr' hk => let ⟨k₁, h1, h2⟩ := harr.2 hr' (by rw [hx]; exact hk); ⟨k₁, h1, .head h0 stepR_scope h2⟩⟩
 | goto l => exact hq.elim
 | ret => exact ⟨.ret, a₁, w₁, hq, ArrivesIn.of_steps (e := .ret) (b := b) (k := k) (.one h0 stepR_scope) harr⟩
 | panic ch => exact ⟨.panic ch, a₁, w₁, hq, ArrivesIn.of_steps (e := .panic ch) (b := b) (k := k) (.one h0 stepR_scope) harr⟩
 | outgrown => exact ⟨.outgrown, a₁, w₁, hq, ArrivesIn.of_steps (e := .outgrown) (b := b) (k := k) (.one h0 stepR_scope) harr⟩
theorem run_newObj (o : Obj) (w : World) : (newObj o).run P w = .ok w.heap.size (w.alloc o) := rfl
theorem run_getL {r : Nat} {L : Loop} (h : w.heap[r]? = some (.loop L)) : (getObj r).run P w = .ok (.loop L) w := by simp [getObj, Sem.run, h]
theorem run_getD {r : Nat} {L : Option (List Deferred)} (h : w.heap[r]? = some (.deferred L)) : (getObj r).run P w = .ok (.deferred L) w := by simp [getObj, Sem.run, h]
theorem run_setL {r : Nat} {L : Loop} (o : Obj) (h : w.heap[r]? = some (.loop L)) : (setObj r o).run P w = .ok () { w with heap := w.heap.setIfInBounds r o } := by simp [setObj, Sem.run, h]
theorem run_setD {r : Nat} {L : Option (List Deferred)} (o : Obj) (h : w.heap[r]? = some (.deferred L)) : (setObj r o).run P w = .ok () { w with heap := w.heap.setIfInBounds r o } := by simp [setObj, Sem.run, h]
theorem loop_write (hs : Sim w0 μ H w) {K : Key} {r v : Nat} {rc rc' : Rec} {L L' : Loop} (hK : H K = some (.loop rc v)) (hr : μ K = some r) (hL : w.heap[r]? = some (.loop L))
    (hb : ∀ Z C, BRep w Z C r (.loop rc v) → L'.state = rc'.st ∧ L'.pending = rc'.pending ∧ L'.params = rc'.params.toArray ∧ L'.assign = rc'.assign ∧ L'.body = rc'.body ∧ RepL w Z C rc'.tmps L'.tmps ∧ okC rc'.assign = true ∧ okC rc'.body = true) :
    Sim w0 μ (H.set K (.loop rc' v)) { w with heap := w.heap.setIfInBounds r (.loop L') } ∧ Evo μ H w μ (H.set K (.loop rc' v)) { w with heap := w.heap.setIfInBounds r (.loop L') } := by
 have hlt := (hs.own K r hr).2
 have hoth : ∀ k, k ≠ r → ({ w with heap := w.heap.setIfInBounds r (.loop L') } : World).heap[k]? = w.heap[k]? := fun k hk => by simp [Array.getElem?_setIfInBounds_ne (Ne.symm hk)]
 have hnew : ({ w with heap := w.heap.setIfInBounds r (.loop L') } : World).heap[r]? = some (.loop L') := by simp [hlt]
 have hbs : bsize ({ w with heap := w.heap.setIfInBounds r (.loop L') } : World) r = bsize w r := by simp only [bsize, hnew, hL]
 have EV := Evo.write (b' := .loop rc' v) (w' := { w with heap := w.heap.setIfInBounds r (.loop L') }) hs hK hr rfl (.inl rfl) (by simp) hoth hbs
 obtain ⟨b1, b2, b3, b4, b5, b6, b7⟩ := hb _ _ (hs.blk K _ r hK hr)
 exact ⟨Sim.write hs hK hr rfl (.inl rfl) (by simp) hoth hbs ⟨rfl, rfl, rfl, Nat.le_refl _⟩ ⟨L', hnew, b1, b2, b3, b4, b5, b6.evo EV, b7⟩, EV⟩
theorem run_getLoop {l : Nat} {L : Loop} (h : w.heap[l]? = some (.loop L)) : (Instr.getLoop l).run P w = .ok L w := by
 simp [Instr.getLoop, run_getL h]
theorem run_endLoop {l : Nat} {L : Loop} (h : w.heap[l]? = some (.loop L)) (hb : L.state ≠ .busy) :
    (Instr.endLoop l).run P w = .ok L.pending { w with heap := w.heap.setIfInBounds l (.loop { L with state := .exhausted }) } := by
 simp [Instr.endLoop, run_getLoop h, hb, run_setL _ h]
end
section
variable {B : Nat} {w0 : World} {μ : Map} {H : Heap} {w : World}
def SameB : Option PB → Option PB → Prop
 | none, none => True
 | some b, some b' => b'.ver = b.ver ∧ (b.ro = true → b'.ro = true)
 | _, _ => False
theorem SameB.refl : ∀ x : Option PB, SameB x x
 | none => trivial
 | some _ => ⟨rfl, id⟩
theorem ctx_same {H' : Heap} (h : ∀ K, SameB (H K) (H' K)) : ctx μ H' w = ctx μ H w := by
 unfold ctx
 congr 1
 ·funext K v
  have := h K
  revert this
  cases H K <;> cases H' K <;> simp [SameB]
  intro h1 _
  rw [h1]
 ·funext K v
  have := h K
  unfold verOf
  revert this
  cases H K <;> cases H' K <;> simp [SameB]
  intro h1 _
  rw [h1]
theorem evo_same {H' : Heap} (h : ∀ K, SameB (H K) (H' K)) : Evo μ H w μ H' w where
 le := by rw [ctx_same h]; exact Ctx.le_refl _
 size := Nat.le_refl _
 fr := fun _ _ h => ⟨rfl, h⟩
 z := fun b hb => ⟨⟨hb.1, fun K hK => by
  obtain ⟨x, h1, h2⟩ := hb.2.1 K hK
  have := h K
  rw [h1] at this
  cases hx : H' K with
  | none => rw [hx] at this; exact this.elim
  | some y => rw [hx] at this; exact ⟨y, rfl, this.2 h2⟩, hb.2.2⟩, rfl⟩
 n := rfl
theorem sim_same {H' : Heap} (hs : Sim w0 μ H w) (h : ∀ K, SameB (H K) (H' K)) (hb : ∀ K b b' r, H K = some b → H' K = some b' → μ K = some r → BRep w (Zof μ H' w) (ctx μ H' w) r b → BRep w (Zof μ H' w) (ctx μ H' w) r b') : Sim w0 μ H' w where
 below := hs.below
 own := hs.own
 inj := hs.inj
 old := hs.old
 dom := fun K r hr => by
  obtain ⟨b, h1⟩ := hs.dom K r hr
  have := h K
  rw [h1] at this
  cases hx : H' K with
  | none => rw [hx] at this; exact this.elim
  | some y => exact ⟨y, rfl⟩
 blk := fun K b' r hb' hr => by
  obtain ⟨b, h1⟩ := hs.dom K r hr
  have E := evo_same (μ := μ) (w := w) h
  exact hb K b b' r h1 hb' hr ((hs.blk K b r h1 hr).mono (fun b hb => (E.z b hb).1) (fun b hb => (E.z b hb).2) E.le rfl)
theorem thaw1_rep (hs : Sim w0 μ H w) {p' p : PV} {x : Value} (h : thaw1 H p' p) (hp : Rep w (Zof μ H w) (ctx μ H w) p x) : Rep w (Zof μ H w) (ctx μ H w) p' x := by
 rcases h with rfl | rfl | h
 ·exact .undef
 ·exact hp
 ·obtain ⟨t, ks, h1, h2, h3⟩ := frz_sound hs trivial 20 p x _ h hp
  obtain ⟨h4, rfl⟩ := h1
  have h4 := h4 trivial
  refine h2.mono (fun b hb => ?_) (fun _ _ => rfl) ⟨fun K v y hy => (by simp [Ctx.nil] at hy), fun K v hv => hv.elim⟩
  rcases hb with hb | ⟨K, hK, hb⟩
  ·exact hb
  ·obtain ⟨c, hc, hro⟩ := h4 K hK
   refine ⟨(hs.own K b hb).2, fun K' hK' => ?_, fun hN => by have := hs.old b hN; have := (hs.own K b hb).1; omega⟩
   obtain rfl := hs.inj K K' b hb hK'
   exact ⟨c, hc, hro⟩
theorem thawL_rep (hs : Sim w0 μ H w) : ∀ {τ' τ : List PV} {xs : List Value}, thawL H τ' τ → RepS w (Zof μ H w) (ctx μ H w) τ xs → RepS w (Zof μ H w) (ctx μ H w) τ' xs
 | [], [], _, _, h => h
 | [], _ :: _, _, h, _ => h.elim
 | _ :: _, [], _, h, _ => h.elim
 | a :: as, b :: bs, [], _, h => h.elim
 | a :: as, b :: bs, x :: xs, h, k => ⟨thaw1_rep hs h.1 k.1, thawL_rep hs h.2 k.2⟩
theorem thawL_repL (hs : Sim w0 μ H w) {τ' τ : List PV} {xs : Array Value} (h : thawL H τ' τ) (k : RepL w (Zof μ H w) (ctx μ H w) τ xs) : RepL w (Zof μ H w) (ctx μ H w) τ' xs := by
 have := (thawL_rep hs h k.s).l
 simpa using this
theorem St.thaw {τ τ' : List PV} {a : Act} {H' : Heap} (h : St B w0 μ H w τ a) (ht : ThawS τ' H' τ H) : St B w0 μ H' w τ' a ∧ Evo μ H w μ H' w := by
 obtain ⟨H1, hm, hτ, hc⟩ := ht
 have s1 : ∀ K, SameB (H K) (H1 K) := fun K => by
  rcases hm K with e | ⟨b, e1, e2⟩
  ·rw [e]; exact .refl _
  ·rw [e1, e2]; exact ⟨PB.ver_mark b, PB.ro_mark⟩
 have e1 := evo_same (μ := μ) (w := w) s1
 have m1 : Sim w0 μ H1 w := sim_same h.sim s1 fun K b b' r hb hb' _ k => by
  rcases hm K with e | ⟨b0, q1, q2⟩
  ·rw [hb, hb'] at e; cases e; exact k
  ·rw [hb] at q1; rw [hb'] at q2; cases q1; cases q2; exact k.mark
 have t1 : RepL w (Zof μ H1 w) (ctx μ H1 w) τ' a.tmps := thawL_repL m1 hτ (h.tm.evo e1)
 have s2 : ∀ K, SameB (H1 K) (H' K) := fun K => by
  rcases hc K with e | ⟨cs, cs', v, ro, q1, q2, _⟩
  ·rw [e]; exact .refl _
  ·rw [q1, q2]; exact ⟨rfl, id⟩
 have e2 := evo_same (μ := μ) (w := w) s2
 have z2 : Zof μ H' w = Zof μ H1 w := by
  funext b
  apply propext
  refine ⟨fun hb => ⟨hb.1, fun K hK => ?_, hb.2.2⟩, fun hb => (e2.z b hb).1⟩
  obtain ⟨x, h1, h2⟩ := hb.2.1 K hK
  rcases hc K with e | ⟨cs, cs', v, ro, q1, q2, _⟩
  ·exact ⟨x, e ▸ h1, h2⟩
  ·rw [h1] at q2; cases q2; exact ⟨_, q1, h2⟩
 have m2 : Sim w0 μ H' w := sim_same m1 s2 fun K b b' r hb hb' hr k => by
  rcases hc K with e | ⟨cs, cs', v, ro, q1, q2, q3⟩
  ·rw [hb, hb'] at e; cases e; exact k
  ·rw [hb] at q1; rw [hb'] at q2; cases q1; cases q2
   rw [z2, ctx_same s2] at k ⊢
   obtain ⟨arr, T, k1, k2⟩ := k
   exact ⟨arr, T, k1, thawL_repL m1 q3 k2⟩
 exact ⟨⟨m2, t1.evo e2, h.df⟩, e1.trans e2⟩
end
theorem thawL_of_fg (H : Heap) : ∀ {τ' τ : List PV}, fg τ' τ → thawL H τ' τ
 | [], [], _ => trivial
 | [], _ :: _, h => h.elim
 | _ :: _, [], h => h.elim
 | _ :: _, _ :: _, h => ⟨h.1.elim .inl fun e => .inr (.inl e), thawL_of_fg H h.2⟩
theorem ThawS.of_fg {H : Heap} {τ' τ : List PV} (h : fg τ' τ) : ThawS τ' H τ H := ⟨H, fun _ => .inl rfl, thawL_of_fg H h, fun _ => .inl rfl⟩
section
variable {P : Program} {E : Env} {B : Nat} {w0 : World} {μ : Map} {H : Heap} {w : World}
theorem range_sound (he : EnvOK P E) {h : Handler} (hh : HandlerOK P w0 h) {path : List Nat} {Ky : Key} {f : Operand} {ps : Array Nat} {as body : Code} {fid g : Nat} {first cap τ : List PV} {a : Act} {Q : Exit → List PV → Heap → Prop} {Q' : Exit → Act → World → Prop}
    (hf : opd τ f = .fn g first cap) (hok : okC as = true ∧ okC body = true) (hst : St B w0 μ H w τ a)
    (hc : h path (.fn g [] []) (first ++ [.yld Ky (verOf H Ky + 1)] ++ cap)
      (H.set Ky (.loop { st := .ready, pending := none, fn := fid, params := ps.toList, assign := as, body, tmps := τ } (verOf H Ky + 1)))
      (fun _ H' => rangeK Ky (verOf H Ky + 1) τ Q H'))
    (hQ : ∀ e a' w', Le B w0 μ H w Q e a' w' → Q' e a' w') : (Code.rangeFunc f ps as body).wpIn (Fr none) 0 P Q' a w := by
 refine wpIn_rangeFunc fun fn _ => ?_
 have hrep := rep_opd hst.tm f
 rw [hf] at hrep
 generalize hx : a.eval f = x at hrep
 cases hrep with
 | @fn _ _ _ _ a1 a2 h1 h2 h3 h4 =>
  let dO : Obj := .deferred (some [])
  let L : Loop := { state := .ready, pending := none, fn, tmps := a.tmps, params := ps, assign := as, body, defers := w.heap.size }
  let rc : Rec := { st := .ready, pending := none, fn := fid, params := ps.toList, assign := as, body, tmps := τ }
  let w1 := w.alloc dO
  let w2 := w1.alloc (.loop L)
  have hb1 : Bel w.heap.size w w1 := (Bel.refl _ _).alloc (Nat.le_refl _) dO
  have s1 : Sim w0 μ H w1 := hst.sim.grow hb1
  have e1 : Evo μ H w μ H w1 := Evo.grow hst.sim hb1
  have t1 : RepL w1 (Zof μ H w1) (ctx μ H w1) τ a.tmps := hst.tm.evo e1
  have e2 : Evo μ H w1 (μ.upd Ky w1.heap.size) (H.set Ky (.loop rc (verOf H Ky + 1))) w2 := Evo.alloc s1 Ky (.loop L) (.loop rc (verOf H Ky + 1)) rfl
  have s2 : Sim w0 (μ.upd Ky w1.heap.size) (H.set Ky (.loop rc (verOf H Ky + 1))) w2 :=
   Sim.alloc s1 Ky (.loop L) (.loop rc (verOf H Ky + 1)) rfl ⟨L, heap_alloc_new w1 (.loop L), rfl, rfl, by simp [L, rc], rfl, rfl, t1.evo e2, hok⟩
  have e12 := e1.trans e2
  have hy : RP (μ.upd Ky w1.heap.size) (H.set Ky (.loop rc (verOf H Ky + 1))) w2 (.yld Ky (verOf H Ky + 1)) (.func (.yield w1.heap.size) #[] #[]) := by
   refine .yld (.inl ⟨bsize w2 w1.heap.size, ?_⟩)
   exact ctx_loc_of (b := .loop rc (verOf H Ky + 1)) (by simp [set_at]) (by simp [upd_at])
  have r1 := RepS.mono (fun b hb => (e12.z b hb).1) (fun b hb => (e12.z b hb).2) e12.le (RepL.s (⟨h1, h3⟩ : RepL w (Zof μ H w) (ctx μ H w) first a1))
  have r2 := RepS.mono (fun b hb => (e12.z b hb).1) (fun b hb => (e12.z b hb).2) e12.le (RepL.s (⟨h2, h4⟩ : RepL w (Zof μ H w) (ctx μ H w) cap a2))
  obtain ⟨c1, c2⟩ := hh path (.fn g [] []) _ _ _ _ w2 none _ hc s2 ((r1.append (show RepS _ _ _ [_] [_] from ⟨hy, trivial⟩)).append r2)
  refine ⟨w1.heap.size, [{ target := .collected w.heap.size, args := #[] }], w2, { target := .fn (.func g) a2, args := a1 ++ #[.func (.yield w1.heap.size) #[] #[]] }, w2, g,
   a1 ++ #[.func (.yield w1.heap.size) #[] #[]] ++ a2, w2, ?_, ?_, fun _ _ => trivial, ?_, fun h => by simp [Fr, Fence.wide] at h, ?_⟩
  ·show (Instr.enterLoop fn a.tmps ps as body none).run P w = _
   simp only [Instr.enterLoop, Sem.run_bind, run_newObj, Result.andThen_ok, Sem.run_pure]
   rfl
  ·simp only [resolve, rangeCall, hx, Deferred.ofValue, Sem.run_pure]
   simp [Act.eval]
  ·exact c1 _ _
  ·have earr : (a1.toList ++ [Value.func (.yield w1.heap.size) #[] #[]] ++ a2.toList).toArray = a1 ++ #[Value.func (.yield w1.heap.size) #[] #[]] ++ a2 := by apply Array.ext'; simp
   rw [earr] at c2
   refine c2.mono fun e w3 hb => ?_
   obtain ⟨pv, x, μ', H', rfl, k1, k2, k3, k4⟩ := hb
   show ∃ jump w₄, _ ∧ _
   unfold rangeK at k1
   split at k1
   ·rename_i r v' hH
    obtain ⟨rst, rpend, rfn, rparams, ras, rbody, rtmps⟩ := r
    obtain ⟨rfl, k1, k5⟩ := k1
    have hy' := hy.evo k3
    cases hy' with
    | yld hat =>
     have hμ' := ctx_at hat hH rfl
     obtain ⟨L3, l1, l2, l3, l4, l5, l6, l7, l8⟩ := k2.blk Ky _ _ hH hμ'
     obtain ⟨q1, q2⟩ := loop_write (rc' := ⟨.exhausted, rpend, rfn, rparams, ras, rbody, rtmps⟩) (L' := { L3 with state := .exhausted }) k2 hH hμ' l1 (fun Z C hb => by
      obtain ⟨L3', m1, m2, m3, m4, m5, m6, m7⟩ := hb
      rw [l1] at m1
      cases m1
      exact ⟨rfl, m3, m4, m5, m6, m7⟩)
     have eall := (e12.trans k3).trans q2
     refine ⟨rpend, _, (run_endLoop l1 (by rw [l2]; exact k1)).trans (congrArg (fun p => Result.ok p _) l3), ?_⟩
     have hfr := (e2.trans k3).trans q2
     have hst' : St B w0 μ' (H'.set Ky (.loop ⟨.exhausted, rpend, rfn, rparams, ras, rbody, rtmps⟩ (verOf H Ky + 1))) { w3 with heap := w3.heap.setIfInBounds w1.heap.size (.loop { L3 with state := .exhausted }) } τ
         { a with defers := [{ target := .collected w.heap.size, args := #[] }] ++ a.defers } := by
      refine ⟨q1, hst.tm.evo eall, ?_⟩
      obtain ⟨d0, rs, d1, d2, d3⟩ := hst.df
      refine ⟨Nat.le_trans d0 eall.size, w.heap.size :: rs, by simp [d1], List.nodup_cons.2 ⟨fun hm => by have := (d3 _ hm).2.1; omega, d2⟩, fun r0 hr0 => ?_⟩
      rcases List.mem_cons.1 hr0 with e | e
      ·subst e
       have hlt : w.heap.size < w1.heap.size := by simp [w1]
       have hno : ∀ K, μ K ≠ some w.heap.size := fun K hK => by have := (hst.sim.own K _ hK).2; omega
       obtain ⟨f1, f2⟩ := hfr.fr w.heap.size hlt hno
       exact ⟨d0, Nat.lt_of_lt_of_le hlt hfr.size, f2, f1.trans (heap_alloc_new w dO)⟩
      ·obtain ⟨g1, g2, g3, g4⟩ := d3 r0 e
       obtain ⟨f1, f2⟩ := eall.fr r0 g2 g3
       exact ⟨g1, Nat.lt_of_lt_of_le g2 eall.size, f2, f1.trans g4⟩
     cases rpend with
     | none => exact hQ _ _ _ ⟨trivial, τ, μ', H'.set Ky (.loop ⟨.exhausted, none, rfn, rparams, ras, rbody, rtmps⟩ (verOf H Ky + 1)), k5, hst', eall⟩
     | some c =>
      cases c with
      | exit id => exact wpIn_exit (hQ (.exit id) _ _ ⟨trivial, τ, μ', H'.set Ky (.loop ⟨.exhausted, some (.exit id), rfn, rparams, ras, rbody, rtmps⟩ (verOf H Ky + 1)), k5, hst', eall⟩)
      | ret => exact wpIn_ret (hQ .ret _ _ ⟨trivial, τ, μ', H'.set Ky (.loop ⟨.exhausted, some .ret, rfn, rparams, ras, rbody, rtmps⟩ (verOf H Ky + 1)), k5, hst', eall⟩)
      | _ => exact k5.elim
   ·exact k1.elim
theorem ev_sound (he : EnvOK P E) (hgl : GlobOK E.glob w0) {h : Handler} (hh : HandlerOK P w0 h) (path : List Nat) (inR : Bool) (fid : Nat) (ro : Option Nat) (hro : inR = false → ro = none) :
    ∀ (c : Code) (_ : okC c = true) (Q : Exit → List PV → Heap → Prop) (Q' : Exit → Act → World → Prop) (τ : List PV) (H : Heap) (μ : Map) (w : World) (a : Act), ev E h path inR fid c Q τ H → St B w0 μ H w τ a →
      (∀ e a' w', Le B w0 μ H w Q e a' w' → Q' e a' w') → c.wpIn (Fr ro) 0 P Q' a w := by
 intro c
 induction c with
 | skip => intro hok Q Q' τ H μ w a h hst hQ; exact wpIn_skip (hQ .normal _ _ (.here (x := .normal) trivial h hst))
 | label _ => intro hok Q Q' τ H μ w a h hst hQ; exact wpIn_label (hQ .normal _ _ (.here (x := .normal) trivial h hst))
 | ret => intro hok Q Q' τ H μ w a h hst hQ; exact wpIn_ret (hQ .ret _ _ (.here (x := .ret) trivial h hst))
 | exit id => intro hok Q Q' τ H μ w a h hst hQ; exact wpIn_exit (hQ (.exit id) _ _ (.here (x := .exit id) trivial h hst))
 | goto _ => intro hok Q Q' τ H μ w a h hst hQ; exact h.elim
 | refuse _ => intro hok Q Q' τ H μ w a h hst hQ; exact h.elim
 | region id ops d =>
  intro hok Q Q' τ H μ w a h hst hQ
  cases d with
  | false =>
   refine wpIn_region ?_
   have := ops_sound (ro := ro) (Q' := Q') he hgl hh ops.toList 0 τ H μ w a (by simp) h hst fun a' w' k => hQ _ _ _ ⟨trivial, k⟩
   rw [List.range_eq_range']
   simpa using this
  | true => exact draw_sound he hgl hok h hst fun a' w' k => hQ _ _ _ ⟨trivial, k⟩
 | seq x y ihx ihy =>
  intro hok Q Q' τ H μ w a h hst hQ
  simp only [okC, Bool.and_eq_true] at hok
  refine wpIn_seq (ihx hok.1 _ _ τ H μ w a h hst fun e a' w' k => ?_)
  cases e with
  | normal =>
   obtain ⟨_, τ', μ', H', k1, k2, k3⟩ := k
   exact ihy hok.2 Q Q' τ' H' μ' w' a' k1 k2 fun e a'' w'' k => hQ _ _ _ (k.trans k3)
  | exit id => exact hQ _ _ _ k
  | ret => exact hQ _ _ _ k
  | _ => exact k.1.elim
 | cond c x y ihx ihy =>
  intro hok Q Q' τ H μ w a h hst hQ
  simp only [okC, Bool.and_eq_true] at hok
  have hr := rep_opd hst.tm c
  simp only [ev] at h
  have key : ∀ b : Bool, a.eval c = .bool b → (b = true → ev E _ path inR fid x Q τ H) ∧ (b = false → ev E _ path inR fid y Q τ H) → (Code.cond c x y).wpIn (Fr ro) 0 P Q' a w := fun b hb hc =>
   wpIn_cond_split hb (fun ht => ihx hok.1 Q Q' τ H μ w a (hc.1 ht) hst hQ) fun hf => ihy hok.2 Q Q' τ H μ w a (hc.2 hf) hst hQ
  split at h
  ·rename_i b hb
   rw [hb] at hr
   generalize hx : a.eval c = z at hr
   cases hr
   exact key b hx h
  ·rename_i p b hb
   rw [hb] at hr
   generalize hx : a.eval c = z at hr
   cases hr with
   | tnt h1 h2 =>
    have := h1 h.1
    cases this
    exact key b hx h.2
  ·exact h.elim
 | block id c ih =>
  intro hok Q Q' τ H μ w a h hst hQ
  refine wpIn_block (ih hok _ _ τ H μ w a h hst fun e a' w' k => ?_)
  cases e with
  | normal => exact hQ _ _ _ k
  | ret => exact hQ _ _ _ k
  | exit i =>
   simp only [Exit.inBlock]
   by_cases hi : i = id
   ·simp only [hi, if_true]
    obtain ⟨_, τ', μ', H', k1, k2, k3⟩ := k
    simp only [blkK, hi, if_true] at k1
    exact hQ _ _ _ ⟨trivial, τ', μ', H', k1, k2, k3⟩
   ·simp only [hi, if_false]
    obtain ⟨_, τ', μ', H', k1, k2, k3⟩ := k
    simp only [blkK, hi, if_false] at k1
    exact hQ _ _ _ ⟨trivial, τ', μ', H', k1, k2, k3⟩
  | _ => exact k.1.elim
 | scope c ih =>
  intro hok Q Q' τ H μ w a h hst hQ
  refine wpIn_scope (ih hok _ _ τ H μ w a h hst fun e a' w' k => ?_)
  cases e with
  | normal => exact hQ _ _ _ k
  | ret => exact hQ _ _ _ k
  | exit i => exact hQ _ _ _ k
  | _ => exact k.1.elim
 | loop c ih =>
  intro hok Q Q' τ H μ w a h hst hQ
  obtain ⟨I, m, ⟨τ0, H0, h1, h2⟩, h3⟩ := h
  obtain ⟨st0, ev0⟩ := hst.thaw h1
  refine wpIn_loop_rel (fun k a' w' => ∃ τ' μ' H', I τ' H' ∧ m τ' H' = k ∧ St B w0 μ' H' w' τ' a' ∧ Evo μ H w μ' H' w') (m τ0 H0)
   ⟨τ0, μ, H0, h2, rfl, st0, ev0⟩ fun k a' w' hI => ?_
  obtain ⟨τ', μ', H', i1, rfl, i2, i3⟩ := hI
  refine ih hok _ _ τ' H' μ' w' a' (h3 τ' H' i1) i2 fun e a'' w'' k => ?_
  cases e with
  | normal =>
   obtain ⟨_, τ2, μ2, H2, ⟨τ3, H3, g1, g2, g3⟩, k2, k3⟩ := k
   obtain ⟨st2, ev2⟩ := k2.thaw g1
   exact ⟨m τ3 H3, g3, τ3, μ2, H3, g2, rfl, st2, (i3.trans k3).trans ev2⟩
  | ret => exact hQ _ _ _ (k.trans i3)
  | exit i => exact hQ _ _ _ (k.trans i3)
  | _ => exact k.1.elim
 | rangeFunc f ps as body _ _ =>
  intro hok Q Q' τ H μ w a h hst hQ
  obtain ⟨h1, h2⟩ := h
  rw [hro h1]
  split at h2
  ·rename_i g first cap hf
   exact range_sound he hh hf (by simpa [okC] using hok) hst h2 hQ
  ·exact h2.elim
end
section
variable {P : Program} {E : Env} {w0 : World} {μ : Map} {H : Heap} {w : World} {q : Prop}
theorem bind_wp {α β : Type} {Q : β → Heap → Prop} {f : α → Prg β} : ∀ (m : Prg α) {H : Heap}, (m.bind f).wp q Q H ↔ m.wp q (fun a H' => (f a).wp q Q H') H
 | .ret _, _ => Iff.rfl
 | .get _ k, H => bind_wp (k (H _))
 | .alc _ _ k, _ => and_congr Iff.rfl (bind_wp (k _))
 | .put _ _ k, _ => and_congr Iff.rfl (bind_wp k)
 | .ro _ k, H => bind_wp k
 | .chk _ k, _ => and_congr Iff.rfl (bind_wp k)
def rdRes (tmps : Array Value) : ResultVar → Sem Value
 | .tmp t => pure (tmps.getD t Go.undef)
 | .cell a t => do loadVar t (← asAddr (tmps.getD a Go.undef))
theorem tmpAt {Z : Nat → Prop} {C : Ctx} {τ : List PV} {tmps : Array Value} (h : RepL w Z C τ tmps) (t : Nat) : Rep w Z C (τ.getD t .undef) (tmps.getD t Go.undef) := by
 have := rep_opd (a := { tmps, defers := [] }) h (.tmp t)
 exact this
theorem res_one (he : EnvOK P E) (hgl : GlobOK E.glob w0) (hs : Sim w0 μ H w) {τ : List PV} {tmps : Array Value} (ht : RepL w (Zof μ H w) (ctx μ H w) τ tmps) {K : PV → Heap → Prop} (r : ResultVar)
    (h : (resOne E τ r).wp True K H) : RanS μ H w K ((rdRes tmps r).run P w) := by
 cases r with
 | tmp t =>
  obtain ⟨v, h1, h2⟩ := unt_sound (p := τ.getD t .undef) h trivial (tmpAt ht t)
  exact ⟨v, _, h1, h2, rfl⟩
 | cell a t =>
  obtain ⟨v, h1, h2⟩ := unt_sound (p := τ.getD a .undef) h trivial (tmpAt ht a)
  obtain ⟨⟨pv, y, k1, k2, k3⟩, ad, k4, k5⟩ := loadVia_still he hgl hs trivial h1 h2
  refine ⟨pv, y, k1, k2, ?_⟩
  simp only [rdRes, k4, asAddr, Sem.run_bind, Sem.run_pure, Result.andThen_ok]
  rw [← k5]; exact k3
theorem res_all (he : EnvOK P E) (hgl : GlobOK E.glob w0) (hs : Sim w0 μ H w) {τ : List PV} {tmps : Array Value} (ht : RepL w (Zof μ H w) (ctx μ H w) τ tmps) {Q : PV → Heap → Prop} :
    ∀ (rs : List ResultVar) (k : List PV → Prg PV), (resAll E τ rs k).wp True Q H → ∃ vs xs, (k vs).wp True Q H ∧ RepS w (Zof μ H w) (ctx μ H w) vs xs ∧ (rs.mapM (rdRes tmps)).run P w = .ok xs w
 | [], k, h => ⟨[], [], h, trivial, rfl⟩
 | r :: rs, k, h => by
  simp only [resAll] at h
  obtain ⟨v, x, h1, h2, h3⟩ := res_one he hgl hs ht r ((bind_wp _).1 h)
  obtain ⟨vs, xs, h4, h5, h6⟩ := res_all he hgl hs ht rs _ h1
  refine ⟨v :: vs, x :: xs, h4, ⟨h2, h5⟩, ?_⟩
  simp only [List.mapM_cons, Sem.run_bind, h3, h6, Result.andThen_ok, Sem.run_pure]
theorem results_sound (he : EnvOK P E) (hgl : GlobOK E.glob w0) (hs : Sim w0 μ H w) {fn : Func} {τ : List PV} {tmps : Array Value} (ht : RepL w (Zof μ H w) (ctx μ H w) τ tmps) {Q : PV → Heap → Prop}
    (h : (resAll E τ fn.results.toList fun vs => .ret (one vs)).wp True Q H) : RanS μ H w Q ((results fn tmps).run P w) := by
 obtain ⟨vs, xs, h1, h2, h3⟩ := res_all he hgl hs ht _ _ h
 have hr : (results fn tmps).run P w = .ok (if h : xs.toArray.size = 1 then xs.toArray[0] else .tuple xs.toArray) w := by
  have : (fn.results.mapM (rdRes tmps)).run P w = .ok xs.toArray w := by
   rw [Array.mapM_eq_mapM_toList]
   simp only [Sem.run_map, h3, Result.andThen_ok]
  have e : results fn tmps = fn.results.mapM (rdRes tmps) >>= fun vs => pure (if h : vs.size = 1 then vs[0] else .tuple vs) := by
   unfold results
   congr 1
  rw [e, Sem.run_bind, this, Result.andThen_ok]
  rfl
 refine ⟨one vs, _, h1, ?_, hr⟩
 match vs, xs, h2 with
 | [], [], _ => exact .tup rfl fun j p x a => by simp at a
 | [v], [x], h2 => simpa [one] using h2.1
 | v :: v' :: vs, x :: x' :: xs, h2 =>
  have := h2.length
  simp only [one]
  rw [dif_neg (by simp)]
  exact .tup (by simpa using this) fun j p y a b => h2.get a (by simpa using b)
theorem Rep.other {w w' : World} {Z : Nat → Prop} (hc : ∀ b o v, w.cell? ⟨b, o, none⟩ = some v → w'.cell? ⟨b, o, none⟩ = some v) (hm : ∀ (b : Nat) arr c, w.heap[b]? = some (.map arr c) → w'.heap[b]? = some (.map arr c)) {C : Ctx} {p : PV} {x : Value}
    (h : Rep w Z C p x) : Rep w' Z C p x := by
 induction h with
 | int => exact .int
 | bool => exact .bool
 | undef => exact .undef
 | tnt _ h' ih => exact .tnt ih h'
 | sl sz blk off vals h1 h2 h3 h4 h5 h6 _ ih => exact .sl sz blk off vals h1 h2 h3 h4 h5 (fun i row j p a b => ⟨(h6 i row j p a b).1, hc _ _ _ (h6 i row j p a b).2⟩) ih
 | sref0 => exact .sref0
 | sref h h0 h1 h2 => exact .sref h h0 h1 h2
 | aref h h1 => exact .aref h h1
 | ref h => exact .ref h
 | rref h => exact .rref h
 | eref blk o vals h6 _ ih => exact .eref blk o vals (fun j p a => ⟨(h6 j p a).1, hc _ _ _ (h6 j p a).2⟩) ih
 | gref => exact .gref
 | agg h _ ih => exact .agg h ih
 | tup h _ ih => exact .tup h ih
 | mref h => exact .mref h
 | mp arr clock hz h h1 hl hk _ ih => exact .mp arr clock hz (hm _ _ _ h) h1 hl hk ih
 | fn h1 h2 _ _ ih3 ih4 => exact .fn h1 h2 ih3 ih4
 | yld h => exact .yld h
 | nilfn => exact .nilfn
 | nilmap => exact .nilmap
 | nilptr => exact .nilptr
theorem EntL.imp {w w' : World} {Z Z' : Nat → Prop} {ag : Bool} (h : ∀ p x, Rep w Z Ctx.nil p x → Rep w' Z' Ctx.nil p x) : ∀ {cs : List (List Int × PV)} {xs : List MapEntry}, EntL w Z ag cs xs → EntL w' Z' ag cs xs
 | [], [], _ => trivial
 | _ :: _, _ :: _, k => ⟨⟨k.1.1, h _ _ k.1.2⟩, EntL.imp h k.2⟩
 | [], _ :: _, k => k.elim
 | _ :: _, [], k => k.elim
theorem taken (hs : Sim w0 μ H w) {r : Nat} (h0 : w0.heap.size ≤ r) (h1 : r < w.heap.size) (h2 : ∀ K, μ K ≠ some r) (h3 : w.heap[r]? = some (.deferred (some []))) :
    (Instr.takeDeferred r).run P w = .ok [] { w with heap := w.heap.setIfInBounds r (.deferred none) } ∧ Sim w0 μ H { w with heap := w.heap.setIfInBounds r (.deferred none) } ∧
    (∀ p x, RP μ H w p x → RP μ H { w with heap := w.heap.setIfInBounds r (.deferred none) } p x) ∧
    (∀ {μ0 : Map} {H0 : Heap} {ws : World}, Evo μ0 H0 ws μ H w → ws.heap.size ≤ r → Evo μ0 H0 ws μ H { w with heap := w.heap.setIfInBounds r (.deferred none) }) := by
 have hoth : ∀ k, k ≠ r → ({ w with heap := w.heap.setIfInBounds r (.deferred none) } : World).heap[k]? = w.heap[k]? := fun k hk => by simp [Array.getElem?_setIfInBounds_ne (Ne.symm hk)]
 have hsz : ({ w with heap := w.heap.setIfInBounds r (.deferred none) } : World).heap.size = w.heap.size := by simp
 have hctx : ctx μ H { w with heap := w.heap.setIfInBounds r (.deferred none) } = ctx μ H w := by
  unfold ctx
  congr 1
  funext K v
  cases hK : H K with
  | none => rfl
  | some b =>
   simp only []
   split
   ·cases hμ : μ K with
    | none => rfl
    | some r' =>
     have : r' ≠ r := fun e => h2 K (by rw [hμ, e])
     simp only [Option.map_some, bsize, hoth r' this]
   ·rfl
 have hZ : Zof μ H { w with heap := w.heap.setIfInBounds r (.deferred none) } = Zof μ H w := by
  funext b; simp only [Zof, hsz]
 have hrep : ∀ {Z : Nat → Prop} {C : Ctx} {p : PV} {x : Value}, Rep w Z C p x → Rep { w with heap := w.heap.setIfInBounds r (.deferred none) } Z C p x := fun h => h.other
  (fun b o v hv => by
   by_cases hb : b = r
   ·subst hb; simp [World.cell?, h3] at hv
   ·exact (World.cell?_of_block (w := w) (a := ⟨b, o, none⟩) (hoth b hb)).trans hv)
  (fun b arr c hv => by
   by_cases hb : b = r
   ·subst hb; rw [h3] at hv; cases hv
   ·exact (hoth b hb).trans hv)
 have hrepL : ∀ {Z : Nat → Prop} {C : Ctx} {p : List PV} {x : Array Value}, RepL w Z C p x → RepL { w with heap := w.heap.setIfInBounds r (.deferred none) } Z C p x := fun h => ⟨h.1, fun j p x a b => hrep (h.2 j p x a b)⟩
 refine ⟨?_, ⟨?_, ?_, hs.inj, hs.dom, hs.old, ?_⟩, fun p x h => ?_, fun e hr => ⟨?_, ?_, ?_, ?_, e.n⟩⟩
 ·simp [Instr.takeDeferred, run_getD h3, run_setD _ h3]
 ·refine ⟨⟨hs.below.os, hs.below.tape, hs.below.output, by rw [hsz]; exact hs.below.size, fun k hk => ?_⟩, hs.below.dr⟩
  rw [hoth k (by omega)]; exact hs.below.block k hk
 ·intro K r' hr'; rw [hsz]; exact hs.own K r' hr'
 ·intro K b r' hb hr'
  rw [hctx, hZ]
  have hne : r' ≠ r := fun e => h2 K (by rw [hr', e])
  have hb' := hs.blk K b r' hb hr'
  cases b with
  | cells cs v ro => obtain ⟨arr, T, a1, a2⟩ := hb'; exact ⟨arr, T, (hoth r' hne).trans a1, hrepL a2⟩
  | rows sz rs v ro => obtain ⟨arr, T, a1, a2, a3, a4⟩ := hb'; exact ⟨arr, T, (hoth r' hne).trans a1, a2, a3, fun i row j p x a b c => hrep (a4 i row j p x a b c)⟩
  | map ag kl es v ro => obtain ⟨arr, c, a1, a2, a0, a3, a4⟩ := hb'; exact ⟨arr, c, (hoth r' hne).trans a1, a2, a0, a3, fun i e x a b => hrep (a4 i e x a b)⟩
  | loop rc v => obtain ⟨L, a1, a2, a3, a4, a5, a6, a7, a8⟩ := hb'; exact ⟨L, (hoth r' hne).trans a1, a2, a3, a4, a5, a6, hrepL a7, a8⟩
  | iter ag left cur v =>
   obtain ⟨r1, arr, c, seen, a1, a2, a3, a4, a5, a6⟩ := hb'
   have hr1 : r1 ≠ r := fun e => by rw [e, h3] at a3; cases a3
   exact ⟨r1, arr, c, seen, (hoth r' hne).trans a1, a2, (hoth r1 hr1).trans a3, a4, a5.imp fun p x h => hrep h, fun d hd => (a6 d hd).elim fun x ⟨b1, b2, b3, b4⟩ => ⟨x, b1, b2, b3, b4.1, hrep b4.2⟩⟩
 ·show Rep _ _ _ p x
  rw [hctx, hZ]; exact hrep h
 ·rw [hctx]; exact e.le
 ·rw [hsz]; exact e.size
 ·intro k hk hK
  exact ⟨(hoth k (by omega)).trans (e.fr k hk hK).1, (e.fr k hk hK).2⟩
 ·intro b hb
  rw [hZ]
  have : b ≠ r := by have := hb.1; omega
  exact ⟨(e.z b hb).1, (hoth b this).trans (e.z b hb).2⟩
theorem leaves_sound (he : EnvOK P E) (hgl : GlobOK E.glob w0) {fn : Func} {μ0 : Map} {H0 : Heap} {ws : World} {Q : PV → Heap → Prop} {ro : Option Nat} : ∀ (rs : List Nat) {w : World} {τ : List PV} {tmps : Array Value}, Sim w0 μ H w → Evo μ0 H0 ws μ H w →
    RepL w (Zof μ H w) (ctx μ H w) τ tmps → rs.Nodup → (∀ r ∈ rs, (w0.heap.size ≤ r ∧ r < w.heap.size ∧ (∀ K, μ K ≠ some r) ∧ w.heap[r]? = some (.deferred (some []))) ∧ ws.heap.size ≤ r) →
    (resAll E τ fn.results.toList fun vs => .ret (one vs)).wp True Q H →
    LeavesInM (Fr ro) 0 P fn tmps (BackK w0 μ0 H0 ws Q) (rs.map fun r => { target := .collected r, args := #[] }) .returning w
 | [], w, τ, tmps, hs, e, ht, _, _, h => by
  obtain ⟨pv, x, h1, h2, h3⟩ := results_sound he hgl hs ht h
  exact ⟨x, h3, pv, x, μ, H, rfl, h1, hs, e, h2⟩
 | r :: rs, w, τ, tmps, hs, e, ht, hn, hr, h => by
  obtain ⟨⟨r0, r1, r2, r3⟩, r4⟩ := hr r (List.mem_cons_self ..)
  obtain ⟨t1, t2, t3, t4⟩ := taken (P := P) hs r0 r1 r2 r3
  obtain ⟨n1, n2⟩ := List.nodup_cons.1 hn
  refine ⟨by simp, .inl ⟨r, _, rfl, t1, leaves_sound he hgl rs t2 (t4 e r4) ⟨ht.1, fun j p x a b => t3 p x (ht.2 j p x a b)⟩ n2 (fun r' hr' => ?_) h⟩⟩
  obtain ⟨⟨a0, a1, a2, a3⟩, a4⟩ := hr r' (List.mem_cons_of_mem _ hr')
  have hne : r' ≠ r := fun e => n1 (e ▸ hr')
  exact ⟨⟨a0, by simpa using a1, a2, by simpa [Array.getElem?_setIfInBounds_ne (Ne.symm hne)] using a3⟩, a4⟩
end
section
variable {P : Program} {E : Env} {w0 : World} {μ : Map} {H : Heap} {w : World}
theorem repS_undef {Z : Nat → Prop} {C : Ctx} : ∀ n : Nat, RepS w Z C (List.replicate n .undef) (List.replicate n Go.undef)
 | 0 => trivial
 | n + 1 => ⟨.undef, repS_undef n⟩
theorem tmps_rep {Z : Nat → Prop} {C : Ctx} {as : List PV} {xs : List Value} (h : RepS w Z C as xs) (n : Nat) :
    RepL w Z C (as ++ List.replicate (n - as.length) .undef) (xs.toArray ++ Array.replicate (n - xs.toArray.size) Go.undef) := by
 have hl := h.length
 have := (h.append (repS_undef (n - as.length))).l
 have e : (xs ++ List.replicate (n - as.length) Go.undef).toArray = xs.toArray ++ Array.replicate (n - xs.toArray.size) Go.undef := by
  apply Array.ext'; simp [hl]
 rwa [e] at this
theorem body_sound (he : EnvOK P E) (hgl : GlobOK E.glob w0) {h : Handler} (hh : HandlerOK P w0 h) {path : List Nat} {g : Nat} {fn : Func} {c : Code} (hf : P.funcs[g]? = some fn) (hb : fn.body = some c) (hok : okC c = true)
    {as : List PV} {xs : List Value} {Q : PV → Heap → Prop} (hs : Sim w0 μ H w) (hr : RepS w (Zof μ H w) (ctx μ H w) as xs)
    (hev : ev E h path false g c (retK E fn.results.toList Q) (as ++ List.replicate (fn.ntmps - as.length) .undef) H) (ro : Option Nat) : CallsIn (Fr ro) 0 P g xs.toArray w (BackK w0 μ H w Q) := by
 refine callsIn_fr (ro := none) (callsIn_of_wp_marks hf hb trivial ?_ rfl)
 refine ev_sound (B := w.heap.size) he hgl hh path false g none (fun _ => rfl) c hok _ _ _ H μ w _ hev ⟨hs, tmps_rep hr _, Dfr.nil (Nat.le_refl _)⟩ fun e a' w' k => ?_
 obtain ⟨hp, τ', μ', H', k1, k2, k3⟩ := k
 obtain ⟨_, rs, d1, d2, d3⟩ := k2.df
 have fin : (resAll E τ' fn.results.toList fun vs => .ret (one vs)).wp True Q H' → LeavesInM (Fr none) 0 P fn a'.tmps (BackK w0 μ H w Q) a'.defers .returning w' := fun hq => by
  rw [d1]
  exact leaves_sound he hgl rs k2.sim k3 k2.tm d2 (fun r hr => ⟨⟨Nat.le_trans hs.below.size (d3 r hr).1, (d3 r hr).2⟩, (d3 r hr).1⟩) hq
 cases e with
 | normal => exact fin k1
 | ret => exact fin k1
 | exit id => exact k1.elim
 | _ => exact hp.elim
theorem setAll_rep {Z : Nat → Prop} {C : Ctx} : ∀ (ps : List Nat) {as : List PV} {xs : List Value} {τ : List PV} {tmps : Array Value}, RepS w Z C as xs → RepL w Z C τ tmps →
    RepL w Z C (setAll τ (ps.zip as)) ((ps.zip xs).foldl (fun tmps (p : Nat × Value) => tmps.setIfInBounds p.1 p.2) tmps)
 | [], _, _, _, _, _, ht => ht
 | p :: ps, [], [], _, _, _, ht => ht
 | p :: ps, a :: as, x :: xs, τ, tmps, h, ht => by
  simp only [List.zip_cons_cons, setAll, List.foldl_cons]
  exact setAll_rep ps h.2 (RepL.put (a := { tmps, defers := [] }) ht h.1 (some p))
theorem run_yield {l : Nat} {L : Loop} {xs : List Value} (h : w.heap[l]? = some (.loop L)) (hn : xs.length = L.params.size) :
    (Instr.yield l xs.toArray).run P w = .ok (.round l L.fn ((L.params.toList.zip xs).foldl (fun tmps (p : Nat × Value) => tmps.setIfInBounds p.1 p.2) L.tmps) L.assign L.body) w := by
 have e : (L.params.zip xs.toArray).foldl (fun tmps (t, a) => tmps.setIfInBounds t a) L.tmps = (L.params.toList.zip xs).foldl (fun tmps (p : Nat × Value) => tmps.setIfInBounds p.1 p.2) L.tmps := by
  rw [← Array.foldl_toList]; simp
 have e' : Array.foldl (fun tmps x => tmps.setIfInBounds x.fst x.snd) L.tmps (L.params.zip xs.toArray) 0 L.params.size = (L.params.toList.zip xs).foldl (fun tmps (p : Nat × Value) => tmps.setIfInBounds p.1 p.2) L.tmps := by
  rw [← e]
  congr 1
  simp [hn]
 simp [Instr.yield, run_getLoop h, hn, e']
theorem run_beginRound {l : Nat} {L : Loop} (h : w.heap[l]? = some (.loop L)) (hb : L.state = .ready) :
    (Instr.beginRound l).run P w = .ok () { w with heap := w.heap.setIfInBounds l (.loop { L with state := .busy }) } := by
 simp [Instr.beginRound, run_getLoop h, hb, run_setL _ h]
theorem run_endRound {l : Nat} {L : Loop} (h : w.heap[l]? = some (.loop L)) (j : Option Code) :
    (Instr.endRound l j).run P w = .ok (.bool j.isNone) { w with heap := w.heap.setIfInBounds l (.loop { L with state := if j.isNone then .ready else .done, pending := j }) } := by
 simp [Instr.endRound, run_getLoop h, run_setL _ h]
theorem round_sound (he : EnvOK P E) (hgl : GlobOK E.glob w0) {h : Handler} (hh : HandlerOK P w0 h) {path : List Nat} {Ky : Key} {v : Nat} {r : Rec} {as : List PV} {xs : List Value} {Q : PV → Heap → Prop}
    (hs : Sim w0 μ H w) (hr : RepS w (Zof μ H w) (ctx μ H w) as xs) (hH : H Ky = some (.loop r v)) (h1 : r.st = .ready) (h2 : as.length = r.params.length)
    (hev : ev E h path true r.fn r.assign (asgK fun τ H => H Ky = some (.loop r v) ∧
          ev E h path true r.fn r.body (rndK Ky v r Q) τ (H.set Ky (.loop { r with st := .busy } v))) (setAll r.tmps (r.params.zip as)) H) (ro : Option Nat) {x : Value} (hx : RP μ H w (.yld Ky v) x) :
    ∃ l g tmps as body, x = .func (.yield l) #[] #[] ∧ (Instr.yield l xs.toArray).run P w = .ok (.round l g tmps as body) w ∧ RoundIn (Fr ro) 0 P l g tmps as body w (BackK w0 μ H w Q) := by
 cases hx with
 | @yld _ _ _ l hat =>
  have hμ := ctx_at hat hH rfl
  obtain ⟨L, l1, l2, l3, l4, l5, l6, l7, l8⟩ := hs.blk Ky _ _ hH hμ
  have hyl : RP μ H w (.yld Ky v) (.func (.yield l) #[] #[]) := .yld hat
  refine ⟨l, L.fn, _, L.assign, L.body, rfl, run_yield l1 (by rw [l4, hr.length, h2]; simp), ?_⟩
  refine roundIn_of_wpIn trivial ?_
  rw [l5, l6, show L.params.toList = r.params by rw [l4]]
  refine ev_sound (B := w.heap.size) (ro := some l) he hgl hh path true r.fn (fun h => by cases h) r.assign l8.1 _ _ _ H μ w _ hev ⟨hs, setAll_rep r.params hr l7, Dfr.nil (Nat.le_refl _)⟩ fun e a1 w1 k => ?_
  obtain ⟨hp, τ1, μ1, H1, k1, k2, k3⟩ := k
  cases e with
  | normal =>
   obtain ⟨hH1, k1⟩ := k1
   have hμ1 : μ1 Ky = some l := by
    cases hyl.evo k3 with
    | yld hat => exact ctx_at hat hH1 rfl
   obtain ⟨L1, a1, a2, a3, a4, a5, a6, a7, a8⟩ := k2.sim.blk Ky _ _ hH1 hμ1
   obtain ⟨q1, q2⟩ := loop_write (rc' := { r with st := .busy }) (L' := { L1 with state := .busy }) k2.sim hH1 hμ1 a1 (fun Z C hb => by
    obtain ⟨L3', m1, m2, m3, m4, m5, m6, m7⟩ := hb
    rw [a1] at m1; cases m1
    exact ⟨rfl, m3, m4, m5, m6, m7⟩)
   refine ⟨_, run_beginRound a1 (by rw [a2]; exact h1), ?_⟩
   refine ev_sound (B := w.heap.size) (ro := some l) he hgl hh path true r.fn (fun h => by cases h) r.body l8.2 _ _ _ _ μ1 _ _ k1 ⟨q1, k2.tm.evo q2, k2.df.evo q2⟩ fun e a2' w2 j => ?_
   obtain ⟨hp2, τ2, μ2, H2, j1, j2, j3⟩ := j
   have hend : ∀ (jump : Option Code) (st' : LoopState), st' = (if jump.isNone then .ready else .done) → H2 Ky = some (.loop { r with st := .busy } v) → Q (.bool jump.isNone) (H2.set Ky (.loop { r with st := st', pending := jump } v)) →
       ∃ y w', (Instr.endRound l jump).run P w2 = .ok y w' ∧ BackK w0 μ H w Q (.returned y) w' := by
    intro jump st' hst' hH2 hQ
    have hμ2 : μ2 Ky = some l := by
     cases (hyl.evo ((k3.trans q2).trans j3)) with
     | yld hat => exact ctx_at hat hH2 rfl
    obtain ⟨L2, b1, b2, b3, b4, b5, b6, b7, b8⟩ := j2.sim.blk Ky _ _ hH2 hμ2
    obtain ⟨p1, p2⟩ := loop_write (rc' := { r with st := st', pending := jump }) (L' := { L2 with state := if jump.isNone then .ready else .done, pending := jump }) j2.sim hH2 hμ2 b1 (fun Z C hb => by
     obtain ⟨L3', m1, m2, m3, m4, m5, m6, m7⟩ := hb
     rw [b1] at m1; cases m1
     exact ⟨hst'.symm, rfl, m4, m5, m6, m7⟩)
    exact ⟨_, _, run_endRound b1 jump, _, _, μ2, _, rfl, hQ, p1, ((k3.trans q2).trans j3).trans p2, .bool⟩
   cases e with
   | normal => exact hend none .ready rfl j1.1 j1.2
   | ret => exact hend (some .ret) .done rfl j1.1 j1.2
   | exit id => exact hend (some (.exit id)) .done rfl j1.1 j1.2
   | _ => exact hp2.elim
  | ret => exact k1.elim
  | exit id => exact k1.elim
  | _ => exact hp.elim
theorem callN_sound (he : EnvOK P E) (hgl : GlobOK E.glob w0) : ∀ n, HandlerOK P w0 (callN E n)
 | 0 => fun _ _ _ _ _ _ _ _ _ h => h.elim
 | n + 1 => fun path f as H Q μ w ro xs h hs hr => by
  have ih := callN_sound he hgl n
  simp only [callN] at h
  cases f with
  | fn g first cap =>
   simp only at h ⊢
   split at h
   ·rename_i fn hfn
    split at h
    ·rename_i c hc
     obtain ⟨i1, i2, i3⟩ := he.inl g fn hfn
     exact ⟨i2, body_sound he hgl ih i1 hc (i3 c hc) hs hr h.2 ro⟩
    ·exact h.elim
   ·split at h
    ·rename_i m hm
     obtain ⟨m1, m2⟩ := he.mt g m hm
     exact ⟨m2, calls_fr (m1 w0 hgl μ H w as xs Q h hs hr)⟩
    ·exact h.elim
  | yld Ky v =>
   simp only at h ⊢
   split at h
   ·rename_i r v' hH
    obtain ⟨rfl, h1, h2, h3⟩ := h
    exact fun x hx => round_sound he hgl ih hs hr hH h1 h2 h3 ro hx
   ·exact h.elim
  | _ => exact h.elim
theorem wk_rep {Z : Nat → Prop} {C : Ctx} : ∀ {t r : PV} {x : Value}, wk t r → Rep w Z C t x → Rep w Z C r x := by
 have key : ∀ (n : Nat) {t r : PV} {x : Value} {C : Ctx}, sizeOf t ≤ n → wk t r → Rep w Z C t x → Rep w Z C r x := by
  intro n
  induction n with
  | zero => intro t r x C h; cases t <;> simp at h <;> omega
  | succ n ih =>
   have lst : ∀ {ts rs : List PV}, sizeOf ts ≤ n + 1 → wk.wkL ts rs → ts.length = rs.length ∧ ∀ (j : Nat) p, rs[j]? = some p → ∃ q, ts[j]? = some q ∧ wk q p ∧ sizeOf q ≤ n := by
    intro ts
    induction ts with
    | nil => intro rs _ h; cases rs with
     | nil => exact ⟨rfl, fun j p h => by simp at h⟩
     | cons a as => exact h.elim
    | cons a as iha =>
     intro rs hl h
     cases rs with
     | nil => exact h.elim
     | cons b bs =>
      simp at hl
      obtain ⟨h1, h2⟩ := iha (by omega) h.2
      refine ⟨by simp [h1], fun j p hj => ?_⟩
      cases j with
      | zero => simp at hj; subst hj; exact ⟨a, rfl, h.1, by omega⟩
      | succ j => simpa using h2 j p (by simpa using hj)
   have rws : ∀ {ts rs : List (List PV)}, sizeOf ts ≤ n + 1 → wk.wkR ts rs → ts.length = rs.length ∧ ∀ (i : Nat) row, rs[i]? = some row → ∃ row', ts[i]? = some row' ∧ row'.length = row.length ∧
       ∀ (j : Nat) p, row[j]? = some p → ∃ q, row'[j]? = some q ∧ wk q p ∧ sizeOf q ≤ n := by
    intro ts
    induction ts with
    | nil => intro rs _ h; cases rs with
     | nil => exact ⟨rfl, fun j p h => by simp at h⟩
     | cons a as => exact h.elim
    | cons a as iha =>
     intro rs hl h
     cases rs with
     | nil => exact h.elim
     | cons b bs =>
      simp at hl
      obtain ⟨h1, h2⟩ := iha (by omega) h.2
      obtain ⟨l1, l2⟩ := lst (by omega) h.1
      refine ⟨by simp [h1], fun i row hi => ?_⟩
      cases i with
      | zero => simp at hi; subst hi; exact ⟨a, rfl, l1, l2⟩
      | succ i => simpa using h2 i row (by simpa using hi)
   intro t r x C hn hw hr
   unfold wk at hw
   split at hw
   ·rename_i rows ex rows' ex'
    obtain ⟨hR, he⟩ := hw
    simp at hn
    obtain ⟨e1, e2⟩ := rws (by omega) hR
    cases hr with
    | sl sz blk off vals h1 h2 h3 h4 h5 h6 h7 =>
     refine .sl sz blk off vals (by rw [← e1]; exact h1) h2 (fun h => h3 (he h)) (fun h => h4 fun h0 => h ?_) (fun row hrow => ?_) (fun i row j p a b => ?_) (fun i row j p a b => ?_)
     ·rw [h0] at e1; exact List.eq_nil_of_length_eq_zero e1.symm
     ·obtain ⟨i, hi⟩ := List.mem_iff_getElem?.1 hrow
      obtain ⟨row', g1, g2, g3⟩ := e2 i row hi
      rw [← g2]; exact h5 row' (List.mem_of_getElem? g1)
     ·obtain ⟨row', g1, g2, g3⟩ := e2 i row a
      obtain ⟨q, k1, k2, k3⟩ := g3 j p b
      exact h6 i row' j q g1 k1
     ·obtain ⟨row', g1, g2, g3⟩ := e2 i row a
      obtain ⟨q, k1, k2, k3⟩ := g3 j p b
      exact ih k3 k2 (h7 i row' j q g1 k1)
   ·cases hr with
    | agg h1 h7 =>
     simp at hn
     obtain ⟨e1, e2⟩ := lst (by omega) hw
     exact .agg (h1.trans e1) fun j p x a b => by
      obtain ⟨q, c1, c2, c3⟩ := e2 j p a
      exact ih c3 c2 (h7 j q x c1 b)
   ·cases hr with
    | tup h1 h7 =>
     simp at hn
     obtain ⟨e1, e2⟩ := lst (by omega) hw
     exact .tup (h1.trans e1) fun j p x a b => by
      obtain ⟨q, c1, c2, c3⟩ := e2 j p a
      exact ih c3 c2 (h7 j q x c1 b)
   ·obtain ⟨hw, rfl⟩ := hw
    cases hr with
    | eref blk o vals h6 h7 =>
     simp at hn
     obtain ⟨e1, e2⟩ := lst (by omega) hw
     exact .eref blk o vals (fun j p a => by
      obtain ⟨q, c1, c2, c3⟩ := e2 j p a
      exact h6 j q c1) fun j p a => by
      obtain ⟨q, c1, c2, c3⟩ := e2 j p a
      exact ih c3 c2 (h7 j q c1)
   ·obtain ⟨rfl, hw1, hw2⟩ := hw
    cases hr with
    | fn h1 h2 h3 h4 =>
     simp at hn
     obtain ⟨e1, e2⟩ := lst (by omega) hw1
     obtain ⟨e3, e4⟩ := lst (by omega) hw2
     exact .fn (h1.trans e1) (h2.trans e3) (fun j p x a b => by
      obtain ⟨q, c1, c2, c3⟩ := e2 j p a
      exact ih c3 c2 (h3 j q x c1 b)) fun j p x a b => by
      obtain ⟨q, c1, c2, c3⟩ := e4 j p a
      exact ih c3 c2 (h4 j q x c1 b)
   ·rw [← hw]; exact hr
 intro t r x h1 h2
 exact key _ (Nat.le_refl _) h1 h2
theorem wkL_rep {Z : Nat → Prop} {C : Ctx} : ∀ {ts rs : List PV} {xs : List Value}, wk.wkL ts rs → RepS w Z C ts xs → RepS w Z C rs xs
 | [], [], [], _, _ => trivial
 | _ :: _, _ :: _, _ :: _, h, k => ⟨wk_rep h.1 k.1, wkL_rep h.2 k.2⟩
 | _ :: _, [], _, h, _ => h.elim
 | [], _ :: _, _, h, _ => h.elim
theorem fn_contract (he : EnvOK P E) {n g : Nat} {fn : Func} {c : Code} {args : List PV} {r : PV} (hf : P.funcs[g]? = some fn) (hb : fn.body = some c) (hok : okC c = true) (h : Fn E n g fn c args r) : ContractAt P E.glob g args r := by
 intro w Z xs hZ hgl hrep
 let μ0 : Map := ⟨fun _ => none, fun b => b < w.heap.size ∧ ¬ Z b⟩
 have hs : Sim w μ0 Heap.empty w := ⟨Bel.refl _ _, fun K r h => (by cases h), fun K K' r h => (by cases h), fun K r h => (by cases h), fun b h => h.1, fun K b r h => (by cases h)⟩
 have hzz : ∀ b, Z b → Zof μ0 Heap.empty w b := fun b hb => ⟨hZ b hb, fun K hK => (by cases hK), fun h => h.2 hb⟩
 have := body_sound he hgl (callN_sound he hgl n) (path := []) hf hb hok hs (hrep.mono hzz (fun _ _ => rfl) (Ctx.nil_le _)) h none
 refine (callsIn_wide (n := 0)).1 (this.mono fun e w' hbk => ?_)
 obtain ⟨pv, x, μ', H', rfl, k1, k2, k3, k4⟩ := hbk
 obtain ⟨t, ks, f1, f2, f3⟩ := frz_sound (α := PV) k2 trivial 8 pv x _ k1 k4
 refine ⟨x, rfl, k2.below, (wk_rep f1 f2).mono (fun b hb => ?_) (fun _ _ => rfl) (Ctx.le_refl _)⟩
 rcases hb with hb | ⟨K, _, hK⟩
 ·have hN := hb.2.2
  rw [k3.n] at hN
  by_cases hlt : b < w.heap.size
  ·exact .inl (Classical.byContradiction fun h => hN ⟨hlt, h⟩)
  ·exact .inr ⟨by omega, hb.1⟩
 ·have := k2.own K b hK
  exact .inr this
theorem specOK_of (he : EnvOK P E) {n g : Nat} {fn : Func} {s : Spec} (hf : P.funcs[g]? = some fn) (hok : okC (fn.body.getD .skip) = true)
    (h : ∀ args pre r, s args = some (pre, r) → pre → ∃ args' c, wk.wkL args args' ∧ fn.body = some c ∧ Fn E n g fn c args' r) : SpecOK P E.glob g s := by
 intro args pre r h1 h2 w Z xs hZ hgl hr
 obtain ⟨args', c, k1, k2, k3⟩ := h args pre r h1 h2
 rw [k2] at hok
 exact fn_contract he hf k2 hok k3 w Z xs hZ hgl (wkL_rep k1 hr)
theorem effOK_of (he : EnvOK P E) {n g : Nat} {s : ESpec} (dep : ∀ path args e, s path args = some e → EffDep e)
    (h : ∀ path args e, s path args = some e → ∃ args', wk.wkL args args' ∧ ∀ (H : Heap) (Q : PV → Heap → Prop), e.pre H → (∀ v H', (∀ K, ¬ e.S K → H' K = H K) → e.post H v H' → Q v H') → callN E n path (.fn g [] []) args' H Q) : EffOK P E.glob g s := by
 refine ⟨dep, fun w0 hgl path args e hs μ H w xs hp hsim hr => ?_⟩
 obtain ⟨args', k1, k2⟩ := h path args e hs
 have hc := k2 H (fun v H' => (∀ K, ¬ e.S K → H' K = H K) ∧ e.post H v H') hp fun v H' a b => ⟨a, b⟩
 have c := (callN_sound he hgl n path (.fn g [] []) args' H _ μ w none xs hc hsim (wkL_rep k1 hr)).2
 refine (callsIn_wide (n := 0)).1 (c.mono fun e' w' hb => ?_)
 obtain ⟨pv, x, μ', H', b1, b2, b3, b4, b5⟩ := hb
 exact ⟨pv, x, μ', H', b1, b2, b3, b4, b5⟩
end
@[congr] theorem ev_congr {E h path inR fid c} {Q : Exit → List PV → Heap → Prop} {τ τ' : List PV} {H H' : Heap} (h1 : τ = τ') (h2 : H = H') : ev E h path inR fid c Q τ H = ev E h path inR fid c Q τ' H' := by rw [h1, h2]
@[congr] theorem evOps_congr {E h path site ops l i} {Q : List PV → Heap → Prop} {τ τ' : List PV} {H H' : Heap} (h1 : τ = τ') (h2 : H = H') : evOps E h path site ops l i Q τ H = evOps E h path site ops l i Q τ' H' := by rw [h1, h2]
@[congr] theorem evDraw_congr {E path site ops l i fps fps'} {Q : List PV → Heap → Prop} {τ τ' : List PV} {H H' : Heap} (h0 : fps = fps') (h1 : τ = τ') (h2 : H = H') : evDraw E path site ops l i fps Q τ H = evDraw E path site ops l i fps' Q τ' H' := by rw [h0, h1, h2]
@[congr] theorem wp_congr {α : Type} {q : Prop} {m m' : Prg α} {Q : α → Heap → Prop} {H H' : Heap} (h1 : m = m') (h2 : H = H') : m.wp q Q H = m'.wp q Q H' := by rw [h1, h2]
@[congr] theorem wpF_congr {α : Type} {q : Prop} {m m' : Prg α} {Q : α → Heap → List Key → List Key → Prop} {H H' : Heap} {R R' W W' : List Key} (h1 : m = m') (h2 : H = H') (h3 : R = R') (h4 : W = W') : m.wpF q Q H R W = m'.wpF q Q H' R' W' := by rw [h1, h2, h3, h4]
@[congr] theorem light_congr {m m' : Prg PV} {g g' : Option Prop} {K : PV → Heap → Prop} {H H' : Heap} (h1 : m = m') (h2 : g = g') (h3 : H = H') : light m g K H = light m' g' K H' := by rw [h1, h2, h3]
@[congr] theorem lightF_congr {m m' : Prg PV} {g g' : Option Prop} {K : PV → Heap → List Key → List Key → Prop} {H H' : Heap} (h1 : m = m') (h2 : g = g') (h3 : H = H') : lightF m g K H = lightF m' g' K H' := by rw [h1, h2, h3]
@[congr] theorem callV_congr {E h path} {f f' : PV} {as as' : List PV} {g g' : Option Prop} {K : PV → Heap → Prop} {H H' : Heap} (h1 : f = f') (h2 : as = as') (h3 : g = g') (h4 : H = H') : callV E h path f as g K H = callV E h path f' as' g' K H' := by rw [h1, h2, h3, h4]
@[congr] theorem unt_congr {α : Type} {p p' : PV} {k : PV → Prg α} (h : p = p') : unt p k = unt p' k := by rw [h]
@[congr] theorem frz_congr {α : Type} [Inhabited α] {n : Nat} {p p' : PV} {k : PV → List Key → Prg α} (h : p = p') : frz n p k = frz n p' k := by rw [h]
@[congr] theorem frzL_congr {α : Type} {f : PV → (PV → List Key → Prg α) → Prg α} {ps ps' : List PV} {k : List PV → List Key → Prg α} (h : ps = ps') : frzL f ps k = frzL f ps' k := by rw [h]
def pureD : Nat → PV → Bool
 | 0, _ => false
 | n + 1, p =>
  match p with
  | .agg cs => pureLs (pureD n) cs
  | .tup cs => pureLs (pureD n) cs
  | .fn _ a b => pureLs (pureD n) a && pureLs (pureD n) b
  | .sref .. => false
  | .aref .. => false
  | .ref .. => false
  | .mref .. => false
  | .tnt .. => false
  | .rref .. => false
  | .yld .. => false
  | .undef => false
  | _ => true
where pureLs (f : PV → Bool) : List PV → Bool
 | [] => true
 | p :: ps => f p && pureLs f ps
theorem frzL_pure {α : Type} {f : PV → (PV → List Key → Prg α) → Prg α} {g : PV → Bool} (h : ∀ p k, g p = true → f p k = k p []) : ∀ (ps : List PV) (k : List PV → List Key → Prg α), pureD.pureLs g ps = true → frzL f ps k = k ps []
 | [], k, _ => rfl
 | p :: ps, k, hp => by
  simp [pureD.pureLs] at hp
  simp only [frzL, h p _ hp.1, frzL_pure h ps _ hp.2, List.nil_append]
theorem frz_pure {α : Type} [Inhabited α] : ∀ (n : Nat) (p : PV) (k : PV → List Key → Prg α), pureD n p = true → frz n p k = k p []
 | 0, p, k, h => by simp [pureD] at h
 | n + 1, p, k, h => by
  cases p <;> simp only [pureD, Bool.false_eq_true, Bool.and_eq_true] at h <;> simp only [frz]
  ·exact frzL_pure (frz_pure n) _ _ h
  ·exact frzL_pure (frz_pure n) _ _ h
  ·rw [frzL_pure (frz_pure n) _ _ h.1, frzL_pure (frz_pure n) _ _ h.2]; rfl
def specP (s : Spec) (args : List PV) : Prg PV :=
 match s args with
 | some (pre, r) => .chk pre (.ret r)
 | none => bad
theorem callSpec_pure {s : Spec} {args : List PV} (h : pureD.pureLs (pureD 8) (args.map clean) = true) : callSpec s args = .chk (allT args) (specP s (args.map clean)) := by
 unfold callSpec specP untL
 show Prg.chk _ (frzL (frz 8) (args.map clean) _) = _
 rw [frzL_pure (frz_pure 8) _ _ h]
 cases s (args.map clean) with
 | none => rfl
 | some x => obtain ⟨pre, r⟩ := x; simp [roAll]
theorem pureLs_clean : ∀ {n : Nat} {l : List PV}, pureD.pureLs (pureD n) l = true → allT l ∧ l.map clean = l
 | _, [], _ => ⟨trivial, rfl⟩
 | n, p :: l, h => by
  simp only [pureD.pureLs, Bool.and_eq_true] at h
  obtain ⟨h1, h2⟩ := pureLs_clean (l := l) h.2
  cases n with
  | zero => simp [pureD] at h
  | succ n => cases p <;> first | (simp [pureD] at h; done) | exact ⟨⟨trivial, h1⟩, by simp [clean, h2]⟩
theorem callSpec_eq {s : Spec} {args : List PV} {pre : Prop} {r : PV} (hp : pureD.pureLs (pureD 8) args = true) (hs : s args = some (pre, r)) : callSpec s args = .chk True (.chk pre (.ret r)) := by
 obtain ⟨h1, h2⟩ := pureLs_clean hp
 rw [callSpec_pure (by rw [h2]; exact hp), h2, specP, hs, eq_true h1]
theorem callV_spec {E : Env} {n : Nat} {s : Spec} (hs : E.spec n = some s) (h : Handler) (path : List Nat) (first args cap : List PV) (g : Option Prop) (K : PV → Heap → Prop) (H : Heap) :
    callV E h path (.fn n first cap) args g K H = light (callSpec s (first ++ args ++ cap)) g K H := by simp only [callV, hs]
theorem callV_specT {E : Env} {n : Nat} {s : Spec} (hs : E.spec n = some s) (h : Handler) (path : List Nat) (p : Prop) (first args cap : List PV) (g : Option Prop) (K : PV → Heap → Prop) (H : Heap) :
    callV E h path (.tnt p (.fn n first cap)) args g K H = light (.chk p (callSpec s (first ++ args ++ cap))) g K H := by simp only [callV, hs]
theorem callV_in {E : Env} {n : Nat} (hs : E.spec n = none) (h : Handler) (path : List Nat) (first args cap : List PV) (g : Option Prop) (K : PV → Heap → Prop) (H : Heap) :
    callV E h path (.fn n first cap) args g K H = heavy h path (.fn n [] []) (first ++ args ++ cap) g K H := by simp only [callV, hs]
theorem callV_yld {E : Env} (h : Handler) (path : List Nat) (L : Key) (v : Nat) (args : List PV) (g : Option Prop) (K : PV → Heap → Prop) (H : Heap) :
    callV E h path (.yld L v) args g K H = heavy h path (.yld L v) args g K H := rfl
theorem callV_yldT {E : Env} (h : Handler) (path : List Nat) (p : Prop) (L : Key) (v : Nat) (args : List PV) (g : Option Prop) (K : PV → Heap → Prop) (H : Heap) :
    callV E h path (.tnt p (.yld L v)) args g K H = ((g.getD True → p) ∧ heavy h path (.yld L v) args g K H) := rfl
theorem heavy_none {h : Handler} {path : List Nat} {f : PV} {args : List PV} {K : PV → Heap → Prop} {H : Heap} : heavy h path f args none K H = (untL args .ret).wp True (fun as _ => h path f as H K) H := rfl
theorem heavy_some {h : Handler} {path : List Nat} {f : PV} {args : List PV} {q : Prop} {K : PV → Heap → Prop} {H : Heap} : heavy h path f args (some q) K H = ((q → (untL args .ret).wp True (fun as _ => h path f as H K) H) ∧ (¬ q → K .undef H)) := rfl
theorem stepV_spec {E : Env} {n : Nat} {s : Spec} (hs : E.spec n = some s) (first args cap : List PV) : stepV E (.fn n first cap) args = callSpec s (first ++ args ++ cap) := by simp only [stepV, hs]
section
variable {E : Env} {h : Handler} {path : List Nat} {inR : Bool} {fid : Nat} {Q : Exit → List PV → Heap → Prop} {τ : List PV} {H : Heap}
theorem ev_skip : ev E h path inR fid .skip Q τ H = Q .normal τ H := by simp only [ev]
theorem ev_label {l} : ev E h path inR fid (.label l) Q τ H = Q .normal τ H := by simp only [ev]
theorem ev_ret : ev E h path inR fid .ret Q τ H = Q .ret τ H := by simp only [ev]
theorem ev_exit {id} : ev E h path inR fid (.exit id) Q τ H = Q (.exit id) τ H := by simp only [ev]
theorem ev_seq {a b} : ev E h path inR fid (.seq a b) Q τ H = ev E h path inR fid a (seqK Q (ev E h path inR fid b Q)) τ H := by simp only [ev]
theorem ev_block {id c} : ev E h path inR fid (.block id c) Q τ H = ev E h path inR fid c (blkK id Q) τ H := by simp only [ev]
theorem ev_scope {c} : ev E h path inR fid (.scope c) Q τ H = ev E h path inR fid c (scopeK Q) τ H := by simp only [ev]
theorem ev_region {id l} : ev E h path inR fid (.region id ⟨l⟩ false) Q τ H = evOps E h path (fid * 1000000 + id * 1000) ⟨l⟩ l 0 (Q .normal) τ H := by simp only [ev]
theorem ev_draw {id l} : ev E h path inR fid (.region id ⟨l⟩ true) Q τ H = evDraw E path (fid * 1000000 + id * 1000) ⟨l⟩ l 0 [] (Q .normal) τ H := by simp only [ev]
def condK (v : PV) (X Y : List PV → Heap → Prop) (τ : List PV) (H : Heap) : Prop :=
 match v with
 | .bool b => (b = true → X τ H) ∧ (b = false → Y τ H)
 | .tnt p (.bool b) => p ∧ (b = true → X τ H) ∧ (b = false → Y τ H)
 | _ => False
theorem ev_cond {c x y} : ev E h path inR fid (.cond c x y) Q τ H = condK (opd τ c) (ev E h path inR fid x Q) (ev E h path inR fid y Q) τ H := by simp only [ev]; rfl
theorem condK_bool {b : Bool} {X Y : List PV → Heap → Prop} : condK (.bool b) X Y τ H = ((b = true → X τ H) ∧ (b = false → Y τ H)) := rfl
theorem condK_true {X Y : List PV → Heap → Prop} : condK (.bool true) X Y τ H = X τ H := by simp [condK]
theorem condK_false {X Y : List PV → Heap → Prop} : condK (.bool false) X Y τ H = Y τ H := by simp [condK]
def opsK (E : Env) (h : Handler) (path : List Nat) (site : Nat) (ops : Array Oper) (rest : List Oper) (i : Nat) (Q : List PV → Heap → Prop) (τ : List PV) (dst : Option Nat) (v : PV) (H : Heap) : Prop :=
 evOps E h path site ops rest i Q (putT τ dst v) H
def drwK (E : Env) (path : List Nat) (site : Nat) (ops : Array Oper) (o : Oper) (rest : List Oper) (i : Nat) (fps : List FP) (Q : List PV → Heap → Prop) (τ : List PV) (v : PV) (H : Heap) (R W : List Key) : Prop :=
 compat ops o fps R W ∧ evDraw E path site ops rest (i + 1) (.det i R W :: fps) Q (putT τ o.dst v) H
def drwC (E : Env) (path : List Nat) (site : Nat) (ops : Array Oper) (o : Oper) (rest : List Oper) (i : Nat) (fps : List FP) (Q : List PV → Heap → Prop) (τ : List PV) (H : Heap) (x : Option Eff) : Prop :=
 match x with
 | some e => o.guard = none ∧ e.pre H ∧ compatE ops o fps e.D e.S ∧ ∀ v H', (∀ K, ¬ e.S K → H' K = H K) → e.post H v H' → evDraw E path site ops rest (i + 1) (.eff i e.D e.S :: fps) Q (putT τ o.dst v) H'
 | none => gok ops τ o.guard = true ∧ lightF (stepOf E (path, site + i) τ o.op) (gcond ops τ o.guard) (drwK E path site ops o rest i fps Q τ) H
@[congr] theorem drwC_congr {E path site ops o rest i fps} {Q : List PV → Heap → Prop} {τ τ' : List PV} {H H' : Heap} {x x' : Option Eff} (h1 : τ = τ') (h2 : H = H') (h3 : x = x') : drwC E path site ops o rest i fps Q τ H x = drwC E path site ops o rest i fps Q τ' H' x' := by rw [h1, h2, h3]
theorem drwC_none {site ops o rest i fps} {Q : List PV → Heap → Prop} : drwC E path site ops o rest i fps Q τ H none = (gok ops τ o.guard = true ∧ lightF (stepOf E (path, site + i) τ o.op) (gcond ops τ o.guard) (drwK E path site ops o rest i fps Q τ) H) := rfl
theorem drwC_some {site ops o rest i fps} {Q : List PV → Heap → Prop} {e : Eff} : drwC E path site ops o rest i fps Q τ H (some e) = (o.guard = none ∧ e.pre H ∧ compatE ops o fps e.D e.S ∧ ∀ v H', (∀ K, ¬ e.S K → H' K = H K) → e.post H v H' → evDraw E path site ops rest (i + 1) (.eff i e.D e.S :: fps) Q (putT τ o.dst v) H') := rfl
def tntK (q : Prop) (K : PV → Heap → Prop) (v : PV) (H : Heap) : Prop := K (.tnt q v) H
def tntF (q : Prop) (K : PV → Heap → List Key → List Key → Prop) (v : PV) (H : Heap) (R W : List Key) : Prop := K (.tnt q v) H R W
theorem evOps_nil {site ops i} {Q : List PV → Heap → Prop} : evOps E h path site ops [] i Q τ H = Q τ H := rfl
theorem evOps_c {site ops i dst op ty pos after guard rest} {Q : List PV → Heap → Prop} : evOps E h path site ops ({ dst := dst, op := op, type := ty, pos := pos, after := after, guard := guard } :: rest) i Q τ H =
    (gok ops τ guard = true ∧ match op with
    | .call { callee := .value f, args := as, argTypes := _ } => callV E h ((site + i) :: path) (opd τ f) (as.toList.map (opd τ)) (gcond ops τ guard) (opsK E h path site ops rest (i + 1) Q τ dst) H
    | .next x s => nextV (opd τ x) s (gcond ops τ guard) (opsK E h path site ops rest (i + 1) Q τ dst) H
    | op => light (lop E (path, site + i) τ op) (gcond ops τ guard) (opsK E h path site ops rest (i + 1) Q τ dst) H) := by
 simp only [evOps]
 cases op <;> rfl
theorem evDraw_nil {site ops i fps} {Q : List PV → Heap → Prop} : evDraw E path site ops [] i fps Q τ H = Q τ H := rfl
theorem evDraw_c {site ops i o rest fps} {Q : List PV → Heap → Prop} : evDraw E path site ops (o :: rest) i fps Q τ H = drwC E path site ops o rest i fps Q τ H (effOf E ((site + i) :: path) τ o.op) := by
 rw [evDraw]; unfold drwC; cases effOf E ((site + i) :: path) τ o.op <;> rfl
theorem lightF_none {m : Prg PV} {K : PV → Heap → List Key → List Key → Prop} : lightF m none K H = m.wpF True K H [] [] := rfl
theorem lightF_some {m : Prg PV} {q : Prop} {K : PV → Heap → List Key → List Key → Prop} : lightF m (some q) K H = m.wpF q (tntF q K) H [] [] := rfl
theorem seqK_normal {K} : seqK Q K .normal τ H = K τ H := rfl
theorem seqK_ret {K} : seqK Q K .ret τ H = Q .ret τ H := rfl
theorem seqK_exit {K i} : seqK Q K (.exit i) τ H = Q (.exit i) τ H := rfl
theorem blkK_normal {id} : blkK id Q .normal τ H = Q .normal τ H := rfl
theorem blkK_ret {id} : blkK id Q .ret τ H = Q .ret τ H := rfl
theorem blkK_exit {id i} : blkK id Q (.exit i) τ H = if i = id then Q .normal τ H else Q (.exit i) τ H := rfl
theorem scopeK_normal : scopeK Q .normal τ H = Q .normal τ H := rfl
theorem scopeK_ret : scopeK Q .ret τ H = Q .ret τ H := rfl
theorem scopeK_exit {i} : scopeK Q (.exit i) τ H = Q (.exit i) τ H := rfl
theorem light_none {m : Prg PV} {K : PV → Heap → Prop} : light m none K H = m.wp True K H := rfl
theorem light_some {m : Prg PV} {q : Prop} {K : PV → Heap → Prop} : light m (some q) K H = m.wp q (tntK q K) H := rfl
theorem retK_normal {rs : List ResultVar} {Q : PV → Heap → Prop} : retK E rs Q .normal τ H = (resAll E τ rs fun vs => .ret (one vs)).wp True Q H := rfl
theorem retK_ret {rs : List ResultVar} {Q : PV → Heap → Prop} : retK E rs Q .ret τ H = (resAll E τ rs fun vs => .ret (one vs)).wp True Q H := rfl
@[congr] theorem seqK_congr {K : List PV → Heap → Prop} {e} {τ τ' : List PV} {H H' : Heap} (h1 : τ = τ') (h2 : H = H') : seqK Q K e τ H = seqK Q K e τ' H' := by rw [h1, h2]
@[congr] theorem blkK_congr {id e} {τ τ' : List PV} {H H' : Heap} (h1 : τ = τ') (h2 : H = H') : blkK id Q e τ H = blkK id Q e τ' H' := by rw [h1, h2]
@[congr] theorem scopeK_congr {e} {τ τ' : List PV} {H H' : Heap} (h1 : τ = τ') (h2 : H = H') : scopeK Q e τ H = scopeK Q e τ' H' := by rw [h1, h2]
@[congr] theorem retK_congr {rs : List ResultVar} {Q : PV → Heap → Prop} {e} {τ τ' : List PV} {H H' : Heap} (h1 : τ = τ') (h2 : H = H') : retK E rs Q e τ H = retK E rs Q e τ' H' := by rw [h1, h2]
def lpK {α : Type} (T : α → List PV) (G : α → Heap → Prop) (m : α → Nat) (n : Nat) (Q : Exit → List PV → Heap → Prop) : Exit → List PV → Heap → Prop
 | .normal, τ, H => ∃ y, m y < n ∧ fg (T y) τ ∧ G y H
 | e, τ, H => Q e τ H
theorem lpK_ret {α : Type} {T : α → List PV} {G : α → Heap → Prop} {m : α → Nat} {n : Nat} : lpK T G m n Q .ret τ H = Q .ret τ H := rfl
theorem lpK_exit {α : Type} {T : α → List PV} {G : α → Heap → Prop} {m : α → Nat} {n : Nat} {i} : lpK T G m n Q (.exit i) τ H = Q (.exit i) τ H := rfl
theorem lpK_normal {α : Type} {T : α → List PV} {G : α → Heap → Prop} {m : α → Nat} {n : Nat} : lpK T G m n Q .normal τ H = ∃ y, m y < n ∧ fg (T y) τ ∧ G y H := rfl
theorem ev_loopT {α : Type} (T : α → List PV) (G : α → Heap → Prop) (m : α → Nat) {c : Code} (x0 : α) {H0 : Heap} (h0 : ThawS (T x0) H0 τ H) (h1 : G x0 H0)
    (step : ∀ (K : Exit → List PV → Heap → Prop) (x : α) (H : Heap), G x H → (∀ y τ H H', ThawS (T y) H' τ H → G y H' → m y < m x → K .normal τ H) → (∀ e τ H, e ≠ .normal → Q e τ H → K e τ H) → ev E h path inR fid c K (T x) H) :
    ev E h path inR fid (.loop c) Q τ H := by
 classical
 simp only [ev]
 have hl : ∀ τ H, (∃ x, T x = τ ∧ G x H) → ∃ n, (∃ x, T x = τ ∧ G x H ∧ m x = n) ∧ ∀ k, (∃ x, T x = τ ∧ G x H ∧ m x = k) → n ≤ k := fun τ H ⟨x, a, b⟩ => least _ (m x) ⟨x, a, b, rfl⟩
 refine ⟨fun τ H => ∃ x, T x = τ ∧ G x H, fun τ H => if hx : ∃ x, T x = τ ∧ G x H then Classical.choose (hl τ H hx) else 0, ⟨T x0, H0, h0, x0, rfl, h1⟩, fun τ H hI => ?_⟩
 have hs := Classical.choose_spec (hl τ H hI)
 obtain ⟨⟨x, rfl, hG, hm⟩, hmin⟩ := hs
 refine step _ x H hG (fun y τ' H' H2 e1 e2 e3 => ⟨T y, H2, e1, ⟨y, rfl, e2⟩, ?_⟩) (fun e τ H hne hq => by cases e <;> first | exact absurd rfl hne | exact hq)
 have hy : ∃ x, T x = T y ∧ G x H2 := ⟨y, rfl, e2⟩
 simp only [hy, hI, dif_pos]
 have h2 := (Classical.choose_spec (hl (T y) H2 hy)).2 (m y) ⟨y, rfl, e2, rfl⟩
 omega
theorem ev_loop {α : Type} (T : α → List PV) (G : α → Heap → Prop) (m : α → Nat) {c : Code} (x0 : α) (h0 : fg (T x0) τ) (h1 : G x0 H)
    (step : ∀ (K : Exit → List PV → Heap → Prop) (x : α) (H : Heap), G x H → (∀ y τ H, fg (T y) τ → G y H → m y < m x → K .normal τ H) → (∀ e τ H, e ≠ .normal → Q e τ H → K e τ H) → ev E h path inR fid c K (T x) H) :
    ev E h path inR fid (.loop c) Q τ H :=
 ev_loopT T G m x0 (.of_fg h0) h1 fun K x H hG hK hE => step K x H hG (fun y τ H e1 e2 e3 => hK y τ H H (.of_fg e1) e2 e3) hE
end
mutual
theorem wk_refl : ∀ a : PV, wk a a
 | .sl rows ex => ⟨wkR_refl rows, id⟩
 | .agg xs => wkL_refl xs
 | .tup xs => wkL_refl xs
 | .eref r o => ⟨wkL_refl r, rfl⟩
 | .fn f a b => ⟨rfl, wkL_refl a, wkL_refl b⟩
 | .int _ _ | .bool _ | .undef | .tnt _ _ | .sref .. | .aref .. | .ref .. | .rref .. | .gref .. | .mref .. | .mp .. | .yld .. | .nilfn | .nilmap | .nilptr => rfl
theorem wkL_refl : ∀ l : List PV, wk.wkL l l
 | [] => trivial
 | a :: as => ⟨wk_refl a, wkL_refl as⟩
theorem wkR_refl : ∀ l : List (List PV), wk.wkR l l
 | [] => trivial
 | a :: as => ⟨wkL_refl a, wkR_refl as⟩
end
theorem wk_self (a : PV) : wk a a = True := eq_true (wk_refl a)
theorem wkL_self (a : List PV) : wk.wkL a a = True := eq_true (wkL_refl a)
theorem wkR_self (a : List (List PV)) : wk.wkR a a = True := eq_true (wkR_refl a)
theorem verOf_set (H : Heap) (K K' : Key) (b : PB) : verOf (H.set K b) K' = if K' = K then b.ver else verOf H K' := by
 unfold verOf Heap.set
 by_cases h : K' = K <;> simp [h]
theorem verOf_empty (K : Key) : verOf Heap.empty K = 0 := rfl
theorem empty_at (K : Key) : Heap.empty K = none := rfl
def tab {α : Type} : List (Nat × α) → Nat → Option α
 | [], _ => none
 | p :: ps, n => if n = p.1 then some p.2 else tab ps n
theorem tab_some {α : Type} {n : Nat} {x : α} : ∀ {l : List (Nat × α)}, tab l n = some x → (n, x) ∈ l
 | p :: ps, h => by
  simp only [tab] at h
  split at h
  ·rename_i e; cases h; rw [e]; exact List.mem_cons_self ..
  ·exact List.mem_cons_of_mem _ (tab_some h)
def il (l : List Int) : List (List PV) := l.map fun a => [PV.int .i64 a]
theorem il_length (l : List Int) : (il l).length = l.length := by simp [il]
theorem il_getD (l : List Int) (i : Nat) : (il l).getD i [PV.int .i64 0] = [PV.int .i64 (l.getD i 0)] := by
 simp only [il, List.getD_eq_getElem?_getD, List.getElem?_map]
 cases l[i]? <;> rfl
theorem wrap_id {n : Int} (h : -9223372036854775808 ≤ n ∧ n ≤ 9223372036854775807) : IntKind.i64.wrap n = n := by rw [Go.IntKind.wrap_i64]; omega
def kp (L : List Nat) : Nat → List PV → List PV
 | _, [] => []
 | i, a :: τ => cond (L.any (fun j => j == i)) a .undef :: kp L (i + 1) τ
theorem kp_cons {L : List Nat} {i : Nat} {a : PV} {τ : List PV} : kp L i (a :: τ) = cond (L.any (fun j => j == i)) a .undef :: kp L (i + 1) τ := rfl
theorem kp_nil {L : List Nat} {i : Nat} : kp L i [] = [] := rfl
theorem setAll_nil (τ : List PV) : setAll τ [] = τ := rfl
theorem setAll_cons (τ : List PV) (t : Nat) (p : PV) (ps : List (Nat × PV)) : setAll τ ((t, p) :: ps) = setAll (τ.set t p) ps := rfl
theorem unt_int {α : Type} (k : IntKind) (n : Int) (kk : PV → Prg α) : unt (.int k n) kk = kk (.int k n) := rfl
theorem taint_int (k : IntKind) (n : Int) : taint (.int k n) = True := rfl
theorem clean_int (k : IntKind) (n : Int) : clean (.int k n) = (.int k n) := rfl
theorem cellP_int (k : IntKind) (n : Int) : cellP (.int k n) = true := rfl
theorem valCells_int (k : IntKind) (n : Int) : valCells (.int k n) = [.int k n] := rfl
theorem unt_bool {α : Type} (b : Bool) (kk : PV → Prg α) : unt (.bool b) kk = kk (.bool b) := rfl
theorem taint_bool (b : Bool) : taint (.bool b) = True := rfl
theorem clean_bool (b : Bool) : clean (.bool b) = (.bool b) := rfl
theorem cellP_bool (b : Bool) : cellP (.bool b) = true := rfl
theorem valCells_bool (b : Bool) : valCells (.bool b) = [.bool b] := rfl
theorem unt_undef {α : Type}  (kk : PV → Prg α) : unt (.undef) kk = kk (.undef) := rfl
theorem taint_undef  : taint (.undef) = True := rfl
theorem clean_undef  : clean (.undef) = (.undef) := rfl
theorem cellP_undef  : cellP (.undef) = false := rfl
theorem valCells_undef  : valCells (.undef) = [.undef] := rfl
theorem unt_sl {α : Type} (rows : List (List PV)) (ex : Bool) (kk : PV → Prg α) : unt (.sl rows ex) kk = kk (.sl rows ex) := rfl
theorem taint_sl (rows : List (List PV)) (ex : Bool) : taint (.sl rows ex) = True := rfl
theorem clean_sl (rows : List (List PV)) (ex : Bool) : clean (.sl rows ex) = (.sl rows ex) := rfl
theorem cellP_sl (rows : List (List PV)) (ex : Bool) : cellP (.sl rows ex) = true := rfl
theorem valCells_sl (rows : List (List PV)) (ex : Bool) : valCells (.sl rows ex) = [.sl rows ex] := rfl
theorem unt_sref {α : Type} (K : Key) (v sz n : Nat) (ex : Bool) (kk : PV → Prg α) : unt (.sref K v sz n ex) kk = kk (.sref K v sz n ex) := rfl
theorem taint_sref (K : Key) (v sz n : Nat) (ex : Bool) : taint (.sref K v sz n ex) = True := rfl
theorem clean_sref (K : Key) (v sz n : Nat) (ex : Bool) : clean (.sref K v sz n ex) = (.sref K v sz n ex) := rfl
theorem cellP_sref (K : Key) (v sz n : Nat) (ex : Bool) : cellP (.sref K v sz n ex) = true := rfl
theorem valCells_sref (K : Key) (v sz n : Nat) (ex : Bool) : valCells (.sref K v sz n ex) = [.sref K v sz n ex] := rfl
theorem unt_aref {α : Type} (K : Key) (v off sz n : Nat) (kk : PV → Prg α) : unt (.aref K v off sz n) kk = kk (.aref K v off sz n) := rfl
theorem taint_aref (K : Key) (v off sz n : Nat) : taint (.aref K v off sz n) = True := rfl
theorem clean_aref (K : Key) (v off sz n : Nat) : clean (.aref K v off sz n) = (.aref K v off sz n) := rfl
theorem cellP_aref (K : Key) (v off sz n : Nat) : cellP (.aref K v off sz n) = true := rfl
theorem valCells_aref (K : Key) (v off sz n : Nat) : valCells (.aref K v off sz n) = [.aref K v off sz n] := rfl
theorem unt_ref {α : Type} (K : Key) (v off : Nat) (kk : PV → Prg α) : unt (.ref K v off) kk = kk (.ref K v off) := rfl
theorem taint_ref (K : Key) (v off : Nat) : taint (.ref K v off) = True := rfl
theorem clean_ref (K : Key) (v off : Nat) : clean (.ref K v off) = (.ref K v off) := rfl
theorem cellP_ref (K : Key) (v off : Nat) : cellP (.ref K v off) = true := rfl
theorem valCells_ref (K : Key) (v off : Nat) : valCells (.ref K v off) = [.ref K v off] := rfl
theorem unt_rref {α : Type} (K : Key) (v sz i : Nat) (d : List PV) (off : Nat) (kk : PV → Prg α) : unt (.rref K v sz i d off) kk = kk (.rref K v sz i d off) := rfl
theorem taint_rref (K : Key) (v sz i : Nat) (d : List PV) (off : Nat) : taint (.rref K v sz i d off) = True := rfl
theorem clean_rref (K : Key) (v sz i : Nat) (d : List PV) (off : Nat) : clean (.rref K v sz i d off) = (.rref K v sz i d off) := rfl
theorem cellP_rref (K : Key) (v sz i : Nat) (d : List PV) (off : Nat) : cellP (.rref K v sz i d off) = true := rfl
theorem valCells_rref (K : Key) (v sz i : Nat) (d : List PV) (off : Nat) : valCells (.rref K v sz i d off) = [.rref K v sz i d off] := rfl
theorem unt_eref {α : Type} (row : List PV) (off : Nat) (kk : PV → Prg α) : unt (.eref row off) kk = kk (.eref row off) := rfl
theorem taint_eref (row : List PV) (off : Nat) : taint (.eref row off) = True := rfl
theorem clean_eref (row : List PV) (off : Nat) : clean (.eref row off) = (.eref row off) := rfl
theorem cellP_eref (row : List PV) (off : Nat) : cellP (.eref row off) = true := rfl
theorem valCells_eref (row : List PV) (off : Nat) : valCells (.eref row off) = [.eref row off] := rfl
theorem unt_gref {α : Type} (g off : Nat) (kk : PV → Prg α) : unt (.gref g off) kk = kk (.gref g off) := rfl
theorem taint_gref (g off : Nat) : taint (.gref g off) = True := rfl
theorem clean_gref (g off : Nat) : clean (.gref g off) = (.gref g off) := rfl
theorem cellP_gref (g off : Nat) : cellP (.gref g off) = true := rfl
theorem valCells_gref (g off : Nat) : valCells (.gref g off) = [.gref g off] := rfl
theorem unt_agg {α : Type} (cs : List PV) (kk : PV → Prg α) : unt (.agg cs) kk = kk (.agg cs) := rfl
theorem taint_agg (cs : List PV) : taint (.agg cs) = True := rfl
theorem clean_agg (cs : List PV) : clean (.agg cs) = (.agg cs) := rfl
theorem cellP_agg (cs : List PV) : cellP (.agg cs) = false := rfl
theorem valCells_agg (cs : List PV) : valCells (.agg cs) = cs := rfl
theorem unt_tup {α : Type} (vs : List PV) (kk : PV → Prg α) : unt (.tup vs) kk = kk (.tup vs) := rfl
theorem taint_tup (vs : List PV) : taint (.tup vs) = True := rfl
theorem clean_tup (vs : List PV) : clean (.tup vs) = (.tup vs) := rfl
theorem cellP_tup (vs : List PV) : cellP (.tup vs) = false := rfl
theorem valCells_tup (vs : List PV) : valCells (.tup vs) = [.tup vs] := rfl
theorem unt_mref {α : Type} (K : Key) (v : Nat) (kk : PV → Prg α) : unt (.mref K v) kk = kk (.mref K v) := rfl
theorem taint_mref (K : Key) (v : Nat) : taint (.mref K v) = True := rfl
theorem clean_mref (K : Key) (v : Nat) : clean (.mref K v) = (.mref K v) := rfl
theorem cellP_mref (K : Key) (v : Nat) : cellP (.mref K v) = true := rfl
theorem valCells_mref (K : Key) (v : Nat) : valCells (.mref K v) = [.mref K v] := rfl
theorem unt_mp {α : Type} (ag : Bool) (kl : Nat) (es : List (List Int × PV)) (kk : PV → Prg α) : unt (.mp ag kl es) kk = kk (.mp ag kl es) := rfl
theorem taint_mp (ag : Bool) (kl : Nat) (es : List (List Int × PV)) : taint (.mp ag kl es) = True := rfl
theorem clean_mp (ag : Bool) (kl : Nat) (es : List (List Int × PV)) : clean (.mp ag kl es) = (.mp ag kl es) := rfl
theorem cellP_mp (ag : Bool) (kl : Nat) (es : List (List Int × PV)) : cellP (.mp ag kl es) = true := rfl
theorem valCells_mp (ag : Bool) (kl : Nat) (es : List (List Int × PV)) : valCells (.mp ag kl es) = [.mp ag kl es] := rfl
theorem unt_fn {α : Type} (f : Nat) (first cap : List PV) (kk : PV → Prg α) : unt (.fn f first cap) kk = kk (.fn f first cap) := rfl
theorem taint_fn (f : Nat) (first cap : List PV) : taint (.fn f first cap) = True := rfl
theorem clean_fn (f : Nat) (first cap : List PV) : clean (.fn f first cap) = (.fn f first cap) := rfl
theorem cellP_fn (f : Nat) (first cap : List PV) : cellP (.fn f first cap) = true := rfl
theorem valCells_fn (f : Nat) (first cap : List PV) : valCells (.fn f first cap) = [.fn f first cap] := rfl
theorem unt_yld {α : Type} (K : Key) (v : Nat) (kk : PV → Prg α) : unt (.yld K v) kk = kk (.yld K v) := rfl
theorem taint_yld (K : Key) (v : Nat) : taint (.yld K v) = True := rfl
theorem clean_yld (K : Key) (v : Nat) : clean (.yld K v) = (.yld K v) := rfl
theorem cellP_yld (K : Key) (v : Nat) : cellP (.yld K v) = true := rfl
theorem valCells_yld (K : Key) (v : Nat) : valCells (.yld K v) = [.yld K v] := rfl
theorem unt_nilfn {α : Type}  (kk : PV → Prg α) : unt (.nilfn) kk = kk (.nilfn) := rfl
theorem taint_nilfn  : taint (.nilfn) = True := rfl
theorem clean_nilfn  : clean (.nilfn) = (.nilfn) := rfl
theorem cellP_nilfn  : cellP (.nilfn) = true := rfl
theorem valCells_nilfn  : valCells (.nilfn) = [.nilfn] := rfl
theorem unt_nilmap {α : Type}  (kk : PV → Prg α) : unt (.nilmap) kk = kk (.nilmap) := rfl
theorem taint_nilmap  : taint (.nilmap) = True := rfl
theorem clean_nilmap  : clean (.nilmap) = (.nilmap) := rfl
theorem cellP_nilmap  : cellP (.nilmap) = true := rfl
theorem valCells_nilmap  : valCells (.nilmap) = [.nilmap] := rfl
theorem unt_nilptr {α : Type}  (kk : PV → Prg α) : unt (.nilptr) kk = kk (.nilptr) := rfl
theorem taint_nilptr  : taint (.nilptr) = True := rfl
theorem clean_nilptr  : clean (.nilptr) = (.nilptr) := rfl
theorem cellP_nilptr  : cellP (.nilptr) = true := rfl
theorem valCells_nilptr  : valCells (.nilptr) = [.nilptr] := rfl
theorem unt_tnt {α : Type} (p : Prop) (v : PV) (kk : PV → Prg α) : unt (.tnt p v) kk = .chk p (kk v) := rfl
theorem taint_tnt (p : Prop) (v : PV) : taint (.tnt p v) = p := rfl
theorem clean_tnt (p : Prop) (v : PV) : clean (.tnt p v) = v := rfl
theorem cellP_tnt (p : Prop) (v : PV) : cellP (.tnt p v) = false := rfl
theorem valCells_tnt (p : Prop) (v : PV) : valCells (.tnt p v) = [.tnt p v] := rfl
theorem frz_int {α : Type} [Inhabited α] (n : Nat) (k : IntKind) (m : Int) (kk : PV → List Key → Prg α) : frz (n + 1) (.int k m) kk = kk (.int k m) [] := by cases n <;> rfl
theorem frz_bool {α : Type} [Inhabited α] (n : Nat) (b : Bool) (kk : PV → List Key → Prg α) : frz (n + 1) (.bool b) kk = kk (.bool b) [] := by cases n <;> rfl
theorem frz_sl {α : Type} [Inhabited α] (n : Nat) (rows : List (List PV)) (ex : Bool) (kk : PV → List Key → Prg α) : frz (n + 1) (.sl rows ex) kk = kk (.sl rows ex) [] := by cases n <;> rfl
theorem frz_eref {α : Type} [Inhabited α] (n : Nat) (row : List PV) (off : Nat) (kk : PV → List Key → Prg α) : frz (n + 1) (.eref row off) kk = kk (.eref row off) [] := by cases n <;> rfl
theorem frz_gref {α : Type} [Inhabited α] (n : Nat) (g off : Nat) (kk : PV → List Key → Prg α) : frz (n + 1) (.gref g off) kk = kk (.gref g off) [] := by cases n <;> rfl
theorem frz_mp {α : Type} [Inhabited α] (n : Nat) (ag : Bool) (kl : Nat) (es : List (List Int × PV)) (kk : PV → List Key → Prg α) : frz (n + 1) (.mp ag kl es) kk = kk (.mp ag kl es) [] := by cases n <;> rfl
theorem frz_nilfn {α : Type} [Inhabited α] (n : Nat)  (kk : PV → List Key → Prg α) : frz (n + 1) (.nilfn) kk = kk (.nilfn) [] := by cases n <;> rfl
theorem frz_nilmap {α : Type} [Inhabited α] (n : Nat)  (kk : PV → List Key → Prg α) : frz (n + 1) (.nilmap) kk = kk (.nilmap) [] := by cases n <;> rfl
theorem frz_nilptr {α : Type} [Inhabited α] (n : Nat)  (kk : PV → List Key → Prg α) : frz (n + 1) (.nilptr) kk = kk (.nilptr) [] := by cases n <;> rfl
theorem frz_undef {α : Type} [Inhabited α] (n : Nat)  (kk : PV → List Key → Prg α) : frz (n + 1) (.undef) kk = .chk False (.ret default) := by cases n <;> rfl
theorem frz_tnt {α : Type} [Inhabited α] (n : Nat) (p : Prop) (v : PV) (kk : PV → List Key → Prg α) : frz (n + 1) (.tnt p v) kk = .chk False (.ret default) := by cases n <;> rfl
theorem frz_rref {α : Type} [Inhabited α] (n : Nat) (K : Key) (v sz i : Nat) (d : List PV) (off : Nat) (kk : PV → List Key → Prg α) : frz (n + 1) (.rref K v sz i d off) kk = .chk False (.ret default) := by cases n <;> rfl
theorem frz_yld {α : Type} [Inhabited α] (n : Nat) (K : Key) (v : Nat) (kk : PV → List Key → Prg α) : frz (n + 1) (.yld K v) kk = .chk False (.ret default) := by cases n <;> rfl
theorem frz_sref {α : Type} [Inhabited α] (n : Nat) (K : Key) (v sz m : Nat) (ex : Bool) (kk : PV → List Key → Prg α) : frz (n + 1) (.sref K v sz m ex) kk = .get K fun b =>
      match b with
      | some (.rows sz' rs v' _) => .chk (v = v' ∧ sz = sz' ∧ m = rs.length) (kk (.sl rs ex) [K])
      | _ => .chk False (.ret default) := by cases n <;> rfl
theorem frz_aref {α : Type} [Inhabited α] (n : Nat) (K : Key) (v off sz m : Nat) (kk : PV → List Key → Prg α) : frz (n + 1) (.aref K v off sz m) kk = .get K fun b =>
      match b with
      | some (.cells cs v' _) => .chk (v = v' ∧ 0 < sz ∧ off + m * sz ≤ cs.length) (
        match flat.flatL cs with
        | true => kk (.sl (arows sz m (cs.drop off)) false) [K]
        | false => .chk (n ≠ 7) (frzL (frz n) cs fun ts ks => kk (.sl (arows sz m (ts.drop off)) false) (K :: ks)))
      | _ => .chk False (.ret default) := by cases n <;> rfl
theorem frz_ref {α : Type} [Inhabited α] (n : Nat) (K : Key) (v off : Nat) (kk : PV → List Key → Prg α) : frz (n + 1) (.ref K v off) kk = .get K fun b =>
      match b with
      | some (.cells cs v' _) => .chk (v = v') (frzL (frz n) cs fun ts ks => kk (.eref ts off) (K :: ks))
      | _ => .chk False (.ret default) := by cases n <;> rfl
theorem frz_mref {α : Type} [Inhabited α] (n : Nat) (K : Key) (v : Nat) (kk : PV → List Key → Prg α) : frz (n + 1) (.mref K v) kk = .get K fun b =>
      match b with
      | some (.map ag kl es v' _) => .chk (v = v') (kk (.mp ag kl es) [K])
      | _ => .chk False (.ret default) := by cases n <;> rfl
theorem frz_agg {α : Type} [Inhabited α] (n : Nat) (cs : List PV) (kk : PV → List Key → Prg α) : frz (n + 1) (.agg cs) kk = frzL (frz n) cs fun ts ks => kk (.agg ts) ks := by cases n <;> rfl
theorem frz_tup {α : Type} [Inhabited α] (n : Nat) (cs : List PV) (kk : PV → List Key → Prg α) : frz (n + 1) (.tup cs) kk = frzL (frz n) cs fun ts ks => kk (.tup ts) ks := by cases n <;> rfl
theorem frz_fn {α : Type} [Inhabited α] (n : Nat) (f : Nat) (first cap : List PV) (kk : PV → List Key → Prg α) : frz (n + 1) (.fn f first cap) kk = frzL (frz n) first fun ts ks => frzL (frz n) cap fun us ls => kk (.fn f ts us) (ks ++ ls) := by cases n <;> rfl
def lenK (k : TK) (n : Nat) : Prg PV :=
 match k with
 | .arr m _ => .ret (.int .i64 m)
 | .slice _ => .ret (.int .i64 n)
 | _ => bad
theorem len_sl (E : Env) (t : Nat) (rows : List (List PV)) (ex : Bool) : len E t (.sl rows ex) = lenK (E.ti t).kind rows.length := by unfold len lenK; cases (E.ti t).kind <;> rfl
theorem len_sref (E : Env) (t : Nat) (K : Key) (v sz n : Nat) (ex : Bool) : len E t (.sref K v sz n ex) = lenK (E.ti t).kind n := by unfold len lenK; cases (E.ti t).kind <;> rfl
theorem len_aref (E : Env) (t : Nat) (K : Key) (v off sz n : Nat) : len E t (.aref K v off sz n) = lenK (E.ti t).kind n := by unfold len lenK; cases (E.ti t).kind <;> rfl
def lenM (k : TK) (n : Nat) : Prg PV :=
 match k with
 | .arr m _ => .ret (.int .i64 m)
 | .map _ _ => .ret (.int .i64 n)
 | _ => bad
theorem len_mp (E : Env) (t : Nat) (ag : Bool) (kl : Nat) (es : List (List Int × PV)) : len E t (.mp ag kl es) = lenM (E.ti t).kind es.length := by unfold len lenM; cases (E.ti t).kind <;> rfl
theorem len_nilmap (E : Env) (t : Nat) : len E t .nilmap = lenM (E.ti t).kind 0 := by unfold len lenM; cases (E.ti t).kind <;> rfl
def lenG (k : TK) (K : Key) (v : Nat) : Prg PV :=
 match k with
 | .arr m _ => .ret (.int .i64 m)
 | .map _ _ => .get K fun b =>
  match b with
  | some (.map _ _ es v' _) => .chk (v = v') (.ret (.int .i64 es.length))
  | _ => bad
 | _ => bad
theorem len_mref (E : Env) (t : Nat) (K : Key) (v : Nat) : len E t (.mref K v) = lenG (E.ti t).kind K v := by unfold len lenG; cases (E.ti t).kind <;> rfl
def lenA (k : TK) : Prg PV :=
 match k with
 | .arr m _ => .ret (.int .i64 m)
 | _ => bad
theorem len_agg (E : Env) (t : Nat) (cs : List PV) : len E t (.agg cs) = lenA (E.ti t).kind := by unfold len lenA; cases (E.ti t).kind <;> rfl
theorem len_ref (E : Env) (t : Nat) (K : Key) (v off : Nat) : len E t (.ref K v off) = lenA (E.ti t).kind := by unfold len lenA; cases (E.ti t).kind <;> rfl
theorem isNil_tmp (t : Nat) : isNil (.tmp t) = false := by cases t <;> rfl
theorem isNil_const (v : Value) : isNil (.const v) = nilV v := by cases v <;> rfl
theorem isNil_global (g : Nat) : isNil (.global g) = false := by cases g <;> rfl
theorem isNil_func (g : Nat) : isNil (.func g) = false := by cases g <;> rfl
theorem nilV_int (k : IntKind) (n : Int) : nilV (.int k n) = false := by cases n <;> rfl
theorem nilV_bool (b : Bool) : nilV (.bool b) = false := by cases b <;> rfl
theorem nilV_nil : nilV (.slice none 0 0) = true := by decide
theorem nilV_map (m : Option Nat) : nilV (.map m) = false := by cases m <;> rfl
theorem nilV_func : nilV .nilFunc = false := by decide
theorem nilV_pointer (m : Option Addr) : nilV (.pointer m) = false := by cases m <;> rfl
theorem binN_false (E : Env) (op : BinOp) (t : Nat) (x y : PV) : binN false E op t x y = bin E op t x y := by cases x <;> rfl
theorem binN_true (E : Env) (op : BinOp) (t : Nat) (x y : PV) : binN true E op t x y = match (E.ti t).kind, x, op with
    | .slice _, .sl (_ :: _) _, .eql => .ret (.bool false)
    | .slice _, .sl (_ :: _) _, .neq => .ret (.bool true)
    | _, _, _ => bad := by cases x <;> rfl
attribute [go_sem] isNil_tmp isNil_const isNil_global isNil_func nilV_int nilV_bool nilV_nil nilV_map nilV_func nilV_pointer binN_false binN_true
theorem opd_tmp (τ : List PV) (t : Nat) : opd τ (.tmp t) = τ.getD t .undef := by cases τ <;> rfl
theorem opd_const (τ : List PV) (v : Value) : opd τ (.const v) = cpv v := by cases τ <;> rfl
theorem opd_global (τ : List PV) (g : Nat) : opd τ (.global g) = .gref g 0 := by cases τ <;> rfl
theorem opd_func (τ : List PV) (f : Nat) : opd τ (.func f) = .fn f [] [] := by cases τ <;> rfl
theorem effOf_move (E : Env) (p : List Nat) (τ : List PV) (x : Operand) : effOf E p τ (.move x) = none := by cases τ <;> rfl
theorem effOf_assign (E : Env) (p : List Nat) (τ : List PV) (x : Operand) : effOf E p τ (.assign x) = none := by cases τ <;> rfl
theorem effOf_pick (E : Env) (p : List Nat) (τ : List PV) (c a b : Operand) : effOf E p τ (.pick c a b) = none := by cases τ <;> rfl
theorem effOf_alloc (E : Env) (p : List Nat) (τ : List PV) (e : Nat) : effOf E p τ (.alloc e) = none := by cases τ <;> rfl
theorem effOf_box (E : Env) (p : List Nat) (τ : List PV) (e : Nat) (x : Operand) : effOf E p τ (.box e x) = none := by cases τ <;> rfl
theorem effOf_build (E : Env) (p : List Nat) (τ : List PV) (t : Nat) (ps : Array (Nat × Operand)) : effOf E p τ (.build t ps) = none := by cases τ <;> rfl
theorem effOf_buildSlice (E : Env) (p : List Nat) (τ : List PV) (t n : Nat) (ps : Array (Nat × Operand)) : effOf E p τ (.buildSlice t n ps) = none := by cases τ <;> rfl
theorem effOf_load (E : Env) (p : List Nat) (τ : List PV) (t : Nat) (a : Operand) : effOf E p τ (.load t a) = none := by cases τ <;> rfl
theorem effOf_store (E : Env) (p : List Nat) (τ : List PV) (t : Nat) (a x : Operand) : effOf E p τ (.store t a x) = none := by cases τ <;> rfl
theorem effOf_binOp (E : Env) (p : List Nat) (τ : List PV) (op : BinOp) (t : Nat) (x y : Operand) (u : Nat) : effOf E p τ (.binOp op t x y u) = none := by cases τ <;> rfl
theorem effOf_unOp (E : Env) (p : List Nat) (τ : List PV) (op : UnOp) (t : Nat) (x : Operand) : effOf E p τ (.unOp op t x) = none := by cases τ <;> rfl
theorem effOf_makeFunc (E : Env) (p : List Nat) (τ : List PV) (f : Go.Fn) (a b : Array Operand) : effOf E p τ (.makeFunc f a b) = none := by cases τ <;> rfl
theorem effOf_makeMap (E : Env) (p : List Nat) (τ : List PV) (t : Nat) (r : Option Operand) : effOf E p τ (.makeMap t r) = none := by cases τ <;> rfl
theorem effOf_makeSlice (E : Env) (p : List Nat) (τ : List PV) (t : Nat) (l c : Operand) : effOf E p τ (.makeSlice t l c) = none := by cases τ <;> rfl
theorem effOf_slice (E : Env) (p : List Nat) (τ : List PV) (t : Nat) (x : Operand) (lo hi mx : Option Operand) : effOf E p τ (.slice t x lo hi mx) = none := by cases τ <;> rfl
theorem effOf_fieldAddr (E : Env) (p : List Nat) (τ : List PV) (t : Nat) (x : Operand) (f : Nat) : effOf E p τ (.fieldAddr t x f) = none := by cases τ <;> rfl
theorem effOf_field (E : Env) (p : List Nat) (τ : List PV) (t : Nat) (x : Operand) (f : Nat) : effOf E p τ (.field t x f) = none := by cases τ <;> rfl
theorem effOf_indexAddr (E : Env) (p : List Nat) (τ : List PV) (t : Nat) (x i : Operand) : effOf E p τ (.indexAddr t x i) = none := by cases τ <;> rfl
theorem effOf_index (E : Env) (p : List Nat) (τ : List PV) (t : Nat) (x i : Operand) : effOf E p τ (.index t x i) = none := by cases τ <;> rfl
theorem effOf_lookup (E : Env) (p : List Nat) (τ : List PV) (t : Nat) (m k : Operand) (ok : Bool) : effOf E p τ (.lookup t m k ok) = none := by cases τ <;> rfl
theorem effOf_mapUpdate (E : Env) (p : List Nat) (τ : List PV) (t : Nat) (m k x : Operand) : effOf E p τ (.mapUpdate t m k x) = none := by cases τ <;> rfl
theorem effOf_insert (E : Env) (p : List Nat) (τ : List PV) (t : Nat) (m k x : Operand) : effOf E p τ (.insert t m k x) = none := by cases τ <;> rfl
theorem effOf_extract (E : Env) (p : List Nat) (τ : List PV) (x : Operand) (i : Nat) : effOf E p τ (.extract x i) = none := by cases τ <;> rfl
theorem effOf_builtin (E : Env) (p : List Nat) (τ : List PV) (b : Builtin) (as : Array Operand) (ts : Array Nat) : effOf E p τ (.call { callee := .builtin b, args := as, argTypes := ts }) = none := by cases τ <;> rfl
theorem effOf_value (E : Env) (p : List Nat) (τ : List PV) (f : Operand) (as : Array Operand) (ts : Array Nat) : effOf E p τ (.call { callee := .value f, args := as, argTypes := ts }) = effV E p (opd τ f) (as.toList.map (opd τ)) := by cases τ <;> rfl
theorem effV_spec {E : Env} {n : Nat} {s : Spec} (hs : E.spec n = some s) (p : List Nat) (first args cap : List PV) : effV E p (.fn n first cap) args = none := by simp only [effV, effN, hs]
theorem effV_tnt (E : Env) (p : List Nat) (q : Prop) (v : PV) (args : List PV) : effV E p (.tnt q v) args = none := by cases v <;> rfl
theorem effV_eff {E : Env} {n : Nat} {s : ESpec} (hs : E.spec n = none) (he : E.eff n = some s) (p : List Nat) (first args cap : List PV) : effV E p (.fn n first cap) args = (s p ((first ++ args ++ cap).map clean)).map fun e => { e with pre := fun H => allT (first ++ args ++ cap) ∧ e.pre H } := by
 simp only [effV, effN, hs, he]
attribute [go_sem] effOf_move effOf_assign effOf_pick effOf_alloc effOf_box effOf_build effOf_buildSlice effOf_load effOf_store effOf_binOp effOf_unOp effOf_makeFunc effOf_makeMap effOf_makeSlice effOf_slice effOf_fieldAddr effOf_field effOf_indexAddr effOf_index effOf_lookup effOf_mapUpdate effOf_insert effOf_extract effOf_builtin effOf_value effV_tnt drwC_none drwC_some disjP compatE Option.map_some
theorem disj_nil : ∀ L : List Key, disj L [] = True
 | [] => rfl
 | K :: L => by simp only [disj, List.not_mem_nil, not_false_eq_true, disj_nil L, and_self]
attribute [go_sem] disj_nil
attribute [go_sem] Option.getD_some ev_seq ev_region ev_draw ev_ret ev_skip ev_label ev_exit ev_block ev_scope ev_cond condK_true condK_false evOps_nil evOps_c evDraw_nil evDraw_c opsK drwK tntK tntF seqK_normal seqK_ret seqK_exit blkK_normal blkK_ret blkK_exit scopeK_normal scopeK_ret scopeK_exit lpK_normal lpK_ret lpK_exit retK_normal retK_ret light_none light_some lightF_none lightF_some lop stepOf  untL allT opd_tmp opd_const opd_global opd_func cpv gok gcond gtmp gval gis dstAt putT pick   Prg.wp Prg.wpF Prg.bind resAll resOne one finK flat flat.flatL  frzL empty_at List.length_map wk_self wkL_self wkR_self wk wk.wkL bin binInt un likeL eqL loadVia storeVia fieldVia fieldIn indexVia indexIn loadAt storeAt putAt   cells1 fillAt fillRows buildIn buildRows makeRows cut  builtin maxs mins TK.isAgg roAll compat disj waitsFor set_at verOf_set verOf_empty PB.ver PB.ro Option.bind Option.map Option.toList Option.getD_none cond_true cond_false Bool.cond_false_right Bool.cond_true_left imp_self List.getD_cons_zero List.getD_cons_succ List.getD_nil List.length_cons List.length_nil List.replicate List.cons_append List.nil_append List.append_nil List.set List.map List.take List.drop List.all_cons List.all_nil List.mem_cons List.mem_singleton List.not_mem_nil List.any_cons List.any_nil Nat.zero_add Nat.add_zero Nat.zero_mul Nat.one_mul Nat.lt_irrefl Nat.le_refl Nat.lt_add_one Nat.zero_le Nat.zero_lt_succ Int.toNat_natCast Int.natCast_nonneg Int.cast_ofNat_Int Prod.mk.injEq Option.some.injEq List.cons.injEq ne_eq not_true_eq_false not_false_eq_true true_implies false_implies implies_true imp_false true_and and_true false_and and_false true_or or_true false_or or_false and_self or_self if_true if_false ite_true ite_false eq_self Bool.false_eq_true Bool.true_eq_false Bool.and_true Bool.true_and Bool.and_false Bool.false_and Bool.or_false Bool.or_true Bool.false_or Bool.true_or Bool.not_true Bool.not_false decide_true decide_false Bool.not_eq_true beq_self_eq_true beq_iff_eq forall_const PV.int.injEq PV.bool.injEq PV.agg.injEq PV.sl.injEq PV.tup.injEq kp_cons kp_nil setAll_nil setAll_cons fg PB.mark
attribute [go_sem] unt_int taint_int clean_int cellP_int valCells_int unt_bool taint_bool clean_bool cellP_bool valCells_bool unt_undef taint_undef clean_undef cellP_undef valCells_undef unt_sl taint_sl clean_sl cellP_sl valCells_sl unt_sref taint_sref clean_sref cellP_sref valCells_sref unt_aref taint_aref clean_aref cellP_aref valCells_aref unt_ref taint_ref clean_ref cellP_ref valCells_ref unt_rref taint_rref clean_rref cellP_rref valCells_rref unt_eref taint_eref clean_eref cellP_eref valCells_eref unt_gref taint_gref clean_gref cellP_gref valCells_gref unt_agg taint_agg clean_agg cellP_agg valCells_agg unt_tup taint_tup clean_tup cellP_tup valCells_tup unt_mref taint_mref clean_mref cellP_mref valCells_mref unt_mp taint_mp clean_mp cellP_mp valCells_mp unt_fn taint_fn clean_fn cellP_fn valCells_fn unt_yld taint_yld clean_yld cellP_yld valCells_yld unt_nilfn taint_nilfn clean_nilfn cellP_nilfn valCells_nilfn unt_nilmap taint_nilmap clean_nilmap cellP_nilmap valCells_nilmap unt_nilptr taint_nilptr clean_nilptr cellP_nilptr valCells_nilptr unt_tnt taint_tnt clean_tnt cellP_tnt valCells_tnt lenK lenM lenG lenA len_sl len_sref len_aref len_mp len_nilmap len_mref len_agg len_ref
attribute [go_sem] frz_int frz_bool frz_sl frz_eref frz_gref frz_mp frz_nilfn frz_nilmap frz_nilptr frz_undef frz_tnt frz_rref frz_yld frz_sref frz_aref frz_ref frz_mref frz_agg frz_tup frz_fn
class Enc (α : Type) where
 enc : α → PV
 dec : PV → Option α
 wk_dec : ∀ (p : PV) (a : α), dec p = some a → wk p (enc a)
 dec_enc : ∀ a : α, dec (enc a) = some a
open Enc (enc dec)
class Row (α : Type) where
 row : α → List PV
 drow : List PV → Option α
 wk_drow : ∀ (r : List PV) (a : α), drow r = some a → wk.wkL r (row a)
 drow_row : ∀ a : α, drow (row a) = some a
open Row (row drow)
def decInt : PV → Option Int
 | .int .i64 n => some n
 | _ => none
instance encInt : Enc Int where
 enc n := .int .i64 n
 dec := decInt
 wk_dec p a h := by unfold decInt at h; split at h <;> cases h; exact wk_refl _
 dec_enc _ := rfl
def decBool : PV → Option Bool
 | .bool b => some b
 | _ => none
instance encBool : Enc Bool where
 enc b := .bool b
 dec := decBool
 wk_dec p a h := by unfold decBool at h; split at h <;> cases h; exact wk_refl _
 dec_enc _ := rfl
instance encPV : Enc PV where
 enc p := p
 dec p := some p
 wk_dec p a h := by cases h; exact wk_refl _
 dec_enc _ := rfl
def rowInt : List PV → Option Int
 | [.int .i64 n] => some n
 | _ => none
instance rowInt' : Row Int where
 row n := [.int .i64 n]
 drow := rowInt
 wk_drow p a h := by unfold rowInt at h; split at h <;> cases h; exact wkL_refl _
 drow_row _ := rfl
def drows {α : Type} [Row α] : List (List PV) → Option (List α)
 | [] => some []
 | r :: rs => match (drow r : Option α), drows rs with
  | some a, some l => some (a :: l)
  | _, _ => none
def rows {α : Type} [Row α] (l : List α) : List (List PV) := l.map row
theorem drows_rows {α : Type} [Row α] : ∀ l : List α, drows (rows l) = some l
 | [] => rfl
 | a :: l => by
  have := drows_rows l
  simp only [rows] at this
  simp only [rows, List.map_cons, drows, Row.drow_row, this]
theorem wk_drows {α : Type} [Row α] : ∀ (rs : List (List PV)) (l : List α), drows rs = some l → wk.wkR rs (rows l)
 | [], l, h => by simp only [drows] at h; cases h; trivial
 | r :: rs, l, h => by
  simp only [drows] at h
  split at h
  ·rename_i a m h1 h2
   cases h
   exact ⟨Row.wk_drow r a h1, wk_drows rs m h2⟩
  ·cases h
def decList {α : Type} [Row α] : PV → Option (List α)
 | .sl rs _ => drows rs
 | _ => none
instance encList {α : Type} [Row α] : Enc (List α) where
 enc l := .sl (rows l) false
 dec := decList
 wk_dec p a h := by
  unfold decList at h
  split at h
  ·exact ⟨wk_drows _ _ h, fun h => by cases h⟩
  ·cases h
 dec_enc l := drows_rows l
theorem dec_int (n : Int) : (dec (.int .i64 n) : Option Int) = some n := rfl
theorem dec_bool (b : Bool) : (dec (.bool b) : Option Bool) = some b := rfl
theorem dec_pv (p : PV) : (dec p : Option PV) = some p := rfl
theorem dec_list {α : Type} [Row α] (l : List α) (ex : Bool) : (dec (.sl (rows l) ex) : Option (List α)) = some l := drows_rows l
theorem dec_nil {α : Type} [Row α] (ex : Bool) : (dec (.sl [] ex) : Option (List α)) = some [] := rfl
section
variable {α β γ δ ε : Type} [Enc α] [Enc β] [Enc γ] [Enc δ] [Enc ε]
def spec0 (pre : Prop) (f : PV) : Spec := fun args => match args with
 | [] => some (pre, f)
 | _ => none
def spec1 (pre : α → Prop) (f : α → PV) : Spec := fun args => match args with
 | [p] => match (dec p : Option α) with
  | some a => some (pre a, f a)
  | _ => none
 | _ => none
def spec2 (pre : α → β → Prop) (f : α → β → PV) : Spec := fun args => match args with
 | [p, q] => match (dec p : Option α), (dec q : Option β) with
  | some a, some b => some (pre a b, f a b)
  | _, _ => none
 | _ => none
def spec3 (pre : α → β → γ → Prop) (f : α → β → γ → PV) : Spec := fun args => match args with
 | [p, q, r] => match (dec p : Option α), (dec q : Option β), (dec r : Option γ) with
  | some a, some b, some c => some (pre a b c, f a b c)
  | _, _, _ => none
 | _ => none
def spec4 (pre : α → β → γ → δ → Prop) (f : α → β → γ → δ → PV) : Spec := fun args => match args with
 | [p, q, r, s] => match (dec p : Option α), (dec q : Option β), (dec r : Option γ), (dec s : Option δ) with
  | some a, some b, some c, some d => some (pre a b c d, f a b c d)
  | _, _, _, _ => none
 | _ => none
def spec5 (pre : α → β → γ → δ → ε → Prop) (f : α → β → γ → δ → ε → PV) : Spec := fun args => match args with
 | [p, q, r, s, t] => match (dec p : Option α), (dec q : Option β), (dec r : Option γ), (dec s : Option δ), (dec t : Option ε) with
  | some a, some b, some c, some d, some e => some (pre a b c d e, f a b c d e)
  | _, _, _, _, _ => none
 | _ => none
variable {P : Program} {E : Env} (he : EnvOK P E) {n g : Nat} {fn : Func} {cc : Code} (hf : P.funcs[g]? = some fn) (hb : fn.body = some cc) (hok : okC (fn.body.getD .skip) = true)
include he hf hb hok
theorem spec0_ok {pre : Prop} {f : PV} (h : pre → Fn E n g fn cc [] f) : SpecOK P E.glob g (spec0 pre f) :=
 specOK_of he hf hok fun args p r h1 hp => by
  unfold spec0 at h1
  split at h1
  ·cases h1; exact ⟨[], cc, trivial, hb, h hp⟩
  ·cases h1
theorem spec1_ok {pre : α → Prop} {f : α → PV} (h : ∀ a, pre a → Fn E n g fn cc [enc a] (f a)) : SpecOK P E.glob g (spec1 pre f) :=
 specOK_of he hf hok fun args p r h1 hp => by
  unfold spec1 at h1
  split at h1
  ·split at h1
   ·rename_i p a ha
    cases h1; exact ⟨[enc a], cc, ⟨Enc.wk_dec _ _ ha, trivial⟩, hb, h a hp⟩
   ·cases h1
  ·cases h1
theorem spec2_ok {pre : α → β → Prop} {f : α → β → PV} (h : ∀ a b, pre a b → Fn E n g fn cc [enc a, enc b] (f a b)) : SpecOK P E.glob g (spec2 pre f) :=
 specOK_of he hf hok fun args p r h1 hp => by
  unfold spec2 at h1
  split at h1
  ·split at h1
   ·rename_i p q a b ha hb'
    cases h1; exact ⟨[enc a, enc b], cc, ⟨Enc.wk_dec _ _ ha, Enc.wk_dec _ _ hb', trivial⟩, hb, h a b hp⟩
   ·cases h1
  ·cases h1
theorem spec3_ok {pre : α → β → γ → Prop} {f : α → β → γ → PV} (h : ∀ a b c, pre a b c → Fn E n g fn cc [enc a, enc b, enc c] (f a b c)) : SpecOK P E.glob g (spec3 pre f) :=
 specOK_of he hf hok fun args p r h1 hp => by
  unfold spec3 at h1
  split at h1
  ·split at h1
   ·rename_i p q r a b c ha hb' hc
    cases h1; exact ⟨[enc a, enc b, enc c], cc, ⟨Enc.wk_dec _ _ ha, Enc.wk_dec _ _ hb', Enc.wk_dec _ _ hc, trivial⟩, hb, h a b c hp⟩
   ·cases h1
  ·cases h1
theorem spec4_ok {pre : α → β → γ → δ → Prop} {f : α → β → γ → δ → PV} (h : ∀ a b c d, pre a b c d → Fn E n g fn cc [enc a, enc b, enc c, enc d] (f a b c d)) : SpecOK P E.glob g (spec4 pre f) :=
 specOK_of he hf hok fun args p r h1 hp => by
  unfold spec4 at h1
  split at h1
  ·split at h1
   ·rename_i p q r s a b c d ha hb' hc hd
    cases h1; exact ⟨[enc a, enc b, enc c, enc d], cc, ⟨Enc.wk_dec _ _ ha, Enc.wk_dec _ _ hb', Enc.wk_dec _ _ hc, Enc.wk_dec _ _ hd, trivial⟩, hb, h a b c d hp⟩
   ·cases h1
  ·cases h1
end
theorem ev_loopS {E : Env} {h : Handler} {path : List Nat} {inR : Bool} {fid : Nat} {Q : Exit → List PV → Heap → Prop} {τ : List PV} {H : Heap} {α : Type}
    (L : List Nat) (S : α → List (Nat × PV)) (G : α → Heap → Prop) (m : α → Nat) {c : Code} (x0 : α) (h0 : fg (setAll (kp L 0 τ) (S x0)) τ) (h1 : G x0 H)
    (step : ∀ (K : Exit → List PV → Heap → Prop) (x : α) (H : Heap), G x H → (∀ y τ' H, fg (setAll (kp L 0 τ) (S y)) τ' → G y H → m y < m x → K .normal τ' H) → (∀ e τ' H, e ≠ .normal → Q e τ' H → K e τ' H) → ev E h path inR fid c K (setAll (kp L 0 τ) (S x)) H) :
    ev E h path inR fid (.loop c) Q τ H := ev_loop (fun x => setAll (kp L 0 τ) (S x)) G m x0 h0 h1 step
attribute [go_sem] callSpec_pure specP pureD pureD.pureLs spec0 spec1 spec2 spec3 spec4 spec5 dec_int dec_bool dec_pv dec_list dec_nil
def Own (H : Heap) (S : Key → Prop) (p : PV) (sz : Nat) (rs : List (List PV)) : Prop :=
 (rs = [] ∧ p = .sl [] true) ∨ ∃ K v, S K ∧ p = .sref K v sz rs.length false ∧ H K = some (.rows sz rs v false)
theorem Own.nil {H : Heap} {S : Key → Prop} {sz : Nat} : Own H S (.sl [] true) sz [] := .inl ⟨rfl, rfl⟩
theorem Own.frame {H H' : Heap} {S : Key → Prop} {p : PV} {sz : Nat} {rs : List (List PV)} (h : Own H S p sz rs) (hH : ∀ K, S K → H' K = H K) : Own H' S p sz rs := by
 rcases h with h | ⟨K, v, h1, h2, h3⟩
 ·exact .inl h
 ·exact .inr ⟨K, v, h1, h2, (hH K h1).trans h3⟩
def Rows (H : Heap) (x : PV) (sz : Nat) (xs : List (List PV)) : Prop :=
 (∃ ex, x = .sl xs ex) ∨ ∃ K v ex ro, x = .sref K v sz xs.length ex ∧ H K = some (.rows sz xs v ro)
theorem rowsOf_wp {α : Type} [Inhabited α] {q : Prop} {sz : Nat} {x : PV} {xs : List (List PV)} {k : List (List PV) → Prg α} {Q : α → Heap → Prop} {H : Heap} (hx : Rows H x sz xs) (hr : ∀ row ∈ xs, row.length = sz ∧ cells1 row = true) (h : (k xs).wp q Q H) :
    (rowsOf sz x k).wp q Q H := by
 unfold rowsOf
 rcases hx with ⟨ex, rfl⟩ | ⟨K, v, ex, ro, rfl, hH⟩
 ·exact ⟨fun _ => hr, h⟩
 ·simp only [frz, Prg.wp, hH]
  exact ⟨fun _ => by simp, fun _ => hr, h⟩
theorem app_own {E : Env} {K : Key} {t e sz : Nat} {p x : PV} {rs xs : List (List PV)} {q : Prop} {Q : PV → Heap → Prop} {H : Heap} {S : Key → Prop} (hq : q) (hk : (E.ti t).kind = .slice e) (hsz : (E.ti e).size = sz) (h0 : 0 < sz) (hb0 : 0 < (E.ti e).bytes)
    (hb : (rs.length + xs.length) * (E.ti e).bytes ≤ 35184372088832) (hrs : ∀ row ∈ rs, row.length = sz) (hxs : ∀ row ∈ xs, row.length = sz ∧ cells1 row = true) (hne : xs ≠ []) (hx : Rows H x sz xs) (hO : Own H S p sz rs) (hS : S K)
    (hQ : ∀ p' H', Own H' S p' sz (rs ++ xs) → (∀ K', ¬ S K' → H' K' = H K') → Q p' H') : (app E K t p x).wp q Q H := by
 subst hsz
 unfold app
 rw [hk]
 refine ⟨fun _ => h0, rowsOf_wp hx hxs ?_⟩
 rcases hO with ⟨rfl, rfl⟩ | ⟨K', v, h1, rfl, h2⟩
 ·refine ⟨fun _ => ⟨rfl, .inl hne, fun row h => (by cases h), h0, hb0, hb⟩, fun v => rfl, ?_⟩
  refine hQ _ _ (.inr ⟨K, verOf H K + 1, hS, by simp, by simp [Heap.set]⟩) fun K' hK' => ?_
  simp only [Heap.set]
  rw [if_neg (fun h : K' = K => hK' (by rw [h]; exact hS))]
 ·simp only [Prg.wp, h2]
  refine ⟨fun _ => ⟨trivial, trivial, trivial, trivial, h0, hb0, hb⟩, fun _ => trivial, hq, ?_⟩
  refine hQ _ _ (.inr ⟨K', v + 1, h1, by simp, by simp [Heap.set]⟩) fun K2 hK2 => ?_
  simp only [Heap.set]
  rw [if_neg (fun h : K2 = K' => hK2 (by rw [h]; exact h1))]
theorem Own.fin {H : Heap} {S : Key → Prop} {p : PV} {sz : Nat} {rs : List (List PV)} (h : Own H S p sz rs) : (frz (α := PV) 8 p fun t _ => .ret t).wp True (fun t _ => wk t (.sl rs false)) H := by
 rcases h with ⟨rfl, rfl⟩ | ⟨K, v, _, rfl, h2⟩
 ·exact ⟨trivial, fun h => by cases h⟩
 ·simp only [frz, Prg.wp, h2]
  exact ⟨fun _ => by simp, wkR_refl rs, fun h => h⟩
def Shut (H : Heap) (p : PV) (sz : Nat) (rs : List (List PV)) : Prop := p = .sl [] true ∧ rs = [] ∨ ∃ K v, p = .sref K v sz rs.length true ∧ H K = some (.rows sz rs v false)
theorem Shut.fin {H : Heap} {p : PV} {sz : Nat} {rs : List (List PV)} (h : Shut H p sz rs) : (frz (α := PV) 8 p fun t _ => .ret t).wp True (fun t _ => wk t (.sl rs true)) H := by
 rcases h with ⟨rfl, rfl⟩ | ⟨K, v, rfl, h2⟩
 ·exact ⟨trivial, fun _ => rfl⟩
 ·simp only [frz, Prg.wp, h2]
  exact ⟨fun _ => by simp, wkR_refl rs, fun h => h⟩
theorem Own.frz {H : Heap} {S : Key → Prop} {p : PV} {sz : Nat} {rs : List (List PV)} (h : Own H S p sz rs) :
    ∃ (ex : Bool) (ks : List Key), (∀ {α : Type} [Inhabited α] (k : PV → List Key → Prg α) (q : Prop) (Q : α → Heap → Prop), (frz 8 p k).wp q Q H = (k (.sl rs ex) ks).wp q Q H) ∧
      (∀ {α : Type} [Inhabited α] (k : PV → List Key → Prg α) (q : Prop) (Q : α → Heap → List Key → List Key → Prop) (R W : List Key), (frz 8 p k).wpF q Q H R W = (k (.sl rs ex) ks).wpF q Q H (ks ++ R) W) ∧ ∀ K ∈ ks, S K := by
 rcases h with ⟨rfl, rfl⟩ | ⟨K, v, h1, rfl, h2⟩
 ·exact ⟨true, [], fun k q Q => rfl, fun k q Q R W => rfl, fun K h => by cases h⟩
 ·refine ⟨false, [K], fun k q Q => ?_, fun k q Q R W => ?_, fun K' h => by rw [List.mem_singleton.1 h]; exact h1⟩
  ·simp only [Wb.frz, Prg.wp, h2]; simp
  ·simp only [Wb.frz, Prg.wpF, h2]; simp
theorem OwnTaint {H : Heap} {S : Key → Prop} {p : PV} {sz : Nat} {rs : List (List PV)} (h : Own H S p sz rs) : taint p = True ∧ clean p = p ∧ cellP p = true ∧ valCells p = [p] ∧ ∀ {α : Type} (k : PV → Prg α), unt p k = k p := by
 rcases h with ⟨rfl, rfl⟩ | ⟨K, v, h1, rfl, h2⟩ <;> exact ⟨rfl, rfl, rfl, rfl, fun k => rfl⟩
theorem app_one {E : Env} {K K2 : Key} {t e sz v2 : Nat} {p : PV} {rs : List (List PV)} {row : List PV} {ex ro : Bool} {q : Prop} {Q : PV → Heap → Prop} {H : Heap} {S : Key → Prop} (hq : q) (hk : (E.ti t).kind = .slice e) (hsz : (E.ti e).size = sz) (h0 : 0 < sz) (hb0 : 0 < (E.ti e).bytes)
    (hx : H K2 = some (.rows sz [row] v2 ro)) (hO : Own H S p sz rs) (hS : S K) (hb : (rs.length + 1) * (E.ti e).bytes ≤ 35184372088832) (hrs : ∀ row ∈ rs, row.length = sz) (hrow : row.length = sz ∧ cells1 row = true)
    (hQ : ∀ p' H', Own H' S p' sz (rs ++ [row]) → (∀ K', ¬ S K' → H' K' = H K') → Q p' H') : (app E K t p (.sref K2 v2 sz 1 ex)).wp q Q H :=
 app_own hq hk hsz h0 hb0 hb hrs (fun r hr => by rw [List.mem_singleton.1 hr]; exact hrow) (List.cons_ne_nil _ _) (.inr ⟨K2, v2, ex, ro, rfl, hx⟩) hO hS hQ
theorem set_at_eq (H : Heap) (K : Key) (b : PB) : H.set K b K = some b := by rw [set_at, if_pos rfl]
theorem set_at_ne (H : Heap) {K K' : Key} (b : PB) (h : K' ≠ K) : H.set K b K' = H K' := by rw [set_at, if_neg h]
theorem il_row (l : List Int) : ∀ row ∈ il l, row.length = 1 := fun row h => by
 simp only [il, List.mem_map] at h
 obtain ⟨_, _, rfl⟩ := h; rfl
def ThawH (H2 H : Heap) : Prop :=
 ∃ H1 : Heap, (∀ K, H1 K = H K ∨ ∃ b, H K = some b ∧ H1 K = some b.mark) ∧ ∀ K, H2 K = H1 K ∨ ∃ cs cs' v ro, H1 K = some (.cells cs v ro) ∧ H2 K = some (.cells cs' v ro) ∧ thawL H1 cs' cs
theorem ThawH.refl (H : Heap) : ThawH H H := ⟨H, fun _ => .inl rfl, fun _ => .inl rfl⟩
theorem ThawH.s {H H2 : Heap} (h : ThawH H2 H) {τ' τ : List PV} (hf : fg τ' τ) : ThawS τ' H2 τ H := by
 obtain ⟨H1, h1, h2⟩ := h
 exact ⟨H1, h1, thawL_of_fg H1 hf, h2⟩
theorem ThawH.one {H : Heap} {Ka Kc : Key} {b : PB} {cs cs' : List PV} {v : Nat} {ro : Bool} (ha : H Ka = some b) (hc : H Kc = some (.cells cs v ro)) (hne : Kc ≠ Ka) (hl : thawL (H.set Ka b.mark) cs' cs) :
    ThawH ((H.set Ka b.mark).set Kc (.cells cs' v ro)) H := by
 refine ⟨H.set Ka b.mark, fun K => ?_, fun K => ?_⟩
 ·by_cases e : K = Ka
  ·subst e; exact .inr ⟨b, ha, set_at_eq _ _ _⟩
  ·exact .inl (set_at_ne _ _ e)
 ·by_cases e : K = Kc
  ·subst e; exact .inr ⟨cs, cs', v, ro, by rw [set_at_ne _ _ hne]; exact hc, set_at_eq _ _ _, hl⟩
  ·exact .inl (set_at_ne _ _ e)
theorem thaw1_sref {H : Heap} {K : Key} {v sz n : Nat} {ex : Bool} {rs : List (List PV)} (h : H K = some (.rows sz rs v true)) (hn : n = rs.length) : thaw1 H (.sl rs ex) (.sref K v sz n ex) := by
 refine .inr (.inr ?_)
 simp only [Wb.frz, Prg.wp, h]
 refine ⟨fun _ => ⟨trivial, trivial, hn⟩, fun _ K' hK' => ?_, ?_⟩
 ·rw [List.mem_singleton.1 hK']; exact ⟨_, h, rfl⟩
 ·trivial
def markAll (H : Heap) : Heap := fun K => (H K).map PB.mark
theorem markAll_at (H : Heap) (K : Key) : markAll H K = (H K).map PB.mark := rfl
def RoL (H : Heap) (ks : List Key) : Prop := ∀ K ∈ ks, ∃ b, H K = some b ∧ b.ro = true
theorem RoL.nil (H : Heap) : RoL H [] := fun _ h => by cases h
theorem RoL.cons {H : Heap} {K : Key} {ks : List Key} {b : PB} (h : H K = some b) (hr : b.ro = true) (hk : RoL H ks) : RoL H (K :: ks) := fun K' h' => by
 rcases List.mem_cons.1 h' with e | e
 ·subst e; exact ⟨b, h, hr⟩
 ·exact hk K' e
theorem RoL.append {H : Heap} {ks ls : List Key} (h : RoL H ks) (k : RoL H ls) : RoL H (ks ++ ls) := fun K h' => (List.mem_append.1 h').elim (h K) (k K)
theorem frzL_mark {α β : Type} {H : Heap} {f : PV → (PV → List Key → Prg α) → Prg α} {g : PV → (PV → List Key → Prg β) → Prg β}
    (hfg : ∀ (p : PV) (k : PV → List Key → Prg α) (j : PV → List Key → Prg β) (Q : α → Heap → Prop) (R : β → Heap → Prop), (f p k).wp True Q H →
      (∀ t ks, (k t ks).wp True Q H → RoL (markAll H) ks → (j t ks).wp True R (markAll H)) → (g p j).wp True R (markAll H)) :
    ∀ (ps : List PV) (k : List PV → List Key → Prg α) (j : List PV → List Key → Prg β) (Q : α → Heap → Prop) (R : β → Heap → Prop), (frzL f ps k).wp True Q H →
      (∀ t ks, (k t ks).wp True Q H → RoL (markAll H) ks → (j t ks).wp True R (markAll H)) → (frzL g ps j).wp True R (markAll H)
 | [], k, j, Q, R, h, hj => hj [] [] h (RoL.nil _)
 | p :: ps, k, j, Q, R, h, hj => hfg p _ _ Q R h fun t ks h1 r1 => frzL_mark hfg ps _ _ Q R h1 fun ts ls h2 r2 => hj _ _ h2 (r1.append r2)
theorem frz_mark {α β : Type} [Inhabited α] [Inhabited β] {H : Heap} : ∀ (n : Nat) (p : PV) (k : PV → List Key → Prg α) (j : PV → List Key → Prg β) (Q : α → Heap → Prop) (R : β → Heap → Prop), (frz n p k).wp True Q H →
    (∀ t ks, (k t ks).wp True Q H → RoL (markAll H) ks → (j t ks).wp True R (markAll H)) → (frz n p j).wp True R (markAll H)
 | 0, p, k, j, Q, R, h, hj => (h.1 trivial).elim
 | n + 1, p, k, j, Q, R, h, hj => by
  have ih := fun p k j Q R => frz_mark (α := α) (β := β) (H := H) n p k j Q R
  have hL := fun ps k j Q R => frzL_mark ih ps k j Q R
  cases p with
  | sref K v sz m ex =>
   simp only [frz, Prg.wp] at h ⊢
   cases hb : H K with
   | none => rw [hb] at h; exact (h.1 trivial).elim
   | some b =>
    rw [hb] at h
    have e : markAll H K = some b.mark := by rw [markAll_at, hb]; rfl
    rw [e]
    cases b with
    | rows sz' rs v' ro => exact ⟨h.1, hj _ _ h.2 (.cons e rfl (.nil _))⟩
    | cells _ _ _ => exact (h.1 trivial).elim
    | map _ _ _ _ _ => exact (h.1 trivial).elim
    | loop _ _ => exact (h.1 trivial).elim
    | iter _ _ _ _ => exact (h.1 trivial).elim
  | aref K v off sz m =>
   simp only [frz, Prg.wp] at h ⊢
   cases hb : H K with
   | none => rw [hb] at h; exact (h.1 trivial).elim
   | some b =>
    rw [hb] at h
    have e : markAll H K = some b.mark := by rw [markAll_at, hb]; rfl
    rw [e]
    cases b with
    | cells cs v' ro =>
     refine ⟨h.1, ?_⟩
     have h2 := h.2
     cases hf : flat.flatL cs with
     | true => rw [hf] at h2; exact hj _ _ h2 (.cons e rfl (.nil _))
     | false => rw [hf] at h2; exact ⟨h2.1, hL cs _ _ Q R h2.2 fun ts ks h3 r => hj _ _ h3 (.cons e rfl r)⟩
    | rows _ _ _ _ => exact (h.1 trivial).elim
    | map _ _ _ _ _ => exact (h.1 trivial).elim
    | loop _ _ => exact (h.1 trivial).elim
    | iter _ _ _ _ => exact (h.1 trivial).elim
  | ref K v off =>
   simp only [frz, Prg.wp] at h ⊢
   cases hb : H K with
   | none => rw [hb] at h; exact (h.1 trivial).elim
   | some b =>
    rw [hb] at h
    have e : markAll H K = some b.mark := by rw [markAll_at, hb]; rfl
    rw [e]
    cases b with
    | cells cs v' ro => exact ⟨h.1, hL cs _ _ Q R h.2 fun ts ks h3 r => hj _ _ h3 (.cons e rfl r)⟩
    | rows _ _ _ _ => exact (h.1 trivial).elim
    | map _ _ _ _ _ => exact (h.1 trivial).elim
    | loop _ _ => exact (h.1 trivial).elim
    | iter _ _ _ _ => exact (h.1 trivial).elim
  | mref K v =>
   simp only [frz, Prg.wp] at h ⊢
   cases hb : H K with
   | none => rw [hb] at h; exact (h.1 trivial).elim
   | some b =>
    rw [hb] at h
    have e : markAll H K = some b.mark := by rw [markAll_at, hb]; rfl
    rw [e]
    cases b with
    | map ag kl es v' ro => exact ⟨h.1, hj _ _ h.2 (.cons e rfl (.nil _))⟩
    | rows _ _ _ _ => exact (h.1 trivial).elim
    | cells _ _ _ => exact (h.1 trivial).elim
    | loop _ _ => exact (h.1 trivial).elim
    | iter _ _ _ _ => exact (h.1 trivial).elim
  | agg cs => rw [frz_agg] at h ⊢; exact hL cs _ _ Q R h fun ts ks h3 r => hj _ _ h3 r
  | tup cs => rw [frz_tup] at h ⊢; exact hL cs _ _ Q R h fun ts ks h3 r => hj _ _ h3 r
  | fn f first cap => rw [frz_fn] at h ⊢; exact hL first _ _ Q R h fun ts ks h3 r => hL cap _ _ Q R h3 fun us ls h4 r' => hj _ _ h4 (r.append r')
  | tnt _ _ => exact (h.1 trivial).elim
  | rref _ _ _ _ _ _ => exact (h.1 trivial).elim
  | yld _ _ => exact (h.1 trivial).elim
  | undef => exact (h.1 trivial).elim
  | _ => exact hj _ _ h (.nil _)
def frzLB (f : PV → Option PV) : List PV → Option (List PV)
 | [] => some []
 | p :: ps => match f p, frzLB f ps with
  | some t, some ts => some (t :: ts)
  | _, _ => none
def frzB (H : Heap) : Nat → PV → Option PV
 | 0, _ => none
 | n + 1, p =>
  match p with
  | .sref K v sz m ex => match H K with
   | some (.rows sz' rs v' _) => if v = v' ∧ sz = sz' ∧ m = rs.length then some (.sl rs ex) else none
   | _ => none
  | .aref K v off sz m => match H K with
   | some (.cells cs v' _) => if v = v' ∧ 0 < sz ∧ off + m * sz ≤ cs.length then (
       match flat.flatL cs with
       | true => some (.sl (arows sz m (cs.drop off)) false)
       | false => if n = 7 then none else match frzLB (frzB H n) cs with
         | some ts => some (.sl (arows sz m (ts.drop off)) false)
         | none => none) else none
   | _ => none
  | .agg cs => match frzLB (frzB H n) cs with
   | some ts => some (.agg ts)
   | none => none
  | .int k m => some (.int k m)
  | .bool b => some (.bool b)
  | .sl rs ex => some (.sl rs ex)
  | _ => none
theorem frzLB_ok {α : Type} {H : Heap} {f : PV → Option PV} {g : PV → (PV → List Key → Prg α) → Prg α} {q : Prop} {Q : α → Heap → Prop}
    (h : ∀ p t, f p = some t → ∃ ks, ∀ k : PV → List Key → Prg α, (k t ks).wp q Q H → (g p k).wp q Q H) :
    ∀ ps ts, frzLB f ps = some ts → ∃ ks, ∀ k : List PV → List Key → Prg α, (k ts ks).wp q Q H → (frzL g ps k).wp q Q H
 | [], ts, e => by
  simp only [frzLB, Option.some.injEq] at e
  subst e; exact ⟨[], fun k h => h⟩
 | p :: ps, ts, e => by
  simp only [frzLB] at e
  split at e
  ·rename_i t us e1 e2
   cases e
   obtain ⟨k1, h1⟩ := h p t e1
   obtain ⟨k2, h2⟩ := frzLB_ok h ps us e2
   exact ⟨k1 ++ k2, fun k hk => h1 _ (h2 _ hk)⟩
  ·cases e
theorem frzB_ok {α : Type} [Inhabited α] {H : Heap} {q : Prop} {Q : α → Heap → Prop} : ∀ (n : Nat) (p t : PV), frzB H n p = some t → ∃ ks, ∀ k : PV → List Key → Prg α, (k t ks).wp q Q H → (frz n p k).wp q Q H
 | 0, p, t, e => by cases e
 | n + 1, p, t, e => by
  have ih := fun p t => frzB_ok (α := α) (q := q) (Q := Q) (H := H) n p t
  cases p with
  | sref K v sz m ex =>
   simp only [frzB] at e
   split at e
   ·rename_i sz' rs v' ro hb
    split at e
    ·rename_i hc
     cases e
     refine ⟨[K], fun k hk => ?_⟩
     simp only [frz, Prg.wp, hb]
     exact ⟨fun _ => hc, hk⟩
    ·cases e
   ·cases e
  | aref K v off sz m =>
   simp only [frzB] at e
   split at e
   ·rename_i cs v' ro hb
    split at e
    ·rename_i hc
     split at e
     ·rename_i hf
      cases e
      refine ⟨[K], fun k hk => ?_⟩
      simp only [frz, Prg.wp, hb]
      refine ⟨fun _ => hc, ?_⟩
      rw [hf]; exact hk
     ·rename_i hf
      split at e
      ·cases e
      ·rename_i hn
       split at e
       ·rename_i ts hts
        cases e
        obtain ⟨ks, h1⟩ := frzLB_ok ih cs ts hts
        refine ⟨K :: ks, fun k hk => ?_⟩
        simp only [frz, Prg.wp, hb]
        refine ⟨fun _ => hc, ?_⟩
        rw [hf]
        exact ⟨fun _ => hn, h1 _ hk⟩
       ·cases e
    ·cases e
   ·cases e
  | agg cs =>
   simp only [frzB] at e
   split at e
   ·rename_i ts hts
    cases e
    obtain ⟨ks, h1⟩ := frzLB_ok ih cs ts hts
    refine ⟨ks, fun k hk => ?_⟩
    rw [frz_agg]; exact h1 _ hk
   ·cases e
  | int k m => cases e; exact ⟨[], fun k h => h⟩
  | bool b => cases e; exact ⟨[], fun k h => h⟩
  | sl rs ex => cases e; exact ⟨[], fun k h => h⟩
  | _ => cases e
def Stands (H : Heap) (p t : PV) : Prop := (frz (α := PV) 20 p fun t _ => .ret t).wp True (fun t' _ => t' = t) H
theorem Stands.thaw {H : Heap} {p t : PV} (h : Stands H p t) : thaw1 (markAll H) t p :=
 .inr (.inr (frz_mark 20 p _ _ _ _ h fun t' ks h1 r => ⟨fun _ => r, (Eq.symm h1 : t = t')⟩))
theorem Stands.of {H : Heap} {p t : PV} (h : frzB H 20 p = some t) : Stands H p t := by
 obtain ⟨ks, h1⟩ := frzB_ok (α := PV) (q := True) (Q := fun t' _ => t' = t) 20 p t h
 exact h1 _ rfl
theorem thawL_slot {H : Heap} : ∀ (i : Nat) {τ' τ : List PV} {p t : PV}, τ[i]? = some p → thaw1 H t p → fg τ' (τ.set i t) → thawL H τ' τ
 | 0, a :: as, b :: bs, p, t, hp, ht, hf => by
  simp only [List.getElem?_cons_zero, Option.some.injEq] at hp
  subst hp
  refine ⟨?_, thawL_of_fg H hf.2⟩
  rcases hf.1 with e | e
  ·exact .inl e
  ·rw [e]; exact ht
 | i + 1, a :: as, b :: bs, p, t, hp, ht, hf => ⟨hf.1.elim .inl fun e => .inr (.inl e), thawL_slot i (by simpa using hp) ht hf.2⟩
 | 0, [], b :: bs, _, _, _, _, hf => hf.elim
 | i + 1, [], b :: bs, _, _, _, _, hf => hf.elim
 | _, _, [], _, _, hp, _, _ => by simp at hp
end Wb
