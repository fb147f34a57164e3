import Derived.Test.YticjjabioiilfaaGreatDoorK
import Derived.Laws.Rows
import Derived.Laws.Append
import Derived.Laws.CopyRow
import Derived.Laws.MakeOwn
import Derived.Laws.AppendOwn
set_option linter.unusedVariables false
set_option linter.unusedSimpArgs false
namespace Wb
open Go Go.RowKit
structure Ctx where
 loc : Key → Nat → Option (Nat × Nat)
 stale : Key → Nat → Prop
def Ctx.nil : Ctx := ⟨fun _ _ => none, fun _ _ => False⟩
def Ctx.le (C C' : Ctx) : Prop :=
 (∀ K v y, C.loc K v = some y → C'.loc K v = some y ∨ C'.stale K v) ∧ (∀ K v, C.stale K v → C'.stale K v)
theorem Ctx.le_refl (C : Ctx) : Ctx.le C C := ⟨fun _ _ _ h => .inl h, fun _ _ h => h⟩
theorem Ctx.le_trans {A B C : Ctx} (h : Ctx.le A B) (k : Ctx.le B C) : Ctx.le A C :=
 ⟨fun K v y hy => (h.1 K v y hy).elim (k.1 K v y) (fun hs => .inr (k.2 K v hs)), fun K v hs => k.2 K v (h.2 K v hs)⟩
def Ctx.at (C : Ctx) (K : Key) (v r : Nat) : Prop := (∃ m, C.loc K v = some (r, m)) ∨ C.stale K v
theorem Ctx.at.le {C C' : Ctx} {K : Key} {v r : Nat} (h : C.at K v r) (hC : Ctx.le C C') : C'.at K v r :=
 h.elim (fun ⟨m, hm⟩ => (hC.1 _ _ _ hm).elim (fun k => .inl ⟨m, k⟩) .inr) fun hs => .inr (hC.2 _ _ hs)
def KeyIs (ag : Bool) (l : List Int) (v : Value) : Prop :=
 match ag with
 | false => ∃ n, l = [n] ∧ v = .int .i64 n
 | true => v = .agg (l.map (fun n => Value.int .i64 n)).toArray
def Born (arr : Array MapEntry) (clock : Nat) : Prop := (arr.toList.map (·.born)).Nodup ∧ ∀ x ∈ arr.toList, x.born < clock
def KeysOf (ag : Bool) (es : List (List Int × PV)) (arr : Array MapEntry) (clock : Nat) : Prop :=
 (∀ (i : Nat) e x, es[i]? = some e → arr[i]? = some x → KeyIs ag e.1 x.key) ∧ Born arr clock
inductive Rep (w : World) (Z : Nat → Prop) : Ctx → PV → Value → Prop where
 | int {C k n} : Rep w Z C (.int k n) (.int k n)
 | bool {C b} : Rep w Z C (.bool b) (.bool b)
 | undef {C x} : Rep w Z C .undef x
 | tnt {C p v x} (h : p → Rep w Z C v x) (h' : ¬ p → x = Go.undef) : Rep w Z C (.tnt p v) x
 | sl {C rows ex A len cap} (sz blk off : Nat) (vals : Nat → Nat → Value) (h1 : rows.length = len) (h2 : len ≤ cap) (h3 : ex = true → cap = len)
     (h4 : rows ≠ [] → A = some ⟨blk, off, none⟩) (h5 : ∀ row ∈ rows, row.length = sz)
     (h6 : ∀ i row j p, rows[i]? = some row → row[j]? = some p → Z blk ∧ w.cell? ⟨blk, off + i * sz + j, none⟩ = some (vals i j))
     (h7 : ∀ i row j p, rows[i]? = some row → row[j]? = some p → Rep w Z Ctx.nil p (vals i j)) : Rep w Z C (.sl rows ex) (.slice A len cap)
 | sref0 {C K v sz ex A} : Rep w Z C (.sref K v sz 0 ex) (.slice A 0 0)
 | sref {C K v sz n ex cap r} (h : (∃ m, C.loc K v = some (r, m) ∧ cap * sz ≤ m) ∨ C.stale K v) (h0 : 0 < n) (h1 : n ≤ cap) (h2 : ex = true → cap = n) :
     Rep w Z C (.sref K v sz n ex) (.slice (some ⟨r, 0, none⟩) n cap)
 | aref {C K v off sz n cap r} (h : C.at K v r) (h1 : n ≤ cap) : Rep w Z C (.aref K v off sz n) (.slice (some ⟨r, off, none⟩) n cap)
 | ref {C K v off r} (h : C.at K v r) : Rep w Z C (.ref K v off) (.pointer (some ⟨r, off, none⟩))
 | rref {C K v sz i d off r} (h : C.at K v r) : Rep w Z C (.rref K v sz i d off) (.pointer (some ⟨r, i * sz + off, none⟩))
 | eref {C row off} (blk o : Nat) (vals : Nat → Value)
     (h6 : ∀ j p, row[j]? = some p → Z blk ∧ w.cell? ⟨blk, o + j, none⟩ = some (vals j))
     (h7 : ∀ j p, row[j]? = some p → Rep w Z Ctx.nil p (vals j)) : Rep w Z C (.eref row off) (.pointer (some ⟨blk, o + off, none⟩))
 | gref {C g off} : Rep w Z C (.gref g off) (.pointer (some ⟨g, off, none⟩))
 | agg {C cs arr} (h : arr.size = cs.length) (h7 : ∀ (j : Nat) p x, cs[j]? = some p → arr[j]? = some x → Rep w Z C p x) : Rep w Z C (.agg cs) (.agg arr)
 | tup {C cs arr} (h : arr.size = cs.length) (h7 : ∀ (j : Nat) p x, cs[j]? = some p → arr[j]? = some x → Rep w Z C p x) : Rep w Z C (.tup cs) (.tuple arr)
 | mref {C K v r} (h : C.at K v r) : Rep w Z C (.mref K v) (.map (some r))
 | mp {C ag kl es r} (arr : Array MapEntry) (clock : Nat) (hZ : Z r) (h : w.heap[r]? = some (.map arr clock)) (h1 : arr.size = es.length) (hl : ∀ e ∈ es, e.1.length = kl)
     (hk : KeysOf ag es arr clock)
     (h7 : ∀ (i : Nat) e x, es[i]? = some e → arr[i]? = some x → Rep w Z Ctx.nil e.2 x.val) : Rep w Z C (.mp ag kl es) (.map (some r))
 | fn {C f first cap a1 a2} (h1 : a1.size = first.length) (h2 : a2.size = cap.length)
     (h3 : ∀ (j : Nat) p x, first[j]? = some p → a1[j]? = some x → Rep w Z C p x) (h4 : ∀ (j : Nat) p x, cap[j]? = some p → a2[j]? = some x → Rep w Z C p x) :
     Rep w Z C (.fn f first cap) (.func (.func f) a1 a2)
 | yld {C K v r} (h : C.at K v r) : Rep w Z C (.yld K v) (.func (.yield r) #[] #[])
 | nilfn {C} : Rep w Z C .nilfn .nilFunc
 | nilmap {C} : Rep w Z C .nilmap (.map none)
 | nilptr {C} : Rep w Z C .nilptr (.pointer none)
theorem Rep.mono {w w' : World} {Z Z' : Nat → Prop} (hZ : ∀ b, Z b → Z' b) (hw : ∀ b, Z b → w'.heap[b]? = w.heap[b]?) {C : Ctx} {p : PV} {x : Value}
    (h : Rep w Z C p x) : ∀ {C' : Ctx}, Ctx.le C C' → Rep w' Z' C' p x := by
 have hc : ∀ {b o : Nat}, Z b → w'.cell? ⟨b, o, none⟩ = w.cell? ⟨b, o, none⟩ := fun hb => World.cell?_of_block (w := w) (a := ⟨_, _, none⟩) (hw _ hb)
 induction h with
 | int => intro _ _; exact .int
 | bool => intro _ _; exact .bool
 | undef => intro _ _; exact .undef
 | tnt _ h' ih => intro _ hC; exact .tnt (fun hp => ih hp hC) h'
 | sl sz blk off vals h1 h2 h3 h4 h5 h6 _ ih =>
  intro _ _
  exact .sl sz blk off vals h1 h2 h3 h4 h5 (fun i row j p a b => ⟨hZ _ (h6 i row j p a b).1, (hc (h6 i row j p a b).1).trans (h6 i row j p a b).2⟩)
   fun i row j p a b => ih i row j p a b (Ctx.le_refl _)
 | sref0 => intro _ _; exact .sref0
 | sref h h0 h1 h2 => intro _ hC; exact .sref (h.elim (fun ⟨m, a, b⟩ => (hC.1 _ _ _ a).elim (fun k => .inl ⟨m, k, b⟩) .inr) fun hs => .inr (hC.2 _ _ hs)) h0 h1 h2
 | aref h h1 => intro _ hC; exact .aref (h.le hC) h1
 | ref h => intro _ hC; exact .ref (h.le hC)
 | rref h => intro _ hC; exact .rref (h.le hC)
 | eref blk o vals h6 _ ih =>
  intro _ _
  exact .eref blk o vals (fun j p a => ⟨hZ _ (h6 j p a).1, (hc (h6 j p a).1).trans (h6 j p a).2⟩) fun j p a => ih j p a (Ctx.le_refl _)
 | gref => intro _ _; exact .gref
 | agg h _ ih => intro _ hC; exact .agg h fun j p x a b => ih j p x a b hC
 | tup h _ ih => intro _ hC; exact .tup h fun j p x a b => ih j p x a b hC
 | mref h => intro _ hC; exact .mref (h.le hC)
 | mp arr clock hz h h1 hl hk _ ih => intro _ _; exact .mp arr clock (hZ _ hz) ((hw _ hz).trans h) h1 hl hk fun i e x a b => ih i e x a b (Ctx.le_refl _)
 | fn h1 h2 _ _ ih3 ih4 => intro _ hC; exact .fn h1 h2 (fun j p x a b => ih3 j p x a b hC) fun j p x a b => ih4 j p x a b hC
 | yld h => intro _ hC; exact .yld (h.le hC)
 | nilfn => intro _ _; exact .nilfn
 | nilmap => intro _ _; exact .nilmap
 | nilptr => intro _ _; exact .nilptr
theorem Rep.oneCell {w : World} {Z : Nat → Prop} {C : Ctx} {p : PV} {x : Value} (h : Rep w Z C p x) (hp : cellP p = true) : x.oneCell' = true := by
 cases h <;> first | rfl | assumption | (simp [cellP] at hp)
def RepL (w : World) (Z : Nat → Prop) (C : Ctx) (ps : List PV) (xs : Array Value) : Prop :=
 xs.size = ps.length ∧ ∀ (j : Nat) p x, ps[j]? = some p → xs[j]? = some x → Rep w Z C p x
theorem RepL.mono {w w' : World} {Z Z' : Nat → Prop} (hZ : ∀ b, Z b → Z' b) (hw : ∀ b, Z b → w'.heap[b]? = w.heap[b]?) {C C' : Ctx} {ps : List PV} {xs : Array Value}
    (h : RepL w Z C ps xs) (hC : Ctx.le C C') : RepL w' Z' C' ps xs :=
 ⟨h.1, fun j p x a b => (h.2 j p x a b).mono hZ hw hC⟩
def bsize (w : World) (r : Nat) : Nat := match w.heap[r]? with | some (.cells c _ _) => c.size | _ => 0
structure Map where
 f : Key → Option Nat
 N : Nat → Prop
instance : CoeFun Map fun _ => Key → Option Nat := ⟨Map.f⟩
def Map.upd (μ : Map) (K : Key) (r : Nat) : Map := ⟨fun K' => if K' = K then some r else μ K', μ.N⟩
def Map.del (μ : Map) (K : Key) : Map := ⟨fun K' => if K' = K then none else μ K', μ.N⟩
def ctx (μ : Map) (H : Heap) (w : World) : Ctx where
 loc := fun K v => match H K with | some b => if b.ver = v then (μ K).map fun r => (r, bsize w r) else none | none => none
 stale := fun K v => v < verOf H K
def Zof (μ : Map) (H : Heap) (w : World) (b : Nat) : Prop := b < w.heap.size ∧ (∀ K, μ K = some b → ∃ x, H K = some x ∧ x.ro = true) ∧ ¬ μ.N b
theorem ctx_loc {μ : Map} {H : Heap} {w : World} {K : Key} {v r m : Nat} (h : (ctx μ H w).loc K v = some (r, m)) : ∃ b, H K = some b ∧ b.ver = v ∧ μ K = some r ∧ m = bsize w r := by
 simp only [ctx] at h
 split at h
 ·rename_i b hb
  split at h
  ·rename_i hv
   cases hμ : μ K with
   | none => simp [hμ] at h
   | some r' => simp [hμ] at h; exact ⟨b, hb, hv, by rw [h.1], by rw [← h.2, h.1]⟩
  ·cases h
 ·cases h
theorem ctx_loc_of {μ : Map} {H : Heap} {w : World} {K : Key} {b : PB} {r : Nat} (h : H K = some b) (hμ : μ K = some r) : (ctx μ H w).loc K b.ver = some (r, bsize w r) := by
 simp [ctx, h, hμ]
theorem ctx_at {μ : Map} {H : Heap} {w : World} {K : Key} {v r : Nat} {b : PB} (h : (ctx μ H w).at K v r) (hb : H K = some b) (hv : b.ver = v) : μ K = some r := by
 rcases h with ⟨m, hm⟩ | hs
 ·exact (ctx_loc hm).elim fun _ h => h.2.2.1
 ·simp [ctx, verOf, hb] at hs; omega
theorem ctx_stale {μ : Map} {H : Heap} {w : World} {K : Key} {v : Nat} {b : PB} (h : (ctx μ H w).stale K v) (hb : H K = some b) (hv : b.ver = v) : False := by
 simp [ctx, verOf, hb] at h; omega
def Ent (w : World) (Z : Nat → Prop) (ag : Bool) (c : List Int × PV) (x : MapEntry) : Prop := KeyIs ag c.1 x.key ∧ Rep w Z Ctx.nil c.2 x.val
def EntL (w : World) (Z : Nat → Prop) (ag : Bool) : List (List Int × PV) → List MapEntry → Prop
 | [], [] => True
 | c :: cs, x :: xs => Ent w Z ag c x ∧ EntL w Z ag cs xs
 | _, _ => False
theorem Ent.mono {w w' : World} {Z Z' : Nat → Prop} (hZ : ∀ b, Z b → Z' b) (hw : ∀ b, Z b → w'.heap[b]? = w.heap[b]?) {ag : Bool} {c : List Int × PV} {x : MapEntry} (h : Ent w Z ag c x) : Ent w' Z' ag c x :=
 ⟨h.1, h.2.mono hZ hw (Ctx.le_refl _)⟩
theorem EntL.mono {w w' : World} {Z Z' : Nat → Prop} (hZ : ∀ b, Z b → Z' b) (hw : ∀ b, Z b → w'.heap[b]? = w.heap[b]?) {ag : Bool} : ∀ {cs : List (List Int × PV)} {xs : List MapEntry}, EntL w Z ag cs xs → EntL w' Z' ag cs xs
 | [], [], _ => trivial
 | _ :: _, _ :: _, h => ⟨h.1.mono hZ hw, EntL.mono hZ hw h.2⟩
 | [], _ :: _, h => h.elim
 | _ :: _, [], h => h.elim
def BRep (w : World) (Z : Nat → Prop) (C : Ctx) (r : Nat) : PB → Prop
 | .cells cs _ _ => ∃ arr T, w.heap[r]? = some (.cells arr T (0, 0)) ∧ RepL w Z C cs arr
 | .rows sz rs _ _ => ∃ arr T, w.heap[r]? = some (.cells arr T (0, 0)) ∧ rs.length * sz ≤ arr.size ∧ (∀ row ∈ rs, row.length = sz) ∧
     ∀ i row j p x, rs[i]? = some row → row[j]? = some p → arr[i * sz + j]? = some x → Rep w Z Ctx.nil p x
 | .map ag kl es _ _ => ∃ arr clock, w.heap[r]? = some (.map arr clock) ∧ arr.size = es.length ∧ (∀ e ∈ es, e.1.length = kl) ∧
     KeysOf ag es arr clock ∧ ∀ (i : Nat) e x, es[i]? = some e → arr[i]? = some x → Rep w Z Ctx.nil e.2 x.val
 | .loop rc _ => ∃ L : Loop, w.heap[r]? = some (.loop L) ∧ L.state = rc.st ∧ L.pending = rc.pending ∧ L.params = rc.params.toArray ∧ L.assign = rc.assign ∧ L.body = rc.body ∧
     RepL w Z C rc.tmps L.tmps ∧ okC rc.assign = true ∧ okC rc.body = true
 | .iter ag left cur _ => ∃ r' arr clock seen, w.heap[r]? = some (.mapIter (some r') clock seen clock) ∧ Z r' ∧ w.heap[r']? = some (.map arr clock) ∧ Born arr clock ∧
     EntL w Z ag left (leftOf arr seen).toList ∧ ∀ c, cur = some c → ∃ x ∈ arr.toList, ∃ s : Array Nat, seen = s.push x.born ∧ Ent w Z ag c x
theorem BRep.mono {w w' : World} {Z Z' : Nat → Prop} (hZ : ∀ b, Z b → Z' b) (hw : ∀ b, Z b → w'.heap[b]? = w.heap[b]?) {C C' : Ctx} (hC : Ctx.le C C') {r : Nat} {b : PB}
    (hr : w'.heap[r]? = w.heap[r]?) (h : BRep w Z C r b) : BRep w' Z' C' r b := by
 cases b with
 | cells cs v ro => obtain ⟨arr, T, h1, h2⟩ := h; exact ⟨arr, T, hr.trans h1, h2.mono hZ hw hC⟩
 | rows sz rs v ro => obtain ⟨arr, T, h1, h2, h3, h4⟩ := h; exact ⟨arr, T, hr.trans h1, h2, h3, fun i row j p x a b c => (h4 i row j p x a b c).mono hZ hw (Ctx.le_refl _)⟩
 | map ag kl es v ro => obtain ⟨arr, c, h1, h2, h0, h3, h4⟩ := h; exact ⟨arr, c, hr.trans h1, h2, h0, h3, fun i e x a b => (h4 i e x a b).mono hZ hw (Ctx.le_refl _)⟩
 | loop rc v => obtain ⟨L, h1, h2, h3, h4, h5, h6, h7, h8⟩ := h; exact ⟨L, hr.trans h1, h2, h3, h4, h5, h6, h7.mono hZ hw hC, h8⟩
 | iter ag left cur v =>
  obtain ⟨r', arr, c, seen, h1, h2, h3, h4, h5, h6⟩ := h
  exact ⟨r', arr, c, seen, hr.trans h1, hZ _ h2, (hw _ h2).trans h3, h4, h5.mono hZ hw, fun c hc => (h6 c hc).elim fun x ⟨a, s, b, d⟩ => ⟨x, a, s, b, d.mono hZ hw⟩⟩
structure Bel (B : Nat) (w w' : World) : Prop extends Below B w w' where
 dr : w.drawn ≤ w'.drawn
theorem Bel.refl (B : Nat) (w : World) : Bel B w w := ⟨Below.refl B w, Nat.le_refl _⟩
theorem Bel.trans {B : Nat} {a b c : World} (h : Bel B a b) (k : Bel B b c) : Bel B a c := ⟨h.toBelow.trans k.toBelow, Nat.le_trans h.dr k.dr⟩
theorem Bel.mono {B B' : Nat} {w w' : World} (h : Bel B w w') (hB : B' ≤ B) : Bel B' w w' := ⟨h.toBelow.mono hB, h.dr⟩
theorem Bel.alloc {B : Nat} {a w : World} (h : Bel B a w) (hB : B ≤ w.heap.size) (o : Obj) : Bel B a (w.alloc o) := ⟨h.toBelow.alloc hB o, h.dr⟩
structure Sim (w0 : World) (μ : Map) (H : Heap) (w : World) : Prop where
 below : Bel w0.heap.size w0 w
 own : ∀ K r, μ K = some r → w0.heap.size ≤ r ∧ r < w.heap.size
 inj : ∀ K K' r, μ K = some r → μ K' = some r → K = K'
 dom : ∀ K r, μ K = some r → ∃ b, H K = some b
 old : ∀ b, μ.N b → b < w0.heap.size
 blk : ∀ K b r, H K = some b → μ K = some r → BRep w (Zof μ H w) (ctx μ H w) r b
structure Evo (μ : Map) (H : Heap) (w : World) (μ' : Map) (H' : Heap) (w' : World) : Prop where
 le : Ctx.le (ctx μ H w) (ctx μ' H' w')
 size : w.heap.size ≤ w'.heap.size
 fr : ∀ r, r < w.heap.size → (∀ K, μ K ≠ some r) → w'.heap[r]? = w.heap[r]? ∧ ∀ K, μ' K ≠ some r
 z : ∀ b, Zof μ H w b → Zof μ' H' w' b ∧ w'.heap[b]? = w.heap[b]?
 n : μ'.N = μ.N
theorem Evo.refl (μ : Map) (H : Heap) (w : World) : Evo μ H w μ H w := ⟨Ctx.le_refl _, Nat.le_refl _, fun _ _ h => ⟨rfl, h⟩, fun _ h => ⟨h, rfl⟩, rfl⟩
theorem Evo.trans {μ μ' μ'' : Map} {H H' H'' : Heap} {w w' w'' : World} (h : Evo μ H w μ' H' w') (k : Evo μ' H' w' μ'' H'' w'') : Evo μ H w μ'' H'' w'' :=
 ⟨Ctx.le_trans h.le k.le, Nat.le_trans h.size k.size,
  fun r hr hK => ⟨(k.fr r (Nat.lt_of_lt_of_le hr h.size) (h.fr r hr hK).2).1.trans (h.fr r hr hK).1, (k.fr r (Nat.lt_of_lt_of_le hr h.size) (h.fr r hr hK).2).2⟩,
  fun b hb => ⟨(k.z b (h.z b hb).1).1, (k.z b (h.z b hb).1).2.trans (h.z b hb).2⟩, k.n.trans h.n⟩
theorem Rep.evo {μ μ' : Map} {H H' : Heap} {w w' : World} (h : Evo μ H w μ' H' w') {p : PV} {x : Value} (hp : Rep w (Zof μ H w) (ctx μ H w) p x) : Rep w' (Zof μ' H' w') (ctx μ' H' w') p x :=
 hp.mono (fun b hb => (h.z b hb).1) (fun b hb => (h.z b hb).2) h.le
theorem Rep.evoN {μ μ' : Map} {H H' : Heap} {w w' : World} (h : Evo μ H w μ' H' w') {p : PV} {x : Value} (hp : Rep w (Zof μ H w) Ctx.nil p x) : Rep w' (Zof μ' H' w') Ctx.nil p x :=
 hp.mono (fun b hb => (h.z b hb).1) (fun b hb => (h.z b hb).2) (Ctx.le_refl _)
theorem RepL.evo {μ μ' : Map} {H H' : Heap} {w w' : World} (h : Evo μ H w μ' H' w') {p : List PV} {x : Array Value} (hp : RepL w (Zof μ H w) (ctx μ H w) p x) : RepL w' (Zof μ' H' w') (ctx μ' H' w') p x :=
 hp.mono (fun b hb => (h.z b hb).1) (fun b hb => (h.z b hb).2) h.le
theorem Evo.grow {w0 : World} {μ : Map} {H : Heap} {w w' : World} (hs : Sim w0 μ H w) (h : Bel w.heap.size w w') : Evo μ H w μ H w' where
 le := ⟨fun K v y hy => by
     obtain ⟨r, m⟩ := y
     obtain ⟨b, h1, h2, h3, h4⟩ := ctx_loc hy
     refine .inl ?_
     have := ctx_loc_of (w := w') h1 h3
     rw [h2] at this
     rw [this, h4]
     simp only [bsize, h.block r (hs.own K r h3).2], fun _ _ h => h⟩
 size := h.size
 fr := fun r hr hK => ⟨h.block r hr, hK⟩
 z := fun b hb => ⟨⟨Nat.lt_of_lt_of_le hb.1 h.size, hb.2⟩, h.block b hb.1⟩
 n := rfl
theorem Sim.grow {w0 : World} {μ : Map} {H : Heap} {w w' : World} (hs : Sim w0 μ H w) (h : Bel w.heap.size w w') : Sim w0 μ H w' where
 below := hs.below.trans (h.mono hs.below.size)
 own := fun K r hr => ⟨(hs.own K r hr).1, Nat.lt_of_lt_of_le (hs.own K r hr).2 h.size⟩
 inj := hs.inj
 dom := hs.dom
 old := hs.old
 blk := fun K b r hb hr => (hs.blk K b r hb hr).mono (fun b hb => ((Evo.grow hs h).z b hb).1) (fun b hb => ((Evo.grow hs h).z b hb).2) (Evo.grow hs h).le (h.block r (hs.own K r hr).2)
theorem PB.ver_mark (b : PB) : b.mark.ver = b.ver := by cases b <;> rfl
theorem PB.ro_mark {b : PB} (h : b.ro = true) : b.mark.ro = true := by cases b <;> simp_all [PB.ro, PB.mark]
def Heap.marked (H : Heap) (K : Key) : Heap := match H K with | some b => H.set K b.mark | none => H
theorem marked_at (H : Heap) (K K' : Key) : H.marked K K' = if K' = K then (H K).map PB.mark else H K' := by
 unfold Heap.marked
 cases h : H K with
 | none => by_cases e : K' = K <;> simp_all
 | some b => by_cases e : K' = K <;> simp_all [Heap.set]
theorem ctx_marked (μ : Map) (H : Heap) (w : World) (K : Key) : ctx μ (H.marked K) w = ctx μ H w := by
 unfold ctx
 congr 1
 ·funext K' v
  simp only [marked_at]
  by_cases e : K' = K
  ·subst e; simp only [if_true]; cases h : H K' <;> simp [PB.ver_mark]
  ·simp [e]
 ·funext K' v
  simp only [verOf, marked_at]
  by_cases e : K' = K
  ·subst e; simp only [if_true]; cases h : H K' <;> simp [PB.ver_mark]
  ·simp [e]
theorem Evo.mark {μ : Map} {H : Heap} {w : World} (K : Key) : Evo μ H w μ (H.marked K) w where
 le := by rw [ctx_marked]; exact Ctx.le_refl _
 size := Nat.le_refl _
 fr := fun _ _ h => ⟨rfl, h⟩
 z := fun b hb => ⟨⟨hb.1, fun K' hK' => by
  obtain ⟨x, h1, h2⟩ := hb.2.1 K' hK'
  rw [marked_at]
  by_cases e : K' = K
  ·subst e; exact ⟨x.mark, by simp [h1], PB.ro_mark h2⟩
  ·exact ⟨x, by simp [e, h1], h2⟩, hb.2.2⟩, rfl⟩
 n := rfl
theorem BRep.mark {w : World} {Z : Nat → Prop} {C : Ctx} {r : Nat} {b : PB} (h : BRep w Z C r b) : BRep w Z C r b.mark := by
 cases b <;> exact h
theorem Sim.mark {w0 : World} {μ : Map} {H : Heap} {w : World} (hs : Sim w0 μ H w) (K : Key) : Sim w0 μ (H.marked K) w where
 below := hs.below
 own := hs.own
 inj := hs.inj
 old := hs.old
 dom := fun K' r hr => by
  obtain ⟨b, hb⟩ := hs.dom K' r hr
  rw [marked_at]
  by_cases e : K' = K
  ·subst e; exact ⟨b.mark, by simp [hb]⟩
  ·exact ⟨b, by simp [e, hb]⟩
 blk := fun K' b r hb hr => by
  rw [marked_at] at hb
  have hm : ∀ b', H K' = some b' → BRep w (Zof μ (H.marked K) w) (ctx μ (H.marked K) w) r b' := fun b' hb' =>
   (hs.blk K' b' r hb' hr).mono (fun b hb => ((Evo.mark (μ := μ) (H := H) (w := w) K).z b hb).1) (fun b hb => rfl) (Evo.mark K).le rfl
  by_cases e : K' = K
  ·subst e
   simp only [if_true] at hb
   cases h : H K' with
   | none => simp [h] at hb
   | some b' => simp [h] at hb; rw [← hb]; exact (hm b' h).mark
  ·simp [e] at hb; exact hm b hb
theorem marked_z {w0 : World} {μ : Map} {H : Heap} {w : World} (hs : Sim w0 μ H w) {K : Key} {r : Nat} (hr : μ K = some r) (hb : ∀ b, H K = some b → b.mark.ro = true) :
    Zof μ (H.marked K) w r := by
 refine ⟨(hs.own K r hr).2, fun K' hK' => ?_, fun hN => by have := hs.old r hN; have := (hs.own K r hr).1; omega⟩
 obtain rfl := hs.inj K K' r hr hK'
 obtain ⟨b, h⟩ := hs.dom K r hr
 rw [marked_at]
 exact ⟨b.mark, by simp [h], hb b h⟩
def Heap.put (H : Heap) (K : Key) (b : PB) : Heap := H.set K b
theorem set_at (H : Heap) (K K' : Key) (b : PB) : H.set K b K' = if K' = K then some b else H K' := rfl
theorem upd_at (μ : Map) (K K' : Key) (r : Nat) : μ.upd K r K' = if K' = K then some r else μ K' := rfl
theorem Evo.alloc {w0 : World} {μ : Map} {H : Heap} {w : World} (hs : Sim w0 μ H w) (K : Key) (o : Obj) (b : PB) (hv : b.ver = verOf H K + 1) :
    Evo μ H w (μ.upd K w.heap.size) (H.set K b) (w.alloc o) where
 le := ⟨fun K' v y hy => by
     obtain ⟨r, m⟩ := y
     obtain ⟨b', h1, h2, h3, h4⟩ := ctx_loc hy
     by_cases e : K' = K
     · subst e
       refine .inr ?_
       simp [ctx, verOf, set_at, hv, h1, ← h2]
     · refine .inl ?_
       have h1' : H.set K b K' = some b' := by simp [set_at, e, h1]
       have h3' : μ.upd K w.heap.size K' = some r := by simp [upd_at, e, h3]
       have := ctx_loc_of (w := w.alloc o) h1' h3'
       rw [h2] at this
       rw [this, h4]
       simp only [bsize, Below.heap_alloc w o r (hs.own K' r h3).2],
  fun K' v hv' => by
   simp only [ctx, verOf, set_at] at hv' ⊢
   by_cases e : K' = K
   ·subst e; simp only [if_true, hv, verOf]; omega
   ·simp only [e, if_false]; exact hv'⟩
 size := by simp
 fr := fun r hr hK => ⟨Below.heap_alloc w o r hr, fun K' => by
  rw [upd_at]
  by_cases e : K' = K
  ·simp [e]; omega
  ·simp [e]; exact hK K'⟩
 z := fun b' hb' => ⟨⟨by simp; exact Nat.lt_succ_of_lt hb'.1, fun K' hK' => by
  rw [upd_at] at hK'
  by_cases e : K' = K
  ·simp [e] at hK'; have := hb'.1; omega
  ·simp [e] at hK'
   obtain ⟨x, h1, h2⟩ := hb'.2.1 K' hK'
   exact ⟨x, by simp [set_at, e, h1], h2⟩, hb'.2.2⟩, Below.heap_alloc w o b' hb'.1⟩
 n := rfl
theorem Sim.alloc {w0 : World} {μ : Map} {H : Heap} {w : World} (hs : Sim w0 μ H w) (K : Key) (o : Obj) (b : PB) (hv : b.ver = verOf H K + 1)
    (hb : BRep (w.alloc o) (Zof (μ.upd K w.heap.size) (H.set K b) (w.alloc o)) (ctx (μ.upd K w.heap.size) (H.set K b) (w.alloc o)) w.heap.size b) :
    Sim w0 (μ.upd K w.heap.size) (H.set K b) (w.alloc o) where
 below := hs.below.alloc hs.below.size o
 own := fun K' r hr => by
  rw [upd_at] at hr
  by_cases e : K' = K
  ·simp [e] at hr; have := hs.below.size; simp; omega
  ·simp [e] at hr; have := hs.own K' r hr; simp; omega
 old := hs.old
 inj := fun K1 K2 r h1 h2 => by
  rw [upd_at] at h1 h2
  by_cases e1 : K1 = K <;> by_cases e2 : K2 = K
  ·rw [e1, e2]
  ·simp [e1] at h1; simp [e2] at h2; have := (hs.own K2 r h2).2; omega
  ·simp [e1] at h1; simp [e2] at h2; have := (hs.own K1 r h1).2; omega
  ·simp [e1] at h1; simp [e2] at h2; exact hs.inj K1 K2 r h1 h2
 dom := fun K' r hr => by
  rw [upd_at] at hr
  by_cases e : K' = K
  ·exact ⟨b, by simp [set_at, e]⟩
  ·simp [e] at hr
   obtain ⟨b', h⟩ := hs.dom K' r hr
   exact ⟨b', by simp [set_at, e, h]⟩
 blk := fun K' b' r hb' hr => by
  rw [upd_at] at hr
  by_cases e : K' = K
  ·subst e
   simp [set_at] at hb' hr
   subst hb'; subst hr
   exact hb
  ·simp [e] at hr
   simp [set_at, e] at hb'
   have E := Evo.alloc hs K o b hv
   exact (hs.blk K' b' r hb' hr).mono (fun b hb => (E.z b hb).1) (fun b hb => (E.z b hb).2) E.le (Below.heap_alloc w o r (hs.own K' r hr).2)
theorem Evo.phantom {w0 : World} {μ : Map} {H : Heap} {w : World} (_hs : Sim w0 μ H w) (K : Key) (b : PB) (hv : b.ver = verOf H K + 1) : Evo μ H w (μ.del K) (H.set K b) w where
 le := ⟨fun K' v y hy => by
     obtain ⟨r, m⟩ := y
     obtain ⟨b', h1, h2, h3, h4⟩ := ctx_loc hy
     by_cases e : K' = K
     · subst e
       refine .inr ?_
       simp [ctx, verOf, set_at, hv, h1, ← h2]
     · refine .inl ?_
       have h1' : H.set K b K' = some b' := by simp [set_at, e, h1]
       have h3' : μ.del K K' = some r := by simp [Map.del, e, h3]
       have := ctx_loc_of (w := w) h1' h3'
       rw [h2] at this
       rw [this, h4],
  fun K' v hv' => by
   simp only [ctx, verOf, set_at] at hv' ⊢
   by_cases e : K' = K
   ·subst e; simp only [if_true, hv, verOf]; omega
   ·simp only [e, if_false]; exact hv'⟩
 size := Nat.le_refl _
 fr := fun r hr hK => ⟨rfl, fun K' => by
  by_cases e : K' = K
  ·simp [Map.del, e]
  ·simp [Map.del, e]; exact hK K'⟩
 z := fun b' hb' => ⟨⟨hb'.1, fun K' hK' => by
  by_cases e : K' = K
  ·simp [Map.del, e] at hK'
  ·simp [Map.del, e] at hK'
   obtain ⟨x, h1, h2⟩ := hb'.2.1 K' hK'
   exact ⟨x, by simp [set_at, e, h1], h2⟩, hb'.2.2⟩, rfl⟩
 n := rfl
theorem Sim.phantom {w0 : World} {μ : Map} {H : Heap} {w : World} (hs : Sim w0 μ H w) (K : Key) (b : PB) (hv : b.ver = verOf H K + 1) : Sim w0 (μ.del K) (H.set K b) w where
 below := hs.below
 own := fun K' r hr => by
  by_cases e : K' = K
  ·simp [Map.del, e] at hr
  ·simp [Map.del, e] at hr; exact hs.own K' r hr
 old := hs.old
 inj := fun K1 K2 r h1 h2 => by
  by_cases e1 : K1 = K <;> by_cases e2 : K2 = K <;> simp [Map.del, e1, e2] at h1 h2
  exact hs.inj K1 K2 r h1 h2
 dom := fun K' r hr => by
  by_cases e : K' = K
  ·simp [Map.del, e] at hr
  ·simp [Map.del, e] at hr
   obtain ⟨b', h⟩ := hs.dom K' r hr
   exact ⟨b', by simp [set_at, e, h]⟩
 blk := fun K' b' r hb' hr => by
  by_cases e : K' = K
  ·simp [Map.del, e] at hr
  ·simp [Map.del, e] at hr
   simp [set_at, e] at hb'
   have E := Evo.phantom hs K b hv
   exact (hs.blk K' b' r hb' hr).mono (fun b hb => (E.z b hb).1) (fun b hb => (E.z b hb).2) E.le rfl
theorem Evo.write {w0 : World} {μ : Map} {H : Heap} {w w' : World} (hs : Sim w0 μ H w) {K : Key} {r : Nat} {b b' : PB} (hK : H K = some b) (hr : μ K = some r) (hro : b.ro = false)
    (hv : b'.ver = b.ver ∨ b'.ver = b.ver + 1) (hsz : w'.heap.size = w.heap.size) (hoth : ∀ k, k ≠ r → w'.heap[k]? = w.heap[k]?) (hbs : bsize w' r = bsize w r) : Evo μ H w μ (H.set K b') w' where
 le := ⟨fun K' v y hy => by
     obtain ⟨r', m⟩ := y
     obtain ⟨b1, h1, h2, h3, h4⟩ := ctx_loc hy
     by_cases e : K' = K
     · subst e
       rw [hK] at h1
       cases h1
       rw [hr] at h3
       cases h3
       rcases hv with hv | hv
       · refine .inl ?_
         have := ctx_loc_of (w := w') (H := H.set K' b') (K := K') (b := b') (μ := μ) (by simp [set_at]) hr
         rw [hv, h2] at this
         rw [this, h4, hbs]
       · refine .inr ?_
         simp [ctx, verOf, set_at, hv, ← h2]
     · refine .inl ?_
       have h1' : H.set K b' K' = some b1 := by simp [set_at, e, h1]
       have := ctx_loc_of (w := w') h1' h3
       rw [h2] at this
       have hne : r' ≠ r := fun h => e (hs.inj K' K r (h ▸ h3) hr)
       rw [this, h4]
       simp only [bsize, hoth r' hne],
  fun K' v hv' => by
   simp only [ctx, verOf, set_at] at hv' ⊢
   by_cases e : K' = K
   ·subst e
    simp only [if_true]
    rw [hK] at hv'
    simp only at hv'
    omega
   ·simp only [e, if_false]; exact hv'⟩
 size := by omega
 fr := fun k hk hK' => ⟨hoth k fun h => hK' K (h ▸ hr), hK'⟩
 z := fun k hk => by
  have hne : k ≠ r := fun h => by
   obtain ⟨x, h1, h2⟩ := hk.2.1 K (h ▸ hr)
   rw [hK] at h1
   cases h1
   rw [hro] at h2
   cases h2
  exact ⟨⟨by rw [hsz]; exact hk.1, fun K' hK' => by
   by_cases e : K' = K
   ·subst e; rw [hr] at hK'; cases hK'; exact absurd rfl hne
   ·obtain ⟨x, h1, h2⟩ := hk.2.1 K' hK'
    exact ⟨x, by simp [set_at, e, h1], h2⟩, hk.2.2⟩, hoth k hne⟩
 n := rfl
theorem Sim.write {w0 : World} {μ : Map} {H : Heap} {w w' : World} (hs : Sim w0 μ H w) {K : Key} {r : Nat} {b b' : PB} (hK : H K = some b) (hr : μ K = some r) (hro : b.ro = false)
    (hv : b'.ver = b.ver ∨ b'.ver = b.ver + 1) (hsz : w'.heap.size = w.heap.size) (hoth : ∀ k, k ≠ r → w'.heap[k]? = w.heap[k]?) (hbs : bsize w' r = bsize w r)
    (hw : w'.os = w.os ∧ w'.tape = w.tape ∧ w'.output = w.output ∧ w.drawn ≤ w'.drawn)
    (hb : BRep w' (Zof μ (H.set K b') w') (ctx μ (H.set K b') w') r b') : Sim w0 μ (H.set K b') w' where
 below := ⟨⟨hw.1.trans hs.below.os, hw.2.1.trans hs.below.tape, hw.2.2.1.trans hs.below.output, by rw [hsz]; exact hs.below.size, fun k hk => by
  have := (hs.own K r hr).1
  rw [hoth k (by omega)]
  exact hs.below.block k hk⟩, Nat.le_trans hs.below.dr hw.2.2.2⟩
 own := fun K' r' hr' => by rw [hsz]; exact hs.own K' r' hr'
 inj := hs.inj
 old := hs.old
 dom := fun K' r' hr' => by
  by_cases e : K' = K
  ·exact ⟨b', by simp [set_at, e]⟩
  ·obtain ⟨b1, h⟩ := hs.dom K' r' hr'
   exact ⟨b1, by simp [set_at, e, h]⟩
 blk := fun K' b1 r' hb1 hr' => by
  have E := Evo.write (b' := b') hs hK hr hro hv hsz hoth hbs
  by_cases e : K' = K
  ·subst e
   rw [hr] at hr'
   cases hr'
   simp [set_at] at hb1
   subst hb1
   exact hb
  ·simp [set_at, e] at hb1
   have hne : r' ≠ r := fun h => e (hs.inj K' K r (h ▸ hr') hr)
   exact (hs.blk K' b1 r' hb1 hr').mono (fun b hb => (E.z b hb).1) (fun b hb => (E.z b hb).2) E.le (hoth r' hne)
variable {w0 : World} {μ : Map} {H : Heap} {w : World} {q : Prop}
theorem unt_sound {α : Type} {C : Ctx} {Z : Nat → Prop} {p : PV} {k : PV → Prg α} {Q : α → Heap → Prop} {x : Value} (h : (unt p k).wp q Q H) (hq : q) (hp : Rep w Z C p x) :
    ∃ v, (k v).wp q Q H ∧ Rep w Z C v x := by
 cases p with
 | tnt p' v =>
  simp only [unt, Prg.wp] at h
  cases hp with
  | tnt hp _ => exact ⟨v, h.2, hp (h.1 hq)⟩
 | _ => exact ⟨_, h, hp⟩
theorem RepL.nil {Z : Nat → Prop} {C : Ctx} : RepL w Z C [] #[] := ⟨rfl, fun j p x h => by simp at h⟩
theorem RepL.of_list {Z : Nat → Prop} {C : Ctx} {ps : List PV} {l : List Value} (h1 : l.length = ps.length) (h2 : ∀ (j : Nat) p x, ps[j]? = some p → l[j]? = some x → Rep w Z C p x) : RepL w Z C ps l.toArray :=
 ⟨by simpa using h1, fun j p x a b => h2 j p x a (by simpa using b)⟩
theorem RepL.toList {Z : Nat → Prop} {C : Ctx} {ps : List PV} {xs : Array Value} (h : RepL w Z C ps xs) : xs.toList.length = ps.length ∧ ∀ (j : Nat) p x, ps[j]? = some p → xs.toList[j]? = some x → Rep w Z C p x :=
 ⟨by simpa using h.1, fun j p x a b => h.2 j p x a (by simpa using b)⟩
def RepS (w : World) (Z : Nat → Prop) (C : Ctx) : List PV → List Value → Prop
 | [], [] => True
 | p :: ps, x :: xs => Rep w Z C p x ∧ RepS w Z C ps xs
 | _, _ => False
theorem RepS.length {Z : Nat → Prop} {C : Ctx} : ∀ {ps : List PV} {xs : List Value}, RepS w Z C ps xs → xs.length = ps.length
 | [], [], _ => rfl
 | _ :: ps, _ :: xs, h => by simp [RepS.length h.2]
theorem RepS.get {Z : Nat → Prop} {C : Ctx} : ∀ {ps : List PV} {xs : List Value}, RepS w Z C ps xs → ∀ {j : Nat} {p : PV} {x : Value}, ps[j]? = some p → xs[j]? = some x → Rep w Z C p x
 | _ :: _, _ :: _, h, 0, p, x, a, b => by simp at a b; subst a; subst b; exact h.1
 | _ :: ps, _ :: xs, h, j + 1, p, x, a, b => by simp at a b; exact RepS.get h.2 a b
theorem RepS.of {Z : Nat → Prop} {C : Ctx} : ∀ {ps : List PV} {xs : List Value}, xs.length = ps.length → (∀ (j : Nat) p x, ps[j]? = some p → xs[j]? = some x → Rep w Z C p x) → RepS w Z C ps xs
 | [], [], _, _ => trivial
 | [], x :: xs, h, _ => by simp at h
 | p :: ps, [], h, _ => by simp at h
 | p :: ps, x :: xs, h, k => ⟨k 0 p x (by simp) (by simp), RepS.of (by simpa using h) fun j p x a b => k (j + 1) p x (by simpa using a) (by simpa using b)⟩
theorem RepL.s {Z : Nat → Prop} {C : Ctx} {ps : List PV} {xs : Array Value} (h : RepL w Z C ps xs) : RepS w Z C ps xs.toList := RepS.of h.toList.1 h.toList.2
theorem RepS.l {Z : Nat → Prop} {C : Ctx} {ps : List PV} {xs : List Value} (h : RepS w Z C ps xs) : RepL w Z C ps xs.toArray := RepL.of_list h.length fun _ _ _ a b => h.get a b
theorem RepS.mono {w w' : World} {Z Z' : Nat → Prop} (hZ : ∀ b, Z b → Z' b) (hw : ∀ b, Z b → w'.heap[b]? = w.heap[b]?) {C C' : Ctx} (hC : Ctx.le C C') : ∀ {ps : List PV} {xs : List Value}, RepS w Z C ps xs → RepS w' Z' C' ps xs
 | [], [], _ => trivial
 | _ :: _, _ :: _, h => ⟨h.1.mono hZ hw hC, RepS.mono hZ hw hC h.2⟩
theorem RepS.append {Z : Nat → Prop} {C : Ctx} : ∀ {ps qs : List PV} {xs ys : List Value}, RepS w Z C ps xs → RepS w Z C qs ys → RepS w Z C (ps ++ qs) (xs ++ ys)
 | [], _, [], _, _, k => k
 | _ :: _, _, _ :: _, _, h, k => ⟨h.1, RepS.append h.2 k⟩
theorem clean_rep {Z : Nat → Prop} {C : Ctx} {p : PV} {x : Value} (h : Rep w Z C p x) (ht : taint p) : Rep w Z C (clean p) x := by
 cases p with
 | tnt p' v => cases h with | tnt h _ => exact h ht
 | _ => exact h
theorem cleanL_rep {Z : Nat → Prop} {C : Ctx} : ∀ {ps : List PV} {xs : List Value}, allT ps → RepS w Z C ps xs → RepS w Z C (ps.map clean) xs
 | [], [], _, _ => trivial
 | _ :: _, _ :: _, h, k => ⟨clean_rep k.1 h.1, cleanL_rep h.2 k.2⟩
theorem untL_sound {α : Type} {C : Ctx} {Z : Nat → Prop} {Q : α → Heap → Prop} (hq : q) {ps : List PV} {k : List PV → Prg α} {xs : List Value} (h : (untL ps k).wp q Q H) (hr : RepS w Z C ps xs) :
    ∃ vs, (k vs).wp q Q H ∧ RepS w Z C vs xs := ⟨_, h.2, cleanL_rep (h.1 hq) hr⟩
theorem fl_get : ∀ {cs : List PV} {j : Nat} {p : PV}, flat.flatL cs = true → cs[j]? = some p → flat p = true
 | c :: cs, 0, p, h, a => by simp [flat.flatL] at h a; subst a; exact h.1
 | c :: cs, j + 1, p, h, a => by simp [flat.flatL] at h a; exact fl_get h.2 a
theorem Rep.flat {w w' : World} {Z Z' : Nat → Prop} {C C' : Ctx} {p : PV} {x : Value} (h : Rep w Z C p x) (hf : Wb.flat p = true) : Rep w' Z' C' p x := by
 revert C'
 induction h with
 | int => intro _; exact .int
 | bool => intro _; exact .bool
 | agg h _ ih => intro C'; simp only [Wb.flat] at hf; exact .agg h fun j p x a b => ih j p x a b (fl_get hf a)
 | tup h _ ih => intro C'; simp only [Wb.flat] at hf; exact .tup h fun j p x a b => ih j p x a b (fl_get hf a)
 | _ => simp [Wb.flat] at hf
def Zk (μ : Map) (H : Heap) (w : World) (ks : List Key) (b : Nat) : Prop := Zof μ H w b ∨ ∃ K ∈ ks, μ K = some b
theorem Zk.mono {ks ks' : List Key} (h : ∀ K ∈ ks, K ∈ ks') : ∀ b, Zk μ H w ks b → Zk μ H w ks' b := fun _ hb => hb.imp id fun ⟨K, h1, h2⟩ => ⟨K, h K h1, h2⟩
def Marks (H : Heap) (ks : List Key) : Prop := ∀ K ∈ ks, ∃ b, H K = some b ∧ b.mark.ro = true
theorem Marks.nil : Marks H [] := fun _ h => by cases h
theorem Marks.one {K : Key} {b : PB} (h : H K = some b) (hb : b.mark.ro = true) : Marks H [K] := fun K' h' => by simp at h'; subst h'; exact ⟨b, h, hb⟩
theorem Marks.append {ks ls : List Key} (h : Marks H ks) (k : Marks H ls) : Marks H (ks ++ ls) := fun K hK => (List.mem_append.1 hK).elim (h K) (k K)
theorem frzL_sound {α : Type} {Q : α → Heap → Prop} {C : Ctx} {Z : Nat → Prop} {f : PV → (PV → List Key → Prg α) → Prg α}
    (hf : ∀ (p : PV) (x : Value) (k : PV → List Key → Prg α), (f p k).wp q Q H → Rep w Z C p x → ∃ t ks, (k t ks).wp q Q H ∧ Rep w (Zk μ H w ks) Ctx.nil t x ∧ Marks H ks) :
    ∀ {ps : List PV} {k : List PV → List Key → Prg α} {xs : List Value}, (frzL f ps k).wp q Q H → RepS w Z C ps xs →
      ∃ ts ks, (k ts ks).wp q Q H ∧ RepS w (Zk μ H w ks) Ctx.nil ts xs ∧ Marks H ks
 | [], k, [], h, _ => ⟨[], [], h, trivial, Marks.nil⟩
 | p :: ps, k, x :: xs, h, hp => by
  simp only [frzL] at h
  obtain ⟨t, ks, h1, h2, h3⟩ := hf p x _ h hp.1
  obtain ⟨ts, ls, h4, h5, h6⟩ := frzL_sound hf h1 hp.2
  exact ⟨t :: ts, ks ++ ls, h4, ⟨h2.mono (Zk.mono fun K hK => List.mem_append.2 (.inl hK)) (fun _ _ => rfl) (Ctx.le_refl _),
   RepS.mono (Zk.mono fun K hK => List.mem_append.2 (.inr hK)) (fun _ _ => rfl) (Ctx.le_refl _) h5⟩, h3.append h6⟩
theorem chunks_get {sz : Nat} (hs : 0 < sz) : ∀ {n : Nat} {cs : List PV} {i : Nat} {row : List PV}, (chunks sz n cs)[i]? = some row → i < n ∧ row = (cs.drop (i * sz)).take sz
 | n + 1, cs, 0, row, h => by simp [chunks] at h; exact ⟨by omega, by simp [h]⟩
 | n + 1, cs, i + 1, row, h => by
  simp [chunks] at h
  obtain ⟨h1, h2⟩ := chunks_get hs h
  refine ⟨by omega, ?_⟩
  rw [h2, List.drop_drop, show sz + i * sz = (i + 1) * sz by rw [Nat.add_mul]; omega]
theorem chunks_length {sz : Nat} : ∀ {n : Nat} {cs : List PV}, (chunks sz n cs).length = n
 | 0, _ => rfl
 | n + 1, cs => by simp [chunks, chunks_length]
theorem arows_get {sz n : Nat} (hs : 0 < sz) {cs : List PV} (hl : n * sz ≤ cs.length) {i : Nat} {row : List PV} (h : (arows sz n cs)[i]? = some row) :
    i < n ∧ row.length = sz ∧ ∀ j p, row[j]? = some p → j < sz ∧ cs[i * sz + j]? = some p := by
 unfold arows at h
 split at h
 ·rename_i h1
  subst h1
  simp only [ones, List.getElem?_map, List.getElem?_take] at h
  split at h
  ·rename_i hi
   cases hc : cs[i]? with
   | none => simp [hc] at h
   | some c =>
    simp [hc] at h
    subst h
    refine ⟨hi, rfl, fun j p hj => ?_⟩
    cases j with
    | zero => simp at hj; subst hj; simp [hc]
    | succ j => simp at hj
  ·simp at h
 ·obtain ⟨h1, h2⟩ := chunks_get hs h
  subst h2
  have h3 : i * sz + sz ≤ n * sz := by
   have : (i + 1) * sz ≤ n * sz := Nat.mul_le_mul_right _ h1
   rw [Nat.add_mul] at this; omega
  refine ⟨h1, by simp; omega, fun j p hj => ?_⟩
  rw [List.getElem?_take] at hj
  split at hj
  ·rename_i hlt
   rw [List.getElem?_drop] at hj
   exact ⟨hlt, hj⟩
  ·cases hj
theorem arows_length {sz n : Nat} {cs : List PV} (hs : 0 < sz) (hl : n * sz ≤ cs.length) : (arows sz n cs).length = n := by
 unfold arows
 split
 ·rename_i h; subst h; simp [ones]; omega
 ·exact chunks_length
theorem frz_sound {α : Type} [Inhabited α] {Q : α → Heap → Prop} (hs : Sim w0 μ H w) (hq : q) : ∀ (n : Nat) (p : PV) (x : Value) (k : PV → List Key → Prg α),
    (frz n p k).wp q Q H → Rep w (Zof μ H w) (ctx μ H w) p x → ∃ t ks, (k t ks).wp q Q H ∧ Rep w (Zk μ H w ks) Ctx.nil t x ∧ Marks H ks := by
 intro n
 induction n with
 | zero => intro p x k h _; exact absurd hq (by have := h.1; simpa using this)
 | succ n ih =>
  intro p x k h hp
  have hz : ∀ ks b, Zof μ H w b → Zk μ H w ks b := fun ks b hb => .inl hb
  cases p with
  | int _ _ => cases hp; exact ⟨_, [], h, .int, Marks.nil⟩
  | bool _ => cases hp; exact ⟨_, [], h, .bool, Marks.nil⟩
  | undef => exact absurd hq (by have := h.1; simpa using this)
  | tnt _ _ => exact absurd hq (by have := h.1; simpa using this)
  | rref _ _ _ _ _ _ => exact absurd hq (by have := h.1; simpa using this)
  | yld _ _ => exact absurd hq (by have := h.1; simpa using this)
  | nilfn => cases hp; exact ⟨_, [], h, .nilfn, Marks.nil⟩
  | nilmap => cases hp; exact ⟨_, [], h, .nilmap, Marks.nil⟩
  | nilptr => cases hp; exact ⟨_, [], h, .nilptr, Marks.nil⟩
  | gref _ _ => cases hp; exact ⟨_, [], h, .gref, Marks.nil⟩
  | sl rows ex =>
   cases hp with
   | sl sz blk off vals h1 h2 h3 h4 h5 h6 h7 =>
    exact ⟨_, [], h, .sl sz blk off vals h1 h2 h3 h4 h5 (fun i row j p a b => ⟨hz _ _ (h6 i row j p a b).1, (h6 i row j p a b).2⟩)
     (fun i row j p a b => (h7 i row j p a b).mono (hz _) (fun _ _ => rfl) (Ctx.le_refl _)), Marks.nil⟩
  | eref row off =>
   cases hp with
   | eref blk o vals h6 h7 =>
    exact ⟨_, [], h, .eref blk o vals (fun j p a => ⟨hz _ _ (h6 j p a).1, (h6 j p a).2⟩) (fun j p a => (h7 j p a).mono (hz _) (fun _ _ => rfl) (Ctx.le_refl _)), Marks.nil⟩
  | mp ag kl es =>
   cases hp with
   | mp arr clock hZ h0 h1 hl hk h7 => exact ⟨_, [], h, .mp arr clock (hz _ _ hZ) h0 h1 hl hk (fun i e x a b => (h7 i e x a b).mono (hz _) (fun _ _ => rfl) (Ctx.le_refl _)), Marks.nil⟩
  | agg cs =>
   cases hp with
   | agg h1 h7 =>
    simp only [frz] at h
    obtain ⟨ts, ks, h2, h3, h4⟩ := frzL_sound (fun p x k => ih p x k) h (RepL.s (⟨h1, h7⟩ : RepL _ _ _ _ _))
    exact ⟨_, ks, h2, .agg (by have := h3.length; simpa using this) (fun j p x a b => h3.get a (by simpa using b)), h4⟩
  | tup cs =>
   cases hp with
   | tup h1 h7 =>
    simp only [frz] at h
    obtain ⟨ts, ks, h2, h3, h4⟩ := frzL_sound (fun p x k => ih p x k) h (RepL.s (⟨h1, h7⟩ : RepL _ _ _ _ _))
    exact ⟨_, ks, h2, .tup (by have := h3.length; simpa using this) (fun j p x a b => h3.get a (by simpa using b)), h4⟩
  | fn f first cap =>
   cases hp with
   | fn h1 h2 h3 h4 =>
    simp only [frz] at h
    obtain ⟨ts, ks, g1, g2, g3⟩ := frzL_sound (fun p x k => ih p x k) h (RepL.s (⟨h1, h3⟩ : RepL _ _ _ _ _))
    obtain ⟨us, ls, g4, g5, g6⟩ := frzL_sound (fun p x k => ih p x k) g1 (RepL.s (⟨h2, h4⟩ : RepL _ _ _ _ _))
    refine ⟨_, ks ++ ls, g4, .fn (by have := g2.length; simpa using this) (by have := g5.length; simpa using this) (fun j p x a b => ?_) (fun j p x a b => ?_), g3.append g6⟩
    ·exact (g2.get a (by simpa using b)).mono (Zk.mono fun K hK => List.mem_append.2 (.inl hK)) (fun _ _ => rfl) (Ctx.le_refl _)
    ·exact (g5.get a (by simpa using b)).mono (Zk.mono fun K hK => List.mem_append.2 (.inr hK)) (fun _ _ => rfl) (Ctx.le_refl _)
  | sref K v sz m ex =>
   simp only [frz, Prg.wp] at h
   cases hK : H K with
   | none => rw [hK] at h; exact absurd hq (by have := h.1; simpa using this)
   | some b =>
    rw [hK] at h
    cases b with
    | rows sz' rs v' ro =>
     simp only [Prg.wp] at h
     obtain ⟨h1, h2⟩ := h
     obtain ⟨rfl, rfl, rfl⟩ := h1 hq
     refine ⟨_, [K], h2, ?_, Marks.one hK rfl⟩
     generalize hm : rs.length = m at hp
     cases hp with
     | sref0 =>
      obtain rfl : rs = [] := List.eq_nil_of_length_eq_zero hm
      exact .sl 0 0 0 (fun _ _ => undef) rfl (Nat.le_refl _) (fun _ => rfl) (fun h => absurd rfl h) (fun _ h => by cases h) (fun i row j p a => by simp at a) (fun i row j p a => by simp at a)
     | sref hl0 g0 g1 g2 =>
      obtain ⟨m', hl, g3⟩ := hl0.resolve_right fun hst => ctx_stale hst hK rfl
      obtain ⟨b, e1, e2, e3, e4⟩ := ctx_loc hl
      rw [hK] at e1
      cases e1
      obtain ⟨arr, T, b1, b2, b3, b4⟩ := hs.blk K _ _ hK e3
      have hin : ∀ i row j p, rs[i]? = some row → row[j]? = some p → i * sz + j < arr.size := fun i row j p a b => by
       have hi := (List.getElem?_eq_some_iff.1 a).1
       have hj := (List.getElem?_eq_some_iff.1 b).1
       have hr := b3 row (List.mem_of_getElem? a)
       have : (i + 1) * sz ≤ rs.length * sz := Nat.mul_le_mul_right _ hi
       rw [Nat.add_mul] at this
       omega
      refine .sl sz _ 0 (fun i j => arr.getD (i * sz + j) undef) hm g1 g2 (fun _ => rfl) b3 (fun i row j p a b => ⟨.inr ⟨K, by simp, e3⟩, ?_⟩) (fun i row j p a b => ?_)
      ·rw [Nat.zero_add, cell_of_row w _ _ arr T _ b1, Array.getElem?_eq_getElem (hin i row j p a b)]
       simp [hin i row j p a b]
      ·have hlt := hin i row j p a b
       exact (b4 i row j p _ a b (by rw [Array.getElem?_eq_getElem hlt]; simp [hlt])).mono (hz _) (fun _ _ => rfl) (Ctx.le_refl _)
    | _ => exact absurd hq (by have := h.1; simpa using this)
  | aref K v off sz m =>
   simp only [frz, Prg.wp] at h
   cases hK : H K with
   | none => rw [hK] at h; exact absurd hq (by have := h.1; simpa using this)
   | some b =>
    rw [hK] at h
    cases b with
    | cells cs v' ro =>
     simp only [Prg.wp] at h
     obtain ⟨h1, h2⟩ := h
     obtain ⟨rfl, hsz, hlen⟩ := h1 hq
     cases hp with
     | aref hl g1 =>
      have e3 := ctx_at hl hK rfl
      obtain ⟨arr, T, b1, b2, b3⟩ := hs.blk K _ _ hK e3
      cases hfl : flat.flatL cs with
      | true =>
       rw [hfl] at h2
       refine ⟨_, [K], h2, ?_, Marks.one hK rfl⟩
       have hd : m * sz ≤ (cs.drop off).length := by simp; omega
       have hg : ∀ i row j p, (arows sz m (cs.drop off))[i]? = some row → row[j]? = some p → cs[off + i * sz + j]? = some p ∧ off + i * sz + j < arr.size := fun i row j p a b => by
        have := ((arows_get hsz hd a).2.2 j p b).2
        rw [List.getElem?_drop, ← Nat.add_assoc] at this
        exact ⟨this, by rw [b2]; exact (List.getElem?_eq_some_iff.1 this).1⟩
       refine .sl sz _ off (fun i j => arr.getD (off + i * sz + j) undef) (arows_length hsz hd) g1 (fun h => by cases h) (fun _ => rfl)
        (fun row hr => by obtain ⟨i, hi⟩ := List.mem_iff_getElem?.1 hr; exact (arows_get hsz hd hi).2.1) (fun i row j p a b => ⟨.inr ⟨K, by simp, e3⟩, ?_⟩) (fun i row j p a b => ?_)
       ·have := (hg i row j p a b).2
        rw [cell_of_row w _ _ arr T _ b1, Array.getElem?_eq_getElem this]
        simp [this]
       ·obtain ⟨g4, g5⟩ := hg i row j p a b
        exact (b3 _ p _ g4 (by rw [Array.getElem?_eq_getElem g5]; simp [g5])).flat (fl_get hfl g4)
      | false =>
       rw [hfl] at h2
       obtain ⟨ts, ks, q1, q2, q3⟩ := frzL_sound (fun p x k => ih p x k) h2.2 (RepL.s (⟨b2, b3⟩ : RepL _ _ _ _ _))
       refine ⟨_, K :: ks, q1, ?_, (Marks.one hK rfl).append q3⟩
       have htl : ts.length = cs.length := by have := q2.length; simp at this; omega
       have hd : m * sz ≤ (ts.drop off).length := by simp; omega
       have hg : ∀ i row j p, (arows sz m (ts.drop off))[i]? = some row → row[j]? = some p → ts[off + i * sz + j]? = some p ∧ off + i * sz + j < arr.size := fun i row j p a b => by
        have := ((arows_get hsz hd a).2.2 j p b).2
        rw [List.getElem?_drop, ← Nat.add_assoc] at this
        exact ⟨this, by rw [b2, ← htl]; exact (List.getElem?_eq_some_iff.1 this).1⟩
       refine .sl sz _ off (fun i j => arr.getD (off + i * sz + j) undef) (arows_length hsz hd) g1 (fun h => by cases h) (fun _ => rfl)
        (fun row hr => by obtain ⟨i, hi⟩ := List.mem_iff_getElem?.1 hr; exact (arows_get hsz hd hi).2.1) (fun i row j p a b => ⟨.inr ⟨K, by simp, e3⟩, ?_⟩) (fun i row j p a b => ?_)
       ·have := (hg i row j p a b).2
        rw [cell_of_row w _ _ arr T _ b1, Array.getElem?_eq_getElem this]
        simp [this]
       ·obtain ⟨g4, g5⟩ := hg i row j p a b
        exact (q2.get g4 (by rw [Array.getElem?_toList, Array.getElem?_eq_getElem g5]; simp [g5])).mono (Zk.mono fun K hK => by simp [hK]) (fun _ _ => rfl) (Ctx.le_refl _)
    | _ => exact absurd hq (by have := h.1; simpa using this)
  | ref K v off =>
   simp only [frz, Prg.wp] at h
   cases hK : H K with
   | none => rw [hK] at h; exact absurd hq (by have := h.1; simpa using this)
   | some b =>
    rw [hK] at h
    cases b with
    | cells cs v' ro =>
     simp only [Prg.wp] at h
     obtain ⟨h1, h2⟩ := h
     obtain rfl := h1 hq
     cases hp with
     | @ref _ _ _ _ r hl =>
      have e3 := ctx_at hl hK rfl
      obtain ⟨arr, T, b1, b2⟩ := hs.blk K _ _ hK e3
      obtain ⟨ts, ks, g1, g2, g3⟩ := frzL_sound (fun p x k => ih p x k) h2 b2.s
      refine ⟨_, K :: ks, g1, ?_, (Marks.one hK rfl).append g3⟩
      have hin : ∀ j p, ts[j]? = some p → j < arr.size := fun j p a => by
       have := (List.getElem?_eq_some_iff.1 a).1
       have h4 := g2.length
       simp at h4
       omega
      have e : (⟨r, off, none⟩ : Addr) = ⟨r, 0 + off, none⟩ := by rw [Nat.zero_add]
      rw [e]
      refine .eref _ 0 (fun j => arr.getD j undef) (fun j p a => ⟨.inr ⟨K, by simp, e3⟩, ?_⟩) (fun j p a => ?_)
      ·have := hin j p a
       rw [Nat.zero_add, cell_of_row w _ _ arr T _ b1, Array.getElem?_eq_getElem this]
       simp [this]
      ·have := hin j p a
       exact (g2.get a (by rw [Array.getElem?_toList, Array.getElem?_eq_getElem this]; simp [this])).mono (Zk.mono fun K hK => by simp [hK]) (fun _ _ => rfl) (Ctx.le_refl _)
    | _ => exact absurd hq (by have := h.1; simpa using this)
  | mref K v =>
   simp only [frz, Prg.wp] at h
   cases hK : H K with
   | none => rw [hK] at h; exact absurd hq (by have := h.1; simpa using this)
   | some b =>
    rw [hK] at h
    cases b with
    | map ag kl es v' ro =>
     simp only [Prg.wp] at h
     obtain ⟨h1, h2⟩ := h
     obtain rfl := h1 hq
     refine ⟨_, [K], h2, ?_, Marks.one hK rfl⟩
     cases hp with
     | mref hl =>
      have e3 := ctx_at hl hK rfl
      obtain ⟨arr, c, b1, b2, b0, b3, b4⟩ := hs.blk K _ _ hK e3
      exact .mp arr c (.inr ⟨K, by simp, e3⟩) b1 b2 b0 b3 (fun i e x a b => (b4 i e x a b).mono (hz _) (fun _ _ => rfl) (Ctx.le_refl _))
    | _ => exact absurd hq (by have := h.1; simpa using this)
def marks (H : Heap) (ks : List Key) : Heap := ks.foldl Heap.marked H
theorem roAll_wp {α : Type} {Q : α → Heap → Prop} {m : Prg α} : ∀ {ks : List Key} {H : Heap}, (roAll ks m).wp q Q H = m.wp q Q (marks H ks)
 | [], _ => rfl
 | K :: ks, H => by
  simp only [roAll, Prg.wp, marks, List.foldl_cons]
  exact roAll_wp (ks := ks) (H := H.marked K)
theorem Marks.marked {ks : List Key} (h : Marks H ks) (K : Key) : Marks (H.marked K) ks := fun K' hK' => by
 obtain ⟨b, h1, h2⟩ := h K' hK'
 rw [marked_at]
 by_cases e : K' = K
 ·subst e; exact ⟨b.mark, by simp [h1], by cases b <;> simp_all [PB.mark, PB.ro]⟩
 ·exact ⟨b, by simp [e, h1], h2⟩
theorem marks_sound : ∀ {ks : List Key} {H : Heap}, Sim w0 μ H w → Marks H ks → Sim w0 μ (marks H ks) w ∧ Evo μ H w μ (marks H ks) w ∧ ∀ b, Zk μ H w ks b → Zof μ (marks H ks) w b
 | [], H, hs, _ => ⟨hs, Evo.refl _ _ _, fun b hb => hb.elim id fun ⟨_, h, _⟩ => by cases h⟩
 | K :: ks, H, hs, hm => by
  obtain ⟨h1, h2, h3⟩ := marks_sound (ks := ks) (hs.mark K) (Marks.marked (fun K' hK' => hm K' (by simp [hK'])) K)
  refine ⟨h1, (Evo.mark K).trans h2, fun b hb => h3 b ?_⟩
  rcases hb with hb | ⟨K', hK', hr⟩
  ·exact .inl ((Evo.mark (μ := μ) (H := H) (w := w) K).z b hb).1
  ·rcases List.mem_cons.1 hK' with e | e
   ·subst e
    obtain ⟨b', g1, g2⟩ := hm K' (by simp)
    exact .inl (marked_z hs hr fun b'' g => by rw [g1] at g; cases g; exact g2)
   ·exact .inr ⟨K', e, hr⟩
theorem frz_ro {Q : PV → Heap → Prop} (hs : Sim w0 μ H w) (hq : q) {n : Nat} {p : PV} {x : Value} {k : PV → Prg PV} (h : (frz n p fun t ks => roAll ks (k t)).wp q Q H)
    (hp : Rep w (Zof μ H w) (ctx μ H w) p x) : ∃ t H', (k t).wp q Q H' ∧ Sim w0 μ H' w ∧ Evo μ H w μ H' w ∧ Rep w (Zof μ H' w) Ctx.nil t x := by
 obtain ⟨t, ks, h1, h2, h3⟩ := frz_sound hs hq n p x _ h hp
 rw [roAll_wp] at h1
 obtain ⟨g1, g2, g3⟩ := marks_sound hs h3
 exact ⟨t, _, h1, g1, g2, h2.mono g3 (fun _ _ => rfl) (Ctx.le_refl _)⟩
theorem Ctx.nil_le (C : Ctx) : Ctx.le Ctx.nil C := ⟨fun K v y hy => by simp [Ctx.nil] at hy, fun K v hv => by simp [Ctx.nil] at hv⟩
theorem Rep.of_nil {Z : Nat → Prop} {C : Ctx} {p : PV} {x : Value} (h : Rep w Z Ctx.nil p x) : Rep w Z C p x :=
 h.mono (fun _ h => h) (fun _ _ => rfl) (Ctx.nil_le C)
theorem RepS.of_nil {Z : Nat → Prop} {C : Ctx} {p : List PV} {x : List Value} (h : RepS w Z Ctx.nil p x) : RepS w Z C p x :=
 h.mono (fun _ h => h) (fun _ _ => rfl) (Ctx.nil_le C)
def GlobOK (gl : Nat → Option (List PV)) (w : World) : Prop :=
 ∀ g cs, gl g = some cs → g < w.heap.size ∧ ∃ arr T fr, w.heap[g]? = some (.cells arr T fr) ∧ RepL w (fun _ => False) Ctx.nil cs arr
theorem GlobOK.below {gl : Nat → Option (List PV)} {w w' : World} (h : GlobOK gl w) (k : Below w.heap.size w w') : GlobOK gl w' := fun g cs hg => by
 obtain ⟨h1, arr, T, fr, h2, h3⟩ := h g cs hg
 exact ⟨Nat.lt_of_lt_of_le h1 k.size, arr, T, fr, (k.block g h1).trans h2, h3.mono (fun b hb => hb.elim) (fun b hb => hb.elim) (Ctx.le_refl _)⟩
def Back (Z : Nat → Prop) (w : World) (r : PV) (e : Ending) (w' : World) : Prop :=
 ∃ x, e = .returned x ∧ Bel w.heap.size w w' ∧ Rep w' (fun b => Z b ∨ (w.heap.size ≤ b ∧ b < w'.heap.size)) Ctx.nil r x
def ContractAt (P : Program) (gl : Nat → Option (List PV)) (f : Nat) (args : List PV) (r : PV) : Prop :=
 ∀ (w : World) (Z : Nat → Prop) (xs : List Value), (∀ b, Z b → b < w.heap.size) → GlobOK gl w → RepS w Z Ctx.nil args xs → Calls P f xs.toArray w (Back Z w r)
def SpecOK (P : Program) (gl : Nat → Option (List PV)) (f : Nat) (s : Spec) : Prop := ∀ args pre r, s args = some (pre, r) → pre → ContractAt P gl f args r
def Callable (P : Program) (f : Nat) : Prop := ∀ (args : Array Value) (w : World), (callFunc f args).run P w = .ok (.enter f args) w
def KindOK (P : Program) (t : Nat) : TK → Prop
 | .bad => True
 | .scal => ∃ d, P.underlying t = some d ∧ (d matches .struct _ | .array _ _) = false
 | .boolk => P.underlying t = some .bool
 | .struct offs ftys => ∃ fs, P.underlying t = some (.struct fs) ∧ fs.toList.map (·.offset) = offs ∧ fs.toList.map (·.type) = ftys
 | .arr n e => P.underlying t = some (.array n e)
 | .slice e => P.underlying t = some (.slice e)
 | .map k e => P.underlying t = some (.map k e)
structure TIok (P : Program) (t : Nat) (x : TI) : Prop where
 kind : KindOK P t x.kind
 info : 0 < x.size → ∃ i z, P.info? t = some i ∧ i.size = x.size ∧ i.bytes = x.bytes ∧ i.zero = some z ∧ z.cells.size = x.size ∧ (∀ (w : World) Z C, RepL w Z C x.zero z.cells) ∧
  (x.kind.isAgg = true → ∃ arr, z = .agg arr) ∧ (x.kind.isAgg = false → z.cells = #[z] ∧ x.size = 1)
 agg : 0 < x.size → ∃ d, P.underlying t = some d ∧ (x.kind.isAgg = (d matches .struct _ | .array _ _))
def EqOK (P : Program) (t : Nat) (z : List PV) : Prop :=
 ∀ (w : World) (Z : Nat → Prop) (C : Ctx) (xs ys : List PV) (a b : Array Value), likeL xs z = true → likeL ys z = true → RepL w Z C xs a → RepL w Z C ys b →
  (Op.equal t (.agg a) (.agg b)).run P w = .ok (eqL xs ys) w ∧ ∀ (op : BinOp) x y, (eqGuard op t x y (.agg a) (.agg b)).run P w = .ok () w
def KeyOK (P : Program) (t n : Nat) (ag : Bool) : Prop :=
 ∀ (w : World) (l l' : List Int) (x y : Value), l.length = n → KeyIs ag l x → KeyIs ag l' y → l'.length = n →
  (Op.equal t x y).run P w = .ok (l == l') w ∧ ∀ e, (Instr.checkKey e 10000 t x).run P w = .ok () w
def BackM (w0 : World) (μ : Map) (H : Heap) (w : World) (K : PV → Heap → Prop) (e : Ending) (w' : World) : Prop :=
 ∃ pv x μ' H', e = .returned x ∧ K pv H' ∧ Sim w0 μ' H' w' ∧ Evo μ H w μ' H' w' ∧ Rep w' (Zof μ' H' w') (ctx μ' H' w') pv x
def MutOK (P : Program) (glob : Nat → Option (List PV)) (g : Nat) (m : MSpec) : Prop :=
 ∀ (w0 : World), GlobOK glob w0 → ∀ (μ : Map) (H : Heap) (w : World) (args : List PV) (xs : List Value) (K : PV → Heap → Prop), m args H K → Sim w0 μ H w → RepS w (Zof μ H w) (ctx μ H w) args xs → Calls P g xs.toArray w (BackM w0 μ H w K)
structure EffDep (e : Eff) : Prop where
 preD : ∀ H H' : Heap, (∀ K, e.D K → H' K = H K) → e.pre H → e.pre H'
 postD : ∀ (H H1 : Heap) (v : PV) (H' : Heap), (∀ K, e.D K → H1 K = H K) → e.post H v H' → e.post H1 v H'
 postS : ∀ (H : Heap) (v : PV) (H1 H2 : Heap), (∀ K, e.S K → H2 K = H1 K) → e.post H v H1 → e.post H v H2
 sat : ∀ H : Heap, e.pre H → ∃ (v : PV) (H' : Heap), (∀ K, ¬ e.S K → H' K = H K) ∧ e.post H v H'
def EffOK (P : Program) (glob : Nat → Option (List PV)) (g : Nat) (s : ESpec) : Prop :=
 (∀ path args e, s path args = some e → EffDep e) ∧ ∀ w0, GlobOK glob w0 → ∀ path args e, s path args = some e →
  ∀ (μ : Map) (H : Heap) (w : World) (xs : List Value), e.pre H → Sim w0 μ H w → RepS w (Zof μ H w) (ctx μ H w) args xs → Calls P g xs.toArray w (BackM w0 μ H w fun v H' => (∀ K, ¬ e.S K → H' K = H K) ∧ e.post H v H')
structure EnvOK (P : Program) (E : Env) : Prop where
 ti : ∀ t, TIok P t (E.ti t)
 spec : ∀ f s, E.spec f = some s → SpecOK P E.glob f s ∧ Callable P f
 inl : ∀ f fn, E.inl f = some fn → P.funcs[f]? = some fn ∧ Callable P f ∧ ∀ c, fn.body = some c → okC c = true
 eqt : ∀ t, E.eqt t = true → EqOK P t (E.ti t).zero
 keyt : ∀ t, E.keyt t = true → KeyOK P t (E.ti t).size (E.ti t).kind.isAgg
 mixed : P.follows .mixedOrders = true
 mt : ∀ f m, E.mt f = some m → MutOK P E.glob f m ∧ Callable P f
 eff : ∀ f s, E.eff f = some s → EffOK P E.glob f s ∧ Callable P f
abbrev RP (μ : Map) (H : Heap) (w : World) : PV → Value → Prop := Rep w (Zof μ H w) (ctx μ H w)
def RanV (w0 : World) (μ : Map) (H : Heap) (w : World) (K : PV → Heap → Prop) (r : Result Value) : Prop :=
 ∃ pv H' μ' w' x, K pv H' ∧ Sim w0 μ' H' w' ∧ Evo μ H w μ' H' w' ∧ RP μ' H' w' pv x ∧ r = .ok x w'
def RanU (w0 : World) (μ : Map) (H : Heap) (w : World) (K : PV → Heap → Prop) (r : Result Unit) : Prop :=
 ∃ H' μ' w', K .undef H' ∧ Sim w0 μ' H' w' ∧ Evo μ H w μ' H' w' ∧ r = .ok () w'
section
variable {P : Program} {E : Env} {w0 : World} {μ : Map} {H : Heap} {w : World} {q : Prop} {K : PV → Heap → Prop}
theorem RanV.same (hs : Sim w0 μ H w) {r : Result Value} {pv : PV} {x : Value} (hK : K pv H) (hx : RP μ H w pv x) (hr : r = .ok x w) : RanV w0 μ H w K r :=
 ⟨pv, H, μ, w, x, hK, hs, Evo.refl _ _ _, hx, hr⟩
theorem bad_wp {α : Type} (hq : q) {a : α} {Q : α → Heap → Prop} (h : (Prg.chk False (.ret a)).wp q Q H) : False := h.1 hq
theorem TIok.sizeAt {t : Nat} {x : TI} (h : TIok P t x) (h0 : 0 < x.size) (w : World) : (Go.sizeOf t).run P w = .ok x.size w := by
 obtain ⟨i, z, h1, h2, _⟩ := h.info h0
 simp [Go.sizeOf, typeInfo, h1, h2]
theorem TIok.cellsOf {t : Nat} {x : TI} (h : TIok P t x) (h0 : 0 < x.size) : P.cellsOf t = x.size := by
 obtain ⟨i, z, h1, h2, _⟩ := h.info h0
 simp [Program.cellsOf, h1, h2]
theorem TIok.aggAt {t : Nat} {x : TI} (h : TIok P t x) (h0 : 0 < x.size) (w : World) : (Go.isAgg t).run P w = .ok x.kind.isAgg w := by
 obtain ⟨d, h1, h2⟩ := h.agg h0
 unfold Go.isAgg
 rw [Sem.run_bind, run_underlying h1 w, h2]
 cases d <;> rfl
theorem TIok.zeroAt {t : Nat} {x : TI} (h : TIok P t x) (h0 : 0 < x.size) : ∃ z, (∀ w, (Go.zeroValue t).run P w = .ok z w) ∧ z.cells.size = x.size ∧
    (∀ (w : World) Z C, RepL w Z C x.zero z.cells) ∧ (x.kind.isAgg = true → ∃ arr, z = .agg arr) ∧ (x.kind.isAgg = false → z.cells = #[z] ∧ x.size = 1) := by
 obtain ⟨i, z, h1, h2, h3, h4, h5, h6, h7, h8⟩ := h.info h0
 exact ⟨z, fun w => by simp [Go.zeroValue, typeInfo, h1, h4], h5, h6, h7, h8⟩
theorem TIok.zero_length {t : Nat} {x : TI} (h : TIok P t x) (h0 : 0 < x.size) : x.zero.length = x.size := by
 obtain ⟨z, _, h2, h3, _⟩ := h.zeroAt h0
 rw [← h2]
 exact (h3 default (fun _ => False) Ctx.nil).1.symm
theorem TIok.rep_zero {t : Nat} {x : TI} (h : TIok P t x) (h0 : 0 < x.size) : ∃ z, (∀ w, (Go.zeroValue t).run P w = .ok z w) ∧ z.cells.size = x.size ∧
    (∀ (w : World) Z C, RepL w Z C x.zero z.cells) ∧ ∀ (w : World) Z C, Rep w Z C (loadAt x x.zero 0) z := by
 obtain ⟨z, h1, h2, h3, h4, h5⟩ := h.zeroAt h0
 refine ⟨z, h1, h2, h3, fun w Z C => ?_⟩
 have hl := h.zero_length h0
 unfold loadAt
 split
 ·rename_i ha
  obtain ⟨arr, rfl⟩ := h4 ha
  have : List.take x.size (List.drop 0 x.zero) = x.zero := by rw [List.drop_zero, List.take_of_length_le (by omega)]
  rw [this]
  exact .agg (h3 w Z C).1 (h3 w Z C).2
 ·rename_i ha
  obtain ⟨e1, e2⟩ := h5 (by simpa using ha)
  have h6 := h3 w Z C
  rw [e1] at h6
  have h0' : 0 < x.zero.length := by omega
  exact h6.2 0 _ z (by simp [List.getD_eq_getElem?_getD, List.getElem?_eq_getElem h0']) (by simp)
theorem rep_opd {Z : Nat → Prop} {C : Ctx} {τ : List PV} {a : Act} (h : RepL w Z C τ a.tmps) (o : Operand) : Rep w Z C (opd τ o) (a.eval o) := by
 cases o with
 | tmp t =>
  simp only [opd, Act.eval]
  by_cases ht : t < τ.length
  ·have ht' : t < a.tmps.size := by rw [h.1]; exact ht
   exact h.2 t _ _ (by simp [List.getD_eq_getElem?_getD, List.getElem?_eq_getElem ht]) (by simp [ht'])
  ·have : τ.getD t .undef = .undef := by simp [List.getD_eq_getElem?_getD, List.getElem?_eq_none (Nat.le_of_not_lt ht)]
   rw [this]; exact .undef
 | const v =>
  simp only [opd, Act.eval]
  unfold cpv
  split <;> first | exact .int | exact .bool | exact .nilfn | exact .nilmap | exact .nilptr | exact .undef | skip
  exact .sl 0 0 0 (fun _ _ => undef) rfl (Nat.le_refl _) (fun _ => rfl) (fun h => absurd rfl h) (fun _ h => by cases h) (fun i row j p a => by simp at a) (fun i row j p a => by simp at a)
 | global g => exact .gref
 | func f => exact .fn rfl rfl (fun j p x a => by simp at a) (fun j p x a => by simp at a)
theorem rep_opds {Z : Nat → Prop} {C : Ctx} {τ : List PV} {a : Act} (h : RepL w Z C τ a.tmps) : ∀ (os : List Operand), RepS w Z C (os.map (opd τ)) (os.map a.eval)
 | [] => trivial
 | o :: os => ⟨rep_opd h o, rep_opds h os⟩
theorem add_lit' (g o n : Nat) : (⟨g, o, none⟩ : Addr).add n = ⟨g, o + n, none⟩ := by unfold Addr.add; split <;> simp_all
theorem load_sound {Z : Nat → Prop} {C : Ctx} {t : Nat} {x : TI} (h : TIok P t x) (h0 : 0 < x.size) {cs : List PV} {off g o : Nat} (hl : off + x.size ≤ cs.length)
    (hc : ∀ j p, cs[j]? = some p → ∃ v, w.cell? ⟨g, o + j, none⟩ = some v ∧ Rep w Z C p v) : ∃ v, (loadVar t ⟨g, o + off, none⟩).run P w = .ok v w ∧ Rep w Z C (loadAt x cs off) v := by
 have hv : ∀ j, j < cs.length → ∃ v, w.cell? ⟨g, o + j, none⟩ = some v ∧ Rep w Z C (cs.getD j (x.zero.getD 0 .undef)) v := fun j hj =>
  hc j _ (by simp [List.getD_eq_getElem?_getD, List.getElem?_eq_getElem hj])
 unfold loadVar loadAt
 rw [Sem.run_bind, h.aggAt h0, Result.andThen_ok]
 cases ha : x.kind.isAgg with
 | false =>
  have : x.size = 1 := by obtain ⟨z, _, _, _, _, h5⟩ := h.zeroAt h0; exact (h5 ha).2
  obtain ⟨v, h1, h2⟩ := hv off (by omega)
  refine ⟨v, ?_, by simpa using h2⟩
  simp [h1]
 | true =>
  let f : Nat → Value := fun j => (w.cell? ⟨g, o + off + j, none⟩).getD undef
  have hf : ∀ j, j < x.size → w.cell? ((⟨g, o + off, none⟩ : Addr).add j) = some (f j) := fun j hj => by
   obtain ⟨v, h1, _⟩ := hv (off + j) (by omega)
   rw [add_lit', Nat.add_assoc, h1]
   simp [f, Nat.add_assoc, h1]
  refine ⟨.agg ((List.range x.size).map f).toArray, ?_, ?_⟩
  ·simp [h.sizeAt h0, run_loadCells w _ _ f hf]
  ·simp only [if_true]
   refine .agg (by simp; omega) fun j p y a b => ?_
   have hj : j < x.size := by
    have := (List.getElem?_eq_some_iff.1 a).1
    simp at this; omega
   simp only [List.getElem?_take, hj, if_true, List.getElem?_drop] at a
   obtain ⟨v, h1, h2⟩ := hc _ p a
   simp [hj] at b
   rw [← b]
   simp only [f, Nat.add_assoc, h1, Option.getD_some]
   exact h2
theorem getD_row {rs : List (List PV)} {i : Nat} {d : List PV} (h : i < rs.length) : rs[i]? = some (rs.getD i d) := by
 simp [List.getD_eq_getElem?_getD, List.getElem?_eq_getElem h]
def RanS (μ : Map) (H : Heap) (w : World) (K : PV → Heap → Prop) (r : Result Value) : Prop := ∃ pv x, K pv H ∧ RP μ H w pv x ∧ r = .ok x w
theorem loadVia_still (he : EnvOK P E) (hgl : GlobOK E.glob w0) (hs : Sim w0 μ H w) (hq : q) {t : Nat} {p : PV} {x : Value} (h : (loadVia (E.ti t) E p).wp q K H) (hp : RP μ H w p x) :
    RanS μ H w K ((Instr.loadAt t x).run P w) ∧ ((∃ a, x = .pointer (some a) ∧ (Instr.loadAt t x).run P w = (loadVar t a).run P w)) := by
 have key : ∀ (g o off : Nat) (cs : List PV) (C : Ctx), 0 < (E.ti t).size → off + (E.ti t).size ≤ cs.length → K (loadAt (E.ti t) cs off) H → Ctx.le C (ctx μ H w) →
     (∀ j p, cs[j]? = some p → ∃ v, w.cell? ⟨g, o + j, none⟩ = some v ∧ Rep w (Zof μ H w) C p v) →
     RanS μ H w K ((loadVar t ⟨g, o + off, none⟩).run P w) := by
  intro g o off cs C h0 hl hK hC hc
  obtain ⟨v, h1, h2⟩ := load_sound (he.ti t) h0 hl hc
  exact ⟨_, v, hK, h2.mono (fun _ h => h) (fun _ _ => rfl) hC, h1⟩
 have fin : ∀ (a : Addr), (Instr.loadAt t (.pointer (some a))).run P w = (loadVar t a).run P w := fun a => by simp [Instr.loadAt, Instr.sureAddr]
 cases p with
 | ref Ky v off =>
  simp only [loadVia, Prg.wp] at h
  cases hK : H Ky with
  | none => rw [hK] at h; exact (bad_wp hq h).elim
  | some b =>
   rw [hK] at h
   cases b with
   | cells cs v' ro =>
    simp only [Prg.wp] at h
    obtain ⟨h1, h2⟩ := h
    obtain ⟨rfl, h3, h4⟩ := h1 hq
    cases hp with
    | @ref _ _ _ _ r hl =>
     have e3 := ctx_at hl hK rfl
     obtain ⟨arr, T, b1, b2⟩ := hs.blk Ky _ _ hK e3
     refine ⟨?_, _, rfl, fin _⟩
     rw [fin]
     have := key r 0 off cs _ h3 h4 h2 (Ctx.le_refl _) fun j p hj => by
      have hlt : j < arr.size := by rw [b2.1]; exact (List.getElem?_eq_some_iff.1 hj).1
      exact ⟨arr[j], by rw [Nat.zero_add, cell_of_row w _ _ arr T _ b1, Array.getElem?_eq_getElem hlt], b2.2 j p _ hj (Array.getElem?_eq_getElem hlt)⟩
     rwa [Nat.zero_add] at this
   | _ => exact (bad_wp hq h).elim
 | rref Ky v sz i d off =>
  simp only [loadVia, Prg.wp] at h
  cases hK : H Ky with
  | none => rw [hK] at h; exact (bad_wp hq h).elim
  | some b =>
   rw [hK] at h
   cases b with
   | rows sz' rs v' ro =>
    simp only [Prg.wp] at h
    obtain ⟨h1, h2⟩ := h
    obtain ⟨rfl, rfl, h3, h4, h5⟩ := h1 hq
    cases hp with
    | @rref _ _ _ _ _ _ _ r hl =>
     have e3 := ctx_at hl hK rfl
     obtain ⟨arr, T, b1, b2, b3, b4⟩ := hs.blk Ky _ _ hK e3
     refine ⟨?_, _, rfl, fin _⟩
     rw [fin]
     have hrow : (rs.getD i d).length = sz := b3 _ (List.mem_of_getElem? (getD_row (d := d) h3))
     exact key r (i * sz) off (rs.getD i d) Ctx.nil h4 (by rw [hrow]; exact h5) h2 (Ctx.nil_le _) fun j p hj => by
      have hj' := (List.getElem?_eq_some_iff.1 hj).1
      have : (i + 1) * sz ≤ rs.length * sz := Nat.mul_le_mul_right _ h3
      rw [Nat.add_mul] at this
      have hlt : i * sz + j < arr.size := by omega
      exact ⟨arr[i * sz + j], by rw [cell_of_row w _ _ arr T _ b1, Array.getElem?_eq_getElem hlt], b4 i _ j p _ (getD_row h3) hj (Array.getElem?_eq_getElem hlt)⟩
   | _ => exact (bad_wp hq h).elim
 | eref row off =>
  simp only [loadVia, Prg.wp] at h
  obtain ⟨h1, h2⟩ := h
  obtain ⟨h3, h4⟩ := h1 hq
  cases hp with
  | eref blk o vals h6 h7 =>
   refine ⟨?_, _, rfl, fin _⟩
   rw [fin]
   exact key blk o off row Ctx.nil h3 h4 h2 (Ctx.nil_le _) fun j p hj => ⟨vals j, (h6 j p hj).2, h7 j p hj⟩
 | gref g off =>
  simp only [loadVia] at h
  cases hg : E.glob g with
  | none => rw [hg] at h; exact (bad_wp hq h).elim
  | some cs =>
   rw [hg] at h
   simp only [Prg.wp] at h
   obtain ⟨h1, h2⟩ := h
   obtain ⟨h3, h4⟩ := h1 hq
   cases hp with
   | gref =>
    obtain ⟨g1, arr, T, fr, g2, g3⟩ := hgl g cs hg
    have g2' : w.heap[g]? = some (.cells arr T fr) := (hs.below.block g g1).trans g2
    have g3' : RepL w (Zof μ H w) Ctx.nil cs arr := g3.mono (fun b hb => hb.elim) (fun b hb => hb.elim) (Ctx.le_refl _)
    refine ⟨?_, _, rfl, fin _⟩
    rw [fin]
    have := key g 0 off cs Ctx.nil h3 h4 h2 (Ctx.nil_le _) fun j p hj => by
     have hlt : j < arr.size := by rw [g3'.1]; exact (List.getElem?_eq_some_iff.1 hj).1
     exact ⟨arr[j], by rw [Nat.zero_add, cell_of_row w _ _ arr T _ g2', Array.getElem?_eq_getElem hlt], g3'.2 j p _ hj (Array.getElem?_eq_getElem hlt)⟩
    rwa [Nat.zero_add] at this
 | _ => exact (bad_wp hq h).elim
theorem loadVia_sound (he : EnvOK P E) (hgl : GlobOK E.glob w0) (hs : Sim w0 μ H w) (hq : q) {t : Nat} {p : PV} {x : Value} (h : (loadVia (E.ti t) E p).wp q K H) (hp : RP μ H w p x) :
    RanV w0 μ H w K ((Instr.loadAt t x).run P w) ∧ ((∃ a, x = .pointer (some a) ∧ (Instr.loadAt t x).run P w = (loadVar t a).run P w)) := by
 obtain ⟨⟨pv, y, h1, h2, h3⟩, h4⟩ := loadVia_still he hgl hs hq h hp
 exact ⟨.same hs h1 h2 h3, h4⟩
theorem bin_int (hs : Sim w0 μ H w) (hq : q) {op : BinOp} {t : Nat} {k k' : IntKind} {m n : Int} (h : (bin E op t (.int k m) (.int k' n)).wp q K H) :
    RanV w0 μ H w K ((binOp op t (.int k m) (.int k' n)).run P w) := by
 have ii : ∀ {v : Int}, RP μ H w (.int k v) (.int k v) := fun {v} => .int
 have bb : ∀ {v : Bool}, RP μ H w (.bool v) (.bool v) := fun {v} => .bool
 cases op
 case shl =>
  obtain ⟨h1, h2⟩ := h
  exact .same hs h2 ii (by simp [binOp, Op.shift, shft, Int.not_lt.2 (h1 hq)])
 case shr =>
  obtain ⟨h1, h2⟩ := h
  exact .same hs h2 ii (by simp [binOp, Op.shift, shft, Int.not_lt.2 (h1 hq)])
 case quo =>
  obtain ⟨h1, h3, h2⟩ := h
  obtain rfl := h1 hq
  exact .same hs h2 ii (by simp [binOp, Op.intDiv, h3 hq])
 case rem =>
  obtain ⟨h1, h3, h2⟩ := h
  obtain rfl := h1 hq
  exact .same hs h2 ii (by simp [binOp, Op.intDiv, h3 hq])
 all_goals
  obtain ⟨h1, h2⟩ := h
  obtain rfl := h1 hq
  first
  | exact (bad_wp hq h2).elim
  | (refine .same hs h2 ii ?_; simp [binOp, Op.intArith]; done)
  | (refine .same hs h2 ii ?_; simp [binOp]; rfl)
  | (refine .same hs h2 bb ?_; simp [binOp, Op.intCmp]; done)
theorem run_equalIn_bool {t : Nat} (h : P.underlying t = some .bool) (d : Nat) (a b : Bool) : (Op.equalIn (d + 1) t (.bool a) (.bool b)).run P w = .ok (a == b) w := by
 unfold Op.equalIn
 rw [Sem.run_bind, run_underlying h w, Result.andThen_ok]
 rfl
theorem run_equal_bool {t : Nat} (h : P.underlying t = some .bool) (a b : Bool) : (Op.equal t (.bool a) (.bool b)).run P w = .ok (a == b) w := run_equalIn_bool h 9999 a b
theorem bin_sound (he : EnvOK P E) (hs : Sim w0 μ H w) (hq : q) {op : BinOp} {t : Nat} {p p' : PV} {x x' : Value} {a b : Operand} (h : (bin E op t p p').wp q K H) (hp : RP μ H w p x) (hp' : RP μ H w p' x') :
    RanV w0 μ H w K ((do eqGuard op t a b x x'; binOp op t x x' : Sem Value).run P w) := by
 cases p with
 | int k m =>
  cases p' with
  | int k' n =>
   cases hp; cases hp'
   have hg : (eqGuard op t a b (.int k m) (.int k' n)).run P w = .ok () w := by unfold eqGuard; split <;> rfl
   rw [Sem.run_bind, hg, Result.andThen_ok]
   exact bin_int hs hq h
  | _ => exact (bad_wp hq h).elim
 | bool m =>
  cases p' with
  | bool n =>
   cases hp; cases hp'
   have hg : (eqGuard op t a b (.bool m) (.bool n)).run P w = .ok () w := by unfold eqGuard; split <;> rfl
   rw [Sem.run_bind, hg, Result.andThen_ok]
   have hk := (he.ti t).kind
   simp only [bin] at h
   split at h
   ·rename_i h1
    rw [h1] at hk
    refine .same hs h .bool ?_
    simp only [binOp, Sem.run_bind, run_equal_bool hk, Result.andThen_ok, Sem.run_pure]
   ·rename_i h1
    rw [h1] at hk
    refine .same hs h .bool ?_
    simp only [binOp, Sem.run_bind, run_equal_bool hk, Result.andThen_ok, Sem.run_pure]
    rfl
   ·exact (bad_wp hq h).elim
  | _ => exact (bad_wp hq h).elim
 | agg xs =>
  cases p' with
  | agg ys =>
   cases hp with
   | agg h1 h7 =>
    cases hp' with
    | agg g1 g7 =>
     obtain ⟨e0, h⟩ := h
     obtain ⟨e1, e2, e3⟩ := e0 hq
     obtain ⟨f1, f2⟩ := (he.eqt t e1) w _ _ xs ys _ _ e2 e3 ⟨h1, h7⟩ ⟨g1, g7⟩
     rw [Sem.run_bind, f2, Result.andThen_ok]
     cases op <;> first
      | exact (bad_wp hq h).elim
      | (refine .same hs h .bool ?_
         simp only [binOp, Sem.run_bind, f1, Result.andThen_ok, Sem.run_pure])
  | _ => exact (bad_wp hq h).elim
 | _ => exact (bad_wp hq h).elim
theorem binN_sound (he : EnvOK P E) (hs : Sim w0 μ H w) (hq : q) {c : Bool} {op : BinOp} {t : Nat} {p p' : PV} {x x' : Value} {a b : Operand} (hc : c = true → x' = .slice none 0 0) (h : (binN c E op t p p').wp q K H) (hp : RP μ H w p x) (hp' : RP μ H w p' x') :
    RanV w0 μ H w K ((do eqGuard op t a b x x'; binOp op t x x' : Sem Value).run P w) := by
 cases c with
 | false => exact bin_sound he hs hq h hp hp'
 | true =>
  obtain rfl := hc rfl
  simp only [binN] at h
  have hk := (he.ti t).kind
  have key : ∀ (r : List PV) (rs : List (List PV)) (ex : Bool) (e : Nat), (E.ti t).kind = .slice e → RP μ H w (.sl (r :: rs) ex) x → ∀ op : BinOp, (eqGuard op t a b x (.slice none 0 0)).run P w = .ok () w ∧ (Op.equal t x (.slice none 0 0)).run P w = .ok false w := by
   intro r rs ex e hke hp op
   rw [hke] at hk
   have hu : P.underlying t = some (.slice e) := hk
   cases hp with
   | sl sz blk off vals h1 h2 h3 h4 h5 h6 h7 =>
    rw [h4 (by simp)]
    refine ⟨by unfold eqGuard; split <;> rfl, ?_⟩
    show (Op.equalIn (9999 + 1) t _ _).run P w = _
    unfold Op.equalIn
    rw [Sem.run_bind, run_underlying hu w, Result.andThen_ok]
    rfl
  split at h
  ·rename_i _ _ _ e r rs ex hke
   obtain ⟨g1, g2⟩ := key r rs ex e hke hp .eql
   rw [Sem.run_bind, g1, Result.andThen_ok]
   refine .same hs h .bool ?_
   generalize hx : x = y at hp g2
   cases hp
   simp only [binOp, Sem.run_bind, g2, Result.andThen_ok, Sem.run_pure]
  ·rename_i _ _ _ e r rs ex hke
   obtain ⟨g1, g2⟩ := key r rs ex e hke hp .neq
   rw [Sem.run_bind, g1, Result.andThen_ok]
   refine .same hs h .bool ?_
   generalize hx : x = y at hp g2
   cases hp
   simp only [binOp, Sem.run_bind, g2, Result.andThen_ok, Sem.run_pure]
   rfl
  ·exact (bad_wp hq h).elim
end
section
variable {P : Program} {E : Env} {w0 : World} {μ : Map} {H : Heap} {w : World} {q : Prop} {K : PV → Heap → Prop}
theorem un_sound (hs : Sim w0 μ H w) (hq : q) {op : UnOp} {p : PV} {x : Value} (h : (un op p).wp q K H) (hp : RP μ H w p x) : RanV w0 μ H w K ((Op.unary op x).run P w) := by
 unfold un at h
 split at h
 ·cases hp; exact .same hs h .int (by simp [Op.unary, Op.intArith])
 ·cases hp; exact .same hs h .bool (by simp [Op.unary])
 ·exact (bad_wp hq h).elim
theorem pick_sound (hs : Sim w0 μ H w) (hq : q) {c a b : PV} {x y z : Value} (h : (pick c a b).wp q K H) (hc : RP μ H w c x) (ha : RP μ H w a y) (hb : RP μ H w b z) :
    RanV w0 μ H w K ((do pure (if ← asBool x then y else z) : Sem Value).run P w) := by
 unfold pick at h
 obtain ⟨v, h1, h2⟩ := unt_sound h hq hc
 cases v with
 | bool c =>
  cases h2
  obtain ⟨h3, h4⟩ := h1
  obtain ⟨h5, h6⟩ := h3 hq
  have hr : (do pure (if ← asBool (.bool c) then y else z) : Sem Value).run P w = .ok (if c then y else z) w := by simp [asBool]
  rw [hr]
  cases c with
  | true =>
   have ha' := clean_rep ha (h5 rfl)
   split at h4
   ·rename_i e1 e2; rw [e1] at ha'; exact .same hs h4 ha' rfl
   ·rename_i e1 e2; rw [e1] at ha'; exact .same hs h4.2 ha' rfl
   ·have := h4.1 hq; cases this
   ·exact .same hs h4.2 ha' rfl
   ·exact (bad_wp hq h4).elim
  | false =>
   have hb' := clean_rep hb (h6 rfl)
   split at h4
   ·rename_i e1 e2; rw [e2] at hb'; exact .same hs h4 hb' rfl
   ·rename_i e1 e2; rw [e2] at hb'; obtain rfl := h4.1 hq; exact .same hs h4.2 hb' rfl
   ·exact .same hs h4.2 hb' rfl
   ·have := h4.1 hq; cases this
   ·exact (bad_wp hq h4).elim
 | _ => exact (bad_wp hq h1).elim
theorem field_at {t : Nat} {offs ftys : List Nat} (hk : KindOK P t (.struct offs ftys)) {f : Nat} (h1 : f < offs.length) (_h2 : f < ftys.length) :
    ∃ fs fd, P.underlying t = some (.struct fs) ∧ fs[f]? = some fd ∧ fd.offset = offs.getD f 0 ∧ fd.type = ftys.getD f 0 := by
 obtain ⟨fs, e1, e2, e3⟩ := hk
 have hf : f < fs.size := by have := congrArg List.length e2; simp at this; omega
 refine ⟨fs, fs[f], e1, Array.getElem?_eq_getElem hf, ?_, ?_⟩
 ·rw [← e2]; simp [List.getD_eq_getElem?_getD, hf]
 ·rw [← e3]; simp [List.getD_eq_getElem?_getD, hf]
theorem fieldVia_sound (he : EnvOK P E) (hs : Sim w0 μ H w) (hq : q) {t f : Nat} {p : PV} {x : Value} (h : (fieldVia E t p f).wp q K H) (hp : RP μ H w p x) :
    RanV w0 μ H w K ((Instr.fieldAt t x f).run P w) := by
 unfold fieldVia at h
 have hk := (he.ti t).kind
 split at h
 ·rename_i offs ftys hti
  rw [hti] at hk
  obtain ⟨h1, h2⟩ := h
  obtain ⟨h3, h4, h5⟩ := h1 hq
  obtain ⟨fs, fd, e1, e2, e3, e4⟩ := field_at hk h3 h4
  have run : ∀ g o, (Instr.fieldAt t (.pointer (some ⟨g, o, none⟩)) f).run P w = .ok (.pointer (some ⟨g, o + offs.getD f 0, none⟩)) w := fun g o => by
   have hsz := (he.ti (ftys.getD f 0)).sizeAt h5 w
   rw [← e4] at hsz h5
   simp only [Instr.fieldAt, Sem.run_bind, run_underlying e1, Result.andThen_ok, e2, Instr.sureAddr, Sem.run_pure, fieldPlace, hsz]
   rw [if_neg (by omega)]
   simp [add_lit', e3]
  cases p with
  | ref Ky v off => cases hp with | ref hl => exact .same hs h2 (.ref hl) (run _ _)
  | rref Ky v sz i d off =>
   cases hp with
   | rref hl => exact .same hs h2 (.rref hl) (by rw [run, Nat.add_assoc])
  | eref row off =>
   cases hp with
   | eref blk o vals h6 h7 => exact .same hs h2 (.eref blk o vals h6 h7) (by rw [run, Nat.add_assoc])
  | _ => exact (bad_wp hq h2).elim
 ·exact (bad_wp hq h).elim
theorem indexVia_sound (he : EnvOK P E) (hs : Sim w0 μ H w) (hq : q) {t : Nat} {p i : PV} {x y : Value} (h : (indexVia E t p i).wp q K H) (hp : RP μ H w p x) (hi : RP μ H w i y) :
    RanV w0 μ H w K ((Instr.indexAt t x y).run P w) := by
 unfold indexVia at h
 cases i with
 | int k i =>
  cases hi
  have hk := (he.ti t).kind
  simp only at h
  split at h
  ·rename_i n e hti
   rw [hti] at hk
   obtain ⟨h1, h2⟩ := h
   obtain ⟨h3, h4, h5⟩ := h1 hq
   have run : ∀ g o, (Instr.indexAt t (.pointer (some ⟨g, o, none⟩)) (.int k i)).run P w = .ok (.pointer (some ⟨g, o + i.toNat * (E.ti e).size, none⟩)) w := fun g o => by
    simp only [Instr.indexAt, asIntOf, Sem.run_bind, Sem.run_pure, Result.andThen_ok, run_underlying hk, Instr.sureAddr, Sem.run_ite, (he.ti e).sizeAt h5]
    rw [if_pos ⟨h3, h4⟩, add_lit']
   cases p with
   | ref Ky v off => cases hp with | ref hl => exact .same hs h2 (.ref hl) (run _ _)
   | rref Ky v sz j d off =>
    cases hp with
    | rref hl => exact .same hs h2 (.rref hl) (by rw [run, Nat.add_assoc])
   | eref row off =>
    cases hp with
    | eref blk o vals h6 h7 => exact .same hs h2 (.eref blk o vals h6 h7) (by rw [run, Nat.add_assoc])
   | gref g off => cases hp with | gref => exact .same hs h2 .gref (run _ _)
   | _ => exact (bad_wp hq h2).elim
  ·rename_i e hti
   rw [hti] at hk
   have run : ∀ (g o len cap : Nat), 0 ≤ i → i < (len : Int) → 0 < (E.ti e).size → (Instr.indexAt t (.slice (some ⟨g, o, none⟩) len cap) (.int k i)).run P w = .ok (.pointer (some ⟨g, o + i.toNat * (E.ti e).size, none⟩)) w := fun g o len cap a b c => by
    simp only [Instr.indexAt, asIntOf, Sem.run_bind, Sem.run_pure, Result.andThen_ok, run_underlying hk, Sem.run_ite, (he.ti e).sizeAt c]
    rw [if_pos ⟨a, b⟩, add_lit']
   cases p with
   | sl rows ex =>
    obtain ⟨h1, h2⟩ := h
    obtain ⟨h3, h4, h5, h8⟩ := h1 hq
    cases hp with
    | sl sz blk off vals g1 g2 g3 g4 g5 g6 g7 =>
     have hlt : i.toNat < rows.length := by omega
     have hrow := getD_row (d := (E.ti e).zero) hlt
     have hsz : (E.ti e).size = sz := by rw [← h8]; exact g5 _ (List.mem_of_getElem? hrow)
     rw [g4 (by intro h; rw [h] at hlt; simp at hlt)]
     refine .same hs h2 (.eref (row := rows.getD i.toNat (E.ti e).zero) (off := 0) blk (off + i.toNat * sz) (vals i.toNat) (fun j p a => ?_) (fun j p a => g7 _ _ j p hrow a)) ?_
     ·exact g6 _ _ j p hrow a
     ·rw [run _ _ _ _ h3 (by omega) h5, hsz, Nat.add_zero]
   | sref Ky v sz n ex =>
    obtain ⟨h1, h2⟩ := h
    obtain ⟨h3, h4, h5, h6⟩ := h1 hq
    cases hp with
    | sref0 => omega
    | sref hl g0 g1 g2 =>
     refine .same hs h2 (.rref (hl.imp (fun ⟨m, a, _⟩ => ⟨m, a⟩) id)) ?_
     rw [run _ _ _ _ h3 h4 h5, ← h6, Nat.zero_add, Nat.add_zero]
   | aref Ky v off sz n =>
    obtain ⟨h1, h2⟩ := h
    obtain ⟨h3, h4, h5, h6⟩ := h1 hq
    cases hp with
    | aref hl g1 =>
     refine .same hs h2 (.ref hl) ?_
     rw [run _ _ _ _ h3 h4 h5, ← h6]
   | _ => exact (bad_wp hq h).elim
  ·exact (bad_wp hq h).elim
 | _ => exact (bad_wp hq h).elim
theorem part_sound {Z : Nat → Prop} {C : Ctx} {t : Nat} {x : TI} (h : TIok P t x) (h0 : 0 < x.size) {cs : List PV} {arr : Array Value} {off : Nat} (hl : off + x.size ≤ cs.length)
    (hc : RepL w Z C cs arr) : ∃ v, (part t arr off).run P w = .ok v w ∧ Rep w Z C (loadAt x cs off) v := by
 unfold part loadAt
 rw [Sem.run_bind, h.aggAt h0, Result.andThen_ok]
 cases ha : x.kind.isAgg with
 | false =>
  have : x.size = 1 := by obtain ⟨z, _, _, _, _, h5⟩ := h.zeroAt h0; exact (h5 ha).2
  have hlt : off < arr.size := by rw [hc.1]; omega
  refine ⟨arr[off], by simp [hlt], ?_⟩
  simp only [if_false, Bool.false_eq_true]
  exact hc.2 off _ _ (by simp [List.getD_eq_getElem?_getD, List.getElem?_eq_getElem (show off < cs.length by omega)]) (Array.getElem?_eq_getElem hlt)
 | true =>
  refine ⟨.agg (arr.extract off (off + x.size)), by simp [h.sizeAt h0], ?_⟩
  simp only [if_true]
  have := hc.1
  refine .agg (by simp; omega) fun j p y a b => ?_
  have hj : j < x.size := by
   have := (List.getElem?_eq_some_iff.1 a).1
   simp at this; omega
  simp only [List.getElem?_take, hj, if_true, List.getElem?_drop] at a
  rw [Array.getElem?_extract_of_lt (by omega)] at b
  exact hc.2 _ p y a (by rw [Array.getElem?_eq_getElem (by omega)]; exact b)
theorem indexIn_sound (he : EnvOK P E) (hs : Sim w0 μ H w) (hq : q) {t : Nat} {p i : PV} {x y : Value} (h : (indexIn E t p i).wp q K H) (hp : RP μ H w p x) (hi : RP μ H w i y) :
    RanV w0 μ H w K ((Instr.index t x y).run P w) := by
 unfold indexIn at h
 have hk := (he.ti t).kind
 split at h
 ·rename_i k i n e cs hti
  rw [hti] at hk
  obtain ⟨h1, h2⟩ := h
  obtain ⟨h3, h4, h5, h6⟩ := h1 hq
  cases hi
  cases hp with
  | agg g1 g2 =>
   have hlt : i.toNat * (E.ti e).size + (E.ti e).size ≤ cs.length := by
    have : (i.toNat + 1) * (E.ti e).size ≤ n * (E.ti e).size := Nat.mul_le_mul_right _ (by omega)
    rw [Nat.add_mul] at this; omega
   obtain ⟨v, e1, e2⟩ := part_sound (w := w) (he.ti e) h6 hlt ⟨g1, g2⟩
   refine .same hs h2 e2 ?_
   simp only [Instr.index, asIntOf, Sem.run_bind, Sem.run_pure, Result.andThen_ok, run_underlying hk, Sem.run_ite, (he.ti e).sizeAt h6]
   rw [if_pos ⟨h3, h4⟩, e1]
 ·exact (bad_wp hq h).elim
theorem fieldIn_sound (he : EnvOK P E) (hs : Sim w0 μ H w) (hq : q) {t f : Nat} {p : PV} {x : Value} (h : (fieldIn E t p f).wp q K H) (hp : RP μ H w p x) :
    RanV w0 μ H w K ((Instr.field t x f).run P w) := by
 unfold fieldIn at h
 have hk := (he.ti t).kind
 split at h
 ·rename_i offs ftys cs hti
  rw [hti] at hk
  obtain ⟨h1, h2⟩ := h
  obtain ⟨h3, h4, h5, h6⟩ := h1 hq
  obtain ⟨fs, fd, e1, e2, e3, e4⟩ := field_at hk h3 h4
  cases hp with
  | agg g1 g2 =>
   obtain ⟨v, f1, f2⟩ := part_sound (w := w) (he.ti _) h5 h6 ⟨g1, g2⟩
   refine .same hs h2 f2 ?_
   simp only [Instr.field, Sem.run_bind, run_underlying e1, Result.andThen_ok, e2, asAgg, Sem.run_pure, e3, e4, f1]
 ·exact (bad_wp hq h).elim
end
section
variable {P : Program} {E : Env} {w0 : World} {μ : Map} {H : Heap} {w : World} {q : Prop} {K : PV → Heap → Prop}
theorem cells1_get : ∀ {cs : List PV} {j : Nat} {p : PV}, cells1 cs = true → cs[j]? = some p → cellP p = true
 | c :: cs, 0, p, h, a => by simp [cells1] at h a; subst a; exact h.1
 | c :: cs, j + 1, p, h, a => by simp [cells1] at h a; exact cells1_get h.2 a
theorem cells_one {x : Value} (h : x.oneCell' = true) : x.cells = #[x] := by cases x <;> first | rfl | simp [Value.oneCell'] at h
theorem cells_rep {Z : Nat → Prop} {C : Ctx} {p : PV} {x : Value} (h : Rep w Z C p x) (hc : cells1 (valCells p) = true) : RepL w Z C (valCells p) x.cells := by
 have one : cellP p = true → (valCells p = [p]) → RepL w Z C (valCells p) x.cells := fun h1 h2 => by
  rw [cells_one (h.oneCell h1), h2]
  exact ⟨rfl, fun j p' x' a b => by cases j <;> simp at a b; subst a; subst b; exact h⟩
 cases p with
 | agg cs => cases h with | agg h1 h2 => exact ⟨h1, h2⟩
 | _ => exact one (by simpa [valCells, cells1] using hc) rfl
theorem storeAt_get {cs : List PV} {off : Nat} : ∀ {vs : List PV}, off + vs.length ≤ cs.length → (storeAt cs off vs).length = cs.length ∧
    ∀ k, (storeAt cs off vs)[k]? = if off ≤ k ∧ k < off + vs.length then vs[k - off]? else cs[k]? := by
 have put : ∀ (vs cs : List PV) (off : Nat), off + vs.length ≤ cs.length → (putAt cs off vs).length = cs.length ∧ ∀ k, (putAt cs off vs)[k]? = if off ≤ k ∧ k < off + vs.length then vs[k - off]? else cs[k]? := by
  intro vs cs
  induction cs generalizing vs with
  | nil =>
   intro off h
   cases vs with
   | nil => exact ⟨by simp [putAt], fun k => by simp [putAt]⟩
   | cons v vs => simp at h
  | cons c cs ih =>
   intro off h
   cases vs with
   | nil => exact ⟨by simp [putAt], fun k => by rw [if_neg (by simp)]; simp [putAt]⟩
   | cons v vs =>
    cases off with
    | zero =>
     obtain ⟨h1, h2⟩ := ih vs 0 (by simp at h ⊢; omega)
     refine ⟨by simp [putAt, h1], fun k => ?_⟩
     cases k with
     | zero => simp [putAt]
     | succ k =>
      simp only [putAt, List.getElem?_cons_succ, h2, Nat.zero_le, true_and, Nat.zero_add, List.length_cons, Nat.sub_zero, Nat.add_lt_add_iff_right]
    | succ off =>
     obtain ⟨h1, h2⟩ := ih (v :: vs) off (by simp at h ⊢; omega)
     refine ⟨by simp [putAt, h1], fun k => ?_⟩
     cases k with
     | zero => simp [putAt]
     | succ k =>
      simp only [putAt, List.getElem?_cons_succ, h2]
      simp only [Nat.add_le_add_iff_right, show off + 1 + (v :: vs).length = off + (v :: vs).length + 1 by omega, Nat.add_lt_add_iff_right, Nat.add_sub_add_right]
 intro vs h
 unfold storeAt
 split
 ·rename_i v
  simp at h
  refine ⟨by simp, fun k => ?_⟩
  rw [List.getElem?_set]
  by_cases e : off = k
  ·subst e; simp; omega
  ·rw [if_neg e, if_neg (by simp; omega)]
 ·exact put vs cs off h
def arrAt (arr : Array Value) (off : Nat) (vs : Array Value) : Array Value := (arr.toList.take off ++ vs.toList ++ arr.toList.drop (off + vs.size)).toArray
theorem arrAt_size {arr : Array Value} {off : Nat} {vs : Array Value} (h : off + vs.size ≤ arr.size) : (arrAt arr off vs).size = arr.size := by
 simp [arrAt]; omega
theorem arrAt_get {arr : Array Value} {off : Nat} {vs : Array Value} (h : off + vs.size ≤ arr.size) (k : Nat) : (arrAt arr off vs)[k]? = if off ≤ k ∧ k < off + vs.size then vs[k - off]? else arr[k]? := by
 have h1 : (arr.toList.take off).length = off := by simp; omega
 simp only [arrAt, List.getElem?_toArray]
 by_cases a : k < off
 ·rw [if_neg (by omega), List.append_assoc, List.getElem?_append_left (by omega), List.getElem?_take, if_pos a]
  simp
 ·by_cases b : k < off + vs.size
  ·rw [if_pos (by omega), List.append_assoc, List.getElem?_append_right (by omega), List.getElem?_append_left (by simp [h1]; omega), h1]
   simp
  ·rw [if_neg (by omega), List.append_assoc, List.getElem?_append_right (by omega), List.getElem?_append_right (by simp [h1]; omega), List.getElem?_drop, h1]
   simp
   congr 1
   omega
theorem store_rep {Z : Nat → Prop} {C : Ctx} {cs vs : List PV} {arr xs : Array Value} {off : Nat} (h : RepL w Z C cs arr) (hv : RepL w Z C vs xs) (hl : off + vs.length ≤ cs.length) :
    RepL w Z C (storeAt cs off vs) (arrAt arr off xs) := by
 have h0 := h.1
 have h1 := hv.1
 obtain ⟨g1, g2⟩ := storeAt_get (vs := vs) hl
 refine ⟨by rw [arrAt_size (by omega)]; omega, fun j p x a b => ?_⟩
 rw [g2] at a
 rw [arrAt_get (by omega)] at b
 rw [h1] at b
 split at a
 ·rename_i e; rw [if_pos e] at b; exact hv.2 _ p x a b
 ·rename_i e; rw [if_neg e] at b; exact h.2 _ p x a b
theorem foldl_put (off : Nat) : ∀ (l : List Value) (k : Nat) (arr : Array Value), off + k + l.length ≤ arr.size →
    (l.zipIdx k).foldl (fun cs (x : Value × Nat) => cs.setIfInBounds (off + x.2) x.1) arr = arrAt arr (off + k) l.toArray
 | [], k, arr, _ => by simp [arrAt]
 | x :: l, k, arr, h => by
  simp only [List.zipIdx_cons, List.foldl_cons]
  simp at h
  rw [foldl_put off l (k + 1) _ (by simp; omega)]
  apply Array.ext_getElem?
  intro j
  rw [arrAt_get (by simp; omega), arrAt_get (by simp; omega)]
  simp only [List.size_toArray, List.length_cons, Array.getElem?_setIfInBounds]
  by_cases e : off + k = j
  ·subst e
   rw [if_neg (by omega), if_pos (by omega)]
   simp
   omega
  ·by_cases a : off + (k + 1) ≤ j ∧ j < off + (k + 1) + l.length
   ·rw [if_pos a, if_pos (by omega), show j - (off + k) = j - (off + (k + 1)) + 1 by omega]
    simp
   ·rw [if_neg a, if_neg e, if_neg (by omega)]
theorem fill_step {place : Nat → Option (Nat × Nat)} {i off size : Nat} {arr : Array Value} {v : Value} {rest : List (Nat × Value)} (h : place i = some (off, size)) (h1 : v.cells.size = size) (h2 : off + size ≤ arr.size) :
    Instr.fill place arr ((i, v) :: rest) = Instr.fill place (arrAt arr off v.cells) rest := by
 subst h1
 simp only [Instr.fill, h]
 rw [if_neg (by simp; omega)]
 congr 1
 have := foldl_put off v.cells.toList 0 arr (by simpa using h2)
 simp only [Nat.add_zero, Array.toArray_toList] at this
 rw [← this, ← Array.foldl_toList, Array.toList_zipIdx]
theorem fillAt_sound {Z : Nat → Prop} {C : Ctx} (hq : q) {place size : Nat → Nat} {pl : Nat → Option (Nat × Nat)} {k : List PV → Prg PV} :
    ∀ {ps : List (Nat × PV)} {vs : List (Nat × Value)} {cs : List PV} {arr : Array Value}, (fillAt place size ps cs k).wp q K H → (∀ p ∈ ps, pl p.1 = some (place p.1, size p.1)) →
      vs.map (·.1) = ps.map (·.1) → RepS w Z C (ps.map (·.2)) (vs.map (·.2)) → RepL w Z C cs arr →
      ∃ cs' arr', (k cs').wp q K H ∧ Instr.fill pl arr vs = some arr' ∧ RepL w Z C cs' arr'
 | [], [], cs, arr, h, _, _, _, hr => ⟨cs, arr, h, rfl, hr⟩
 | [], _ :: _, cs, arr, _, _, h, _, _ => by simp at h
 | _ :: _, [], cs, arr, _, _, h, _, _ => by simp at h
 | (i, p) :: ps, (i', v) :: vs, cs, arr, h, hpl, hm, hv, hr => by
  simp only [List.map_cons, List.cons.injEq] at hm
  obtain ⟨rfl, hm⟩ := hm
  simp only [fillAt] at h
  obtain ⟨p', h1, h2⟩ := unt_sound h hq hv.1
  obtain ⟨h3, h4⟩ := h1
  obtain ⟨e1, e2, e3, e4⟩ := h3 hq
  have hc := cells_rep h2 e2
  have hs := hr.1
  have := hc.1
  have e5 : v.cells.size = size i' := by rw [← e1]; exact hc.1
  obtain ⟨cs', arr', g1, g2, g3⟩ := fillAt_sound hq h4 (fun p hp => hpl p (by simp [hp])) hm hv.2 (store_rep hr hc (by rw [e1]; exact e4))
  exact ⟨cs', arr', g1, by rw [fill_step (hpl (i', p) (by simp)) e5 (by rw [hs]; exact e4)]; exact g2, g3⟩
theorem parts_rep {τ : List PV} {a : Act} {Z : Nat → Prop} {C : Ctx} (h : RepL w Z C τ a.tmps) (ps : Array (Nat × Operand)) :
    ((ps.map fun (i, x) => (i, a.eval x)).toList.map (·.1) = (ps.toList.map fun p => (p.1, opd τ p.2)).map (·.1)) ∧
    RepS w Z C ((ps.toList.map fun p => (p.1, opd τ p.2)).map (·.2)) ((ps.map fun (i, x) => (i, a.eval x)).toList.map (·.2)) := by
 rw [Array.toList_map]
 generalize ps.toList = l
 constructor
 ·simp
 ·induction l with
  | nil => trivial
  | cons p l ih => exact ⟨rep_opd h p.2, ih⟩
theorem places_of (he : EnvOK P E) : ∀ (fs : List Field), (∀ f ∈ fs, 0 < (E.ti f.type).size) →
    fs.mapM (fun f => (P.info? f.type).map fun i => (f.offset, i.size)) = some (fs.map fun f => (f.offset, (E.ti f.type).size))
 | [], _ => rfl
 | f :: fs, h => by
  obtain ⟨i, z, h1, h2, _⟩ := (he.ti f.type).info (h f (by simp))
  simp [List.mapM_cons, h1, h2, places_of he fs fun g hg => h g (by simp [hg])]
theorem build_sound (he : EnvOK P E) (hs : Sim w0 μ H w) (hq : q) {t : Nat} {τ : List PV} {a : Act} {ps : Array (Nat × Operand)}
    (h : (buildIn E t (ps.toList.map fun p => (p.1, opd τ p.2))).wp q K H) (ht : RepL w (Zof μ H w) (ctx μ H w) τ a.tmps) :
    RanV w0 μ H w K ((Instr.build t (ps.map fun (i, x) => (i, a.eval x))).run P w) := by
 obtain ⟨m1, m2⟩ := parts_rep ht ps
 unfold buildIn at h
 have hk := (he.ti t).kind
 split at h
 ·rename_i offs ftys hti
  rw [hti] at hk
  obtain ⟨h1, h2⟩ := h
  obtain ⟨h3, h4, h5⟩ := h1 hq
  obtain ⟨fs, e1, e2, e3⟩ := hk
  obtain ⟨i, z, i1, i2, i3, i4, i5, i6, i7⟩ := (he.ti t).info h3
  have hp := places_of he fs.toList fun f hf => by
   have := List.all_eq_true.1 h5 f.type (by rw [← e3]; exact List.mem_map_of_mem hf)
   simpa using this
  let pl : Nat → Option (Nat × Nat) := fun i => ((fs.toList.map fun f => (f.offset, (E.ti f.type).size)).toArray)[i]?
  have hpl : ∀ p ∈ ps.toList.map (fun p => (p.1, opd τ p.2)), pl p.1 = some (offs.getD p.1 0, (E.ti (ftys.getD p.1 0)).size) := fun p hp' => by
   have hb := List.all_eq_true.1 h4 p hp'
   simp only [Bool.and_eq_true, decide_eq_true_eq] at hb
   have hf : p.1 < fs.size := by have := congrArg List.length e2; simp at this; omega
   simp only [pl, List.getElem?_toArray, List.getElem?_map, Array.getElem?_toList, Array.getElem?_eq_getElem hf, Option.map_some]
   rw [← e2, ← e3]
   simp [List.getD_eq_getElem?_getD, hf]
  obtain ⟨cs', arr', g1, g2, g3⟩ := fillAt_sound hq (pl := pl) h2 hpl m1 m2 (i6 w _ _)
  refine .same hs g1 (.agg g3.1 g3.2) (run_build w t _ arr' ?_)
  simp only [Program.built, i1, e1, i4, hp]
  exact g2
 ·rename_i n e hti
  rw [hti] at hk
  obtain ⟨h1, h2⟩ := h
  obtain ⟨h3, h4⟩ := h1 hq
  obtain ⟨i, z, i1, i2, i3, i4, i5, i6, i7⟩ := (he.ti t).info h3
  obtain ⟨j, y, j1, j2, _⟩ := (he.ti e).info h4
  obtain ⟨cs', arr', g1, g2, g3⟩ := fillAt_sound hq (pl := fun i => some (i * j.size, j.size)) h2 (fun p _ => by rw [j2]) m1 m2 (i6 w _ _)
  refine .same hs g1 (.agg g3.1 g3.2) (run_build w t _ arr' ?_)
  have hk' : P.underlying t = some (.array n e) := hk
  simp only [Program.built, i1, hk', i4, j1]
  exact g2
 ·exact (bad_wp hq h).elim
theorem RanV.alloc (hs : Sim w0 μ H w) {Ky : Key} {mk : Nat → PB} {k : Nat → Prg PV} (h : (Prg.alc Ky mk k).wp q K H) {o : Obj} (hv : ∀ v, (mk v).ver = v) {r : Result Value} {x : Value}
    (hr : r = .ok x (w.alloc o)) (hb : ∀ (w' : World) Z C, (∀ b, Zof μ H w b → Z b) → (∀ b, Zof μ H w b → w'.heap[b]? = w.heap[b]?) → Ctx.le (ctx μ H w) C → w'.heap[w.heap.size]? = some o → BRep w' Z C w.heap.size (mk (verOf H Ky + 1)))
    {pv : PV} (hk : k (verOf H Ky + 1) = .ret pv) (hx : ∀ C m, C.loc Ky (verOf H Ky + 1) = some (w.heap.size, m) → m = bsize (w.alloc o) w.heap.size → Rep (w.alloc o) (Zof (μ.upd Ky w.heap.size) (H.set Ky (mk (verOf H Ky + 1))) (w.alloc o)) C pv x) :
    RanV w0 μ H w K r := by
 simp only [Prg.wp, hk] at h
 replace h := h.2
 have E := Evo.alloc hs Ky o (mk (verOf H Ky + 1)) (hv _)
 refine ⟨pv, _, _, w.alloc o, x, h, Sim.alloc hs Ky o _ (hv _) (hb _ _ _ (fun b hb => (E.z b hb).1) (fun b hb => (E.z b hb).2) E.le (heap_alloc_new w o)), E, hx _ _ ?_ rfl, hr⟩
 have := ctx_loc_of (w := w.alloc o) (μ := μ.upd Ky w.heap.size) (H := H.set Ky (mk (verOf H Ky + 1))) (K := Ky) (b := mk (verOf H Ky + 1)) (r := w.heap.size) (by simp [set_at]) (by simp [upd_at])
 rwa [hv] at this
theorem alloc_sound (he : EnvOK P E) (hs : Sim w0 μ H w) (hq : q) {e : Nat} {Ky : Key}
    (h : (Prg.chk (0 < (E.ti e).size) (.alc Ky (fun v => .cells (E.ti e).zero v false) fun v => .ret (.ref Ky v 0))).wp q K H) :
    RanV w0 μ H w K ((Instr.alloc e true (.tuple #[])).run P w) := by
 obtain ⟨h1, h2⟩ := h
 obtain ⟨z, z1, z2, z3, _⟩ := (he.ti e).zeroAt (h1 hq)
 refine .alloc hs h2 (o := .cells z.cells e) (fun _ => rfl) ?_ (fun w' Z C _ _ _ hn => ⟨z.cells, e, hn, z3 _ _ _⟩) rfl (fun C m hl _ => .ref (.inl ⟨m, hl⟩))
 simp [Instr.alloc, z1, newVar, newRow]
theorem box_sound (hs : Sim w0 μ H w) (hq : q) {e : Nat} {Ky : Key} {p : PV} {x : Value}
    (h : (Prg.chk (cells1 (valCells p) = true) (.alc Ky (fun v => .cells (valCells p) v false) fun v => .ret (.ref Ky v 0))).wp q K H) (hp : RP μ H w p x) :
    RanV w0 μ H w K ((Instr.box e x).run P w) := by
 obtain ⟨h1, h2⟩ := h
 have hc := cells_rep hp (h1 hq)
 refine .alloc hs h2 (o := .cells x.cells e) (fun _ => rfl) ?_ (fun w' Z C hZ hw hC hn => ⟨x.cells, e, hn, hc.mono hZ hw hC⟩) rfl (fun C m hl _ => .ref (.inl ⟨m, hl⟩))
 simp [Instr.box, newVar, newRow]
theorem makeMap_sound (hs : Sim w0 μ H w) {t kl : Nat} {Ky : Key} {ag : Bool}
    (h : (Prg.alc Ky (fun v => .map ag kl [] v false) fun v => .ret (.mref Ky v)).wp q K H) :
    RanV w0 μ H w K ((Instr.makeMap t none).run P w) := by
 refine .alloc hs h (o := .map #[] 0) (fun _ => rfl) ?_ (fun w' Z C _ _ _ hn => ⟨#[], 0, hn, rfl, fun e h => by simp at h, ⟨fun i e x a => by simp at a, by simp, fun x h => by simp at h⟩, fun i e x a => by simp at a⟩) rfl (fun C m hl _ => .mref (.inl ⟨m, hl⟩))
 simp [Instr.makeMap]
theorem rep_replicate {Z : Nat → Prop} {n sz : Nat} {z : List PV} {zc : Array Value} (h : RepL w Z Ctx.nil z zc) (hz : z.length = sz) :
    ∀ i row j p x, (List.replicate n z)[i]? = some row → row[j]? = some p → (madeCells zc (n * sz))[i * sz + j]? = some x → Rep w Z Ctx.nil p x := by
 intro i row j p x a b c
 rw [List.getElem?_replicate] at a
 split at a
 ·cases a
  have hj : j < sz := by have := (List.getElem?_eq_some_iff.1 b).1; omega
  have hzs : zc.size = sz := h.1.trans hz
  simp only [madeCells, Array.getElem?_map] at c
  have hlt : i * sz + j < n * sz := by
   rename_i hi
   have : (i + 1) * sz ≤ n * sz := Nat.mul_le_mul_right _ hi
   rw [Nat.add_mul] at this; omega
  rw [Array.getElem?_range, if_pos hlt] at c
  simp at c
  rw [hzs, show (i * sz + j) % sz = j by rw [Nat.mul_comm, Nat.mul_add_mod, Nat.mod_eq_of_lt hj]] at c
  refine h.2 j p x b ?_
  rw [← c, Array.getElem?_eq_getElem (by omega)]
  simp [show j < zc.size by omega]
 ·cases a
theorem makeRows_sound (he : EnvOK P E) (hs : Sim w0 μ H w) (hq : q) {t : Nat} {Ky : Key} {n c : PV} {x y : Value} (h : (makeRows E Ky t n c).wp q K H) (hn : RP μ H w n x) (hc : RP μ H w c y) :
    RanV w0 μ H w K ((Instr.makeSlice t x y).run P w) := by
 unfold makeRows at h
 have hk := (he.ti t).kind
 split at h
 ·rename_i e n c hti
  rw [hti] at hk
  obtain ⟨h1, h2⟩ := h
  obtain ⟨rfl, h3, h4, h5, h6⟩ := h1 hq
  cases hn; cases hc
  obtain ⟨i, z, i1, i2, i3, i4, i5, i6, i7⟩ := (he.ti e).info h5
  have h7 : n ≤ 1099511627776 := by
   have : n * 1 ≤ n * ((E.ti e).bytes : Int) := Int.mul_le_mul_of_nonneg_left (by omega) h3
   omega
  have hr := run_make (P := P) w t e i z hk i1 i4 .i64 .i64 n n h3 (Int.le_refl _) (by rw [i3, Int.mul_comm]; omega) (by omega)
  have hzl := (he.ti e).zero_length h5
  rw [i2] at hr
  refine .alloc hs h2 (o := .cells (madeCells z.cells (n.toNat * (E.ti e).size)) e) (fun _ => rfl) hr (fun w' Z C _ _ _ hn => ⟨_, e, hn, by simp [size_madeCells], fun row hr => by
   rw [List.mem_replicate] at hr; rw [hr.2, hzl], rep_replicate (i6 _ _ _) hzl⟩) rfl (fun C m hl hm => ?_)
  by_cases hz : n.toNat = 0
  ·rw [hz]; exact .sref0
  ·refine .sref (.inl ⟨m, hl, ?_⟩) (by omega) (Nat.le_refl _) (fun _ => rfl)
   rw [hm]
   simp only [bsize, heap_alloc_new, size_madeCells, Nat.le_refl]
 ·exact (bad_wp hq h).elim
theorem fillRows_sound (hq : q) {sz : Nat} {k : List (List PV) → Prg PV} : ∀ {ps : List (Nat × PV)} {vs : List (Nat × Value)} {rs : List (List PV)} {arr : Array Value} {H : Heap}, Sim w0 μ H w →
    (fillRows sz ps rs k).wp q K H → vs.map (·.1) = ps.map (·.1) → RepS w (Zof μ H w) (ctx μ H w) (ps.map (·.2)) (vs.map (·.2)) → (∀ row ∈ rs, row.length = sz) → arr.size = rs.length * sz →
      (∀ i row j p x, rs[i]? = some row → row[j]? = some p → arr[i * sz + j]? = some x → Rep w (Zof μ H w) Ctx.nil p x) →
      ∃ rs' arr' H', (k rs').wp q K H' ∧ Sim w0 μ H' w ∧ Evo μ H w μ H' w ∧ Instr.fill (fun i => some (i * sz, sz)) arr vs = some arr' ∧ rs'.length = rs.length ∧ (∀ row ∈ rs', row.length = sz) ∧ arr'.size = rs.length * sz ∧
      (∀ i row j p x, rs'[i]? = some row → row[j]? = some p → arr'[i * sz + j]? = some x → Rep w (Zof μ H' w) Ctx.nil p x)
 | [], [], rs, arr, H, hs, h, _, _, h1, h2, h3 => ⟨rs, arr, H, h, hs, Evo.refl _ _ _, rfl, rfl, h1, h2, h3⟩
 | [], _ :: _, _, _, _, _, _, h, _, _, _, _ => by simp at h
 | _ :: _, [], _, _, _, _, _, h, _, _, _, _ => by simp at h
 | (i, p) :: ps, (i', v) :: vs, rs, arr, H, hs, h, hm, hv, h1, h2, h3 => by
  simp only [List.map_cons, List.cons.injEq] at hm
  obtain ⟨rfl, hm⟩ := hm
  simp only [fillRows] at h
  obtain ⟨p', g1, g2⟩ := unt_sound h hq hv.1
  obtain ⟨t, H', g3, g4, g5, g6⟩ := frz_ro (k := fun v => .chk ((valCells v).length = sz ∧ cells1 (valCells v) = true ∧ i' < rs.length) (fillRows sz ps (rs.set i' (valCells v)) k)) hs hq g1 g2
  obtain ⟨g7, g8⟩ := g3
  obtain ⟨e1, e2, e3⟩ := g7 hq
  have hc := cells_rep g6 e2
  have e5 : v.cells.size = sz := by rw [← e1]; exact hc.1
  have e6 : i' * sz + sz ≤ rs.length * sz := by
   have : (i' + 1) * sz ≤ rs.length * sz := Nat.mul_le_mul_right _ e3
   rw [Nat.add_mul] at this; omega
  have e7 : i' * sz + v.cells.size ≤ arr.size := by omega
  obtain ⟨rs', arr', H2, f1, f2, f3, f4, f5, f6, f7, f8⟩ := fillRows_sound (arr := arrAt arr (i' * sz) v.cells) hq g4 g8 hm (RepS.mono (fun b hb => (g5.z b hb).1) (fun b hb => (g5.z b hb).2) g5.le hv.2)
   (fun row hr => by
    rcases List.mem_or_eq_of_mem_set hr with hr | hr
    ·exact h1 row hr
    ·rw [hr, e1])
   (by rw [arrAt_size e7, h2]; simp)
   (fun a row j p x b c d => by
    rw [arrAt_get e7] at d
    rw [List.getElem?_set] at b
    by_cases e : i' = a
    ·subst e
     rw [if_pos rfl, if_pos e3] at b
     cases b
     have hj : j < sz := by have := (List.getElem?_eq_some_iff.1 c).1; omega
     rw [if_pos (by omega), show i' * sz + j - i' * sz = j by omega] at d
     exact hc.2 j p x c d
    ·rw [if_neg e] at b
     have hj : j < sz := by have := (List.getElem?_eq_some_iff.1 c).1; have := h1 row (List.mem_of_getElem? b); omega
     have hne : ¬ (i' * sz ≤ a * sz + j ∧ a * sz + j < i' * sz + v.cells.size) := by
      rw [e5]
      rintro ⟨x1, x2⟩
      rcases Nat.lt_or_gt_of_ne e with y | y
      ·have : (i' + 1) * sz ≤ a * sz := Nat.mul_le_mul_right _ y
       rw [Nat.add_mul] at this; omega
      ·have : (a + 1) * sz ≤ i' * sz := Nat.mul_le_mul_right _ y
       rw [Nat.add_mul] at this; omega
     rw [if_neg hne] at d
     exact (h3 a row j p x b c d).evoN g5)
  refine ⟨rs', arr', H2, f1, f2, g5.trans f3, ?_, by simpa using f5, f6, by simpa using f7, f8⟩
  rw [fill_step (off := i' * sz) (size := sz) rfl e5 (by omega)]
  exact f4
theorem buildRows_sound (he : EnvOK P E) (hs : Sim w0 μ H w) (hq : q) {t n : Nat} {Ky : Key} {τ : List PV} {a : Act} {ps : Array (Nat × Operand)}
    (h : (buildRows E Ky t n (ps.toList.map fun p => (p.1, opd τ p.2))).wp q K H) (ht : RepL w (Zof μ H w) (ctx μ H w) τ a.tmps) :
    RanV w0 μ H w K ((Instr.buildSlice t n (ps.map fun (i, x) => (i, a.eval x))).run P w) := by
 obtain ⟨m1, m2⟩ := parts_rep ht ps
 unfold buildRows at h
 have hk := (he.ti t).kind
 split at h
 ·rename_i e hti
  rw [hti] at hk
  obtain ⟨h1, h2⟩ := h
  obtain ⟨h3, h4⟩ := h1 hq
  obtain ⟨i, z, i1, i2, i3, i4, i5, i6, i7⟩ := (he.ti e).info h4
  have hzl := (he.ti e).zero_length h4
  obtain ⟨rs', arr', H', f1, f2, f3, f4, f5, f6, f7, f8⟩ := fillRows_sound (arr := madeCells z.cells (n * (E.ti e).size)) hq hs h2 m1 m2 (fun row hr => by rw [List.mem_replicate] at hr; rw [hr.2, hzl])
   (by simp [size_madeCells]) (rep_replicate (i6 _ _ _) hzl)
  simp only [List.length_replicate] at f5 f7
  have hr : (Instr.buildSlice t n (ps.map fun (i, x) => (i, a.eval x))).run P w = .ok (.slice (some ⟨w.heap.size, 0, none⟩) n n) (w.alloc (.cells arr' e)) := by
   have hsz := (he.ti e).sizeAt h4 w
   have hz : (Go.zeroValue e).run P w = .ok z w := by simp [Go.zeroValue, typeInfo, i1, i4]
   simp only [Instr.buildSlice, Sem.run_bind, run_underlying hk, Result.andThen_ok, hsz, Sem.run_ite]
   rw [if_neg (by omega)]
   by_cases h0 : n * (E.ti e).size = 0
   ·rw [if_pos h0]
    simp only [Sem.run_pure, Result.andThen_ok]
    have : madeCells z.cells (n * (E.ti e).size) = (Array.range (n * (E.ti e).size)).map ((#[] : Array Value)[· % (#[] : Array Value).size]!) := by rw [h0]; simp [madeCells, Array.range_zero']
    rw [this] at f4
    rw [f4]
    simp [newRow]
   ·rw [if_neg h0]
    simp only [hz, Result.andThen_ok, Sem.run_pure]
    have : Instr.fill (fun i => some (i * (E.ti e).size, (E.ti e).size)) ((Array.range (n * (E.ti e).size)).map (z.cells[· % z.cells.size]!)) (ps.map fun (i, x) => (i, a.eval x)).toList = some arr' := f4
    rw [this]
    simp [newRow]
  obtain ⟨pv, H2, μ2, w2, x, r1, r2, r3, r4, r5⟩ := RanV.alloc (r := .ok (.slice (some ⟨w.heap.size, 0, none⟩) n n) (w.alloc (.cells arr' e))) f2 f1 (o := .cells arr' e) (fun _ => rfl) rfl
   (fun w' Z C hZ hw hC hn => ⟨arr', e, hn, by rw [f5, f7]; exact Nat.le_refl _, f6, fun i row j p x b c d => (f8 i row j p x b c d).mono hZ hw (Ctx.le_refl _)⟩) rfl (fun C m hl hm => by
    by_cases hz : n = 0
    ·subst hz; exact .sref0
    ·refine .sref (.inl ⟨m, hl, ?_⟩) (by omega) (Nat.le_refl _) (fun _ => rfl)
     rw [hm]
     simp only [bsize, heap_alloc_new, f7, Nat.le_refl])
  exact ⟨pv, H2, μ2, w2, x, r1, r2, f3.trans r3, r4, hr.trans r5⟩
 ·exact (bad_wp hq h).elim
theorem buildCells_sound (he : EnvOK P E) (hs : Sim w0 μ H w) (hq : q) {t n : Nat} {Ky : Key} {τ : List PV} {a : Act} {ps : Array (Nat × Operand)}
    (h : (buildCells E Ky t n (ps.toList.map fun p => (p.1, opd τ p.2))).wp q K H) (ht : RepL w (Zof μ H w) (ctx μ H w) τ a.tmps) :
    RanV w0 μ H w K ((Instr.buildSlice t n (ps.map fun (i, x) => (i, a.eval x))).run P w) := by
 obtain ⟨m1, m2⟩ := parts_rep ht ps
 unfold buildCells at h
 have hk := (he.ti t).kind
 split at h
 ·rename_i e hti
  rw [hti] at hk
  obtain ⟨h1, h2⟩ := h
  obtain ⟨h3, h4, h5⟩ := h1 hq
  obtain ⟨i, z, i1, i2, i3, i4, i5, i6, i7⟩ := (he.ti e).info h4
  have hun : RepL w (Zof μ H w) (ctx μ H w) (List.replicate (n * (E.ti e).size) .undef) (madeCells z.cells (n * (E.ti e).size)) :=
   ⟨by simp [size_madeCells], fun j p x a b => by
    have := List.mem_of_getElem? a
    rw [List.mem_replicate] at this
    rw [this.2]; exact .undef⟩
  obtain ⟨cs', arr', g1, g2, g3⟩ := fillAt_sound hq (pl := fun i => some (i * (E.ti e).size, (E.ti e).size)) h2 (fun p _ => rfl) m1 m2 hun
  have hr : (Instr.buildSlice t n (ps.map fun (i, x) => (i, a.eval x))).run P w = .ok (.slice (some ⟨w.heap.size, 0, none⟩) n n) (w.alloc (.cells arr' e)) := by
   have hsz := (he.ti e).sizeAt h4 w
   have hz : (Go.zeroValue e).run P w = .ok z w := by simp [Go.zeroValue, typeInfo, i1, i4]
   simp only [Instr.buildSlice, Sem.run_bind, run_underlying hk, Result.andThen_ok, hsz, Sem.run_ite]
   rw [if_neg (by omega)]
   have h0 : ¬ n * (E.ti e).size = 0 := by have := Nat.mul_pos h5 h4; omega
   rw [if_neg h0]
   simp only [hz, Result.andThen_ok, Sem.run_pure]
   have : Instr.fill (fun i => some (i * (E.ti e).size, (E.ti e).size)) ((Array.range (n * (E.ti e).size)).map (z.cells[· % z.cells.size]!)) (ps.map fun (i, x) => (i, a.eval x)).toList = some arr' := g2
   rw [this]
   simp [newRow]
  refine .alloc hs g1 (o := .cells arr' e) (fun _ => rfl) hr (fun w' Z C hZ hw hC hn => ⟨arr', e, hn, g3.mono hZ hw hC⟩) rfl (fun C m hl _ => .aref (.inl ⟨m, hl⟩) (Nat.le_refl _))
 ·exact (bad_wp hq h).elim
end
section
variable {P : Program} {E : Env} {w0 : World} {μ : Map} {H : Heap} {w : World} {q : Prop} {K : PV → Heap → Prop}
theorem run_bound {k : IntKind} {i : Int} {y : Nat} {c : BoundsCode} (h0 : 0 ≤ i) (h1 : i ≤ y) : (Instr.sliceBound (.int k i) y c).run P w = .ok i.toNat w := by
 simp only [Instr.sliceBound, asIntOf, Sem.run_bind, Sem.run_pure, Result.andThen_ok, Sem.run_ite]
 rw [if_pos ⟨h0, h1⟩]
theorem sl_part {Z : Nat → Prop} {C : Ctx} {rows : List (List PV)} {ex ex' : Bool} {A : Option Addr} {len cap l h m sz : Nat} (hr : Rep w Z C (.sl rows ex) (.slice A len cap)) (hlh : l ≤ h) (hh : h ≤ rows.length) (hm : h ≤ m)
    (hex : ex' = true → m = h) (hsz : l = 0 ∨ ∀ row ∈ rows, row.length = sz) : Rep w Z C (.sl ((rows.take h).drop l) ex') (.slice (if m = l then A else A.map (·.add (l * sz))) (h - l) (m - l)) := by
 cases hr with
 | sl sz' blk off vals h1 h2 h3 h4 h5 h6 h7 =>
  have hget : ∀ i row, ((rows.take h).drop l)[i]? = some row → rows[l + i]? = some row := fun i row a => by
   rw [List.getElem?_drop, List.getElem?_take] at a
   split at a
   ·exact a
   ·cases a
  refine .sl sz' blk (off + l * sz') (fun i j => vals (l + i) j) (by simp; omega) (by omega) (fun e => by have := hex e; omega) (fun hne => ?_) (fun row hr' => h5 row (List.mem_of_mem_take (List.mem_of_mem_drop hr')))
   (fun i row j p a b => ?_) (fun i row j p a b => h7 _ row j p (hget i row a) b)
  ·have hlt : l < h := by
    rcases Nat.lt_or_ge l h with x | x
    ·exact x
    ·exact absurd (List.eq_nil_of_length_eq_zero (by simp; omega)) hne
   have hrow : rows ≠ [] := fun e => by rw [e] at hh; simp at hh; omega
   rw [h4 hrow, if_neg (by omega)]
   have : l * sz = l * sz' := by
    rcases hsz with rfl | hsz
    ·simp
    ·obtain ⟨r0, rs, rfl⟩ := List.exists_cons_of_ne_nil hrow
     rw [← hsz r0 (by simp), h5 r0 (by simp)]
   simp [add_lit', this]
  ·have := h6 _ row j p (hget i row a) b
   rw [Nat.add_mul] at this
   refine ⟨this.1, ?_⟩
   rw [← this.2]
   congr 2
   omega
theorem run_cut {t e l h m len cap size : Nat} {A : Option Addr} {lo hi mx : Option Value} (hk : P.underlying t = some (.slice e)) (hs : (Go.sizeOf e).run P w = .ok size w)
    (hb : (Instr.sliceBounds true len cap lo hi mx).run P w = .ok (l, h, m) w) : (Instr.sliceAt t (.slice A len cap) lo hi mx).run P w = .ok (.slice (if m = l then A else A.map (·.add (l * size))) (h - l) (m - l)) w := by
 simp only [Instr.sliceAt, Sem.run_bind, run_underlying hk, Result.andThen_ok, Instr.slice, hb, hs, Sem.run_pure]
theorem take_all {α : Type} (l : List α) : l.take l.length = l := List.take_length
theorem add_zero' (A : Option Addr) (n : Nat) : A.map (·.add (0 * n)) = A := by cases A <;> simp [Addr.add]
theorem cut_sound (he : EnvOK P E) (hs : Sim w0 μ H w) (hq : q) {t : Nat} {p : PV} {x : Value} {lo hi mx : Option PV} {xlo xhi xmx : Option Value} (h : (cut E t p lo hi mx).wp q K H) (hp : RP μ H w p x)
    (hlo : ∀ k n, lo = some (.int k n) → xlo = some (.int k n)) (hlo' : lo = none → xlo = none) (hhi : ∀ k n, hi = some (.int k n) → xhi = some (.int k n)) (hhi' : hi = none → xhi = none)
    (hmx : ∀ k n, mx = some (.int k n) → xmx = some (.int k n)) (hmx' : mx = none → xmx = none) : RanV w0 μ H w K ((Instr.sliceAt t x xlo xhi xmx).run P w) := by
 unfold cut at h
 have hk := (he.ti t).kind
 split at h
 ·rename_i e hti
  rw [hti] at hk
  obtain ⟨h1, h2⟩ := h
  have hsz := (he.ti e).sizeAt (h1 hq) w
  split at h2
  ·rename_i rows ex
   have hp0 := hp
   cases hp with
   | @sl _ _ _ A len cap sz blk off vals g1 g2 g3 g4 g5 g6 g7 =>
    split at h2
    ·obtain rfl := hlo' rfl; obtain rfl := hhi' rfl; obtain rfl := hmx' rfl
     have hb : (Instr.sliceBounds true len cap none none none).run P w = .ok (0, len, cap) w := by simp [Instr.sliceBounds]
     have := sl_part (sz := (E.ti e).size) (ex' := ex) hp0 (Nat.zero_le len) (by omega) g2 g3 (.inl rfl)
     rw [List.drop_zero, ← g1, take_all, g1] at this
     exact .same hs h2 this (run_cut hk hsz hb)
    ·rename_i k h
     obtain ⟨f1, f2⟩ := h2
     obtain ⟨f3, f4⟩ := f1 hq
     obtain rfl := hlo' rfl; obtain rfl := hhi _ _ rfl; obtain rfl := hmx' rfl
     have hb : (Instr.sliceBounds true len cap none (some (.int k h)) none).run P w = .ok (0, h.toNat, cap) w := by
      simp [Instr.sliceBounds, run_bound f3 (show h ≤ cap by omega)]
     have := sl_part (sz := (E.ti e).size) (ex' := false) hp0 (Nat.zero_le h.toNat) (by omega) (show h.toNat ≤ cap by omega) (fun e => by cases e) (.inl rfl)
     rw [List.drop_zero] at this
     exact .same hs f2 this (run_cut hk hsz hb)
    ·rename_i k l
     obtain ⟨f1, f2⟩ := h2
     obtain ⟨f3, f4, f5⟩ := f1 hq
     obtain rfl := hlo _ _ rfl; obtain rfl := hhi' rfl; obtain rfl := hmx' rfl
     have hb : (Instr.sliceBounds true len cap (some (.int k l)) none none).run P w = .ok (l.toNat, len, cap) w := by
      simp [Instr.sliceBounds, run_bound f3 (show l ≤ len by omega)]
     have := sl_part (sz := (E.ti e).size) (ex' := ex) hp0 (show l.toNat ≤ len by omega) (by omega) g2 g3 (.inr f5)
     rw [← g1, take_all, g1] at this
     exact .same hs f2 this (run_cut hk hsz hb)
    ·rename_i k l k' h
     obtain ⟨f1, f2⟩ := h2
     obtain ⟨f3, f4, f5, f6⟩ := f1 hq
     obtain rfl := hlo _ _ rfl; obtain rfl := hhi _ _ rfl; obtain rfl := hmx' rfl
     have hb : (Instr.sliceBounds true len cap (some (.int k l)) (some (.int k' h)) none).run P w = .ok (l.toNat, h.toNat, cap) w := by
      simp [Instr.sliceBounds, run_bound (show 0 ≤ h by omega) (show h ≤ cap by omega), run_bound f3 (show l ≤ h.toNat by omega)]
     have := sl_part (sz := (E.ti e).size) (ex' := false) hp0 (show l.toNat ≤ h.toNat by omega) (by omega) (show h.toNat ≤ cap by omega) (fun e => by cases e) (.inr f6)
     exact .same hs f2 this (run_cut hk hsz hb)
    ·rename_i k h k' m
     obtain ⟨f1, f2⟩ := h2
     obtain ⟨f3, f4, f5⟩ := f1 hq
     subst f4
     obtain rfl := hlo' rfl; obtain rfl := hhi _ _ rfl; obtain rfl := hmx _ _ rfl
     have hb : (Instr.sliceBounds true len cap none (some (.int k h)) (some (.int k' h))).run P w = .ok (0, h.toNat, h.toNat) w := by
      simp [Instr.sliceBounds, run_bound f3 (show h ≤ cap by omega), run_bound f3 (show h ≤ h.toNat by omega)]
     have := sl_part (sz := (E.ti e).size) (ex' := true) hp0 (Nat.zero_le h.toNat) (by omega) (Nat.le_refl _) (fun _ => rfl) (.inl rfl)
     rw [List.drop_zero] at this
     exact .same hs f2 this (run_cut hk hsz hb)
    ·exact (bad_wp hq h2).elim
  ·rename_i Ky v sz n ex
   split at h2
   ·obtain rfl := hlo' rfl; obtain rfl := hhi' rfl; obtain rfl := hmx' rfl
    cases hp with
    | @sref0 _ _ _ _ _ A =>
     have hb : (Instr.sliceBounds true 0 0 none none none).run P w = .ok (0, 0, 0) w := by simp [Instr.sliceBounds]
     exact .same hs h2 .sref0 (run_cut hk hsz hb)
    | @sref _ _ _ _ _ _ cap r hl g0 g1 g2 =>
     have hb : (Instr.sliceBounds true n cap none none none).run P w = .ok (0, n, cap) w := by simp [Instr.sliceBounds]
     refine .same hs h2 (.sref hl g0 g1 g2) ?_
     rw [run_cut hk hsz hb, add_zero']
     simp
   ·rename_i k h k' m
    obtain ⟨f1, f2⟩ := h2
    obtain ⟨rfl, rfl⟩ := f1 hq
    obtain rfl := hlo' rfl; obtain rfl := hhi _ _ rfl; obtain rfl := hmx _ _ rfl
    cases hp with
    | @sref0 _ _ _ _ _ A =>
     have hb : (Instr.sliceBounds true 0 0 none (some (.int k (0 : Nat))) (some (.int k' (0 : Nat)))).run P w = .ok (0, 0, 0) w := by
      simp [Instr.sliceBounds, run_bound (show (0 : Int) ≤ 0 by omega) (show (0 : Int) ≤ ((0 : Nat) : Int) by omega)]
     exact .same hs f2 .sref0 (run_cut hk hsz hb)
    | @sref _ _ _ _ _ _ cap r hl g0 g1 g2 =>
     have hb : (Instr.sliceBounds true n cap none (some (.int k (n : Int))) (some (.int k' (n : Int)))).run P w = .ok (0, n, n) w := by
      simp [Instr.sliceBounds, run_bound (show (0 : Int) ≤ n by omega) (show (n : Int) ≤ cap by omega), run_bound (show (0 : Int) ≤ n by omega) (show (n : Int) ≤ n by omega)]
     refine .same hs f2 (.sref (hl.imp (fun ⟨m, a, b⟩ => ⟨m, a, Nat.le_trans (Nat.mul_le_mul_right _ g1) b⟩) id) g0 (Nat.le_refl _) (fun _ => rfl)) ?_
     rw [run_cut hk hsz hb, add_zero']
     simp
   ·exact (bad_wp hq h2).elim
  ·exact (bad_wp hq h2).elim
 ·rename_i n e hti
  rw [hti] at hk
  have hk' : P.underlying t = some (.array n e) := hk
  obtain ⟨h1, h2⟩ := h
  have hsz := (he.ti e).sizeAt (h1 hq) w
  split at h2
  ·rename_i Ky v off
   cases hp with
   | @ref _ _ _ _ r hl =>
    have hz : (⟨r, off, none⟩ : Addr).add (0 * (E.ti e).size) = ⟨r, off, none⟩ := by simp [Addr.add]
    split at h2
    ·obtain rfl := hlo' rfl; obtain rfl := hhi' rfl; obtain rfl := hmx' rfl
     refine .same hs h2 (.aref hl (Nat.le_refl _)) ?_
     simp [Instr.sliceAt, run_underlying hk', Instr.sureAddr, Instr.sliceBounds, hsz, Addr.add]
    ·rename_i k h
     obtain ⟨f1, f2⟩ := h2
     obtain ⟨f3, f4⟩ := f1 hq
     obtain rfl := hlo' rfl; obtain rfl := hhi _ _ rfl; obtain rfl := hmx' rfl
     refine .same hs f2 (.aref hl (show h.toNat ≤ n by omega)) ?_
     simp [Instr.sliceAt, run_underlying hk', Instr.sureAddr, Instr.sliceBounds, run_bound f3 f4, hsz, Addr.add]
    ·exact (bad_wp hq h2).elim
  ·exact (bad_wp hq h2).elim
 ·exact (bad_wp hq h).elim
theorem len_sound (he : EnvOK P E) (hs : Sim w0 μ H w) (hq : q) {ts : Array Nat} {ty : Nat} {t : Nat} {p : PV} {x : Value} (ht : ts[0]? = some t) (h : (len E t p).wp q K H) (hp : RP μ H w p x) :
    RanV w0 μ H w K ((Builtin.len_ ts ty #[x]).run P w) := by
 unfold len at h
 have hk := (he.ti t).kind
 split at h
 ·rename_i n e hti
  rw [hti] at hk
  have hk' : P.underlying t = some (.array n e) := hk
  exact .same hs h .int (by simp [Builtin.len_, ht, run_underlying hk', goInt])
 ·rename_i e rows ex hti
  rw [hti] at hk
  have hk' : P.underlying t = some (.slice e) := hk
  cases hp with
  | sl sz blk off vals h1 h2 h3 h4 h5 h6 h7 => exact .same hs h .int (by simp [Builtin.len_, ht, run_underlying hk', goInt, h1])
 ·rename_i e Ky v sz n ex hti
  rw [hti] at hk
  have hk' : P.underlying t = some (.slice e) := hk
  cases hp with
  | sref0 => exact .same hs h .int (by simp [Builtin.len_, ht, run_underlying hk', goInt])
  | sref hl g0 g1 g2 => exact .same hs h .int (by simp [Builtin.len_, ht, run_underlying hk', goInt])
 ·rename_i e Ky v off sz n hti
  rw [hti] at hk
  have hk' : P.underlying t = some (.slice e) := hk
  cases hp with
  | aref hl g1 => exact .same hs h .int (by simp [Builtin.len_, ht, run_underlying hk', goInt])
 ·rename_i k e ag kl es hti
  rw [hti] at hk
  have hk' : P.underlying t = some (.map k e) := hk
  cases hp with
  | mp arr clock hZ h0 h1 hl hk h7 => exact .same hs h .int (by simp [Builtin.len_, ht, run_underlying hk', goInt, getObj, Sem.run, h0, h1])
 ·rename_i k e hti
  rw [hti] at hk
  have hk' : P.underlying t = some (.map k e) := hk
  cases hp with
  | nilmap => exact .same hs h .int (by simp [Builtin.len_, ht, run_underlying hk', goInt])
 ·rename_i k e Ky v hti
  rw [hti] at hk
  have hk' : P.underlying t = some (.map k e) := hk
  simp only [Prg.wp] at h
  cases hK : H Ky with
  | none => rw [hK] at h; exact (bad_wp hq h).elim
  | some b =>
   rw [hK] at h
   cases b with
   | map ag kl es v' ro =>
    obtain ⟨h1, h2⟩ := h
    obtain rfl := h1 hq
    cases hp with
    | mref hl =>
     have e3 := ctx_at hl hK rfl
     obtain ⟨arr, c, b1, b2, b0, b3, b4⟩ := hs.blk Ky _ _ hK e3
     exact .same hs h2 .int (by simp [Builtin.len_, ht, run_underlying hk', goInt, getObj, Sem.run, b1, b2])
   | _ => exact (bad_wp hq h).elim
 ·exact (bad_wp hq h).elim
theorem maxs_sound (hs : Sim w0 μ H w) (hq : q) {ts : Array Nat} {ty : Nat} {ps : List PV} {xs : List Value} (h : (maxs ps).wp q K H) (hp : RepS w (Zof μ H w) (ctx μ H w) ps xs) :
    RanV w0 μ H w K ((Builtin.max_ ts ty xs.toArray).run P w) := by
 unfold maxs at h
 split at h
 ·rename_i k a k' b
  obtain ⟨h1, h2⟩ := h
  obtain rfl := h1 hq
  match xs, hp with
  | [x, y], ⟨hx, hy, _⟩ =>
   cases hx; cases hy
   exact .same hs h2 .int (by simp [Builtin.max_, Builtin.max2])
 ·exact (bad_wp hq h).elim
theorem mins_sound (hs : Sim w0 μ H w) (hq : q) {ts : Array Nat} {ty : Nat} {ps : List PV} {xs : List Value} (h : (mins ps).wp q K H) (hp : RepS w (Zof μ H w) (ctx μ H w) ps xs) :
    RanV w0 μ H w K ((Builtin.min_ ts ty xs.toArray).run P w) := by
 unfold mins at h
 split at h
 ·rename_i k a k' b
  obtain ⟨h1, h2⟩ := h
  obtain rfl := h1 hq
  match xs, hp with
  | [x, y], ⟨hx, hy, _⟩ =>
   cases hx; cases hy
   exact .same hs h2 .int (by simp [Builtin.min_, Builtin.min2])
 ·exact (bad_wp hq h).elim
end
section
variable {P : Program} {E : Env} {w0 : World} {μ : Map} {H : Heap} {w : World} {q : Prop} {K : PV → Heap → Prop}
theorem run_storeVar {t g o : Nat} {T : TypeId} {x : Value} {arr : Array Value} {size : Nat} (hs : (Go.sizeOf t).run P w = .ok size w) (hx : x.cells.size = size) (h1 : ∀ v ∈ x.cells.toList, v.oneCell' = true)
    (hg : w.heap[g]? = some (.cells arr T (0, 0))) (hl : o + size ≤ arr.size) : (storeVar t ⟨g, o, none⟩ x).run P w = .ok () (w.setRow g (arrAt arr o x.cells)) := by
 have hst := run_storeCells_at P g o T x.cells.toList 0 arr w hg (by simpa [hx] using hl) h1
 unfold storeVar
 simp only [Sem.run_bind, hs, Result.andThen_ok, Sem.run_ite]
 rw [if_neg (by simp [hx]), hst]
 simp [arrAt]
theorem RepL.one {Z : Nat → Prop} {C : Ctx} {ps : List PV} {xs : Array Value} (h : RepL w Z C ps xs) (hc : cells1 ps = true) : ∀ v ∈ xs.toList, v.oneCell' = true := fun v hv => by
 obtain ⟨j, hj⟩ := List.mem_iff_getElem?.1 hv
 have hlt : j < ps.length := by have := (List.getElem?_eq_some_iff.1 hj).1; have := h.1; simp at *; omega
 exact (h.2 j _ v (List.getElem?_eq_getElem hlt) (by simpa using hj)).oneCell (cells1_get hc (List.getElem?_eq_getElem hlt))
theorem setRow_size (g : Nat) (cs : Array Value) : (w.setRow g cs).heap.size = w.heap.size := by simp [World.setRow]
theorem bsize_setRow {g : Nat} {arr cs : Array Value} {T : TypeId} (hg : w.heap[g]? = some (.cells arr T (0, 0))) (h : cs.size = arr.size) : bsize (w.setRow g cs) g = bsize w g := by
 simp only [bsize, setRow_heap w g arr cs T _ hg, hg, h]
theorem storeVia_sound (he : EnvOK P E) (hs : Sim w0 μ H w) (hq : q) {t : Nat} {p p' : PV} {x y : Value} (h : (storeVia (E.ti t) p p').wp q K H) (hp : RP μ H w p x) (hp' : RP μ H w p' y) :
    RanU w0 μ H w K ((Instr.storeAt t x y).run P w) := by
 have fin : ∀ (a : Addr) (w : World), (Instr.storeAt t (.pointer (some a)) y).run P w = (storeVar t a y).run P w := fun a w => by simp [Instr.storeAt, Instr.sureAddr]
 cases p with
 | ref Ky v off =>
  simp only [storeVia, Prg.wp] at h
  cases hK : H Ky with
  | none => rw [hK] at h; exact (bad_wp hq h).elim
  | some b =>
   rw [hK] at h
   cases b with
   | cells cs v' ro =>
    obtain ⟨h1, h2, h3⟩ := h
    obtain ⟨rfl, hro, e1, e2, e3, e4⟩ := h1 hq
    cases hp with
    | @ref _ _ _ _ r hl =>
     have hr := ctx_at hl hK rfl
     obtain ⟨arr, T, b1, b2⟩ := hs.blk Ky _ _ hK hr
     have hc := cells_rep hp' e2
     have e5 : y.cells.size = (E.ti t).size := by rw [← e1]; exact hc.1
     have e6 : off + y.cells.size ≤ arr.size := by rw [b2.1, e5]; exact e4
     have hrun := run_storeVar (P := P) (w := w) (o := off) ((he.ti t).sizeAt e3 w) e5 (hc.one e2) b1 (by omega)
     have hsz := arrAt_size e6
     have EV := Evo.write (b' := .cells (storeAt cs off (valCells p')) v ro) hs hK hr hro (.inl rfl) (setRow_size r (arrAt arr off y.cells)) (fun k hk => setRow_other w r k _ hk) (bsize_setRow b1 hsz)
     refine ⟨_, μ, _, h3, Sim.write hs hK hr hro (.inl rfl) (setRow_size r _) (fun k hk => setRow_other w r k _ hk) (bsize_setRow b1 hsz) ⟨rfl, rfl, rfl, Nat.le_refl _⟩ ⟨_, T, setRow_heap w r arr _ T _ b1, ?_⟩, EV, by rw [fin]; exact hrun⟩
     exact (store_rep b2 hc (by rw [e1]; exact e4)).evo EV
   | _ => exact (bad_wp hq h).elim
 | rref Ky v sz i d off =>
  simp only [storeVia] at h
  obtain ⟨tv, H', g3, g4, g5, g6⟩ := frz_ro (k := fun v' => Prg.get Ky fun b =>
   match b with
   | some (.rows sz' rs v'' ro) => .chk (v = v'' ∧ sz = sz' ∧ ro = false ∧ i < rs.length ∧ (valCells v').length = (E.ti t).size ∧ cells1 (valCells v') = true ∧ 0 < (E.ti t).size ∧ off + (E.ti t).size ≤ sz)
       (.put Ky (.rows sz' (rs.set i (storeAt (rs.getD i d) off (valCells v'))) v'' ro) (.ret .undef))
   | _ => bad) hs hq h hp'
  have hp := hp.evo g5
  simp only [Prg.wp] at g3
  cases hK : H' Ky with
  | none => rw [hK] at g3; exact (bad_wp hq g3).elim
  | some b =>
   rw [hK] at g3
   cases b with
   | rows sz' rs v' ro =>
    obtain ⟨h1, h2, h3⟩ := g3
    obtain ⟨rfl, rfl, hro, hi, e1, e2, e3, e4⟩ := h1 hq
    cases hp with
    | @rref _ _ _ _ _ _ _ r hl =>
     have hr := ctx_at hl hK rfl
     obtain ⟨arr, T, b1, b2, b3, b4⟩ := g4.blk Ky _ _ hK hr
     have hc := cells_rep g6 e2
     have e5 : y.cells.size = (E.ti t).size := by rw [← e1]; exact hc.1
     have hrow := getD_row (d := d) hi
     have hrl := b3 _ (List.mem_of_getElem? hrow)
     have e7 : i * sz + sz ≤ rs.length * sz := by
      have : (i + 1) * sz ≤ rs.length * sz := Nat.mul_le_mul_right _ hi
      rw [Nat.add_mul] at this; omega
     have e6 : i * sz + off + y.cells.size ≤ arr.size := by omega
     have hrun := run_storeVar (P := P) (w := w) (o := i * sz + off) ((he.ti t).sizeAt e3 w) e5 (hc.one e2) b1 (by omega)
     have hsz := arrAt_size e6
     have EV := Evo.write (b' := .rows sz (rs.set i (storeAt (rs.getD i d) off (valCells tv))) v ro) g4 hK hr hro (.inl rfl) (setRow_size r (arrAt arr (i * sz + off) y.cells)) (fun k hk => setRow_other w r k _ hk) (bsize_setRow b1 hsz)
     have hsg := storeAt_get (cs := rs.getD i d) (off := off) (vs := valCells tv) (by rw [e1, hrl]; exact e4)
     refine ⟨_, μ, _, h3, Sim.write g4 hK hr hro (.inl rfl) (setRow_size r _) (fun k hk => setRow_other w r k _ hk) (bsize_setRow b1 hsz) ⟨rfl, rfl, rfl, Nat.le_refl _⟩
      ⟨_, T, setRow_heap w r arr _ T _ b1, by rw [hsz]; simpa using b2, fun row hr => ?_, fun a row j p x c1 c2 c3 => ?_⟩, g5.trans EV, by rw [fin]; exact hrun⟩
     ·rcases List.mem_or_eq_of_mem_set hr with hr | hr
      ·exact b3 row hr
      ·rw [hr, hsg.1, hrl]
     ·refine Rep.evoN EV ?_
      rw [arrAt_get e6] at c3
      rw [List.getElem?_set] at c1
      by_cases e : i = a
      ·subst e
       rw [if_pos rfl, if_pos hi] at c1
       cases c1
       rw [hsg.2] at c2
       rw [e1] at c2
       rw [e5] at c3
       by_cases hin : off ≤ j ∧ j < off + (E.ti t).size
       ·rw [if_pos hin] at c2
        rw [if_pos (by omega), show i * sz + j - (i * sz + off) = j - off by omega] at c3
        exact hc.2 _ p x c2 c3
       ·rw [if_neg hin] at c2
        rw [if_neg (by omega)] at c3
        exact b4 i _ j p x hrow c2 c3
      ·rw [if_neg e] at c1
       have hj : j < sz := by have := (List.getElem?_eq_some_iff.1 c2).1; have := b3 row (List.mem_of_getElem? c1); omega
       have hne : ¬ (i * sz + off ≤ a * sz + j ∧ a * sz + j < i * sz + off + y.cells.size) := by
        rintro ⟨x1, x2⟩
        rcases Nat.lt_or_gt_of_ne e with z | z
        ·have : (i + 1) * sz ≤ a * sz := Nat.mul_le_mul_right _ z
         rw [Nat.add_mul] at this; omega
        ·have : (a + 1) * sz ≤ i * sz := Nat.mul_le_mul_right _ z
         rw [Nat.add_mul] at this; omega
       rw [if_neg hne] at c3
       exact b4 a row j p x c1 c2 c3
   | _ => exact (bad_wp hq g3).elim
 | _ => exact (bad_wp hq h).elim
end
section
variable {P : Program} {E : Env} {w0 : World} {μ : Map} {H : Heap} {w : World} {q : Prop} {K : PV → Heap → Prop}
structure Src (w : World) (Z : Nat → Prop) (sz : Nat) (rows : List (List PV)) (A : Option Addr) (l : List Value) : Prop where
 len : l.length = rows.length * sz
 row : ∀ r ∈ rows, r.length = sz
 cell : rows ≠ [] → ∃ a, A = some a ∧ ∀ (j : Nat) v, l[j]? = some v → w.cell? (a.add j) = some v
 rep : ∀ (i : Nat) r (j : Nat) p v, rows[i]? = some r → r[j]? = some p → l[i * sz + j]? = some v → Rep w Z Ctx.nil p v
theorem Src.nil {Z : Nat → Prop} {sz : Nat} {A : Option Addr} : Src w Z sz [] A [] :=
 ⟨by simp, fun r h => by simp at h, fun h => absurd rfl h, fun i r j p v a => by simp at a⟩
theorem mul_split {n sz k : Nat} (h0 : 0 < sz) (h : k < n * sz) : ∃ i j, i < n ∧ j < sz ∧ k = i * sz + j :=
 ⟨k / sz, k % sz, Nat.div_lt_of_lt_mul (by rw [Nat.mul_comm]; exact h), Nat.mod_lt _ h0, by rw [Nat.mul_comm]; exact (Nat.div_add_mod k sz).symm⟩
theorem src_of {Z : Nat → Prop} {sz blk off : Nat} {rows : List (List PV)} {A : Option Addr} (h0 : 0 < sz) (hr : ∀ r ∈ rows, r.length = sz) (hA : rows ≠ [] → A = some ⟨blk, off, none⟩)
    (hc : ∀ (i : Nat) r (j : Nat) p, rows[i]? = some r → r[j]? = some p → ∃ v, w.cell? ⟨blk, off + i * sz + j, none⟩ = some v ∧ Rep w Z Ctx.nil p v) :
    ∃ l, Src w Z sz rows A l := by
 refine ⟨(List.range (rows.length * sz)).map fun k => (w.cell? ⟨blk, off + k, none⟩).getD undef, by simp, hr, fun hne => ⟨_, hA hne, fun j v hj => ?_⟩, fun i r j p v a b c => ?_⟩
 ·have hlt : j < rows.length * sz := by have := (List.getElem?_eq_some_iff.1 hj).1; simpa using this
  simp [hlt] at hj
  obtain ⟨i, k, hi, hk, e⟩ := mul_split h0 hlt
  have hrow := List.getElem?_eq_getElem hi
  have hlen := hr _ (List.getElem_mem hi)
  obtain ⟨v', h1, _⟩ := hc i _ k _ hrow (List.getElem?_eq_getElem (by omega))
  rw [add_lit', e, ← Nat.add_assoc, h1]
  rw [e, ← Nat.add_assoc, h1] at hj
  simpa using hj
 ·obtain ⟨v', h1, h2⟩ := hc i r j p a b
  have hj : j < sz := by have := (List.getElem?_eq_some_iff.1 b).1; have := hr r (List.mem_of_getElem? a); omega
  have hi := (List.getElem?_eq_some_iff.1 a).1
  have hlt : i * sz + j < rows.length * sz := by
   have : (i + 1) * sz ≤ rows.length * sz := Nat.mul_le_mul_right _ hi
   rw [Nat.add_mul] at this; omega
  simp only [List.getElem?_map, List.getElem?_range hlt, Option.map_some, Option.some.injEq] at c
  rw [← Nat.add_assoc, h1] at c
  simp at c
  rw [← c]; exact h2
theorem src_sl {Z : Nat → Prop} {C : Ctx} {sz : Nat} {rows : List (List PV)} {ex : Bool} {x : Value} (h0 : 0 < sz) (h : Rep w Z C (.sl rows ex) x) (hr : ∀ r ∈ rows, r.length = sz) :
    ∃ A len cap l, x = .slice A len cap ∧ len = rows.length ∧ len ≤ cap ∧ (ex = true → cap = len) ∧ Src w Z sz rows A l := by
 cases h with
 | @sl _ _ _ A len cap sz' blk off vals h1 h2 h3 h4 h5 h6 h7 =>
  by_cases hne : rows = []
  ·subst hne
   exact ⟨A, len, cap, [], rfl, h1.symm, h2, h3, Src.nil⟩
  ·have : sz' = sz := by
    obtain ⟨r0, rs, rfl⟩ := List.exists_cons_of_ne_nil hne
    rw [← hr r0 (by simp), h5 r0 (by simp)]
   subst this
   obtain ⟨l, hl⟩ := src_of (A := A) h0 hr h4 fun i r j p a b => ⟨_, (h6 i r j p a b).2, h7 i r j p a b⟩
   exact ⟨A, len, cap, l, rfl, h1.symm, h2, h3, hl⟩
theorem src_rows {Z : Nat → Prop} {sz g : Nat} {rows : List (List PV)} {arr : Array Value} {T : TypeId} (h0 : 0 < sz) (b1 : w.heap[g]? = some (.cells arr T (0, 0))) (b2 : rows.length * sz ≤ arr.size) (b3 : ∀ row ∈ rows, row.length = sz)
    (b4 : ∀ i row j p x, rows[i]? = some row → row[j]? = some p → arr[i * sz + j]? = some x → Rep w Z Ctx.nil p x) : ∃ l, Src w Z sz rows (some ⟨g, 0, none⟩) l :=
 src_of h0 b3 (fun _ => rfl) fun i r j p a b => by
  have hj : j < sz := by have := (List.getElem?_eq_some_iff.1 b).1; have := b3 r (List.mem_of_getElem? a); omega
  have hi := (List.getElem?_eq_some_iff.1 a).1
  have hlt : i * sz + j < arr.size := by
   have : (i + 1) * sz ≤ rows.length * sz := Nat.mul_le_mul_right _ hi
   rw [Nat.add_mul] at this; omega
  exact ⟨arr[i * sz + j], by rw [Nat.zero_add, cell_of_row w _ _ arr T _ b1, Array.getElem?_eq_getElem hlt], b4 i r j p _ a b (Array.getElem?_eq_getElem hlt)⟩
theorem Src.one {Z : Nat → Prop} {sz : Nat} {rows : List (List PV)} {A : Option Addr} {l : List Value} (h : Src w Z sz rows A l) (h0 : 0 < sz) (hc : ∀ r ∈ rows, cells1 r = true) : ∀ v ∈ l, v.oneCell' = true := fun v hv => by
 obtain ⟨k, hk⟩ := List.mem_iff_getElem?.1 hv
 have hlt : k < rows.length * sz := by rw [← h.len]; exact (List.getElem?_eq_some_iff.1 hk).1
 obtain ⟨i, j, hi, hj, rfl⟩ := mul_split h0 hlt
 have hrow := List.getElem?_eq_getElem hi
 have hlen := h.row _ (List.getElem_mem hi)
 have hp := List.getElem?_eq_getElem (show j < (rows[i]).length by omega)
 exact (h.rep i _ j _ v hrow hp hk).oneCell (cells1_get (hc _ (List.getElem_mem hi)) hp)
theorem rowsOf_sound (hs : Sim w0 μ H w) (hq : q) {sz : Nat} (h0 : 0 < sz) {p : PV} {x : Value} {k : List (List PV) → Prg PV} (h : (rowsOf sz p k).wp q K H) (hp : RP μ H w p x) :
    ∃ rows A cap l, (k rows).wp q K H ∧ x = .slice A rows.length cap ∧ Src w (Zof μ H w) sz rows A l ∧ ∀ r ∈ rows, cells1 r = true := by
 unfold rowsOf at h
 obtain ⟨m, hm⟩ : ∃ m, 7 = m := ⟨_, rfl⟩
 rw [show (8 : Nat) = 7 + 1 from rfl, hm] at h
 cases p with
 | sl rows ex =>
  obtain ⟨h1, h2⟩ := h
  obtain ⟨A, len, cap, l, e1, e2, e3, e4, e5⟩ := src_sl h0 hp fun r hr => (h1 hq r hr).1
  exact ⟨rows, A, cap, l, h2, by rw [e1, e2], e5, fun r hr => (h1 hq r hr).2⟩
 | sref Ky v sz' n ex =>
  simp only [frz, Prg.wp] at h
  cases hK : H Ky with
  | none => rw [hK] at h; exact (bad_wp hq h).elim
  | some b =>
   rw [hK] at h
   cases b with
   | rows sz2 rs v' ro =>
    obtain ⟨h1, h2, h3⟩ := h
    obtain ⟨rfl, rfl, rfl⟩ := h1 hq
    have h4 := h2 hq
    generalize hn : rs.length = n at hp
    cases hp with
    | @sref0 _ _ _ _ _ A =>
     obtain rfl : rs = [] := List.eq_nil_of_length_eq_zero hn
     exact ⟨[], A, 0, [], h3, rfl, Src.nil, fun r h => by simp at h⟩
    | @sref _ _ _ _ _ _ cap r hl g0 g1 g2 =>
     have hr := ctx_at (hl.imp (fun ⟨m, a, _⟩ => ⟨m, a⟩) id : (ctx μ H w).at Ky v r) hK rfl
     obtain ⟨arr, T, b1, b2, b3, b4⟩ := hs.blk Ky _ _ hK hr
     have hsz : sz' = sz := by
      obtain ⟨r0, rs', rfl⟩ := List.exists_cons_of_ne_nil (show rs ≠ [] by intro e; subst e; simp at hn; omega)
      rw [← b3 r0 (by simp), (h4 r0 (by simp)).1]
     subst hsz
     obtain ⟨l, hsrc⟩ := src_rows h0 b1 b2 b3 b4
     exact ⟨rs, _, cap, l, h3, by rw [hn], hsrc, fun r hr => (h4 r hr).2⟩
   | _ => exact (bad_wp hq h).elim
 | aref Ky v off sz' n =>
  simp only [frz, Prg.wp] at h
  cases hK : H Ky with
  | none => rw [hK] at h; exact (h.1 hq).elim
  | some b =>
   rw [hK] at h
   cases b with
   | cells cs v' ro =>
    obtain ⟨h1, h2'⟩ := h
    obtain ⟨rfl, hsz, hlen⟩ := h1 hq
    cases hfl : flat.flatL cs with
    | false => rw [hfl] at h2'; exact (h2'.1 hq hm.symm).elim
    | true =>
    rw [hfl] at h2'
    obtain ⟨h2, h3⟩ := h2'
    have h4 := h2 hq
    cases hp with
    | @aref _ _ _ _ _ _ cap r hl g1 =>
     have hr := ctx_at hl hK rfl
     obtain ⟨arr, T, b1, b2, b3⟩ := hs.blk Ky _ _ hK hr
     have hd : n * sz' ≤ (cs.drop off).length := by simp; omega
     have hnl := arows_length hsz hd
     have hgs : ∀ (i : Nat) (r : List PV), (arows sz' n (cs.drop off))[i]? = some r → r.length = sz' := fun i r a => (arows_get hsz hd a).2.1
     obtain ⟨l, hsrc⟩ := src_of (w := w) (Z := Zof μ H w) (sz := sz) (blk := r) (off := off) (rows := arows sz' n (cs.drop off)) (A := some ⟨r, off, none⟩) h0 (fun r hr => (h4 r hr).1) (fun _ => rfl) fun i row j p a b => by
      have e : sz' = sz := by rw [← hgs i row a, (h4 row (List.mem_of_getElem? a)).1]
      subst e
      have := ((arows_get hsz hd a).2.2 j p b).2
      rw [List.getElem?_drop, ← Nat.add_assoc] at this
      have hlt : off + i * sz' + j < arr.size := by rw [b2]; exact (List.getElem?_eq_some_iff.1 this).1
      exact ⟨arr[off + i * sz' + j], by rw [cell_of_row w _ _ arr T _ b1, Array.getElem?_eq_getElem hlt], (b3 _ p _ this (Array.getElem?_eq_getElem hlt)).flat (fl_get hfl this)⟩
     exact ⟨_, _, cap, l, h3, by rw [hnl], hsrc, fun r hr => (h4 r hr).2⟩
   | _ => exact (h.1 hq).elim
 | ref Ky v off =>
  simp only [frz, Prg.wp] at h
  cases hK : H Ky with
  | none => rw [hK] at h; exact (bad_wp hq h).elim
  | some b =>
   rw [hK] at h
   cases b with
   | cells cs v' ro =>
    obtain ⟨h1, h2⟩ := h
    obtain rfl := h1 hq
    cases hp with
    | @ref _ _ _ _ r hl =>
     have hr := ctx_at hl hK rfl
     obtain ⟨arr, T, b1, b2⟩ := hs.blk Ky _ _ hK hr
     obtain ⟨ts, ks, g1, g2, g3⟩ := frzL_sound (fun p x k => frz_sound hs hq m p x k) h2 b2.s
     exact (bad_wp hq g1).elim
   | _ => exact (bad_wp hq h).elim
 | mref Ky v =>
  simp only [frz, Prg.wp] at h
  cases hK : H Ky with
  | none => rw [hK] at h; exact (bad_wp hq h).elim
  | some b =>
   rw [hK] at h
   cases b with
   | map ag kl es v' ro => exact (bad_wp hq h.2).elim
   | _ => exact (bad_wp hq h).elim
 | agg cs =>
  cases hp with
  | agg g1 g2 =>
   obtain ⟨ts, ks, f1, f2, f3⟩ := frzL_sound (fun p x k => frz_sound hs hq m p x k) h (RepL.s (⟨g1, g2⟩ : RepL _ _ _ _ _))
   exact (bad_wp hq f1).elim
 | tup cs =>
  cases hp with
  | tup g1 g2 =>
   obtain ⟨ts, ks, f1, f2, f3⟩ := frzL_sound (fun p x k => frz_sound hs hq m p x k) h (RepL.s (⟨g1, g2⟩ : RepL _ _ _ _ _))
   exact (bad_wp hq f1).elim
 | fn f first cap =>
  cases hp with
  | fn h1 h2 h3 h4 =>
   obtain ⟨ts, ks, g1, g2, g3⟩ := frzL_sound (fun p x k => frz_sound hs hq m p x k) h (RepL.s (⟨h1, h3⟩ : RepL _ _ _ _ _))
   obtain ⟨us, ls, g4, g5, g6⟩ := frzL_sound (fun p x k => frz_sound hs hq m p x k) g1 (RepL.s (⟨h2, h4⟩ : RepL _ _ _ _ _))
   exact (bad_wp hq g4).elim
 | _ => exact (bad_wp hq h).elim
theorem Sim.drew (hs : Sim w0 μ H w) : Sim w0 μ H w.drew := hs.grow ⟨⟨rfl, rfl, rfl, Nat.le_refl _, fun _ _ => rfl⟩, Nat.le_succ _⟩
theorem Evo.drew (hs : Sim w0 μ H w) : Evo μ H w μ H w.drew := Evo.grow hs ⟨⟨rfl, rfl, rfl, Nat.le_refl _, fun _ _ => rfl⟩, Nat.le_succ _⟩
theorem Src.append {Z : Nat → Prop} {sz : Nat} {rows xs : List (List PV)} {A A' : Option Addr} {l l' : List Value} (h : Src w Z sz rows A l) (h' : Src w Z sz xs A' l') :
    ∀ (i : Nat) r (j : Nat) p v, (rows ++ xs)[i]? = some r → r[j]? = some p → (l ++ l')[i * sz + j]? = some v → Rep w Z Ctx.nil p v := fun i r j p v a b c => by
 have hj : j < sz := by
  have := (List.getElem?_eq_some_iff.1 b).1
  rcases List.mem_append.1 (List.mem_of_getElem? a) with m | m
  ·have := h.row r m; omega
  ·have := h'.row r m; omega
 by_cases hi : i < rows.length
 ·rw [List.getElem?_append_left hi] at a
  have : i * sz + j < l.length := by
   have : (i + 1) * sz ≤ rows.length * sz := Nat.mul_le_mul_right _ hi
   rw [Nat.add_mul] at this; have := h.len; omega
  rw [List.getElem?_append_left this] at c
  exact h.rep i r j p v a b c
 ·rw [List.getElem?_append_right (by omega)] at a
  have e : i * sz = (i - rows.length) * sz + rows.length * sz := by rw [← Nat.add_mul]; congr 1; omega
  rw [List.getElem?_append_right (by rw [h.len]; omega), h.len, show i * sz + j - rows.length * sz = (i - rows.length) * sz + j by omega] at c
  exact h'.rep _ r j p v a b c
theorem app_grow (hs : Sim w0 μ H w) {Ky : Key} {sz e cap n : Nat} {rows xs : List (List PV)} {A A' : Option Addr} {l l' : List Value} {z : Array Value} (hz : z.size = sz) (h : Src w (Zof μ H w) sz rows A l) (h' : Src w (Zof μ H w) sz xs A' l')
    (hn : n = rows.length + xs.length) (hpos : 0 < n) (hcap : n ≤ cap) (hK : K (.sref Ky (verOf H Ky + 1) sz n false) (H.set Ky (.rows sz (rows ++ xs) (verOf H Ky + 1) false))) :
    RanV w0 μ H w K (.ok (.slice (some ⟨w.heap.size, 0, none⟩) n cap) (w.drew.alloc (.cells (l.toArray ++ l'.toArray ++ Builtin.zeroCells z (cap - n)) e))) := by
 have hl := h.len
 have hl' := h'.len
 have hsize : (l.toArray ++ l'.toArray ++ Builtin.zeroCells z (cap - n)).size = cap * sz := by
  simp only [Array.size_append, List.size_toArray, size_zeroCells, hz, hl, hl', ← Nat.add_mul]
  congr 1; omega
 obtain ⟨pv, H2, μ2, w2, x, r1, r2, r3, r4, r5⟩ := RanV.alloc (K := K) (Ky := Ky) (mk := fun v => .rows sz (rows ++ xs) v false) (k := fun v => .ret (.sref Ky v sz n false)) (q := True) hs.drew ⟨fun _ => rfl, hK⟩ (o := .cells (l.toArray ++ l'.toArray ++ Builtin.zeroCells z (cap - n)) e) (fun _ => rfl) rfl
  (fun w' Z C hZ hw hC hn' => ⟨_, e, hn', by
      rw [hsize, List.length_append]
      exact Nat.mul_le_mul_right _ (by omega), fun row hr => (List.mem_append.1 hr).elim (h.row row) (h'.row row), fun i row j p x a b c => by
      refine Rep.mono hZ hw (Rep.evoN (Evo.drew hs) (h.append h' i row j p x a b ?_)) (Ctx.le_refl _)
      have hj : j < sz := by
        have := (List.getElem?_eq_some_iff.1 b).1
        rcases List.mem_append.1 (List.mem_of_getElem? a) with m | m
        · have := h.row row m; omega
        · have := h'.row row m; omega
      have hi := (List.getElem?_eq_some_iff.1 a).1
      have hlt : i * sz + j < (l ++ l').length := by
        have : (i + 1) * sz ≤ (rows ++ xs).length * sz := Nat.mul_le_mul_right _ hi
        rw [Nat.add_mul, List.length_append, Nat.add_mul] at this
        rw [List.length_append]; omega
      rw [Array.getElem?_append_left (by simpa using hlt)] at c
      simpa using c⟩) rfl (fun C m hl hm => .sref (.inl ⟨m, hl, by rw [hm]; simp only [bsize, heap_alloc_new, hsize, Nat.le_refl]⟩) hpos hcap (fun h => by cases h))
 refine ⟨pv, H2, μ2, w2, x, r1, r2, (Evo.drew hs).trans r3, r4, r5⟩
theorem run_append_zero {t e n cap c size : Nat} {ty : Nat} {A A' : Option Addr} (ht : P.underlying t = some (.slice e)) (hs : (Go.sizeOf e).run P w = .ok size w) (h : n ≤ cap) :
    (Builtin.append_ #[t, t] ty #[.slice A n cap, .slice A' 0 c]).run P w = .ok (.slice A n cap) w := by
 have hf : (Builtin.firstCells size 0 (.slice A' 0 c)).run P w = .ok #[] w := by cases A' <;> simp [Builtin.firstCells, loadCells, loadCellsFrom]
 cases A <;> simp [Builtin.append_, run_underlying ht, hs, Builtin.lenOf, h, hf, storeCells]
theorem app_sound (he : EnvOK P E) (hs : Sim w0 μ H w) (hq : q) {t ty : Nat} {Ky : Key} {p p' : PV} {x y : Value} (h : (app E Ky t p p').wp q K H) (hp : RP μ H w p x) (hp' : RP μ H w p' y) :
    RanV w0 μ H w K ((Builtin.append_ #[t, t] ty #[x, y]).run P w) := by
 unfold app at h
 have hk := (he.ti t).kind
 split at h
 case h_2 => exact (bad_wp hq h).elim
 rename_i e hti
 rw [hti] at hk
 have hk' : P.underlying t = some (.slice e) := hk
 obtain ⟨hsz, h⟩ := h
 have hsz := hsz hq
 obtain ⟨xs, A', c, l', h1, rfl, hsrc', hc'⟩ := rowsOf_sound hs hq hsz h hp'
 obtain ⟨i, z, i1, i2, i3, i4, i5, i6, i7⟩ := (he.ti e).info hsz
 have hss := (he.ti e).sizeAt hsz w
 have grow : ∀ {rows : List (List PV)} {A : Option Addr} {n cap : Nat} {l : List Value} {K2 : Key}, Src w (Zof μ H w) (E.ti e).size rows A l → n = rows.length → n ≤ cap → cap < n + xs.length → 0 < (E.ti e).bytes → (n + xs.length) * (E.ti e).bytes ≤ 35184372088832 →
     (n = 0 → cap = 0) → K (.sref K2 (verOf H K2 + 1) (E.ti e).size (n + xs.length) false) (H.set K2 (.rows (E.ti e).size (rows ++ xs) (verOf H K2 + 1) false)) →
     RanV w0 μ H w K ((Builtin.append_ #[t, t] ty #[.slice A n cap, .slice A' xs.length c]).run P w) := by
  intro rows A n cap l K2 hsrc hn hcap hroom hb hfit h00 hK
  have hxs : xs ≠ [] := by intro e; subst e; simp at hroom; omega
  obtain ⟨a', rfl, hnews⟩ := hsrc'.cell hxs
  have hbig : n + xs.length ≤ 35184372088832 := Nat.le_trans (Nat.le_mul_of_pos_right _ hb) hfit
  have hg := grownCap_ge w (n + xs.length) cap e
  have hfits := growslice_fits (need := n + xs.length) (old := cap) (bytes := (E.ti e).bytes) (by omega) (by omega)
  have fin := app_grow (K := K) (e := e) (z := z.cells) hs i5 hsrc hsrc' (by rw [hn]) (by omega) hg hK
  by_cases hr : rows = []
  ·subst hr
   obtain rfl : n = 0 := by simpa using hn
   obtain rfl := h00 rfl
   have hl0 : l = [] := List.eq_nil_of_length_eq_zero (by rw [hsrc.len]; simp)
   subst hl0
   cases A with
   | none =>
    have hrun := run_append_nil (P := P) w t ty e i z hk' i1 i4 a' xs.length c l' (by rw [hsrc'.len, i2]) hnews (by omega) (by omega) (by rw [i3]; simp at hfit; omega)
    rw [hrun]
    simpa using fin
   | some b =>
    have hrun := run_append_grow (P := P) w t ty e i z hk' i1 i4 b 0 0 [] (by simp) (fun j v h => by simp at h) a' xs.length c l' (by rw [hsrc'.len, i2]) hnews (by omega) (by omega) (by rw [i3]; simpa using hfits)
    rw [hrun]
    simpa using fin
  ·obtain ⟨b, rfl, holds⟩ := hsrc.cell hr
   have hrun := run_append_grow (P := P) w t ty e i z hk' i1 i4 b n cap l (by rw [hsrc.len, i2, hn]) holds a' xs.length c l' (by rw [hsrc'.len, i2]) hnews hroom (by omega) (by rw [i3]; exact hfits)
   rw [hrun]
   exact fin
 split at h1
 ·-- a slice that nobody appends to
  rename_i rows ex
  obtain ⟨g1, g2⟩ := h1
  obtain ⟨rfl, e2, e3, e4, e5, e6⟩ := g1 hq
  obtain ⟨A, len, cap, l, rfl, f2, f3, f4, f5⟩ := src_sl hsz hp e3
  obtain rfl := f4 rfl
  by_cases hx : xs = []
  ·subst hx
   obtain rfl : rows = [] := e2.resolve_left (fun h => h rfl)
   obtain rfl : cap = 0 := by simpa using f2
   refine ⟨_, _, _, w, _, g2.2, Sim.phantom hs Ky (.rows (E.ti e).size ([] ++ []) (verOf H Ky + 1) false) rfl, Evo.phantom hs Ky _ rfl, ?_, run_append_zero hk' hss (Nat.le_refl _)⟩
   exact .sref0
  ·have hpos : 0 < xs.length := List.length_pos_iff.2 hx
   rw [← f2] at g2 e6
   exact grow f5 f2 (Nat.le_refl _) (by omega) e5 e6 (fun h => h) g2.2
 ·rename_i K' v' sz n ex
  simp only [Prg.wp] at h1
  cases hK : H K' with
  | none => rw [hK] at h1; exact (bad_wp hq h1).elim
  | some b =>
   rw [hK] at h1
   cases b with
   | rows sz' rs v ro =>
    obtain ⟨g1, g2⟩ := h1
    obtain ⟨rfl, rfl, rfl, hnl, e4, e5, e6⟩ := g1 hq
    have hver : verOf H K' = v := by simp [verOf, hK, PB.ver]
    have hsrc : ∃ A cap l, x = .slice A n cap ∧ n ≤ cap ∧ (ex = true → cap = n) ∧ (n = 0 → cap = 0) ∧ Src w (Zof μ H w) (E.ti e).size rs A l ∧
        (0 < n → ∃ r arr T, μ K' = some r ∧ A = some ⟨r, 0, none⟩ ∧ w.heap[r]? = some (.cells arr T (0, 0)) ∧ cap * (E.ti e).size ≤ arr.size ∧ (∀ row ∈ rs, row.length = (E.ti e).size) ∧
          ∀ i row j p x, rs[i]? = some row → row[j]? = some p → arr[i * (E.ti e).size + j]? = some x → Rep w (Zof μ H w) Ctx.nil p x) := by
     cases hp with
     | @sref0 _ _ _ _ _ A =>
      obtain rfl : rs = [] := List.eq_nil_of_length_eq_zero hnl.symm
      exact ⟨A, 0, [], rfl, Nat.le_refl _, fun _ => rfl, fun _ => rfl, Src.nil, fun h => by omega⟩
     | @sref _ _ _ _ _ _ cap r hl f0 f1 f2 =>
      obtain ⟨m, hl, f3⟩ := hl.resolve_right fun hst => ctx_stale hst hK rfl
      obtain ⟨b, c1, c2, c3, c4⟩ := ctx_loc hl
      obtain ⟨arr, T, b1, b2, b3, b4⟩ := hs.blk K' _ _ hK c3
      obtain ⟨l, hl'⟩ := src_rows hsz b1 b2 b3 b4
      refine ⟨_, cap, l, rfl, f1, f2, fun h => by omega, hl', fun _ => ⟨r, arr, T, c3, rfl, b1, ?_, b3, b4⟩⟩
      rw [c4] at f3
      simpa [bsize, b1] using f3
    obtain ⟨A, cap, l, rfl, hcap, hex, h00, hsrc, hblk⟩ := hsrc
    cases ex with
    | true =>
     obtain rfl := hex rfl
     by_cases hx : xs = []
     ·subst hx
      cases cap with
      | succ m => exact ⟨_, _, μ, w, _, g2, hs, Evo.refl μ H w, hp, run_append_zero hk' hss (Nat.le_refl _)⟩
      | zero =>
       obtain rfl : rs = [] := List.eq_nil_of_length_eq_zero hnl.symm
       refine ⟨_, _, _, w, _, g2.2, Sim.phantom hs Ky (.rows (E.ti e).size ([] ++ []) (verOf H Ky + 1) false) rfl, Evo.phantom hs Ky _ rfl, ?_, run_append_zero hk' hss (Nat.le_refl _)⟩
       exact .sref0
     ·obtain ⟨x1, xs, rfl⟩ : ∃ a l, xs = a :: l := List.exists_cons_of_ne_nil hx
      exact grow hsrc hnl (Nat.le_refl _) (by simp) e5 e6 h00 g2.2
    | false =>
     obtain ⟨d1, _, d2⟩ := g2
     have hro := d1 hq
     simp only [Prg.wp] at d2
     by_cases hx : xs = []
     ·subst hx
      simp only [List.append_nil, List.length_nil, Nat.add_zero] at d2
      by_cases hn0 : n = 0
      ·subst hn0
       obtain rfl := h00 rfl
       have hv1 : (PB.rows (E.ti e).size rs (v + 1) false).ver = verOf H K' + 1 := by rw [hver]; rfl
       refine ⟨_, _, _, w, _, d2, Sim.phantom hs K' _ hv1, Evo.phantom hs K' _ hv1, .sref0, run_append_zero hk' hss (Nat.le_refl _)⟩
      ·obtain ⟨r, arr, T, c3, rfl, b1, b2, b3, b4⟩ := hblk (by omega)
       have EV := Evo.write (b' := .rows (E.ti e).size rs (v + 1) false) (w' := w) hs hK c3 hro (.inr rfl) rfl (fun _ _ => rfl) rfl
       refine ⟨_, _, μ, w, _, d2, Sim.write hs hK c3 hro (.inr rfl) rfl (fun _ _ => rfl) rfl ⟨rfl, rfl, rfl, Nat.le_refl _⟩ ⟨arr, T, b1, ?_, b3, fun i row j p x a b c => (b4 i row j p x a b c).evoN EV⟩, EV, ?_, run_append_zero hk' hss hcap⟩
       ·exact Nat.le_trans (Nat.mul_le_mul_right _ (by omega)) b2
       ·refine .sref (.inl ⟨bsize w r, ?_, ?_⟩) (by omega) hcap (fun h => by cases h)
        ·have := ctx_loc_of (w := w) (μ := μ) (H := H.set K' (.rows (E.ti e).size rs (v + 1) false)) (K := K') (b := .rows (E.ti e).size rs (v + 1) false) (by simp [set_at]) c3
         exact this
        ·simpa [bsize, b1] using b2
     ·have hpos : 0 < xs.length := List.length_pos_iff.2 hx
      by_cases hroom : n + xs.length ≤ cap
      ·have hn0 : 0 < n := by
        rcases Nat.eq_zero_or_pos n with h | h
        ·have := h00 h; omega
        ·exact h
       obtain ⟨r, arr, T, c3, rfl, b1, b2, b3, b4⟩ := hblk hn0
       obtain ⟨a', rfl, hnews⟩ := hsrc'.cell hx
       have hl' := hsrc'.len
       have hfit : n * (E.ti e).size + l'.length ≤ arr.size := by
        rw [hl', ← Nat.add_mul]
        exact Nat.le_trans (Nat.mul_le_mul_right _ hroom) b2
       have h1' := hsrc'.one hsz hc'
       have hf := run_firstCells_some (P := P) w i.size xs.length a' xs.length c l' (by rw [hl', i2]) hnews
       have hst := run_storeCells_at P r (n * i.size) T l' 0 arr w b1 (by rw [i2]; simpa using hfit) h1'
       have hrun : (Builtin.append_ #[t, t] ty #[.slice (some ⟨r, 0, none⟩) n cap, .slice (some a') xs.length c]).run P w = .ok (.slice (some ⟨r, 0, none⟩) (n + xs.length) cap) (w.setRow r (arrAt arr (n * (E.ti e).size) l'.toArray)) := by
        simp only [Nat.add_zero] at hst
        rw [i2] at hf hst
        simp [Builtin.append_, run_underlying hk', Go.sizeOf, typeInfo, i1, Builtin.lenOf, hroom, hf, add_lit', hst, arrAt, i2]
       have hsize := arrAt_size (arr := arr) (off := n * (E.ti e).size) (vs := l'.toArray) (by simpa using hfit)
       have EV := Evo.write (b' := .rows (E.ti e).size (rs ++ xs) (v + 1) false) hs hK c3 hro (.inr rfl) (setRow_size r (arrAt arr (n * (E.ti e).size) l'.toArray)) (fun k hk => setRow_other w r k _ hk) (bsize_setRow b1 hsize)
       refine ⟨_, _, μ, _, _, d2, Sim.write hs hK c3 hro (.inr rfl) (setRow_size r _) (fun k hk => setRow_other w r k _ hk) (bsize_setRow b1 hsize) ⟨rfl, rfl, rfl, Nat.le_refl _⟩
        ⟨_, T, setRow_heap w r arr _ T _ b1, ?_, fun row hr => (List.mem_append.1 hr).elim (b3 row) (hsrc'.row row), fun a row j p x c1 c2 c4 => ?_⟩, EV, ?_, hrun⟩
       ·rw [hsize, List.length_append, ← hnl]
        exact Nat.le_trans (Nat.mul_le_mul_right _ hroom) b2
       ·refine Rep.evoN EV ?_
        have hj : j < (E.ti e).size := by
         have := (List.getElem?_eq_some_iff.1 c2).1
         rcases List.mem_append.1 (List.mem_of_getElem? c1) with m | m
         ·have := b3 row m; omega
         ·have := hsrc'.row row m; omega
        rw [arrAt_get (by simpa using hfit)] at c4
        by_cases ha : a < rs.length
        ·rw [List.getElem?_append_left ha] at c1
         have : (a + 1) * (E.ti e).size ≤ n * (E.ti e).size := Nat.mul_le_mul_right _ (by omega)
         rw [Nat.add_mul] at this
         rw [if_neg (by omega)] at c4
         exact b4 a row j p x c1 c2 c4
        ·rw [List.getElem?_append_right (by omega)] at c1
         have hlt := (List.getElem?_eq_some_iff.1 c1).1
         have ea : a * (E.ti e).size = (a - rs.length) * (E.ti e).size + n * (E.ti e).size := by rw [← Nat.add_mul]; congr 1; omega
         have : (a - rs.length + 1) * (E.ti e).size ≤ xs.length * (E.ti e).size := Nat.mul_le_mul_right _ hlt
         rw [Nat.add_mul] at this
         rw [if_pos (by simp; omega), show a * (E.ti e).size + j - n * (E.ti e).size = (a - rs.length) * (E.ti e).size + j by omega] at c4
         exact hsrc'.rep _ row j p x c1 c2 (by simpa using c4)
       ·refine .sref (.inl ⟨bsize w r, ?_, ?_⟩) (by omega) hroom (fun h => by cases h)
        ·have := ctx_loc_of (w := w.setRow r (arrAt arr (n * (E.ti e).size) l'.toArray)) (μ := μ) (H := H.set K' (.rows (E.ti e).size (rs ++ xs) (v + 1) false)) (K := K') (b := .rows (E.ti e).size (rs ++ xs) (v + 1) false) (by simp [set_at]) c3
         rw [bsize_setRow b1 hsize] at this
         exact this
        ·simpa [bsize, b1] using b2
      ·have := grow (K2 := K') hsrc hnl hcap (by omega) e5 e6 h00 (by rw [hver]; exact d2)
       exact this
   | _ => exact (bad_wp hq h1).elim
 ·exact (bad_wp hq h1).elim
end
section
variable {P : Program} {E : Env} {w0 : World} {μ : Map} {H : Heap} {w : World} {q : Prop} {K : PV → Heap → Prop}
theorem ints_rep {Z : Nat → Prop} {C : Ctx} : ∀ {cs : List PV} {l : List Int} {xs : List Value}, ints cs = some l → RepS w Z C cs xs → xs = l.map fun n => Value.int .i64 n
 | [], l, [], h, _ => by simp [ints] at h; subst h; rfl
 | .int .i64 n :: cs, l, x :: xs, h, hr => by
  simp only [ints, Option.map_eq_some_iff] at h
  obtain ⟨l', h1, rfl⟩ := h
  have h2 := hr.1
  cases h2
  rw [ints_rep h1 hr.2]
  rfl
theorem key_rep {Z : Nat → Prop} {C : Ctx} {ag : Bool} {p : PV} {x : Value} {l : List Int} (h : keyOf ag p = some l) (hp : Rep w Z C p x) : KeyIs ag l x := by
 unfold keyOf at h
 split at h
 ·cases h; cases hp; exact ⟨_, rfl, rfl⟩
 ·rename_i cs
  cases hp with
  | agg h1 h2 =>
   have := ints_rep h (RepL.s (⟨h1, h2⟩ : RepL _ _ _ _ _))
   show _ = _
   rw [← this]
 ·cases h
theorem KeyIs.uniq {ag : Bool} {l : List Int} {x y : Value} (h : KeyIs ag l x) (k : KeyIs ag l y) : x = y := by
 cases ag with
 | false => obtain ⟨n, rfl, rfl⟩ := h; obtain ⟨m, e, rfl⟩ := k; cases e; rfl
 | true => rw [show x = _ from h, show y = _ from k]
theorem KeyIs.bits {ag : Bool} {l : List Int} {x : Value} (h : KeyIs ag l x) : Instr.sameBits 10000 x x = true := by
 cases ag with
 | false => obtain ⟨n, rfl, rfl⟩ := h; simp [Instr.sameBits]
 | true =>
  rw [show x = _ from h]
  show Instr.sameBits (9999 + 1) _ _ = true
  simp only [Instr.sameBits, beq_self_eq_true, Bool.true_and, List.all_eq_true]
  intro y hy
  have : y.1 = y.2 ∧ ∃ n, y.1 = Value.int .i64 n := by
   obtain ⟨i, hi⟩ := List.mem_iff_getElem?.1 hy
   rw [List.getElem?_zip_eq_some] at hi
   obtain ⟨h1, h2⟩ := hi
   have h12 := Option.some.inj (h1.symm.trans h2)
   simp only [List.getElem?_map, Option.map_eq_some_iff] at h1
   obtain ⟨n, _, hn⟩ := h1
   exact ⟨h12, n, hn.symm⟩
  obtain ⟨h1, n, h2⟩ := this
  rw [← h1, h2]
  simp [Instr.sameBits]
def fm : List (List Int × PV) → List MapEntry → List Int → Nat → Option (Nat × Value)
 | e :: es, m :: ms, k, i => if e.1 = k then some (i, m.val) else fm es ms k (i + 1)
 | _, _, _, _ => none
theorem fm_spec : ∀ {es : List (List Int × PV)} {ms : List MapEntry} {k : List Int} {i : Nat}, ms.length = es.length → ∀ (x : PV),
    (∃ j e y, fm es ms k i = some (i + j, y.val) ∧ es[j]? = some e ∧ ms[j]? = some y ∧ e.1 = k ∧ mget es k = some e.2 ∧ mset es k x = es.set j (k, x)) ∨
    (fm es ms k i = none ∧ mget es k = none ∧ mset es k x = es ++ [(k, x)])
 | [], [], k, i, _, x => .inr ⟨rfl, rfl, rfl⟩
 | e :: es, m :: ms, k, i, h, x => by
  simp only [fm, mget, mset]
  by_cases he : e.1 = k
  ·exact .inl ⟨0, e, m, by simp [he], by simp, by simp, he, by simp [he], by simp [he]⟩
  ·simp only [he, if_false]
   rcases fm_spec (es := es) (ms := ms) (k := k) (i := i + 1) (by simpa using h) x with ⟨j, e', y, h1, h2, h3, h4, h5, h6⟩ | ⟨h1, h2, h3⟩
   ·exact .inl ⟨j + 1, e', y, by rw [h1]; congr 2; omega, by simpa using h2, by simpa using h3, h4, h5, by rw [h6]; rfl⟩
   ·exact .inr ⟨h1, h2, by rw [h3]; rfl⟩
theorem findAsking_sound {kt n : Nat} {ag : Bool} (hk : KeyOK P kt n ag) {x : Value} {k : List Int} (hx : KeyIs ag k x) (hn : k.length = n) : ∀ (es : List (List Int × PV)) (ms : List MapEntry) (i : Nat),
    ms.length = es.length → (∀ e ∈ es, e.1.length = n) → (∀ (j : Nat) e m, es[j]? = some e → ms[j]? = some m → KeyIs ag e.1 m.key) → (Instr.findAsking kt x ms i).run P w = .ok (fm es ms k i) w
 | [], [], i, _, _, _ => by simp [Instr.findAsking, fm]
 | e :: es, m :: ms, i, hl, hlen, hkeys => by
  have eq := (hk w k e.1 x m.key hn hx (hkeys 0 e m rfl rfl) (hlen e (by simp))).1
  have ih := findAsking_sound hk hx hn es ms (i + 1) (by simpa using hl) (fun e he => hlen e (by simp [he])) (fun j e m a b => hkeys (j + 1) e m (by simpa using a) (by simpa using b))
  simp only [Instr.findAsking, Sem.run_bind, eq, Result.andThen_ok, fm]
  by_cases he : e.1 = k
  ·subst he; simp
  ·have : (k == e.1) = false := by simp; exact fun h => he h.symm
   simp only [this, he, if_false, Bool.false_eq_true]
   exact ih
theorem findNow_sound {d : TypeDesc} {ag : Bool} {x : Value} {k : List Int} (hx : KeyIs ag k x) : ∀ (es : List (List Int × PV)) (ms : List MapEntry) (i : Nat), ms.length = es.length →
    (∀ (j : Nat) e m, es[j]? = some e → ms[j]? = some m → KeyIs ag e.1 m.key) → Instr.findNow d x ms i = some (fm es ms k i) ∨ Instr.findNow d x ms i = none
 | [], [], i, _, _ => .inl rfl
 | e :: es, m :: ms, i, hl, hkeys => by
  have h0 := hkeys 0 e m rfl rfl
  have ih := findNow_sound (d := d) hx es ms (i + 1) (by simpa using hl) (fun j e m a b => hkeys (j + 1) e m (by simpa using a) (by simpa using b))
  have hsame : Instr.sameNow d x m.key = some (k == e.1) ∨ Instr.sameNow d x m.key = none := by
   cases ag with
   | false =>
    obtain ⟨a, rfl, rfl⟩ := hx
    obtain ⟨b, e1, e2⟩ := h0
    rw [e2]
    cases d <;> first | exact .inr rfl | skip
    left
    simp [Instr.sameNow, e1]
   | true =>
    rw [show x = _ from hx, show m.key = _ from h0]
    right
    cases d <;> rfl
  rcases hsame with h | h
  ·simp only [Instr.findNow, h, fm]
   by_cases he : e.1 = k
   ·subst he; simp
   ·have : (k == e.1) = false := by simp; exact fun h => he h.symm
    simp only [this, he, if_false]
    exact ih
  ·right; simp only [Instr.findNow, h]
theorem findKey_sound {kt n : Nat} {ag : Bool} {d : TypeDesc} (hd : P.underlying kt = some d) (hk : KeyOK P kt n ag) {x : Value} {k : List Int} (hx : KeyIs ag k x) (hn : k.length = n) {es : List (List Int × PV)} {ms : List MapEntry}
    (hl : ms.length = es.length) (hlen : ∀ e ∈ es, e.1.length = n) (hkeys : ∀ (j : Nat) e m, es[j]? = some e → ms[j]? = some m → KeyIs ag e.1 m.key) : (Instr.findKey kt x ms).run P w = .ok (fm es ms k 0) w := by
 unfold Instr.findKey
 rw [Sem.run_bind, run_underlying hd w, Result.andThen_ok]
 rcases findNow_sound (d := d) hx es ms 0 hl hkeys with h | h
 ·rw [h]; rfl
 ·rw [h]; exact findAsking_sound hk hx hn es ms 0 hl hlen hkeys
theorem Rep.two {Z : Nat → Prop} {C : Ctx} {p p' : PV} {x x' : Value} (h : Rep w Z C p x) (h' : Rep w Z C p' x') : Rep w Z C (.tup [p, p']) (.tuple #[x, x']) :=
 .tup (by simp) fun j p x b c => by
  rcases j with _ | _ | j <;> simp at b c
  ·subst b; subst c; exact h
  ·subst b; subst c; exact h'
def lookT (kt e : Nat) (y : Value) (ok : Bool) (arr : Array MapEntry) : Sem Value := do
 Instr.checkKey arr.isEmpty 10000 kt y
 let (v, ok') ← match ← Instr.findKey kt y arr.toList with
  | some (_, v) => pure (v, true)
  | none => pure (← Go.zeroValue e, false)
 pure (if ok then .tuple #[v, .bool ok'] else v)
theorem run_lookup_nil {t kt e : Nat} (hu : P.underlying t = some (.map kt e)) (y : Value) (ok : Bool) : (Instr.lookup t (.map none) y ok).run P w = (lookT kt e y ok #[]).run P w := by
 unfold Instr.lookup lookT
 rw [Sem.run_bind, run_underlying hu w, Result.andThen_ok]
 simp only [Sem.run_bind, Sem.run_pure, Result.andThen_ok]
 rfl
theorem run_lookup_at {t kt e r : Nat} {arr : Array MapEntry} {c : Nat} (hu : P.underlying t = some (.map kt e)) (hr : w.heap[r]? = some (.map arr c)) (y : Value) (ok : Bool) : (Instr.lookup t (.map (some r)) y ok).run P w = (lookT kt e y ok arr).run P w := by
 unfold Instr.lookup lookT
 have hg : (getObj r).run P w = .ok (.map arr c) w := by simp [getObj, Sem.run, hr]
 rw [Sem.run_bind, run_underlying hu w, Result.andThen_ok]
 simp only [Sem.run_bind, hg, Sem.run_pure, Result.andThen_ok]
 rfl
theorem look_sound (he : EnvOK P E) (hs : Sim w0 μ H w) (hq : q) {t : Nat} {m k : PV} {x y : Value} {ok : Bool} (h : (look E t m k ok).wp q K H) (hm : RP μ H w m x) (hk : RP μ H w k y) :
    RanV w0 μ H w K ((Instr.lookup t x y ok).run P w) := by
 unfold look at h
 have hti := (he.ti t).kind
 split at h
 ·rename_i kt e hkd
  rw [hkd] at hti
  have hu : P.underlying t = some (.map kt e) := hti
  split at h
  ·rename_i key hkey
   obtain ⟨h1, h2⟩ := h
   obtain ⟨e1, e2, e3, e4⟩ := h1 hq
   have hy := key_rep hkey hk
   have hko := he.keyt kt e1
   have hck : ∀ b, (Instr.checkKey b 10000 kt y).run P w = .ok () w := (hko w key key y y e2 hy hy e2).2
   obtain ⟨z, z1, z2, z3, z4⟩ := (he.ti e).rep_zero e3
   obtain ⟨d, hd, _⟩ := (he.ti kt).agg e4
   have fin : ∀ (es : List (List Int × PV)) (arr : Array MapEntry), arr.size = es.length → (∀ e ∈ es, e.1.length = (E.ti kt).size) → (∀ (j : Nat) e m, es[j]? = some e → arr[j]? = some m → KeyIs (E.ti kt).kind.isAgg e.1 m.key) →
       (∀ (j : Nat) e m, es[j]? = some e → arr[j]? = some m → Rep w (Zof μ H w) Ctx.nil e.2 m.val) → K (found (E.ti e) ok (mget es key)) H →
       (∀ r : Result Value, r = (lookT kt e y ok arr).run P w → RanV w0 μ H w K r) := by
    intro es arr a1 a2 a3 a4 hK r hr
    have hf := findKey_sound (w := w) hd hko hy e2 (es := es) (ms := arr.toList) (by simpa using a1) a2 (fun j e m b c => a3 j e m b (by simpa using c))
    simp only [lookT, Sem.run_bind, hck, Result.andThen_ok, hf] at hr
    rcases fm_spec (es := es) (ms := arr.toList) (k := key) (i := 0) (by simpa using a1) .undef with ⟨j, e', m', f1, f2, f3, f4, f5, f6⟩ | ⟨f1, f2, f3⟩
    ·rw [f1] at hr
     have hrep := (a4 j e' m' f2 (by simpa using f3)).of_nil (C := ctx μ H w)
     rw [f5] at hK
     cases ok with
     | true => exact .same hs hK (Rep.two hrep .bool) (by simpa using hr)
     | false => exact .same hs hK hrep (by simpa using hr)
    ·rw [f1] at hr
     simp only [Sem.run_bind, z1, Result.andThen_ok] at hr
     rw [f2] at hK
     have hrep := z4 w (Zof μ H w) (ctx μ H w)
     cases ok with
     | true => exact .same hs hK (Rep.two hrep .bool) (by simpa using hr)
     | false => exact .same hs hK hrep (by simpa using hr)
   split at h2
   ·cases hm with
    | nilmap =>
     exact fin [] #[] rfl (fun e h => by simp at h) (fun j e m a => by simp at a) (fun j e m a => by simp at a) h2 _ (run_lookup_nil hu y ok)
   ·rename_i ag kl es
    obtain ⟨g1, g2⟩ := h2
    obtain ⟨rfl, rfl⟩ := g1 hq
    cases hm with
    | mp arr clock hZ b1 b2 b0 b3 b4 =>
     exact fin es arr b2 b0 b3.1 b4 g2 _ (run_lookup_at hu b1 y ok)
   ·rename_i Ky v
    simp only [Prg.wp] at h2
    cases hK : H Ky with
    | none => rw [hK] at h2; exact (bad_wp hq h2).elim
    | some b =>
     rw [hK] at h2
     cases b with
     | map ag kl es v' ro =>
      obtain ⟨g1, g2⟩ := h2
      obtain ⟨rfl, rfl, rfl⟩ := g1 hq
      cases hm with
      | mref hl =>
       have e3 := ctx_at hl hK rfl
       obtain ⟨arr, c, b1, b2, b0, b3, b4⟩ := hs.blk Ky _ _ hK e3
       exact fin es arr b2 b0 b3.1 b4 g2 _ (run_lookup_at hu b1 y ok)
     | _ => exact (bad_wp hq h2).elim
   ·exact (bad_wp hq h2).elim
  ·exact (bad_wp hq h).elim
 ·exact (bad_wp hq h).elim
theorem Born.modify {arr : Array MapEntry} {c : Nat} (h : Born arr c) (j : Nat) {y z : Value} : Born (arr.modify j fun e => { e with key := y, val := z }) c := by
 have e : (arr.modify j fun e => { e with key := y, val := z }).toList.map (·.born) = arr.toList.map (·.born) := by
  apply List.ext_getElem?
  intro i
  simp only [List.getElem?_map, Array.getElem?_toList, Array.getElem?_modify]
  split
  ·rename_i hij
   subst hij
   cases arr[j]? <;> rfl
  ·rfl
 refine ⟨by rw [e]; exact h.1, fun x hx => ?_⟩
 have hb : x.born ∈ arr.toList.map (·.born) := by rw [← e]; exact List.mem_map_of_mem hx
 obtain ⟨x', hx', he⟩ := List.mem_map.1 hb
 rw [← he]; exact h.2 x' hx'
theorem Born.push {arr : Array MapEntry} {c : Nat} (h : Born arr c) {x : MapEntry} (hx : x.born = c) : Born (arr.push x) (c + 1) := by
 refine ⟨?_, fun e he => ?_⟩
 ·rw [Array.toList_push, List.map_append, List.nodup_append]
  refine ⟨h.1, by simp, fun a ha b hb => ?_⟩
  obtain ⟨e, he, rfl⟩ := List.mem_map.1 ha
  simp only [List.map_cons, List.map_nil, List.mem_singleton] at hb
  have := h.2 e he
  omega
 ·rw [Array.toList_push] at he
  rcases List.mem_append.1 he with he | he
  ·have := h.2 e he; omega
  ·rw [List.mem_singleton.1 he]; omega
theorem mapPut_sound (he : EnvOK P E) (hs : Sim w0 μ H w) (hq : q) {t : Nat} {m k p : PV} {x y z : Value} (h : (mapPut E t m k p).wp q K H) (hm : RP μ H w m x) (hk : RP μ H w k y) (hp : RP μ H w p z) :
    RanU w0 μ H w K ((Instr.mapUpdate t x y z).run P w) := by
 unfold mapPut at h
 have hti := (he.ti t).kind
 split at h
 ·rename_i kt e hkd
  rw [hkd] at hti
  have hu : P.underlying t = some (.map kt e) := hti
  split at h
  ·rename_i key Ky v hkey
   obtain ⟨tv, H', g3, g4, g5, g6⟩ := frz_ro (k := fun x => Prg.get Ky fun b =>
    match b with
    | some (.map ag kl es v' ro) => .chk (v = v' ∧ ro = false ∧ ag = (E.ti kt).kind.isAgg ∧ kl = (E.ti kt).size ∧ E.keyt kt = true ∧ key.length = (E.ti kt).size ∧ 0 < (E.ti kt).size) (.put Ky (.map ag kl (mset es key x) v' ro) (.ret .undef))
    | _ => bad) hs hq h hp
   have hy := key_rep hkey hk
   have hm := hm.evo g5
   simp only [Prg.wp] at g3
   cases hK : H' Ky with
   | none => rw [hK] at g3; exact (bad_wp hq g3).elim
   | some b =>
    rw [hK] at g3
    cases b with
    | map ag kl es v' ro =>
     obtain ⟨h1, _, h3⟩ := g3
     obtain ⟨rfl, hro, rfl, rfl, e1, e2, e4⟩ := h1 hq
     have hko := he.keyt kt e1
     have hck : ∀ b, (Instr.checkKey b 10000 kt y).run P w = .ok () w := (hko w key key y y e2 hy hy e2).2
     obtain ⟨d, hd, _⟩ := (he.ti kt).agg e4
     cases hm with
     | @mref _ _ _ r hl =>
      have e3 := ctx_at hl hK rfl
      obtain ⟨arr, c, b1, b2, b0, b3, b4⟩ := g4.blk Ky _ _ hK e3
      have hf := findKey_sound (w := w) hd hko hy e2 (es := es) (ms := arr.toList) (by simpa using b2) b0 (fun j e m b c => b3.1 j e m b (by simpa using c))
      have fin : ∀ (arr' : Array MapEntry) (c' : Nat), arr'.size = (mset es key tv).length → (∀ e ∈ mset es key tv, e.1.length = (E.ti kt).size) → (∀ (j : Nat) e m, (mset es key tv)[j]? = some e → arr'[j]? = some m → KeyIs (E.ti kt).kind.isAgg e.1 m.key) →
          (∀ (j : Nat) e m, (mset es key tv)[j]? = some e → arr'[j]? = some m → Rep w (Zof μ H' w) Ctx.nil e.2 m.val) → Born arr' c' →
          (Instr.mapUpdate t (.map (some r)) y z).run P w = .ok () { w with heap := w.heap.setIfInBounds r (.map arr' c') } → RanU w0 μ H w K ((Instr.mapUpdate t (.map (some r)) y z).run P w) := by
       intro arr' c' a1 a2 a3 a4 a5 hr
       have hlt := (g4.own Ky r e3).2
       have hoth : ∀ k, k ≠ r → ({ w with heap := w.heap.setIfInBounds r (.map arr' c') } : World).heap[k]? = w.heap[k]? := fun k hk => by simp [Array.getElem?_setIfInBounds_ne (Ne.symm hk)]
       have hnew : ({ w with heap := w.heap.setIfInBounds r (.map arr' c') } : World).heap[r]? = some (.map arr' c') := by simp [Array.getElem?_setIfInBounds_self, hlt]
       have hbs : bsize ({ w with heap := w.heap.setIfInBounds r (.map arr' c') } : World) r = bsize w r := by simp only [bsize, hnew, b1]
       have EV := Evo.write (b' := .map (E.ti kt).kind.isAgg (E.ti kt).size (mset es key tv) v ro) (w' := { w with heap := w.heap.setIfInBounds r (.map arr' c') }) g4 hK e3 hro (.inl rfl) (by simp) hoth hbs
       exact ⟨_, μ, _, h3, Sim.write g4 hK e3 hro (.inl rfl) (by simp) hoth hbs ⟨rfl, rfl, rfl, Nat.le_refl _⟩ ⟨arr', c', hnew, a1, a2, ⟨a3, a5⟩, fun j e m a b => (a4 j e m a b).evoN EV⟩, g5.trans EV, hr⟩
      rcases fm_spec (es := es) (ms := arr.toList) (k := key) (i := 0) (by simpa using b2) tv with ⟨j, e', m', f1, f2, f3, f4, f5, f6⟩ | ⟨f1, f2, f3⟩
      ·have f3' : arr[j]? = some m' := by simpa using f3
       have hj := (List.getElem?_eq_some_iff.1 f2).1
       have hky : m'.key = y := (b3.1 j e' m' f2 f3').uniq (f4 ▸ hy)
       refine fin (arr.modify j fun e => { e with key := y, val := z }) c (by rw [f6]; simpa using b2) (fun e he => ?_) (fun i e m a b => ?_) (fun i e m a b => ?_) (b3.2.modify j) ?_
       ·rw [f6] at he
        rcases List.mem_or_eq_of_mem_set he with he | he
        ·exact b0 e he
        ·rw [he]; exact e2
       ·rw [f6, List.getElem?_set] at a
        rw [Array.getElem?_modify] at b
        by_cases hij : j = i
        ·subst hij
         rw [if_pos rfl, if_pos hj] at a
         rw [if_pos rfl, f3'] at b
         cases a
         simp at b
         rw [← b]; exact hy
        ·rw [if_neg hij] at a b
         exact b3.1 i e m a b
       ·rw [f6, List.getElem?_set] at a
        rw [Array.getElem?_modify] at b
        by_cases hij : j = i
        ·subst hij
         rw [if_pos rfl, if_pos hj] at a
         rw [if_pos rfl, f3'] at b
         cases a
         simp at b
         rw [← b]; exact g6
        ·rw [if_neg hij] at a b
         exact b4 i e m a b
       ·have hks : (Instr.keyThatStays y y).run P w = .ok y w := by simp [Instr.keyThatStays, hy.bits]
        simp [Instr.mapUpdate, run_underlying hu, getObj, setObj, Sem.run, b1, hck, hf, f1, f3', hky, hks]
      ·refine fin (arr.push { key := y, val := z, born := c }) (c + 1) (by rw [f3]; simp [b2]) (fun e he => ?_) (fun i e m a b => ?_) (fun i e m a b => ?_) (b3.2.push rfl) ?_
       ·rw [f3] at he
        rcases List.mem_append.1 he with he | he
        ·exact b0 e he
        ·simp at he; rw [he]; exact e2
       ·rw [f3] at a
        rw [Array.getElem?_push] at b
        by_cases hij : i = arr.size
        ·rw [if_pos hij] at b
         rw [List.getElem?_append_right (by omega), show i - es.length = 0 by omega] at a
         simp at a b
         rw [← a, ← b]; exact hy
        ·rw [if_neg hij] at b
         have := (Array.getElem?_eq_some_iff.1 b).1
         rw [List.getElem?_append_left (by omega)] at a
         exact b3.1 i e m a b
       ·rw [f3] at a
        rw [Array.getElem?_push] at b
        by_cases hij : i = arr.size
        ·rw [if_pos hij] at b
         rw [List.getElem?_append_right (by omega), show i - es.length = 0 by omega] at a
         simp at a b
         rw [← a, ← b]; exact g6
        ·rw [if_neg hij] at b
         have := (Array.getElem?_eq_some_iff.1 b).1
         rw [List.getElem?_append_left (by omega)] at a
         exact b4 i e m a b
       ·simp [Instr.mapUpdate, run_underlying hu, getObj, setObj, Sem.run, b1, hck, hf, f1]
    | _ => exact (bad_wp hq g3).elim
  ·exact (bad_wp hq h).elim
 ·exact (bad_wp hq h).elim
end
section
variable {P : Program} {E : Env} {w0 : World} {μ : Map} {H : Heap} {w : World} {q : Prop} {K : PV → Heap → Prop}
def RanN (w0 : World) (μ : Map) (H : Heap) (w : World) (K : PV → Heap → Prop) (r : Result Next) : Prop :=
 ∃ pv H' μ' w' x, K pv H' ∧ Sim w0 μ' H' w' ∧ Evo μ H w μ' H' w' ∧ RP μ' H' w' pv x ∧ (r = .ok (.value x) w' ∨ (r = .ok .skip w' ∧ x = Go.undef))
theorem RanV.n {s : Sem Value} (h : RanV w0 μ H w K (s.run P w)) : RanN w0 μ H w K ((do pure (.value (← s)) : Sem Next).run P w) := by
 obtain ⟨pv, H', μ', w', x, h1, h2, h3, h4, h5⟩ := h
 exact ⟨pv, H', μ', w', x, h1, h2, h3, h4, .inl (by rw [Sem.run_bind, h5]; rfl)⟩
theorem RanU.n {s : Sem Unit} (h : RanU w0 μ H w K (s.run P w)) : RanN w0 μ H w K ((do s; pure .skip : Sem Next).run P w) := by
 obtain ⟨H', μ', w', h1, h2, h3, h5⟩ := h
 exact ⟨.undef, H', μ', w', Go.undef, h1, h2, h3, .undef, .inr ⟨by rw [Sem.run_bind, h5]; rfl, rfl⟩⟩
theorem RanV.ret (hs : Sim w0 μ H w) {pv : PV} {x : Value} (hK : K pv H) (hx : RP μ H w pv x) : RanN w0 μ H w K ((pure (.value x) : Sem Next).run P w) :=
 ⟨pv, H, μ, w, x, hK, hs, Evo.refl _ _ _, hx, .inl rfl⟩
theorem extract_sound (hs : Sim w0 μ H w) (hq : q) {p : PV} {x : Value} {i : Nat}
    (h : (match p with | .tup vs => Prg.chk (i < vs.length) (.ret (vs.getD i .undef)) | _ => bad).wp q K H) (hp : RP μ H w p x) : RanV w0 μ H w K ((Instr.extract x i).run P w) := by
 split at h
 ·rename_i vs
  cases hp with
  | @tup _ _ arr h1 h7 =>
   obtain ⟨h2, h3⟩ := h
   have hi := h2 hq
   have hi' : i < arr.size := by omega
   refine .same hs h3 (h7 i _ (arr[i]) (by simp [List.getD_eq_getElem?_getD, List.getElem?_eq_getElem hi]) (by simp [hi'])) ?_
   simp [Instr.extract, hi']
 ·exact (bad_wp hq h).elim
theorem EntL.of {Z : Nat → Prop} {ag : Bool} : ∀ {es : List (List Int × PV)} {xs : List MapEntry}, xs.length = es.length → (∀ (i : Nat) e x, es[i]? = some e → xs[i]? = some x → Ent w Z ag e x) → EntL w Z ag es xs
 | [], [], _, _ => trivial
 | e :: es, x :: xs, hl, h => ⟨h 0 e x rfl rfl, EntL.of (by simpa using hl) fun i e' x' a b => h (i + 1) e' x' (by simpa using a) (by simpa using b)⟩
 | [], _ :: _, hl, _ => by simp at hl
 | _ :: _, [], hl, _ => by simp at hl
theorem leftOf_none (arr : Array MapEntry) : (leftOf arr #[]).toList = arr.toList := by
 simp [leftOf]
theorem rangeV_sound (he : EnvOK P E) (hs : Sim w0 μ H w) (hq : q) {t : Nat} {Ky : Key} {p : PV} {x : Value} (h : (rangeV E Ky t p).wp q K H) (hp : RP μ H w p x) :
    RanV w0 μ H w K ((Instr.range t x).run P w) := by
 unfold rangeV at h
 have hti := (he.ti t).kind
 split at h
 ·rename_i kt e ag kl es hkd
  rw [hkd] at hti
  have hu : P.underlying t = some (.map kt e) := hti
  cases hp with
  | @mp _ _ _ _ r arr clock hZ b1 b2 b0 b3 b4 =>
   refine .alloc hs h (o := .mapIter (some r) clock #[] clock) (fun _ => rfl) ?_ (fun w' Z C hZ' hw hC hn => ⟨r, arr, clock, #[], hn, hZ' _ hZ, (hw _ hZ).trans b1, b3.2, ?_, fun c h => by cases h⟩) rfl (fun C m hl _ => .ref (.inl ⟨m, hl⟩))
   ·simp [Instr.range, run_underlying hu, getObj, newObj, Sem.run, b1]
   ·rw [leftOf_none]
    refine EntL.of (by simpa using b2) fun i e x a b => ?_
    have b' : arr[i]? = some x := by simpa using b
    exact ⟨b3.1 i e x a b', (b4 i e x a b').mono hZ' hw (Ctx.le_refl _)⟩
 ·exact (bad_wp hq h).elim
theorem KeyIs.rep {Z : Nat → Prop} {C : Ctx} {ag : Bool} {l : List Int} {v : Value} (h : KeyIs ag l v) : Rep w Z C (keyPV ag l) v := by
 cases ag with
 | false => obtain ⟨n, rfl, rfl⟩ := h; exact .int
 | true =>
  have h : v = .agg (l.map (fun n => Value.int .i64 n)).toArray := h
  subst h
  refine .agg (by simp) fun j p x a b => ?_
  simp only [List.getElem?_map, Option.map_eq_some_iff] at a
  obtain ⟨n, a, rfl⟩ := a
  simp only [List.getElem?_toArray, List.getElem?_map, a, Option.map_some, Option.some.injEq] at b
  subst b; exact .int
theorem entryV_sound (hs : Sim w0 μ H w) (hq : q) {p : PV} {x : Value} (h : (entryV p).wp q K H) (hp : RP μ H w p x) :
    RanV w0 μ H w K ((Instr.entry x).run P w) := by
 unfold entryV at h
 split at h
 ·rename_i Ky v
  simp only [Prg.wp] at h
  cases hK : H Ky with
  | none => rw [hK] at h; exact (bad_wp hq h).elim
  | some b =>
   rw [hK] at h
   cases b with
   | iter ag left cur v' =>
    cases cur with
    | none => exact (bad_wp hq h).elim
    | some c =>
     obtain ⟨g1, g2⟩ := h
     obtain rfl := g1 hq
     cases hp with
     | ref hl =>
      have e3 := ctx_at hl hK rfl
      obtain ⟨r', arr, clock, seen, c1, c2, c3, c4, c5, c6⟩ := hs.blk Ky _ _ hK e3
      obtain ⟨e, he, s, rfl, hk, hv⟩ := c6 c rfl
      exact .same hs g2 (Rep.two hk.rep hv.of_nil) (run_entry_at w _ r' clock s arr clock e c1 c3 he c4.1)
   | _ => exact (bad_wp hq h).elim
 ·exact (bad_wp hq h).elim
theorem flatten_get {sz : Nat} (h0 : 0 < sz) : ∀ {rows : List (List PV)}, (∀ r ∈ rows, r.length = sz) → rows.flatten.length = rows.length * sz ∧ ∀ (k : Nat) p, rows.flatten[k]? = some p → ∃ r, rows[k / sz]? = some r ∧ r[k % sz]? = some p
 | [], _ => ⟨by simp, fun k p h => by simp at h⟩
 | r :: rows, h => by
  obtain ⟨h1, h2⟩ := flatten_get h0 (rows := rows) fun r hr => h r (List.mem_cons_of_mem _ hr)
  have hr := h r (List.mem_cons_self ..)
  refine ⟨by simp [h1, hr, Nat.add_mul]; omega, fun k p hk => ?_⟩
  rw [List.flatten_cons] at hk
  by_cases hlt : k < sz
  ·rw [List.getElem?_append_left (by omega)] at hk
   exact ⟨r, by rw [Nat.div_eq_of_lt hlt]; rfl, by rw [Nat.mod_eq_of_lt hlt]; exact hk⟩
  ·rw [List.getElem?_append_right (by omega), hr] at hk
   obtain ⟨r', e1, e2⟩ := h2 _ _ hk
   have d1 : k / sz = (k - sz) / sz + 1 := by rw [Nat.div_eq k sz, if_pos ⟨h0, by omega⟩]
   have d2 : k % sz = (k - sz) % sz := by rw [Nat.mod_eq_sub_mod (by omega)]
   exact ⟨r', by rw [d1, List.getElem?_cons_succ]; exact e1, by rw [d2]; exact e2⟩
theorem cpy_sound (he : EnvOK P E) (hs : Sim w0 μ H w) (hq : q) {t t2 ty : Nat} {p p' : PV} {x y : Value} (h : (cpy E t p p').wp q K H) (hp : RP μ H w p x) (hp' : RP μ H w p' y) :
    RanV w0 μ H w K ((Builtin.copy_ #[t, t2] ty #[x, y]).run P w) := by
 unfold cpy at h
 have hk := (he.ti t).kind
 split at h
 case h_2 => exact (bad_wp hq h).elim
 rename_i e hti
 rw [hti] at hk
 have hk' : P.underlying t = some (.slice e) := hk
 obtain ⟨hsz, h⟩ := h
 have hsz := hsz hq
 obtain ⟨xs, A', c, l', h1, rfl, hsrc', hc'⟩ := rowsOf_sound hs hq hsz h hp'
 obtain ⟨i, z, i1, i2, i3, i4, i5, i6, i7⟩ := (he.ti e).info hsz
 split at h1
 case h_2 => exact (bad_wp hq h1).elim
 rename_i K' v off sz n
 simp only [Prg.wp] at h1
 cases hK : H K' with
 | none => rw [hK] at h1; exact (bad_wp hq h1).elim
 | some b =>
  rw [hK] at h1
  cases b with
  | cells cs v' ro =>
   obtain ⟨g1, g2, g3⟩ := h1
   obtain ⟨rfl, hro, rfl, hx, hn, hfit⟩ := g1 hq
   cases hp with
   | @aref _ _ _ _ _ _ cap r hl g4 =>
    have hr := ctx_at hl hK rfl
    obtain ⟨arr, T, b1, b2, b3⟩ := hs.blk K' _ _ hK hr
    obtain ⟨a', rfl, hnews⟩ := hsrc'.cell hx
    have hl' := hsrc'.len
    obtain ⟨f1, f2⟩ := flatten_get hsz hsrc'.row
    have hfa : off + l'.length ≤ arr.size := by rw [hl', b2]; exact hfit
    have hmin : Nat.min xs.length n = xs.length := Nat.min_eq_left hn
    have hf := run_firstCells_some (P := P) w i.size xs.length a' xs.length c l' (by rw [hl', i2]) hnews
    have hst := run_storeCells_at P r off T l' 0 arr w b1 (by simpa using hfa) (hsrc'.one hsz hc')
    simp only [Nat.add_zero] at hst
    have hrun : (Builtin.copy_ #[t, t2] ty #[.slice (some ⟨r, off, none⟩) n cap, .slice (some a') xs.length c]).run P w = .ok (.int .i64 xs.length) (w.setRow r (arrAt arr off l'.toArray)) := by
     simp [Builtin.copy_, run_underlying hk', Builtin.lenOf, Go.sizeOf, typeInfo, i1, hmin, hf, hst, arrAt]; rfl
    have hfa' : off + l'.toArray.size ≤ arr.size := by simpa using hfa
    have hsize := arrAt_size hfa'
    have hsg := storeAt_get (cs := cs) (off := off) (vs := xs.flatten) (by rw [f1]; exact hfit)
    have EV := Evo.write (b' := .cells (storeAt cs off xs.flatten) v ro) hs hK hr hro (.inl rfl) (setRow_size r (arrAt arr off l'.toArray)) (fun k hk => setRow_other w r k _ hk) (bsize_setRow b1 hsize)
    refine ⟨_, _, μ, _, _, g3, Sim.write hs hK hr hro (.inl rfl) (setRow_size r _) (fun k hk => setRow_other w r k _ hk) (bsize_setRow b1 hsize) ⟨rfl, rfl, rfl, Nat.le_refl _⟩
     ⟨_, T, setRow_heap w r arr _ T _ b1, by rw [hsize, hsg.1]; exact b2, fun k p x c1 c2 => ?_⟩, EV, .int, hrun⟩
    rw [hsg.2, f1] at c1
    rw [arrAt_get hfa'] at c2
    have hll : l'.toArray.size = xs.length * (E.ti e).size := by simpa using hl'
    rw [hll] at c2
    by_cases hin : off ≤ k ∧ k < off + xs.length * (E.ti e).size
    ·rw [if_pos hin] at c1 c2
     obtain ⟨row, e1, e2⟩ := f2 _ _ c1
     refine (Rep.evoN EV (hsrc'.rep _ _ _ _ _ e1 e2 ?_)).of_nil
     rw [Nat.div_add_mod']
     simpa using c2
    ·rw [if_neg hin] at c1 c2
     exact (b3 _ _ _ c1 c2).evo EV
  | _ => exact (bad_wp hq h1).elim
theorem builtin_sound (he : EnvOK P E) (hs : Sim w0 μ H w) (hq : q) {Ky : Key} {b : Builtin} {ts : Array Nat} {ty : Nat} {cs : Array Bool} {ps : List PV} {xs : List Value}
    (h : (builtin E Ky b ts.toList ps).wp q K H) (hp : RepS w (Zof μ H w) (ctx μ H w) ps xs) : RanN w0 μ H w K ((Go.builtin b ts ty cs xs.toArray).run P w) := by
 unfold builtin at h
 obtain ⟨vs, h1, h2⟩ := untL_sound hq h hp
 split at h1
 ·rename_i x
  match xs, h2 with
  | [y], h2 =>
   obtain ⟨g1, g2⟩ := h1
   have g1 := g1 hq
   have ht : ts[0]? = some (ts.toList.getD 0 0) := by
    have : 0 < ts.size := by simpa using g1
    simp [List.getD_eq_getElem?_getD, this]
   exact (len_sound he hs hq ht g2 h2.1).n
 ·rename_i s x
  match xs, h2 with
  | [y, z], h2 =>
   obtain ⟨g1, g2⟩ := h1
   obtain ⟨e1, e2⟩ := g1 hq
   have ht : ts = #[ts.toList.getD 0 0, ts.toList.getD 0 0] := by
    obtain ⟨l⟩ := ts
    match l, e1, e2 with
    | [a, b], _, e2 => simp at e2; simp [e2]
   have := (app_sound (ty := ty) he hs hq g2 h2.1 h2.2.1).n
   rw [← ht] at this
   exact this
 ·rename_i d x
  match xs, h2 with
  | [y, z], h2 =>
   obtain ⟨g1, g2⟩ := h1
   have g1 := g1 hq
   have ht : ts = #[ts.toList.getD 0 0, ts.toList.getD 1 0] := by
    obtain ⟨l⟩ := ts
    match l, g1 with
    | [a, b], _ => simp
   have := (cpy_sound (ty := ty) (t2 := ts.toList.getD 1 0) he hs hq g2 h2.1 h2.2.1).n
   rw [← ht] at this
   exact this
 ·exact (maxs_sound hs hq h1 h2).n
 ·exact (mins_sound hs hq h1 h2).n
 ·exact (bad_wp hq h1).elim
theorem lop_sound (he : EnvOK P E) (hgl : GlobOK E.glob w0) (hs : Sim w0 μ H w) (hq : q) {Ky : Key} {τ : List PV} {a : Act} {o : Oper} (ht : RepL w (Zof μ H w) (ctx μ H w) τ a.tmps)
    (h : (lop E Ky τ o.op).wp q K H) : RanN w0 μ H w K ((execOp a.eval o).run P w) := by
 obtain ⟨dst, op, type, pos, after, guard⟩ := o
 have R := fun x => rep_opd ht x
 cases op with
 | move x => obtain ⟨v, h1, h2⟩ := unt_sound h hq (R x); exact RanV.ret hs h1 h2
 | assign x => obtain ⟨v, h1, h2⟩ := unt_sound h hq (R x); exact RanV.ret hs h1 h2
 | pick c x y =>
  have := (pick_sound (P := P) hs hq h (R c) (R x) (R y)).n
  simpa [execOp] using this
 | alloc e => exact (alloc_sound he hs hq h).n
 | range t x =>
  obtain ⟨v, h1, h2⟩ := unt_sound h hq (R x)
  exact (rangeV_sound he hs hq h1 h2).n
 | entry x =>
  obtain ⟨v, h1, h2⟩ := unt_sound h hq (R x)
  exact (entryV_sound hs hq h1 h2).n
 | box e x =>
  obtain ⟨v, h1, h2⟩ := unt_sound h hq (R x)
  exact (box_sound hs hq h1 h2).n
 | build t ps => exact (build_sound he hs hq h ht).n
 | buildSlice t n ps =>
  simp only [lop] at h
  split at h
  ·exact (buildRows_sound he hs hq h ht).n
  ·exact (buildCells_sound he hs hq h ht).n
 | load t x =>
  obtain ⟨v, h1, h2⟩ := unt_sound h hq (R x)
  exact (loadVia_sound he hgl hs hq h1 h2).1.n
 | store t x y =>
  obtain ⟨v, h1, h2⟩ := unt_sound h hq (R x)
  obtain ⟨u, h3, h4⟩ := unt_sound h1 hq (R y)
  exact (storeVia_sound he hs hq h3 h2 h4).n
 | binOp op t x y t' =>
  obtain ⟨v, h1, h2⟩ := unt_sound h hq (R x)
  obtain ⟨u, h3, h4⟩ := unt_sound h1 hq (R y)
  refine (binN_sound he hs hq (fun hc => ?_) h3 h2 h4).n
  cases y with
  | const v =>
   have hc : nilV v = true := hc
   unfold nilV at hc
   split at hc
   ·rfl
   ·cases hc
  | _ => cases hc
 | unOp op t x =>
  obtain ⟨v, h1, h2⟩ := unt_sound h hq (R x)
  exact (un_sound hs hq h1 h2).n
 | makeFunc f first cap =>
  cases f with
  | func f =>
   simp only [lop] at h
   obtain ⟨fs, h1, h2⟩ := untL_sound hq h (rep_opds ht first.toList)
   obtain ⟨cs, h3, h4⟩ := untL_sound hq h1 (rep_opds ht cap.toList)
   refine ⟨.fn f fs cs, H, μ, w, .func (.func f) (first.map a.eval) (cap.map a.eval), h3, hs, Evo.refl _ _ _, .fn ?_ ?_ ?_ ?_, .inl rfl⟩
   ·have := h2.length; simpa using this
   ·have := h4.length; simpa using this
   ·intro j p x b c; exact h2.get b (by simpa using c)
   ·intro j p x b c; exact h4.get b (by simpa using c)
  | _ => exact (bad_wp hq h).elim
 | makeMap t r =>
  cases r with
  | none =>
   simp only [lop] at h
   split at h
   ·exact (makeMap_sound hs h).n
   ·exact (bad_wp hq h).elim
  | some _ => exact (bad_wp hq h).elim
 | makeSlice t l c =>
  obtain ⟨v, h1, h2⟩ := unt_sound h hq (R l)
  obtain ⟨u, h3, h4⟩ := unt_sound h1 hq (R c)
  exact (makeRows_sound he hs hq h3 h2 h4).n
 | slice t x lo hi mx =>
  obtain ⟨v, h1, h2⟩ := unt_sound h hq (R x)
  have hT := h1.1 hq
  obtain ⟨_, h3, _⟩ := untL_sound hq h1 (rep_opds ht _)
  have memT : ∀ (ps : List PV), allT ps → ∀ p ∈ ps, taint p := fun ps => by
   induction ps with
   | nil => intro _ p hp; cases hp
   | cons q ps ih =>
    intro h p hp
    rcases List.mem_cons.1 hp with e | e
    ·rw [e]; exact h.1
    ·exact ih h.2 p e
  have key : ∀ (o : Option Operand), (∀ y, o = some y → taint (opd τ y)) → ∀ (k : IntKind) (n : Int), (o.map fun o => clean (opd τ o)) = some (.int k n) → o.map a.eval = some (.int k n) := fun o hto k n h => by
   cases o with
   | none => simp at h
   | some y =>
    simp at h
    have := clean_rep (R y) (hto y rfl)
    rw [h] at this
    simp only [Option.map_some]
    generalize a.eval y = z at this
    cases this
    rfl
  have key' : ∀ (o : Option Operand), (o.map fun o => clean (opd τ o)) = none → o.map a.eval = none := fun o h => by cases o <;> simp_all
  have tl : ∀ y, (y ∈ lo.toList ++ hi.toList ++ mx.toList) → taint (opd τ y) := fun y hy => memT _ hT _ (List.mem_map.2 ⟨y, hy, rfl⟩)
  exact (cut_sound he hs hq h3 h2 (key lo fun y hy => tl y (by simp [hy])) (key' lo) (key hi fun y hy => tl y (by simp [hy])) (key' hi) (key mx fun y hy => tl y (by simp [hy])) (key' mx)).n
 | fieldAddr t x f =>
  obtain ⟨v, h1, h2⟩ := unt_sound h hq (R x)
  exact (fieldVia_sound he hs hq h1 h2).n
 | field t x f =>
  obtain ⟨v, h1, h2⟩ := unt_sound h hq (R x)
  exact (fieldIn_sound he hs hq h1 h2).n
 | indexAddr t x i =>
  obtain ⟨v, h1, h2⟩ := unt_sound h hq (R x)
  obtain ⟨u, h3, h4⟩ := unt_sound h1 hq (R i)
  exact (indexVia_sound he hs hq h3 h2 h4).n
 | index t x i =>
  obtain ⟨v, h1, h2⟩ := unt_sound h hq (R x)
  obtain ⟨u, h3, h4⟩ := unt_sound h1 hq (R i)
  exact (indexIn_sound he hs hq h3 h2 h4).n
 | lookup t m k ok =>
  obtain ⟨v, h1, h2⟩ := unt_sound h hq (R m)
  obtain ⟨u, h3, h4⟩ := unt_sound h1 hq (R k)
  exact (look_sound he hs hq h3 h2 h4).n
 | mapUpdate t m k x =>
  obtain ⟨v, h1, h2⟩ := unt_sound h hq (R m)
  obtain ⟨u, h3, h4⟩ := unt_sound h1 hq (R k)
  obtain ⟨z, h5, h6⟩ := unt_sound h3 hq (R x)
  exact (mapPut_sound he hs hq h5 h2 h4 h6).n
 | insert t m k x =>
  obtain ⟨v, h1, h2⟩ := unt_sound h hq (R m)
  obtain ⟨u, h3, h4⟩ := unt_sound h1 hq (R k)
  obtain ⟨z, h5, h6⟩ := unt_sound h3 hq (R x)
  exact (mapPut_sound he hs hq h5 h2 h4 h6).n
 | extract x i =>
  obtain ⟨v, h1, h2⟩ := unt_sound h hq (R x)
  exact (extract_sound hs hq h1 h2).n
 | call c =>
  obtain ⟨callee, args, argTypes⟩ := c
  cases callee with
  | builtin b =>
   have := builtin_sound (P := P) (ty := type) (cs := args.map fun | .const _ => true | _ => false) he hs hq h (rep_opds ht args.toList)
   simp only [execOp, resolve, Sem.run_bind, Sem.run_pure, Result.andThen_ok, invoke]
   rw [show (args.toList.map a.eval).toArray = args.map a.eval from by rw [← Array.toList_map]] at this
   exact this
  | _ => exact (bad_wp hq h).elim
 | _ => exact (bad_wp hq h).elim
end
section
variable {P : Program} {E : Env} {w0 : World} {μ : Map} {H : Heap} {w : World} {q : Prop} {K : PV → Heap → Prop}
def Fr (ro : Option Nat) : Fence := { Fence.wide with round := ro }
theorem calls_fr {ro : Option Nat} {f : FuncId} {args : Array Value} {R : Ending → World → Prop} (h : Calls P f args w R) : CallsIn (Fr ro) 0 P f args w R :=
 (callsIn_wide (n := 0)).2 h
theorem callsIn_fr {ro ro' : Option Nat} {f : FuncId} {args : Array Value} {R : Ending → World → Prop} (h : CallsIn (Fr ro) 0 P f args w R) : CallsIn (Fr ro') 0 P f args w R := h
def BackK (w0 : World) (μ : Map) (H : Heap) (w : World) (K : PV → Heap → Prop) (e : Ending) (w' : World) : Prop :=
 ∃ pv x μ' H', e = .returned x ∧ K pv H' ∧ Sim w0 μ' H' w' ∧ Evo μ H w μ' H' w' ∧ RP μ' H' w' pv x
theorem callSpec_sound (hgl : GlobOK E.glob w0) (hs : Sim w0 μ H w) (hq : q) {f : Nat} {s : Spec} (hf : SpecOK P E.glob f s) {ps : List PV} {xs : List Value}
    (h : (callSpec s ps).wp q K H) (hp : RepS w (Zof μ H w) (ctx μ H w) ps xs) (ro : Option Nat) : CallsIn (Fr ro) 0 P f xs.toArray w (BackK w0 μ H w K) := by
 unfold callSpec at h
 obtain ⟨as, h1, h2⟩ := untL_sound hq h hp
 obtain ⟨ts, ks, h3, h4, h5⟩ := frzL_sound (C := ctx μ H w) (fun p x k => frz_sound hs hq 8 p x k) h1 h2
 split at h3
 ·rename_i pre r hr
  obtain ⟨g1, g2⟩ := h3
  have hc := hf ts pre r hr (g1 hq) w (Zk μ H w ks) xs (fun b hb => hb.elim (fun h => h.1) fun ⟨K, _, h⟩ => (hs.own K b h).2) (hgl.below hs.below.toBelow) h4
  refine calls_fr (hc.mono fun e w' hb => ?_)
  obtain ⟨x, rfl, hb1, hb2⟩ := hb
  split at g2
  ·rename_i hfl
   exact ⟨r, x, μ, H, rfl, g2, hs.grow hb1, Evo.grow hs hb1, hb2.flat hfl⟩
  ·rw [roAll_wp] at g2
   obtain ⟨m1, m2, m3⟩ := marks_sound hs h5
   refine ⟨r, x, μ, marks H ks, rfl, g2, m1.grow hb1, m2.trans (Evo.grow m1 hb1), (hb2.mono (fun b hb => ?_) (fun _ _ => rfl) (Ctx.le_refl _)).of_nil⟩
   rcases hb with hb | ⟨hb, hb'⟩
   ·exact ((Evo.grow m1 hb1).z b (m3 b hb)).1
   ·exact ⟨hb', fun K hK => by have := (m1.own K b hK).2; omega, fun hN => by have := m1.old b hN; have := m1.below.size; omega⟩
 ·exact (bad_wp hq h3).elim
theorem dstAt_eq : ∀ (l : List Oper) (j : Nat), dstAt l j = (l[j]?).bind (·.dst)
 | [], j => by simp [dstAt]
 | o :: l, 0 => by simp [dstAt]
 | o :: l, j + 1 => by simp [dstAt, dstAt_eq l j]
theorem yielded_rep {Z : Nat → Prop} {C : Ctx} {τ : List PV} {tmps : Array Value} {ops : Array Oper} (h : RepL w Z C τ tmps) {j : Nat} :
    (∀ b, gtmp ops τ j = .bool b → yielded ops tmps j = some b) ∧ (∀ p b, gtmp ops τ j = .tnt p (.bool b) → (p → yielded ops tmps j = some b) ∧ (¬ p → yielded ops tmps j = none)) := by
 unfold gtmp yielded
 rw [dstAt_eq, Array.getElem?_toList]
 cases hd : (ops[j]?).bind (·.dst) with
 | none => exact ⟨fun b h => by simp at h, fun p b h => by simp at h⟩
 | some t =>
  simp only [Option.bind_some]
  by_cases ht : t < τ.length
  ·have ht' : t < tmps.size := by rw [h.1]; exact ht
   have hr := h.2 t (τ.getD t .undef) tmps[t] (by simp [List.getD_eq_getElem?_getD, List.getElem?_eq_getElem ht]) (by simp [ht'])
   have e : tmps[t]? = some tmps[t] := by simp [ht']
   rw [e]
   generalize tmps[t] = x at hr
   refine ⟨fun b hb => ?_, fun p b hb => ?_⟩
   ·rw [hb] at hr; cases hr; rfl
   ·rw [hb] at hr
    cases hr with
    | tnt h1 h2 => exact ⟨fun hp => by have := h1 hp; cases this; rfl, fun hp => by rw [h2 hp]; rfl⟩
  ·have : τ.getD t .undef = .undef := by simp [List.getD_eq_getElem?_getD, List.getElem?_eq_none (Nat.le_of_not_lt ht)]
   rw [this]
   exact ⟨fun b h => by simp at h, fun p b h => by simp at h⟩
theorem guard_spec {Z : Nat → Prop} {C : Ctx} {τ : List PV} {tmps : Array Value} {ops : Array Oper} {o : Oper} (h : RepL w Z C τ tmps) (hg : gok ops τ o.guard = true) :
    (gcond ops τ o.guard = none → Region.wanted o (yielded ops tmps) = true) ∧
    (∀ q, gcond ops τ o.guard = some q → (q → Region.wanted o (yielded ops tmps) = true) ∧ (¬ q → Region.wanted o (yielded ops tmps) = false)) := by
 unfold Region.wanted
 cases hgd : o.guard with
 | none => exact ⟨fun _ => rfl, fun q hq => by simp [gcond] at hq⟩
 | some jw =>
  obtain ⟨j, want⟩ := jw
  rw [hgd] at hg
  refine ⟨fun h => by simp [gcond] at h, fun q hq => ?_⟩
  show (q → (yielded ops tmps j == some want) = true) ∧ (¬ q → (yielded ops tmps j == some want) = false)
  simp only [gcond, Option.some.injEq] at hq
  simp only [gok] at hg
  obtain ⟨y1, y2⟩ := yielded_rep (ops := ops) h (j := j)
  generalize gtmp ops τ j = g at *
  unfold gis at hg
  split at hg
  ·rename_i b
   rw [y1 b rfl, ← hq]
   simp [gval]
  ·rename_i p b
   obtain ⟨z1, z2⟩ := y2 p b rfl
   subst hq
   by_cases hp : p
   ·rw [z1 hp]; simp [gval, hp]
   ·rw [z2 hp]; simp [gval, hp]
  ·cases hg
theorem skip_wp {α : Type} {Q : α → Heap → Prop} (hq : ¬ q) : ∀ (m : Prg α) {H : Heap} {μ : Map}, m.wp q Q H → Sim w0 μ H w → ∃ v H' μ', Q v H' ∧ Sim w0 μ' H' w ∧ Evo μ H w μ' H' w
 | .ret a, H, μ, h, hs => ⟨a, H, μ, h, hs, Evo.refl _ _ _⟩
 | .get Ky k, H, μ, h, hs => skip_wp hq (k (H Ky)) h hs
 | .alc Ky mk k, H, μ, h, hs => by
  obtain ⟨h1, h2⟩ := h
  obtain ⟨v, H', μ', g1, g2, g3⟩ := skip_wp hq (k (verOf H Ky + 1)) h2 (hs.phantom Ky _ (h1 _))
  exact ⟨v, H', μ', g1, g2, (Evo.phantom hs Ky _ (h1 _)).trans g3⟩
 | .put Ky b k, H, μ, h, hs => absurd h.1 hq
 | .ro Ky k, H, μ, h, hs => by
  obtain ⟨v, H', μ', g1, g2, g3⟩ := skip_wp hq k h (hs.mark Ky)
  exact ⟨v, H', μ', g1, g2, (Evo.mark Ky).trans g3⟩
 | .chk p k, H, μ, h, hs => skip_wp hq k h.2 hs
def RanC (P : Program) (ro : Option Nat) (w0 : World) (μ : Map) (H : Heap) (w : World) (K : PV → Heap → Prop) (r : Result Next) : Prop :=
 RanN w0 μ H w K r ∨ (∃ f args, r = .ok (.enter f args) w ∧ CallsIn (Fr ro) 0 P f args w (BackK w0 μ H w K)) ∨
 ∃ l f tmps as body, r = .ok (.round l f tmps as body) w ∧ RoundIn (Fr ro) 0 P l f tmps as body w (BackK w0 μ H w K)
def HandlerOK (P : Program) (w0 : World) (h : Handler) : Prop :=
 ∀ (path : List Nat) (f : PV) (as : List PV) (H : Heap) (Q : PV → Heap → Prop) (μ : Map) (w : World) (ro : Option Nat) (xs : List Value), h path f as H Q → Sim w0 μ H w → RepS w (Zof μ H w) (ctx μ H w) as xs →
  match f with
  | .fn g _ _ => Callable P g ∧ CallsIn (Fr ro) 0 P g xs.toArray w (BackK w0 μ H w Q)
  | .yld Ky v => ∀ x, RP μ H w (.yld Ky v) x → ∃ l g tmps as body, x = .func (.yield l) #[] #[] ∧ (Instr.yield l xs.toArray).run P w = .ok (.round l g tmps as body) w ∧ RoundIn (Fr ro) 0 P l g tmps as body w (BackK w0 μ H w Q)
  | _ => False
theorem RanN.mono {K' : PV → Heap → Prop} {r : Result Next} (h : RanN w0 μ H w K r) (hk : ∀ v H, K v H → K' v H) : RanN w0 μ H w K' r := by
 obtain ⟨pv, H', μ', w', x, h1, h2⟩ := h
 exact ⟨pv, H', μ', w', x, hk _ _ h1, h2⟩
theorem BackK.tnt {K : PV → Heap → Prop} {q : Prop} (hq : q) {e : Ending} {w' : World} (h : BackK w0 μ H w (fun v H => K (.tnt q v) H) e w') : BackK w0 μ H w K e w' := by
 obtain ⟨pv, x, μ', H', h0, h1, h2, h3, h4⟩ := h
 exact ⟨.tnt q pv, x, μ', H', h0, h1, h2, h3, .tnt (fun _ => h4) fun h => absurd hq h⟩
theorem RanC.tnt {K : PV → Heap → Prop} {q : Prop} (hq : q) {ro : Option Nat} {r : Result Next} (h : RanC P ro w0 μ H w (fun v H => K (.tnt q v) H) r) : RanC P ro w0 μ H w K r := by
 rcases h with ⟨pv, H', μ', w', x, h1, h2, h3, h4, h5⟩ | ⟨f, args, h1, h2⟩ | ⟨l, f, tmps, as, body, h1, h2⟩
 ·exact .inl ⟨.tnt q pv, H', μ', w', x, h1, h2, h3, .tnt (fun _ => h4) (fun h => absurd hq h), h5⟩
 ·exact .inr (.inl ⟨f, args, h1, h2.mono fun _ _ h => h.tnt hq⟩)
 ·exact .inr (.inr ⟨l, f, tmps, as, body, h1, h2.mono fun _ _ h => h.tnt hq⟩)
theorem EntL.get {Z : Nat → Prop} {ag : Bool} : ∀ {es : List (List Int × PV)} {xs : List MapEntry} {i : Nat} {x : MapEntry}, EntL w Z ag es xs → xs[i]? = some x → ∃ e, es[i]? = some e ∧ Ent w Z ag e x
 | _ :: _, _ :: _, 0, x, h, hi => by simp only [List.getElem?_cons_zero, Option.some.injEq] at hi; subst hi; exact ⟨_, rfl, h.1⟩
 | _ :: _, _ :: _, i + 1, x, h, hi => EntL.get (i := i) h.2 (by simpa using hi)
 | [], [], _, _, _, hi => by simp at hi
 | [], _ :: _, _, _, h, _ => h.elim
 | _ :: _, [], _, _, h, _ => h.elim
theorem EntL.erase {Z : Nat → Prop} {ag : Bool} : ∀ {es : List (List Int × PV)} {xs : List MapEntry} (i : Nat), EntL w Z ag es xs → EntL w Z ag (es.eraseIdx i) (xs.eraseIdx i)
 | _ :: _, _ :: _, 0, h => h.2
 | _ :: _, _ :: _, i + 1, h => ⟨h.1, EntL.erase i h.2⟩
 | [], [], _, _ => trivial
 | [], _ :: _, _, h => h.elim
 | _ :: _, [], _, h => h.elim
theorem EntL.nil {Z : Nat → Prop} {ag : Bool} : ∀ {es : List (List Int × PV)}, EntL w Z ag es [] → es = []
 | [], _ => rfl
 | _ :: _, h => h.elim
theorem filter_erase {e : MapEntry} : ∀ {l : List MapEntry} {i : Nat}, (l.map (·.born)).Nodup → l[i]? = some e → l.filter (fun x => !(x.born == e.born)) = l.eraseIdx i
 | x :: l, 0, h, hi => by
  simp only [List.getElem?_cons_zero, Option.some.injEq] at hi
  subst hi
  simp only [List.map_cons, List.nodup_cons] at h
  rw [List.filter_cons, if_neg (by simp), List.eraseIdx_cons_zero, List.filter_eq_self]
  intro y hy
  have : y.born ≠ x.born := fun e => h.1 (e ▸ List.mem_map_of_mem hy)
  simpa using this
 | x :: l, i + 1, h, hi => by
  simp only [List.getElem?_cons_succ] at hi
  simp only [List.map_cons, List.nodup_cons] at h
  have hm : e ∈ l := List.mem_of_getElem? hi
  have : x.born ≠ e.born := fun e' => h.1 (e' ▸ List.mem_map_of_mem hm)
  rw [List.filter_cons, if_pos (by simpa using this), List.eraseIdx_cons_succ, filter_erase h.2 hi]
 | [], _, _, hi => by simp at hi
theorem leftOf_push {arr : Array MapEntry} {seen : Array Nat} {e : MapEntry} {i : Nat} (hn : (arr.toList.map (·.born)).Nodup) (hi : (leftOf arr seen).toList[i]? = some e) :
    (leftOf arr (seen.push e.born)).toList = (leftOf arr seen).toList.eraseIdx i := by
 have h1 : (leftOf arr seen).toList = arr.toList.filter (fun x => !seen.contains x.born) := by simp [leftOf]
 have h2 : (leftOf arr (seen.push e.born)).toList = (arr.toList.filter (fun x => !seen.contains x.born)).filter (fun x => !(x.born == e.born)) := by
  rw [List.filter_filter]
  simp only [leftOf, Array.toList_filter]
  refine List.filter_congr fun x _ => ?_
  rw [Bool.eq_iff_iff]
  simp [Array.contains_iff_mem]
  constructor
  ·rintro ⟨a, b⟩; exact ⟨b, a⟩
  ·rintro ⟨a, b⟩; exact ⟨b, a⟩
 rw [h2, ← h1]
 refine filter_erase ?_ hi
 rw [h1]
 exact hn.sublist (List.Sublist.map _ List.filter_sublist)
theorem nextV_sound (hs : Sim w0 μ H w) {p : PV} {x : Value} {str : Bool} (h : nextV p str none K H) (hp : RP μ H w p x) (ty : Nat) : RanV w0 μ H w K ((Instr.next x str ty).run P w) := by
 unfold nextV at h
 split at h
 ·rename_i Ky v _
  cases hK : H Ky with
  | none => rw [hK] at h; exact h.elim
  | some b =>
   rw [hK] at h
   cases b with
   | iter ag left cur v' =>
    obtain ⟨rfl, h1, h2⟩ := h
    cases hp with
    | @ref _ _ _ _ r hl =>
     have e3 := ctx_at hl hK rfl
     obtain ⟨r', arr, clock, seen, c1, c2, c3, c4, c5, c6⟩ := hs.blk Ky _ _ hK e3
     rcases run_next_at (P := P) w ty r r' clock clock seen arr clock c1 c3 c4.2 (Nat.le_refl _) with ⟨e1, e2⟩ | ⟨e, he, w1, hw, e2⟩
     ·have e0 : (leftOf arr seen).toList = [] := by
       have := Array.eq_empty_of_size_eq_zero e1
       rw [this]
      rw [e0] at c5
      refine .same hs (h1 c5.nil) ?_ e2
      exact .tup rfl fun j p x a b => by
       match j, a, b with
       | 0, a, b => simp at a b; subst a; subst b; exact .bool
       | j + 1, a, _ => simp at a
     ·obtain ⟨i, hi⟩ := List.getElem?_of_mem he
      obtain ⟨c, hc, hk, hv⟩ := c5.get hi
      have hs1 : Sim w0 μ H w1 ∧ Evo μ H w μ H w1 := by
       rcases hw with e | e
       ·rw [e]; exact ⟨hs, Evo.refl _ _ _⟩
       ·rw [e]; exact ⟨hs.drew, Evo.drew hs⟩
      obtain ⟨hs1, E1⟩ := hs1
      have hh : w1.heap = w.heap := by rcases hw with e | e <;> rw [e] <;> rfl
      have hlt := (hs1.own Ky r e3).2
      have hoth : ∀ k, k ≠ r → (ChangeMaps.setBlock w1 r (.mapIter (some r') clock (seen.push e.born) clock)).heap[k]? = w1.heap[k]? := fun k hk => by simp [ChangeMaps.setBlock, Array.getElem?_setIfInBounds_ne (Ne.symm hk)]
      have hnew : (ChangeMaps.setBlock w1 r (.mapIter (some r') clock (seen.push e.born) clock)).heap[r]? = some (.mapIter (some r') clock (seen.push e.born) clock) := by simp [ChangeMaps.setBlock, hlt]
      have hbs : bsize (ChangeMaps.setBlock w1 r (.mapIter (some r') clock (seen.push e.born) clock)) r = bsize w1 r := by simp only [bsize, hnew, hh, c1]
      have EV := Evo.write (b' := .iter ag (left.eraseIdx i) (some c) v) (w' := ChangeMaps.setBlock w1 r (.mapIter (some r') clock (seen.push e.born) clock)) hs1 hK e3 rfl (.inl rfl) (by simp [ChangeMaps.setBlock]) hoth hbs
      have EA := E1.trans EV
      have hent : Ent (ChangeMaps.setBlock w1 r (.mapIter (some r') clock (seen.push e.born) clock)) (Zof μ (H.set Ky (.iter ag (left.eraseIdx i) (some c) v)) (ChangeMaps.setBlock w1 r (.mapIter (some r') clock (seen.push e.born) clock))) ag c e := ⟨hk, hv.evoN EA⟩
      refine ⟨_, _, μ, _, _, h2 i c hc, Sim.write hs1 hK e3 rfl (.inl rfl) (by simp [ChangeMaps.setBlock]) hoth hbs ⟨rfl, rfl, rfl, Nat.le_refl _⟩ ?_, EA, ?_, e2⟩
      ·refine ⟨r', arr, clock, seen.push e.born, hnew, (EA.z r' c2).1, (EA.z r' c2).2.trans c3, c4, ?_, fun c' hc' => ?_⟩
       ·rw [leftOf_push c4.1 hi]
        exact (c5.erase i).mono (fun b hb => (EA.z b hb).1) (fun b hb => (EA.z b hb).2)
       ·cases hc'
        exact ⟨e, by
         have h1 : (leftOf arr seen).toList = arr.toList.filter (fun x => !seen.contains x.born) := by simp [leftOf]
         rw [h1] at he
         exact (List.mem_filter.1 he).1, seen, rfl, hent⟩
      ·refine .tup rfl fun j p x a b => ?_
       match j, a, b with
       | 0, a, b => simp at a b; subst a; subst b; exact .bool
       | 1, a, b => simp at a b; subst a; subst b; exact hk.rep
       | 2, a, b => simp at a b; subst a; subst b; exact hent.2.of_nil
       | j + 3, a, _ => simp at a
   | _ => exact h.elim
 ·exact h.elim
def ask (E : Env) (h : Handler) (path : List Nat) (s : Nat) (ops : Array Oper) (o : Oper) (τ : List PV) (H : Heap) (K : PV → Heap → Prop) : Prop :=
 match o.op with
 | .call { callee := .value f, args := as, argTypes := _ } => callV E h (s :: path) (opd τ f) (as.toList.map (opd τ)) (gcond ops τ o.guard) K H
 | .next x s => nextV (opd τ x) s (gcond ops τ o.guard) K H
 | op => light (lop E (path, s) τ op) (gcond ops τ o.guard) K H
theorem evOps_cons {E : Env} {h : Handler} {path : List Nat} {site : Nat} {ops : Array Oper} {o : Oper} {rest : List Oper} {i : Nat} {Q : List PV → Heap → Prop} {τ : List PV} {H : Heap} :
    evOps E h path site ops (o :: rest) i Q τ H ↔ gok ops τ o.guard = true ∧ ask E h path (site + i) ops o τ H (fun v H => evOps E h path site ops rest (i + 1) Q (putT τ o.dst v) H) := by
 obtain ⟨dst, op, type, pos, after, guard⟩ := o
 unfold ask
 simp only [evOps]
 cases op <;> exact Iff.rfl
theorem run_call {f : Operand} {args : Array Operand} {ats : Array Nat} {a : Act} {o : Oper} (ho : o.op = .call { callee := .value f, args := args, argTypes := ats }) {fn : Go.Fn} {a1 a2 : Array Value} (hf : a.eval f = .func fn a1 a2) :
    (execOp a.eval o).run P w = (invoke (.fn fn a2) (a1 ++ args.map a.eval)).run P w := by
 obtain ⟨dst, op, type, pos, after, guard⟩ := o
 simp only at ho
 subst ho
 simp [execOp, resolve, Deferred.ofValue, hf]
theorem callV_yes (he : EnvOK P E) (hgl : GlobOK E.glob w0) {h : Handler} (hh : HandlerOK P w0 h) (hs : Sim w0 μ H w) {path : List Nat} {o : Oper} {τ : List PV} {a : Act} {ro : Option Nat}
    (ht : RepL w (Zof μ H w) (ctx μ H w) τ a.tmps) {f : Operand} {args : Array Operand} {ats : Array Nat} (ho : o.op = .call { callee := .value f, args := args, argTypes := ats })
    {g : Option Prop} (hg : g.getD True) (hc : callV E h path (opd τ f) (args.toList.map (opd τ)) g K H) : RanC P ro w0 μ H w K ((execOp a.eval o).run P w) := by
 have hargs := rep_opds ht args.toList
 have hf := rep_opd ht f
 have heavyOK : ∀ {n : Nat} {first cap : List PV} {a1 a2 : Array Value}, a.eval f = .func (.func n) a1 a2 → RepS w (Zof μ H w) (ctx μ H w) first a1.toList → RepS w (Zof μ H w) (ctx μ H w) cap a2.toList →
     heavy h path (.fn n [] []) (first ++ args.toList.map (opd τ) ++ cap) g K H → RanC P ro w0 μ H w K ((execOp a.eval o).run P w) := by
  intro n first cap a1 a2 e1 r1 r2 hv
  have core : ∀ K : PV → Heap → Prop, (untL (first ++ args.toList.map (opd τ) ++ cap) .ret).wp True (fun as _ => h path (.fn n [] []) as H K) H → RanC P ro w0 μ H w K ((execOp a.eval o).run P w) := by
   intro K hv
   obtain ⟨vs, h1, h2⟩ := untL_sound trivial hv ((r1.append hargs).append r2)
   obtain ⟨h3, h4⟩ := hh path (.fn n [] []) vs H K μ w ro _ h1 hs h2
   refine .inr (.inl ⟨n, a1 ++ args.map a.eval ++ a2, ?_, ?_⟩)
   ·rw [run_call ho e1]; exact h3 _ _
   ·have e : (a1.toList ++ args.toList.map a.eval ++ a2.toList).toArray = a1 ++ args.map a.eval ++ a2 := by
     apply Array.ext'; simp
    rw [← e]; exact h4
  cases g with
  | none => exact core _ hv
  | some q => exact core _ (hv.1 hg)
 have specOK : ∀ {n : Nat} {s : Spec} {first cap : List PV} {a1 a2 : Array Value} {q : Prop} {K : PV → Heap → Prop}, q → E.spec n = some s → a.eval f = .func (.func n) a1 a2 → RepS w (Zof μ H w) (ctx μ H w) first a1.toList →
     RepS w (Zof μ H w) (ctx μ H w) cap a2.toList → (callSpec s (first ++ args.toList.map (opd τ) ++ cap)).wp q K H → RanC P ro w0 μ H w K ((execOp a.eval o).run P w) := by
  intro n s first cap a1 a2 q K hq hsp e1 r1 r2 hv
  have hc := callSpec_sound hgl hs hq (he.spec n s hsp).1 hv ((r1.append hargs).append r2) ro
  refine .inr (.inl ⟨n, a1 ++ args.map a.eval ++ a2, ?_, ?_⟩)
  ·rw [run_call ho e1]; exact (he.spec n s hsp).2 _ _
  ·have e : (a1.toList ++ args.toList.map a.eval ++ a2.toList).toArray = a1 ++ args.map a.eval ++ a2 := by
    apply Array.ext'; simp
   rw [← e]; exact hc
 generalize hfv : opd τ f = fv at hc hf
 generalize hx : a.eval f = x at hf
 have yldOK : ∀ {Ky : Key} {v : Nat}, Rep w (Zof μ H w) (ctx μ H w) (.yld Ky v) x → heavy h path (.yld Ky v) (args.toList.map (opd τ)) g K H → RanC P ro w0 μ H w K ((execOp a.eval o).run P w) := by
  intro Ky v hf hc
  have core : ∀ K : PV → Heap → Prop, (untL (args.toList.map (opd τ)) .ret).wp True (fun as _ => h path (.yld Ky v) as H K) H → RanC P ro w0 μ H w K ((execOp a.eval o).run P w) := by
   intro K hv
   obtain ⟨vs, h1, h2⟩ := untL_sound trivial hv hargs
   obtain ⟨l, g, tmps, as, body, e1, e2, e3⟩ := hh path (.yld Ky v) vs H K μ w ro _ h1 hs h2 x hf
   refine .inr (.inr ⟨l, g, tmps, as, body, ?_, e3⟩)
   rw [run_call ho (hx.trans e1)]
   have e : (args.toList.map a.eval).toArray = #[] ++ args.map a.eval := by apply Array.ext'; simp
   rw [← e]; exact e2
  cases g with
  | none => exact core _ hc
  | some q => exact core _ (hc.1 hg)
 cases fv with
 | fn n first cap =>
  cases hf with
  | fn h1 h2 h3 h4 =>
   have r1 := RepL.s (⟨h1, h3⟩ : RepL w (Zof μ H w) (ctx μ H w) first _)
   have r2 := RepL.s (⟨h2, h4⟩ : RepL w (Zof μ H w) (ctx μ H w) cap _)
   simp only [callV] at hc
   split at hc
   ·rename_i s hsp
    cases g with
    | none => exact specOK trivial hsp hx r1 r2 hc
    | some q => exact (specOK (K := fun v H => K (.tnt q v) H) hg hsp hx r1 r2 hc).tnt hg
   ·exact heavyOK hx r1 r2 hc
 | yld Ky v =>
  simp only [callV] at hc
  exact yldOK hf hc
 | tnt p v =>
  cases v with
  | fn n first cap =>
   cases hf with
   | tnt hp hp' =>
    simp only [callV] at hc
    split at hc
    ·rename_i s hsp
     have fin : ∀ {q : Prop} {K : PV → Heap → Prop}, q → (Prg.chk p (callSpec s (first ++ args.toList.map (opd τ) ++ cap))).wp q K H → RanC P ro w0 μ H w K ((execOp a.eval o).run P w) := by
      intro q K hq hv
      have hr := hp (hv.1 hq)
      cases hr with
      | fn h1 h2 h3 h4 => exact specOK hq hsp hx (RepL.s (⟨h1, h3⟩ : RepL w (Zof μ H w) (ctx μ H w) first _)) (RepL.s (⟨h2, h4⟩ : RepL w (Zof μ H w) (ctx μ H w) cap _)) hv.2
     cases g with
     | none => exact fin trivial hc
     | some q => exact (fin (K := fun v H => K (.tnt q v) H) hg hc).tnt hg
    ·have hr := hp (hc.1 hg)
     cases hr with
     | fn h1 h2 h3 h4 => exact heavyOK hx (RepL.s (⟨h1, h3⟩ : RepL w (Zof μ H w) (ctx μ H w) first _)) (RepL.s (⟨h2, h4⟩ : RepL w (Zof μ H w) (ctx μ H w) cap _)) hc.2
  | yld Ky v =>
   cases hf with
   | tnt hp hp' =>
    simp only [callV] at hc
    exact yldOK (hp (hc.1 hg)) hc.2
  | _ => exact hc.elim
 | _ => exact hc.elim
theorem callV_no {h : Handler} (hs : Sim w0 μ H w) {path : List Nat} {fv : PV} {as : List PV} {q : Prop} (hq : ¬ q) (hc : callV E h path fv as (some q) K H) :
    ∃ v H' μ', K v H' ∧ Sim w0 μ' H' w ∧ Evo μ H w μ' H' w ∧ RP μ' H' w v Go.undef := by
 have hv : ∀ {f : PV} {as : List PV}, heavy h path f as (some q) K H → ∃ v H' μ', K v H' ∧ Sim w0 μ' H' w ∧ Evo μ H w μ' H' w ∧ RP μ' H' w v Go.undef := fun h => ⟨.undef, H, μ, h.2 hq, hs, Evo.refl _ _ _, .undef⟩
 have hl : ∀ {m : Prg PV}, light m (some q) K H → ∃ v H' μ', K v H' ∧ Sim w0 μ' H' w ∧ Evo μ H w μ' H' w ∧ RP μ' H' w v Go.undef := fun h => by
  obtain ⟨v, H', μ', h1, h2, h3⟩ := skip_wp hq _ h hs
  exact ⟨.tnt q v, H', μ', h1, h2, h3, .tnt (fun h => absurd h hq) fun _ => rfl⟩
 unfold callV at hc
 split at hc
 ·split at hc
  ·exact hl hc
  ·exact hv hc
 ·exact hv hc
 ·split at hc
  ·exact hl hc
  ·exact hv hc.2
 ·exact hv hc.2
 ·exact hc.elim
theorem lop_nodefer {E : Env} (hq : q) {Ky : Key} {τ : List PV} {op : Op} (h : (lop E Ky τ op).wp q K H) : ∀ c, op ≠ .defer c := by
 rintro c rfl; exact bad_wp hq h
theorem ask_sound (he : EnvOK P E) (hgl : GlobOK E.glob w0) {h : Handler} (hh : HandlerOK P w0 h) (hs : Sim w0 μ H w) {path : List Nat} {s : Nat} {ops : Array Oper} {o : Oper} {τ : List PV} {a : Act} {ro : Option Nat}
    (ht : RepL w (Zof μ H w) (ctx μ H w) τ a.tmps) (hg : gok ops τ o.guard = true) (ha : ask E h path s ops o τ H K) :
    (Region.wanted o (yielded ops a.tmps) = true ∧ (∀ c, o.op ≠ .defer c) ∧ RanC P ro w0 μ H w K ((execOp a.eval o).run P w)) ∨
    (Region.wanted o (yielded ops a.tmps) = false ∧ ∃ v H' μ', K v H' ∧ Sim w0 μ' H' w ∧ Evo μ H w μ' H' w ∧ RP μ' H' w v Go.undef) := by
 obtain ⟨g1, g2⟩ := guard_spec ht hg
 have hl : light (lop E (path, s) τ o.op) (gcond ops τ o.guard) K H → (Region.wanted o (yielded ops a.tmps) = true ∧ (∀ c, o.op ≠ .defer c) ∧ RanC P ro w0 μ H w K ((execOp a.eval o).run P w)) ∨
     (Region.wanted o (yielded ops a.tmps) = false ∧ ∃ v H' μ', K v H' ∧ Sim w0 μ' H' w ∧ Evo μ H w μ' H' w ∧ RP μ' H' w v Go.undef) := by
  intro hl
  cases hgc : gcond ops τ o.guard with
  | none => rw [hgc] at hl; exact .inl ⟨g1 hgc, lop_nodefer trivial hl, .inl (lop_sound he hgl hs trivial ht hl)⟩
  | some q =>
   rw [hgc] at hl
   by_cases hq : q
   ·exact .inl ⟨(g2 q hgc).1 hq, lop_nodefer hq hl, RanC.tnt hq (.inl (lop_sound (K := fun v H => K (.tnt q v) H) he hgl hs hq ht hl))⟩
   ·obtain ⟨v, H', μ', h1, h2, h3⟩ := skip_wp hq _ hl hs
    exact .inr ⟨(g2 q hgc).2 hq, .tnt q v, H', μ', h1, h2, h3, .tnt (fun h => absurd h hq) fun _ => rfl⟩
 unfold ask at ha
 split at ha
 ·rename_i f as ats ho
  cases hgc : gcond ops τ o.guard with
  | none => rw [hgc] at ha; exact .inl ⟨g1 hgc, (fun c h => by rw [ho] at h; cases h), callV_yes (g := none) he hgl hh hs ht ho trivial ha⟩
  | some q =>
   rw [hgc] at ha
   by_cases hq : q
   ·exact .inl ⟨(g2 q hgc).1 hq, (fun c h => by rw [ho] at h; cases h), callV_yes (g := some q) he hgl hh hs ht ho hq ha⟩
   ·exact .inr ⟨(g2 q hgc).2 hq, callV_no hs hq ha⟩
 ·rename_i x s' ho
  cases hgc : gcond ops τ o.guard with
  | some q =>
   rw [hgc] at ha
   unfold nextV at ha
   split at ha
   ·rename_i h; cases h
   ·exact ha.elim
  | none =>
   rw [hgc] at ha
   refine .inl ⟨g1 hgc, (fun c h => by rw [ho] at h; cases h), .inl ?_⟩
   obtain ⟨dst, op, type, pos, after, guard⟩ := o
   simp only at ho
   subst ho
   exact (nextV_sound (P := P) hs ha (rep_opd ht x) type).n
 ·exact hl ha
end
end Wb
