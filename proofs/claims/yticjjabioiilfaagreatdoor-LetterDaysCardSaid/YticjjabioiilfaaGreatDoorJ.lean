import Derived.Test.YticjjabioiilfaaGreatDoorI
import Derived.Test.YticjjabioiilfaaGreatDoorS
import Derived.Test.YticjjabioiilfaaGreatDoorX
set_option linter.unusedVariables false
set_option linter.unusedSimpArgs false
namespace Wb
open Go Go.Proofs Enc Row
set_option linter.unusedSimpArgs false
set_option linter.unusedVariables false
set_option maxRecDepth 20000
set_option maxHeartbeats 8000000
theorem isNaN_fn (a : Int) : Fn E0 0 110 Tryz.f110 (Tryz.f110.body.getD .skip) [.int .i64 a] (.bool false) := by
 unfold Fn Tryz.f110
 simp only [go_sem, bne_self_eq_false]
def t110 : Spec := spec1 (fun (_ : Int) => True) fun _ => .bool false
theorem t110_ok : SpecOK Tryz.prog glB 110 t110 := spec1_ok E0_ok Tryz.func110 rfl (by kernel_rfl) fun a _ => isNaN_fn a
def E32t : List (Nat × Spec) := [(110, t110)]
theorem E32t_ok : AllOK E32t := ⟨⟨t110_ok, Tryz.call110⟩, trivial⟩
noncomputable def E32 : Env := mkE E32t []
theorem E32_ok : EnvOK Tryz.prog E32 := envOK E32t_ok trivial
theorem E32_ti {t : Nat} : E32.ti t = ti t := rfl
theorem E32_e {t : Nat} : E32.eqt t = eqB t := rfl
theorem E32_k {t : Nat} : E32.keyt t = keyB t := rfl
theorem E32_g {t : Nat} : E32.glob t = glB t := rfl
attribute [go_sem] E32_ti E32_e E32_k E32_g
def cmpI (a b : Int) : Int := if a < b then -1 else if b < a then 1 else 0
theorem compare_fn (a b : Int) : Fn E32 0 72 Tryz.f72 (Tryz.f72.body.getD .skip) [.int .i64 a, .int .i64 b] (.int .i64 (cmpI a b)) := by
 unfold Fn Tryz.f72
 simp only [go_sem, @ct E32 110 t110 rfl, t110]
 unfold cmpI
 rw [condK_bool]
 refine ⟨fun h => ?_, fun h => ?_⟩
 ·have h' : a < b := by simpa using h
  simp only [go_sem, if_pos h']
 ·have h' : ¬ a < b := by simpa using h
  simp only [go_sem, if_neg h']
  rw [condK_bool]
  refine ⟨fun h => ?_, fun h => ?_⟩
  ·have h' : b < a := by simpa using h
   simp only [go_sem, if_pos h']
  ·have h' : ¬ b < a := by simpa using h
   simp only [go_sem, if_neg h']
def t72 : Spec := spec2 (fun (_ _ : Int) => True) fun a b => .int .i64 (cmpI a b)
theorem t72_ok : SpecOK Tryz.prog glB 72 t72 := spec2_ok E32_ok Tryz.func72 rfl (by kernel_rfl) fun a b _ => compare_fn a b
def fldL (k : Nat) (l : Line) : Int := match k with
 | 0 => l.item.good
 | 1 => l.item.size
 | 2 => l.item.colour
 | _ => l.many
def lineO (o : Ord2) (i : Int) : Line := if i = 0 then o.a else o.b
theorem dec_ord (a b c d e f g h : Int) : (dec (.agg [.int .i64 a, .int .i64 b, .int .i64 c, .int .i64 d, .int .i64 e, .int .i64 f, .int .i64 g, .int .i64 h]) : Option Ord2) = some ⟨⟨⟨a, b, c⟩, d⟩, ⟨⟨e, f, g⟩, h⟩⟩ := rfl
theorem dec_ord0 (o : Ord2) : (dec (.agg (encO o)) : Option Ord2) = some o := Enc.dec_enc o
attribute [go_sem] dec_ord dec_ord0
theorem good_fn (o : Ord2) (i : Int) (h : i = 0 ∨ i = 1) : Fn E0 0 219 Tryz.f219 (Tryz.f219.body.getD .skip) [.agg (encO o), .int .i64 i] (.int .i64 (fldL 0 (lineO o i))) := by
 obtain ⟨⟨⟨a1, a2, a3⟩, a4⟩, ⟨⟨a5, a6, a7⟩, a8⟩⟩ := o
 unfold Fn Tryz.f219
 rcases h with rfl | rfl <;> simp only [go_sem, encO, encL, lineO, fldL] <;> first | done | rfl | decide
theorem size_fn' (o : Ord2) (i : Int) (h : i = 0 ∨ i = 1) : Fn E0 0 220 Tryz.f220 (Tryz.f220.body.getD .skip) [.agg (encO o), .int .i64 i] (.int .i64 (fldL 1 (lineO o i))) := by
 obtain ⟨⟨⟨a1, a2, a3⟩, a4⟩, ⟨⟨a5, a6, a7⟩, a8⟩⟩ := o
 unfold Fn Tryz.f220
 rcases h with rfl | rfl <;> simp only [go_sem, encO, encL, lineO, fldL] <;> first | done | rfl | decide
theorem colour_fn (o : Ord2) (i : Int) (h : i = 0 ∨ i = 1) : Fn E0 0 216 Tryz.f216 (Tryz.f216.body.getD .skip) [.agg (encO o), .int .i64 i] (.int .i64 (fldL 2 (lineO o i))) := by
 obtain ⟨⟨⟨a1, a2, a3⟩, a4⟩, ⟨⟨a5, a6, a7⟩, a8⟩⟩ := o
 unfold Fn Tryz.f216
 rcases h with rfl | rfl <;> simp only [go_sem, encO, encL, lineO, fldL] <;> first | done | rfl | decide
theorem omany_fn (o : Ord2) (i : Int) (h : i = 0 ∨ i = 1) : Fn E0 0 221 Tryz.f221 (Tryz.f221.body.getD .skip) [.agg (encO o), .int .i64 i] (.int .i64 (fldL 3 (lineO o i))) := by
 obtain ⟨⟨⟨a1, a2, a3⟩, a4⟩, ⟨⟨a5, a6, a7⟩, a8⟩⟩ := o
 unfold Fn Tryz.f221
 rcases h with rfl | rfl <;> simp only [go_sem, encO, encL, lineO, fldL] <;> first | done | rfl | decide
def fldS (k : Nat) : Spec := spec2 (fun (_ : Ord2) (i : Int) => i = 0 ∨ i = 1) fun o i => .int .i64 (fldL k (lineO o i))
def t219 : Spec := fldS 0
def t220 : Spec := fldS 1
def t216 : Spec := fldS 2
def t221 : Spec := fldS 3
theorem t219_ok : SpecOK Tryz.prog glB 219 t219 := spec2_ok E0_ok Tryz.func219 rfl (by kernel_rfl) fun o i h => good_fn o i h
theorem t220_ok : SpecOK Tryz.prog glB 220 t220 := spec2_ok E0_ok Tryz.func220 rfl (by kernel_rfl) fun o i h => size_fn' o i h
theorem t216_ok : SpecOK Tryz.prog glB 216 t216 := spec2_ok E0_ok Tryz.func216 rfl (by kernel_rfl) fun o i h => colour_fn o i h
theorem t221_ok : SpecOK Tryz.prog glB 221 t221 := spec2_ok E0_ok Tryz.func221 rfl (by kernel_rfl) fun o i h => omany_fn o i h
noncomputable def E33t : List (Nat × Spec) := [(72, t72), (219, t219), (220, t220), (216, t216), (221, t221)] ++ E30t
theorem E33t_ok : AllOK E33t := ⟨⟨t72_ok, Tryz.call72⟩, ⟨t219_ok, Tryz.call219⟩, ⟨t220_ok, Tryz.call220⟩, ⟨t216_ok, Tryz.call216⟩, ⟨t221_ok, Tryz.call221⟩, E30t_ok⟩
noncomputable def E33 : Env := mkE E33t []
theorem E33_ok : EnvOK Tryz.prog E33 := envOK E33t_ok trivial
theorem E33_ti {t : Nat} : E33.ti t = ti t := rfl
theorem E33_e {t : Nat} : E33.eqt t = eqB t := rfl
theorem E33_k {t : Nat} : E33.keyt t = keyB t := rfl
theorem E33_g {t : Nat} : E33.glob t = glB t := rfl
attribute [go_sem] E33_ti E33_e E33_k E33_g
def cmpK : List Int → List Int → Int
 | a :: l, b :: m => if cmpI a b = 0 then cmpK l m else cmpI a b
 | _, _ => 0
def cmpO (a b : Ord2) : Int := cmpK (keyO a) (keyO b)
theorem cmpK_cons (a b : Int) (l m : List Int) : cmpK (a :: l) (b :: m) = if cmpI a b = 0 then cmpK l m else cmpI a b := rfl
theorem byField1_fn (a b : Ord2) : Fn E33 0 148 Tryz.f148 (Tryz.f148.body.getD .skip) [.agg (encO a), .agg (encO b)] (.int .i64 (cmpO a b)) := by
 unfold Fn Tryz.f148
 have h10 : ((1 : Int) = 0) = False := by decide
 obtain ⟨⟨⟨a0, a1, a2⟩, a3⟩, ⟨⟨a4, a5, a6⟩, a7⟩⟩ := a
 obtain ⟨⟨⟨b0, b1, b2⟩, b3⟩, ⟨⟨b4, b5, b6⟩, b7⟩⟩ := b
 generalize hR : cmpO ⟨⟨⟨a0, a1, a2⟩, a3⟩, ⟨⟨a4, a5, a6⟩, a7⟩⟩ ⟨⟨⟨b0, b1, b2⟩, b3⟩, ⟨⟨b4, b5, b6⟩, b7⟩⟩ = R
 have hR' : cmpK [a0, a1, a2, a3, a4, a5, a6, a7] [b0, b1, b2, b3, b4, b5, b6, b7] = R := hR
 clear hR
 simp only [go_sem, encO, encL]
 refine ev_loopS [2, 3] (fun n : Nat => [(9, .int .i64 n)]) (fun n H => n ≤ 2 ∧ H ([], 148000000) = some (.cells [.int .i64 a0, .int .i64 a1, .int .i64 a2, .int .i64 a3, .int .i64 a4, .int .i64 a5, .int .i64 a6, .int .i64 a7] 1 false) ∧ H ([], 148000001) = some (.cells [.int .i64 b0, .int .i64 b1, .int .i64 b2, .int .i64 b3, .int .i64 b4, .int .i64 b5, .int .i64 b6, .int .i64 b7] 1 false) ∧
  cmpK ([a0, a1, a2, a3, a4, a5, a6, a7].drop (4 * n)) ([b0, b1, b2, b3, b4, b5, b6, b7].drop (4 * n)) = R) (fun n => 2 - n) 0 ?_ ⟨by omega, ?_, ?_, hR'⟩ ?_
 ·simp only [go_sem, Int.natCast_zero]
 ·simp only [go_sem]
 ·simp only [go_sem]
 ·simp only [go_sem]
  intro K n H ⟨hn, h1, h2, h3⟩ hK hE
  have hc : n = 0 ∨ n = 1 ∨ n = 2 := by omega
  rcases hc with rfl | rfl | rfl
  ·simp only [go_sem, h1, h2, Int.cast_ofNat_Int]
   refine ev_loopS [2, 3, 5, 9, 12] (fun j : Nat => [(13, .int .i64 j)]) (fun j H => j ≤ 4 ∧ H ([], 148000000) = some (.cells [.int .i64 a0, .int .i64 a1, .int .i64 a2, .int .i64 a3, .int .i64 a4, .int .i64 a5, .int .i64 a6, .int .i64 a7] 1 false) ∧ H ([], 148000001) = some (.cells [.int .i64 b0, .int .i64 b1, .int .i64 b2, .int .i64 b3, .int .i64 b4, .int .i64 b5, .int .i64 b6, .int .i64 b7] 1 false) ∧
    cmpK ([a0, a1, a2, a3, a4, a5, a6, a7].drop (4 * 0 + j)) ([b0, b1, b2, b3, b4, b5, b6, b7].drop (4 * 0 + j)) = R) (fun j => 4 - j) 0 ?_ ⟨by omega, ?_, ?_, h3⟩ ?_
   ·simp only [go_sem, Int.natCast_zero, glB]
   ·simp only [go_sem, h1]
   ·simp only [go_sem, h2]
   ·simp only [go_sem]
    intro K2 j H ⟨hj, h1, h2, h3⟩ hK2 hE2
    have hc : j = 0 ∨ j = 1 ∨ j = 2 ∨ j = 3 ∨ j = 4 := by omega
    rcases hc with rfl | rfl | rfl | rfl | rfl
    ·have h3' : (if cmpI a0 b0 = 0 then cmpK [a1, a2, a3, a4, a5, a6, a7] [b1, b2, b3, b4, b5, b6, b7] else cmpI a0 b0) = R := h3
     simp only [go_sem, @ct E33 72 t72 rfl, t72, @ct E33 219 t219 rfl, t219, @ct E33 220 t220 rfl, t220, @ct E33 216 t216 rfl, t216, @ct E33 221 t221 rfl, t221, h1, h2, h10, fldS, lineO, fldL, Int.cast_ofNat_Int]
     rw [condK_bool]
     refine ⟨fun h => ?_, fun h => ?_⟩
     ·have h' : ¬ cmpI a0 b0 = 0 := by simpa using h
      rw [if_neg h'] at h3'
      simp only [go_sem]
      refine hE2 _ _ _ (by simp) ?_
      simp only [go_sem]
      refine hE _ _ _ (by simp) ?_
      simp only [go_sem, h3']
     ·have h' : cmpI a0 b0 = 0 := by simpa using h
      rw [if_pos h'] at h3'
      simp only [go_sem]
      refine hK2 1 _ _ ?_ ⟨by omega, ?_, ?_, h3'⟩ (by omega)
      ·simp only [go_sem]; rfl
      ·simp only [go_sem, h1]
      ·simp only [go_sem, h2]
    ·have h3' : (if cmpI a1 b1 = 0 then cmpK [a2, a3, a4, a5, a6, a7] [b2, b3, b4, b5, b6, b7] else cmpI a1 b1) = R := h3
     simp only [go_sem, @ct E33 72 t72 rfl, t72, @ct E33 219 t219 rfl, t219, @ct E33 220 t220 rfl, t220, @ct E33 216 t216 rfl, t216, @ct E33 221 t221 rfl, t221, h1, h2, h10, fldS, lineO, fldL, Int.cast_ofNat_Int]
     rw [condK_bool]
     refine ⟨fun h => ?_, fun h => ?_⟩
     ·have h' : ¬ cmpI a1 b1 = 0 := by simpa using h
      rw [if_neg h'] at h3'
      simp only [go_sem]
      refine hE2 _ _ _ (by simp) ?_
      simp only [go_sem]
      refine hE _ _ _ (by simp) ?_
      simp only [go_sem, h3']
     ·have h' : cmpI a1 b1 = 0 := by simpa using h
      rw [if_pos h'] at h3'
      simp only [go_sem]
      refine hK2 2 _ _ ?_ ⟨by omega, ?_, ?_, h3'⟩ (by omega)
      ·simp only [go_sem]; rfl
      ·simp only [go_sem, h1]
      ·simp only [go_sem, h2]
    ·have h3' : (if cmpI a2 b2 = 0 then cmpK [a3, a4, a5, a6, a7] [b3, b4, b5, b6, b7] else cmpI a2 b2) = R := h3
     simp only [go_sem, @ct E33 72 t72 rfl, t72, @ct E33 219 t219 rfl, t219, @ct E33 220 t220 rfl, t220, @ct E33 216 t216 rfl, t216, @ct E33 221 t221 rfl, t221, h1, h2, h10, fldS, lineO, fldL, Int.cast_ofNat_Int]
     rw [condK_bool]
     refine ⟨fun h => ?_, fun h => ?_⟩
     ·have h' : ¬ cmpI a2 b2 = 0 := by simpa using h
      rw [if_neg h'] at h3'
      simp only [go_sem]
      refine hE2 _ _ _ (by simp) ?_
      simp only [go_sem]
      refine hE _ _ _ (by simp) ?_
      simp only [go_sem, h3']
     ·have h' : cmpI a2 b2 = 0 := by simpa using h
      rw [if_pos h'] at h3'
      simp only [go_sem]
      refine hK2 3 _ _ ?_ ⟨by omega, ?_, ?_, h3'⟩ (by omega)
      ·simp only [go_sem]; rfl
      ·simp only [go_sem, h1]
      ·simp only [go_sem, h2]
    ·have h3' : (if cmpI a3 b3 = 0 then cmpK [a4, a5, a6, a7] [b4, b5, b6, b7] else cmpI a3 b3) = R := h3
     simp only [go_sem, @ct E33 72 t72 rfl, t72, @ct E33 219 t219 rfl, t219, @ct E33 220 t220 rfl, t220, @ct E33 216 t216 rfl, t216, @ct E33 221 t221 rfl, t221, h1, h2, h10, fldS, lineO, fldL, Int.cast_ofNat_Int]
     rw [condK_bool]
     refine ⟨fun h => ?_, fun h => ?_⟩
     ·have h' : ¬ cmpI a3 b3 = 0 := by simpa using h
      rw [if_neg h'] at h3'
      simp only [go_sem]
      refine hE2 _ _ _ (by simp) ?_
      simp only [go_sem]
      refine hE _ _ _ (by simp) ?_
      simp only [go_sem, h3']
     ·have h' : cmpI a3 b3 = 0 := by simpa using h
      rw [if_pos h'] at h3'
      simp only [go_sem]
      refine hK2 4 _ _ ?_ ⟨by omega, ?_, ?_, h3'⟩ (by omega)
      ·simp only [go_sem]; rfl
      ·simp only [go_sem, h1]
      ·simp only [go_sem, h2]
    ·simp only [go_sem]
     refine hE2 _ _ _ (by simp) ?_
     simp only [go_sem]
     refine hK 1 _ _ ?_ ⟨by omega, h1, h2, h3⟩ (by omega)
     simp only [go_sem]; rfl
  ·simp only [go_sem, h1, h2, Int.cast_ofNat_Int]
   refine ev_loopS [2, 3, 5, 9, 12] (fun j : Nat => [(13, .int .i64 j)]) (fun j H => j ≤ 4 ∧ H ([], 148000000) = some (.cells [.int .i64 a0, .int .i64 a1, .int .i64 a2, .int .i64 a3, .int .i64 a4, .int .i64 a5, .int .i64 a6, .int .i64 a7] 1 false) ∧ H ([], 148000001) = some (.cells [.int .i64 b0, .int .i64 b1, .int .i64 b2, .int .i64 b3, .int .i64 b4, .int .i64 b5, .int .i64 b6, .int .i64 b7] 1 false) ∧
    cmpK ([a0, a1, a2, a3, a4, a5, a6, a7].drop (4 * 1 + j)) ([b0, b1, b2, b3, b4, b5, b6, b7].drop (4 * 1 + j)) = R) (fun j => 4 - j) 0 ?_ ⟨by omega, ?_, ?_, h3⟩ ?_
   ·simp only [go_sem, Int.natCast_zero, glB]
   ·simp only [go_sem, h1]
   ·simp only [go_sem, h2]
   ·simp only [go_sem]
    intro K2 j H ⟨hj, h1, h2, h3⟩ hK2 hE2
    have hc : j = 0 ∨ j = 1 ∨ j = 2 ∨ j = 3 ∨ j = 4 := by omega
    rcases hc with rfl | rfl | rfl | rfl | rfl
    ·have h3' : (if cmpI a4 b4 = 0 then cmpK [a5, a6, a7] [b5, b6, b7] else cmpI a4 b4) = R := h3
     simp only [go_sem, @ct E33 72 t72 rfl, t72, @ct E33 219 t219 rfl, t219, @ct E33 220 t220 rfl, t220, @ct E33 216 t216 rfl, t216, @ct E33 221 t221 rfl, t221, h1, h2, h10, fldS, lineO, fldL, Int.cast_ofNat_Int]
     rw [condK_bool]
     refine ⟨fun h => ?_, fun h => ?_⟩
     ·have h' : ¬ cmpI a4 b4 = 0 := by simpa using h
      rw [if_neg h'] at h3'
      simp only [go_sem]
      refine hE2 _ _ _ (by simp) ?_
      simp only [go_sem]
      refine hE _ _ _ (by simp) ?_
      simp only [go_sem, h3']
     ·have h' : cmpI a4 b4 = 0 := by simpa using h
      rw [if_pos h'] at h3'
      simp only [go_sem]
      refine hK2 1 _ _ ?_ ⟨by omega, ?_, ?_, h3'⟩ (by omega)
      ·simp only [go_sem]; rfl
      ·simp only [go_sem, h1]
      ·simp only [go_sem, h2]
    ·have h3' : (if cmpI a5 b5 = 0 then cmpK [a6, a7] [b6, b7] else cmpI a5 b5) = R := h3
     simp only [go_sem, @ct E33 72 t72 rfl, t72, @ct E33 219 t219 rfl, t219, @ct E33 220 t220 rfl, t220, @ct E33 216 t216 rfl, t216, @ct E33 221 t221 rfl, t221, h1, h2, h10, fldS, lineO, fldL, Int.cast_ofNat_Int]
     rw [condK_bool]
     refine ⟨fun h => ?_, fun h => ?_⟩
     ·have h' : ¬ cmpI a5 b5 = 0 := by simpa using h
      rw [if_neg h'] at h3'
      simp only [go_sem]
      refine hE2 _ _ _ (by simp) ?_
      simp only [go_sem]
      refine hE _ _ _ (by simp) ?_
      simp only [go_sem, h3']
     ·have h' : cmpI a5 b5 = 0 := by simpa using h
      rw [if_pos h'] at h3'
      simp only [go_sem]
      refine hK2 2 _ _ ?_ ⟨by omega, ?_, ?_, h3'⟩ (by omega)
      ·simp only [go_sem]; rfl
      ·simp only [go_sem, h1]
      ·simp only [go_sem, h2]
    ·have h3' : (if cmpI a6 b6 = 0 then cmpK [a7] [b7] else cmpI a6 b6) = R := h3
     simp only [go_sem, @ct E33 72 t72 rfl, t72, @ct E33 219 t219 rfl, t219, @ct E33 220 t220 rfl, t220, @ct E33 216 t216 rfl, t216, @ct E33 221 t221 rfl, t221, h1, h2, h10, fldS, lineO, fldL, Int.cast_ofNat_Int]
     rw [condK_bool]
     refine ⟨fun h => ?_, fun h => ?_⟩
     ·have h' : ¬ cmpI a6 b6 = 0 := by simpa using h
      rw [if_neg h'] at h3'
      simp only [go_sem]
      refine hE2 _ _ _ (by simp) ?_
      simp only [go_sem]
      refine hE _ _ _ (by simp) ?_
      simp only [go_sem, h3']
     ·have h' : cmpI a6 b6 = 0 := by simpa using h
      rw [if_pos h'] at h3'
      simp only [go_sem]
      refine hK2 3 _ _ ?_ ⟨by omega, ?_, ?_, h3'⟩ (by omega)
      ·simp only [go_sem]; rfl
      ·simp only [go_sem, h1]
      ·simp only [go_sem, h2]
    ·have h3' : (if cmpI a7 b7 = 0 then cmpK [] [] else cmpI a7 b7) = R := h3
     simp only [go_sem, @ct E33 72 t72 rfl, t72, @ct E33 219 t219 rfl, t219, @ct E33 220 t220 rfl, t220, @ct E33 216 t216 rfl, t216, @ct E33 221 t221 rfl, t221, h1, h2, h10, fldS, lineO, fldL, Int.cast_ofNat_Int]
     rw [condK_bool]
     refine ⟨fun h => ?_, fun h => ?_⟩
     ·have h' : ¬ cmpI a7 b7 = 0 := by simpa using h
      rw [if_neg h'] at h3'
      simp only [go_sem]
      refine hE2 _ _ _ (by simp) ?_
      simp only [go_sem]
      refine hE _ _ _ (by simp) ?_
      simp only [go_sem, h3']
     ·have h' : cmpI a7 b7 = 0 := by simpa using h
      rw [if_pos h'] at h3'
      simp only [go_sem]
      refine hK2 4 _ _ ?_ ⟨by omega, ?_, ?_, h3'⟩ (by omega)
      ·simp only [go_sem]; rfl
      ·simp only [go_sem, h1]
      ·simp only [go_sem, h2]
    ·simp only [go_sem]
     refine hE2 _ _ _ (by simp) ?_
     simp only [go_sem]
     refine hK 2 _ _ ?_ ⟨by omega, h1, h2, h3⟩ (by omega)
     simp only [go_sem]; rfl
  ·simp only [go_sem]
   refine hE _ _ _ (by simp) ?_
   have h3' : (0 : Int) = R := h3
   simp only [go_sem, h3']
def t148 : Spec := spec2 (fun (_ _ : Ord2) => True) fun a b => .int .i64 (cmpO a b)
theorem t148_ok : SpecOK Tryz.prog glB 148 t148 := spec2_ok E33_ok Tryz.func148 rfl (by kernel_rfl) fun a b _ => byField1_fn a b
theorem byField_fn : Fn E33 0 123 Tryz.f123 (Tryz.f123.body.getD .skip) [] (.agg [.fn 148 [] []]) := by
 unfold Fn Tryz.f123
 simp only [go_sem]
def t123 : Spec := spec0 True (.agg [.fn 148 [] []])
theorem t123_ok : SpecOK Tryz.prog glB 123 t123 := spec0_ok E33_ok Tryz.func123 rfl (by kernel_rfl) fun _ => byField_fn
theorem cmpI_zero {a b : Int} (h : cmpI a b = 0) : a = b := by unfold cmpI at h; split at h; omega; split at h <;> omega
theorem cmpI_self (a : Int) : cmpI a a = 0 := by unfold cmpI; simp
theorem cmpI_lt {a b : Int} : cmpI a b < 0 ↔ a < b := by unfold cmpI; split; omega; split <;> omega
theorem cmpI_neg (a b : Int) : cmpI b a = -cmpI a b := by unfold cmpI; split <;> split <;> (try split) <;> (try split) <;> omega
theorem cmpK_self : ∀ l : List Int, cmpK l l = 0
 | [] => rfl
 | a :: l => by rw [cmpK_cons, if_pos (cmpI_self a), cmpK_self l]
theorem cmpK_neg : ∀ l m : List Int, cmpK m l = -cmpK l m
 | [], [] => rfl
 | [], _ :: _ => rfl
 | _ :: _, [] => rfl
 | a :: l, b :: m => by
  rw [cmpK_cons, cmpK_cons, cmpI_neg a b, cmpK_neg l m]
  by_cases h : cmpI a b = 0
  ·rw [if_pos h, if_pos (by omega)]
  ·rw [if_neg h, if_neg (by omega)]
theorem cmpK_zero : ∀ {l m : List Int}, l.length = m.length → cmpK l m = 0 → l = m
 | [], [], _, _ => rfl
 | [], _ :: _, h, _ => by simp at h
 | _ :: _, [], h, _ => by simp at h
 | a :: l, b :: m, h, k => by
  rw [cmpK_cons] at k
  split at k
  ·rename_i e
   rw [cmpI_zero e, cmpK_zero (by simpa using h) k]
  ·rename_i e; exact absurd k e
theorem cmpK_trans : ∀ {l m n : List Int}, l.length = m.length → m.length = n.length → cmpK l m < 0 → cmpK m n < 0 → cmpK l n < 0
 | [], _, _, _, _, h, _ => by cases h
 | _ :: _, [], _, h, _, _, _ => by simp at h
 | _ :: _, _ :: _, [], _, h, _, _ => by simp at h
 | a :: l, b :: m, c :: n, h1, h2, h3, h4 => by
  rw [cmpK_cons] at h3 h4 ⊢
  have t := fun h h' => cmpK_trans (l := l) (m := m) (n := n) (by simpa using h1) (by simpa using h2) h h'
  by_cases e1 : cmpI a b = 0
  ·rw [if_pos e1] at h3
   have e1' := cmpI_zero e1; subst e1'
   by_cases e2 : cmpI a c = 0
   ·rw [if_pos e2] at h4 ⊢
    exact t h3 h4
   ·rw [if_neg e2] at h4 ⊢; exact h4
  ·rw [if_neg e1] at h3
   have l1 := cmpI_lt.1 h3
   by_cases e2 : cmpI b c = 0
   ·have e2' := cmpI_zero e2; subst e2'
    rw [if_neg e1]; exact h3
   ·rw [if_neg e2] at h4
    have l2 := cmpI_lt.1 h4
    have l3 : cmpI a c < 0 := cmpI_lt.2 (by omega)
    rw [if_neg (by omega)]; exact l3
theorem swoK {α : Type} (f : α → List Int) (k : Nat) (hk : ∀ x, (f x).length = k) : Sort.SWO (ltOf fun x y => cmpK (f x) (f y)) where
 irrefl x := by simp [ltOf, cmpK_self]
 trans x y z h1 h2 := by
  simp only [ltOf, decide_eq_true_eq] at *
  exact cmpK_trans (by rw [hk, hk]) (by rw [hk, hk]) h1 h2
 ntrans x y z h1 h2 := by
  simp only [ltOf, decide_eq_false_iff_not] at *
  intro h3
  have n1 := cmpK_neg (f x) (f y)
  have n2 := cmpK_neg (f y) (f z)
  by_cases e : cmpK (f y) (f x) = 0
  ·have := cmpK_zero (by rw [hk, hk]) e
   rw [this] at h2; exact h2 h3
  ·exact h2 (cmpK_trans (by rw [hk, hk]) (by rw [hk, hk]) (show cmpK (f y) (f x) < 0 by omega) h3)
theorem totK {α : Type} (f : α → List Int) (k : Nat) (hk : ∀ x, (f x).length = k) (hi : ∀ x y, f x = f y → x = y) : ∀ x y, ltOf (fun x y => cmpK (f x) (f y)) x y = false → ltOf (fun x y => cmpK (f x) (f y)) y x = false → x = y := fun x y h1 h2 => by
 simp only [ltOf, decide_eq_false_iff_not] at h1 h2
 have n1 := cmpK_neg (f x) (f y)
 exact hi _ _ (cmpK_zero (by rw [hk, hk]) (by omega))
theorem keyO_len (o : Ord2) : (keyO o).length = 8 := rfl
def sortOM : MSpec := sortFM keyO 8 cmpO 148
theorem sortOM_ok : MutOK Tryz.prog glB 122 sortOM :=
 sortFM_ok (f := keyO) (k := 8) (cf := cmpO) (g := 148) (s := t148) Tryz.sortO keyO_len (by decide) Tryz.isAgg114 Tryz.sizeOf114 (swoK keyO 8 keyO_len) (totK keyO 8 keyO_len fun _ _ => keyO_inj) Tryz.call148 t148_ok fun a b => rfl
def t65 : Spec := spec1 (fun (c : LCalc) => AOk c.x ∧ c = lcOf c.x) fun c => .mp true 8 (encAll (allM c.x))
theorem t65_ok : SpecOK Tryz.prog glB 65 t65 := spec1_ok E31_ok Tryz.func65 rfl (by kernel_rfl) fun c h => by
 have e : (Enc.enc c : PV) = .agg (encLC (lcOf c.x)) := by rw [← h.2]; rfl
 rw [e]; exact all_fn c.x h.1
noncomputable def E34t : List (Nat × Spec) := [(65, t65), (123, t123), (148, t148)] ++ E33t
theorem E34t_ok : AllOK E34t := ⟨⟨t65_ok, Tryz.call65⟩, ⟨t123_ok, Tryz.call123⟩, ⟨t148_ok, Tryz.call148⟩, E33t_ok⟩
noncomputable def E34 : Env := mkM E34t [] [(122, sortOM)]
theorem E34_ok : EnvOK Tryz.prog E34 := envMOK E34t_ok trivial ⟨⟨sortOM_ok, Tryz.call122⟩, trivial⟩
theorem E34_ti {t : Nat} : E34.ti t = ti t := rfl
theorem E34_e {t : Nat} : E34.eqt t = eqB t := rfl
theorem E34_k {t : Nat} : E34.keyt t = keyB t := rfl
theorem E34_g {t : Nat} : E34.glob t = glB t := rfl
attribute [go_sem] E34_ti E34_e E34_k E34_g
def sortedM (x : Lett) : List Ord2 := sortB cmpO (keysM x)
theorem rI_keyO : (rI keyO : Ord2 → List PV) = encO := by funext o; rfl
theorem sortB_perm {α : Type} (cf : α → α → Int) (l : List α) : (sortB cf l).Perm l := List.mergeSort_perm l _
theorem sorted_eq {l m : List Ord2} (h : l.Perm m) : sortB cmpO l = sortB cmpO m := by
 have hO := swoK keyO 8 keyO_len
 have hT := totK keyO 8 keyO_len fun _ _ => keyO_inj
 have hs : ∀ l : List Ord2, (sortB cmpO l).Pairwise fun a b => (!(ltOf cmpO) b a) = true := fun l => by
  unfold sortB
  refine List.pairwise_mergeSort (fun a b c h1 h2 => ?_) (fun a b => ?_) l
  ·simp only [Bool.not_eq_true'] at *
   exact hO.ntrans _ _ _ h2 h1
  ·cases h3 : ltOf cmpO b a with
   | false => simp
   | true =>
    cases h4 : ltOf cmpO a b with
    | false => simp
    | true => have := hO.trans _ _ _ h3 h4; rw [hO.irrefl] at this; cases this
 refine List.Perm.eq_of_pairwise (le := fun a b => (!(ltOf cmpO) b a) = true) (fun a b _ _ h1 h2 => ?_) (hs l) (hs m) (((sortB_perm cmpO l).trans h).trans (sortB_perm cmpO m).symm)
 simp only [Bool.not_eq_true'] at h1 h2
 exact hT _ _ h2 h1
def Cnt (x : Lett) : Prop := ∀ i, i < x.rack.issues.length → ∀ j, j < x.lines.length → (candL x i j).length ≤ 256
theorem setA_len (o : Ord2) (f : Fnd) : ∀ l : OL, (setA l o f).length ≤ l.length + 1
 | [] => by simp [setA]
 | e :: l => by
  rw [setA]
  split
  ·simp
  ·have := setA_len o f l
   simp only [List.length_cons]; omega
theorem addAll_len : ∀ (es l : OL), (addAll l es).length ≤ l.length + es.length
 | [], l => by simp [addAll]
 | e :: es, l => by
  have h1 := addAll_len es (addA l e.1 e.2)
  have h2 : (addA l e.1 e.2).length ≤ l.length + 1 := setA_len _ _ _
  have h3 : addAll l (e :: es) = addAll (addA l e.1 e.2) es := rfl
  rw [h3, List.length_cons]; omega
theorem keysM_len {x : Lett} (hx : AOk x) (hc : Cnt x) : (keysM x).length ≤ 3407872 := by
 unfold keysM
 rw [List.length_map, allM_cands]
 refine Nat.le_trans (addAll_len _ _) ?_
 rw [List.length_nil, Nat.zero_add]
 unfold cands
 refine Nat.le_trans (flatMap_le _ 262144 _ fun t ht => ?_) ?_
 ·unfold candT
  refine Nat.le_trans (flatMap_le _ 65536 _ fun i hi => ?_) ?_
  ·have hi' := List.mem_range.1 hi
   have hF := hc i hi' 0 hx.n
   unfold candI
   split
   ·refine Nat.le_trans (flatMap_le _ 256 _ fun a _ => ?_) (by rw [List.length_range]; omega)
    unfold candA
    refine Nat.le_trans (flatMap_le _ 1 _ fun b _ => ?_) ?_
    ·unfold candB; split <;> simp
    ·rw [List.length_range, Nat.mul_one]
     unfold moreL
     split
     ·rename_i h; rw [List.length_map]; exact hc i hi' 1 h
     ·simp
   ·simp
  ·rw [List.length_range]
   have := hx.g.i
   omega
 ·rw [List.length_range]
  have := turns_len hx.t
  omega
theorem encAll_get {l : OL} {i : Nat} {e : List Int × PV} (h : (encAll l)[i]? = some e) : ∃ o f, l[i]? = some (o, f) ∧ e = (keyO o, .agg (encFd f)) := by
 simp only [encAll, List.getElem?_map, Option.map_eq_some_iff] at h
 obtain ⟨⟨o, f⟩, h1, rfl⟩ := h
 exact ⟨o, f, h1, rfl⟩
theorem encAll_erase (l : OL) (i : Nat) : (encAll l).eraseIdx i = encAll (l.eraseIdx i) := by
 induction l generalizing i with
 | nil => rfl
 | cons e l ih =>
  cases i with
  | zero => rfl
  | succ i => simp only [encAll, List.map_cons, List.eraseIdx_cons_succ] at *; rw [ih]
theorem erase_perm {α : Type} : ∀ {l : List α} {i : Nat} {a : α}, l[i]? = some a → l.Perm (a :: l.eraseIdx i)
 | b :: l, 0, a, h => by simp at h; subst h; exact List.Perm.refl _
 | b :: l, i + 1, a, h => by
  have := erase_perm (l := l) (i := i) (a := a) (by simpa using h)
  exact ((this.cons b).trans (List.Perm.swap a b _))
theorem sorted_fn (x : Lett) (hx : AOk x) (hcn : Cnt x) : Fn E34 1 101 Tryz.f101 (Tryz.f101.body.getD .skip) [.agg (encLC (lcOf x))] (.sl ((sortedM x).map encO) false) := by
 unfold Fn Tryz.f101
 have hlen := keysM_len hx hcn
 obtain ⟨X, hX⟩ : ∃ X, X = x := ⟨_, rfl⟩
 rw [← hX] at hlen hx ⊢
 obtain ⟨⟨g, is⟩, dlo, dhi, lns, clo, chi⟩ := x
 have e1 : g = X.rack.goods := by rw [hX]
 have e2 : is = X.rack.issues := by rw [hX]
 have e3 : dlo = X.dlo := by rw [hX]
 have e4 : dhi = X.dhi := by rw [hX]
 have e5 : lns = X.lines := by rw [hX]
 have e6 : clo = X.clo := by rw [hX]
 have e7 : chi = X.chi := by rw [hX]
 have hη : (⟨⟨X.rack.goods, X.rack.issues⟩, X.dlo, X.dhi, X.lines, X.clo, X.chi⟩ : Lett) = X := rfl
 have hL : lcOf X = ⟨X, openI X X.rack.issues.length⟩ := rfl
 simp only [go_sem, @ct E34 65 t65 rfl, t65, encLC, encLt, List.cons_append, List.nil_append, callSpec, rangeV, hL, hη]
 refine ⟨hx, ?_⟩
 refine ev_loopS [1, 7] (fun y : OL × List Ord2 × PV => [(3, y.2.2)]) (fun y H => (∃ cur, H ([], 101002002) = some (.iter true (encAll y.1) cur 1)) ∧ Own H (fun K => K = ([], 101005003)) y.2.2 8 (y.2.1.map encO) ∧ (y.2.1 ++ y.1.map (·.1)).Perm (keysM X)) (fun y => y.1.length) (allM X, [], .sl [] true) ?_ ⟨⟨none, ?_⟩, .inl ⟨rfl, rfl⟩, List.Perm.refl _⟩ ?_
 ·simp only [go_sem]
 ·simp only [go_sem]
 ·simp only [go_sem]
  rintro K ⟨left, seen, p⟩ H ⟨⟨cur, h1⟩, h2, h3⟩ hK hE
  simp only at h1 h2 h3
  have hOT := OwnTaint h2
  simp only [go_sem, nextV, h1, hOT]
  refine ⟨fun hz => ?_, fun i e he => ?_⟩
  ·have hl : left = [] := by cases left with
    | nil => rfl
    | cons a l => cases hz
   subst hl
   refine hE _ _ _ (by simp) ?_
   rw [List.map_nil, List.append_nil] at h3
   have hsl : (seen.map encO).length = seen.length := List.length_map ..
   have hsm : sortB cmpO seen = sortedM X := sorted_eq h3
   have hsn : seen.length < 4611686018427387904 := by rw [h3.length_eq]; omega
   rcases h2 with ⟨q1, rfl⟩ | ⟨K2, v, rfl, rfl, q3⟩
   ·have hse : seen = [] := List.map_eq_nil_iff.1 q1
    subst hse
    rw [← hsm]
    simp only [go_sem, @ct E34 123 t123 rfl, t123, @callV_in E34 122 rfl, heavy_none, @callN_mt E34 122 sortOM rfl rfl, sortOM, sortFM, callSpec]
    rw [show sortB cmpO ([] : List Ord2) = [] by simp [sortB]]; trivial
   ·rw [← rI_keyO] at q3
    simp only [go_sem, @ct E34 123 t123 rfl, t123, @callV_in E34 122 rfl, heavy_none, @callN_mt E34 122 sortOM rfl rfl, sortOM, sortFM, callSpec]
    refine ⟨seen, q3, rfl, hsn, ?_⟩
    simp only [go_sem, hsm, rI_keyO]
    rw [← hsm, sortB_len]
  ·obtain ⟨o, f, hof, rfl⟩ := encAll_get he
   rw [encAll_erase]
   have hpm := erase_perm hof
   have hll : (left.eraseIdx i).length < left.length := by rw [hpm.length_eq, List.length_cons]; omega
   have hkey : (keyPV true (keyO o)) = .agg (encO o) := rfl
   have hseen : seen.length ≤ 3407872 := by have := h3.length_eq; rw [List.length_append] at this; omega
   have hnp : ((seen ++ [o]) ++ (left.eraseIdx i).map (·.1)).Perm (keysM X) := by
    refine List.Perm.trans ?_ h3
    rw [List.append_assoc]
    exact List.Perm.append_left _ ((hpm.map fun e : Ord2 × Fnd => e.1).symm : ([o] ++ (left.eraseIdx i).map fun e : Ord2 × Fnd => e.1).Perm _)
   obtain ⟨⟨⟨a0, a1, a2⟩, a3⟩, ⟨⟨a4, a5, a6⟩, a7⟩⟩ := o
   simp only [go_sem, entryV, hkey, encO, encL, List.cons_append, List.nil_append, hOT]
   refine app_one trivial rfl rfl (by decide) (by decide) (set_at_eq _ _ _) (h2.frame fun K hK => ?_) rfl ?_ (fun row hr => ?_) ⟨rfl, rfl⟩ fun p5 H5 hO hF5 => ?_
   ·subst hK; simp only [go_sem]
   ·rw [List.length_map]
    show (_ + 1) * 64 ≤ _
    omega
   ·obtain ⟨a, _, rfl⟩ := List.mem_map.1 hr; rfl
   ·have hOT5 := OwnTaint hO
    simp only [go_sem, hOT5]
    refine hK (left.eraseIdx i, seen ++ [⟨⟨⟨a0, a1, a2⟩, a3⟩, ⟨⟨a4, a5, a6⟩, a7⟩⟩], p5) _ _ ?_ ⟨⟨some (keyO ⟨⟨⟨a0, a1, a2⟩, a3⟩, ⟨⟨a4, a5, a6⟩, a7⟩⟩, .agg (encFd f)), ?_⟩, ?_, hnp⟩ hll
    ·simp only [go_sem]
    ·rw [hF5 _ (by simp)]
     simp only [go_sem]
    ·rw [List.map_append]
     exact hO
def t101 : Spec := spec1 (fun (c : LCalc) => (AOk c.x ∧ Cnt c.x) ∧ c = lcOf c.x) fun c => .sl ((sortedM c.x).map encO) false
theorem t101_ok : SpecOK Tryz.prog glB 101 t101 := spec1_ok E34_ok Tryz.func101 rfl (by kernel_rfl) fun c h => by
 have e : (Enc.enc c : PV) = .agg (encLC (lcOf c.x)) := by rw [← h.2]; rfl
 rw [e]; exact sorted_fn c.x h.1.1 h.1.2
end Wb
namespace Wb
open Go Go.Proofs Enc Row
set_option linter.unusedSimpArgs false
set_option linter.unusedVariables false
set_option maxRecDepth 20000
set_option maxHeartbeats 4000000
def prodC : List Int → Nat
 | [] => 1
 | c :: l => countF (readB c) * prodC l
structure GLine (y : LLine) : Prop where
 len : 1 ≤ y.digits.length ∧ y.digits.length ≤ 4
 dig : ∀ c ∈ y.digits, (1 ≤ c ∧ c ≤ 1023) ∧ 1 ≤ countF (readB c)
 ways : prodC y.digits ≤ 4
 sizes : y.sizes.length ≤ 3
 size : ∀ n ∈ y.sizes, 1 ≤ n ∧ n ≤ 99
 climb : y.sizes.Pairwise (· < ·)
 colours : 1 ≤ y.colours ∧ y.colours ≤ 15
 two : countF (readB y.colours) ≤ 2
 many : 1 ≤ y.mlo ∧ y.mlo ≤ y.mhi ∧ y.mhi ≤ 1000 ∧ y.mhi - y.mlo ≤ 1
 foot : (y.sizes = [] → 1 ≤ y.flo ∧ y.flo ≤ y.fhi ∧ y.fhi ≤ 400) ∧ (y.sizes ≠ [] → y.flo = 0 ∧ y.fhi = 0)
structure GL (x : Lett) : Prop where
 rack : GRack x.rack
 days : Days x
 money : 0 ≤ x.clo ∧ x.clo ≤ x.chi ∧ x.chi ≤ 10000000
 n : 1 ≤ x.lines.length ∧ x.lines.length ≤ 2
 line : ∀ y ∈ x.lines, GLine y
theorem countF_cons (b : Bool) (l : List Bool) : countF (b :: l) = (if b then 1 else 0) + countF l := by
 unfold countF
 rw [List.filter_cons]
 cases b <;> simp; omega
theorem noDig_count {c : Int} (h : noDig c = false) : 1 ≤ countF (readB c) := by
 refine Classical.byContradiction fun q => ?_
 have hz : countF (readB c) = 0 := by omega
 have hall : ∀ b ∈ readB c, b = false := fun b hb => by
  have h0 : (readB c).filter id = [] := List.eq_nil_of_length_eq_zero hz
  have := List.filter_eq_nil_iff.1 h0 b hb
  simpa using this
 have e : ∀ d, d ∈ [0, 1, 2, 3, 4, 5, 6, 7, 8, 9] → inF c d = false := fun d hd => hall _ (by
  simp only [List.mem_cons, List.not_mem_nil, or_false] at hd
  rcases hd with rfl | rfl | rfl | rfl | rfl | rfl | rfl | rfl | rfl | rfl <;> simp [readB])
 unfold noDig readB at h
 rw [e 0 (by simp), e 1 (by simp), e 2 (by simp), e 3 (by simp), e 4 (by simp), e 5 (by simp), e 6 (by simp), e 7 (by simp), e 8 (by simp), e 9 (by simp)] at h
 cases h
theorem dg_all : ∀ (l : List Int) (s : Bool × Int), (l.foldl dgStep s).1 = true → s.1 = true ∧ ∀ c ∈ l, (1 ≤ c ∧ c ≤ 1023) ∧ 1 ≤ countF (readB c)
 | [], s, h => ⟨h, fun c hc => by cases hc⟩
 | c :: l, s, h => by
  obtain ⟨h1, h2⟩ := dg_all l _ h
  simp only [dgStep, Bool.and_eq_true, decide_eq_true_eq, Bool.not_eq_true'] at h1
  exact ⟨h1.1.1, fun d hd => by
   rcases List.mem_cons.1 hd with e | e
   ·subst e; exact ⟨h1.1.2, noDig_count h1.2⟩
   ·exact h2 d e⟩
theorem prodC_pos : ∀ {l : List Int}, (∀ c ∈ l, 1 ≤ countF (readB c)) → 1 ≤ prodC l
 | [], _ => Nat.le_refl 1
 | c :: l, h => by
  have h1 := h c (List.mem_cons_self ..)
  have h2 := prodC_pos (l := l) fun d hd => h d (List.mem_cons_of_mem _ hd)
  exact Nat.mul_le_mul h1 h2
theorem dg_ways : ∀ (l : List Int) (s : Bool × Int), (∀ c ∈ l, 1 ≤ countF (readB c)) → 1 ≤ s.2 → (l.foldl dgStep s).2 ≤ 4 → s.2 * (prodC l : Int) ≤ 4
 | [], s, _, _, h => by simpa [prodC] using h
 | c :: l, s, hc, hs, h => by
  have h1 := hc c (List.mem_cons_self ..)
  have hp := prodC_pos (l := l) fun d hd => hc d (List.mem_cons_of_mem _ hd)
  have hm : 1 ≤ s.2 * (countF (readB c) : Int) := by
   have := Int.mul_le_mul hs (show (1 : Int) ≤ (countF (readB c) : Int) by omega) (by omega) (by omega)
   simpa using this
  have ih := dg_ways l (dgStep s c) (fun d hd => hc d (List.mem_cons_of_mem _ hd)) (by simp only [dgStep]; split <;> omega) h
  simp only [dgStep] at ih
  split at ih
  ·rw [prodC, Int.natCast_mul, ← Int.mul_assoc]; exact ih
  ·have : (1 : Int) ≤ (prodC l : Int) := by omega
   omega
theorem sz_all : ∀ (l : List Int) (s : Bool × Int), (l.foldl szStep s).1 = true → s.1 = true ∧ (∀ n ∈ l, s.2 < n ∧ n ≤ 99) ∧ l.Pairwise (· < ·)
 | [], s, h => ⟨h, (fun c hc => by cases hc), List.Pairwise.nil⟩
 | c :: l, s, h => by
  obtain ⟨h1, h2, h3⟩ := sz_all l _ h
  simp only [szStep, Bool.and_eq_true, decide_eq_true_eq] at h1 h2
  refine ⟨h1.1, fun d hd => ?_, List.pairwise_cons.2 ⟨fun d hd => (h2 d hd).1, h3⟩⟩
  rcases List.mem_cons.1 hd with e | e
  ·subst e; omega
  ·have := h2 d e; omega
theorem lline_good {y : LLine} (h : llineOk y = true) : GLine y := by
 simp only [llineOk, Bool.and_eq_true, decide_eq_true_eq] at h
 obtain ⟨⟨⟨h1, h2⟩, h3⟩, h4⟩ := h
 obtain ⟨a1, a2, a3⟩ := sz_all _ _ h1
 obtain ⟨b1, b2⟩ := dg_all _ _ a1
 have hw := dg_ways y.digits (line0 y, 1) (fun c hc => (b2 c hc).2) (Int.le_refl 1) h3
 simp only [line0, Bool.and_eq_true, decide_eq_true_eq] at b1
 obtain ⟨⟨⟨⟨c1, c2⟩, c3⟩, c4⟩, c5⟩ := b1
 have hm : y.mhi ≤ 1000 ∧ y.mhi ≤ y.mlo + 1 := by
  have h10 : y.mhi ≤ 1000 := by split at c5 <;> omega
  rw [wrap_id (by omega)] at c5
  split at c5 <;> omega
 refine ⟨by omega, b2, by simp only at hw; omega, by omega, fun n hn => ?_, a3, by omega, by omega, by omega, fun hs => ?_, fun hs => ?_⟩
 ·have := a2 n hn; simp only at this; omega
 ·unfold footB at h2
  rw [hs, if_neg (by simp)] at h2
  simp only [Bool.and_eq_true, decide_eq_true_eq] at h2
  omega
 ·unfold footB at h2
  rw [if_pos (by have := List.length_pos_iff.2 hs; omega)] at h2
  simp only [Bool.and_eq_true, beq_iff_eq] at h2
  exact h2
theorem lett_good {x : Lett} (h : lettOk x = true) : GL x := by
 simp only [lettOk, lett0, Bool.and_eq_true, decide_eq_true_eq, List.all_eq_true] at h
 obtain ⟨⟨⟨⟨⟨⟨h1, h2⟩, h3⟩, h4⟩, h5⟩, h6⟩, h7⟩ := h
 exact ⟨rack_good h1, ⟨by omega, by omega, by omega⟩, by omega, by omega, fun y hy => lline_good (h7 y hy)⟩
theorem GRack.okRack {r : Rack} (h : GRack r) : Wb.okRack r := by
 refine ⟨by unfold okInt; have := h.goods; omega, by have := h.len; omega, fun y hy => ?_⟩
 obtain ⟨g1, g2, g3, g4, _, _⟩ := h.issues y hy
 refine ⟨by unfold okInt; omega, by unfold okInt; omega, by unfold okInt; omega, by omega, fun e he => ?_⟩
 have ge := g4 e he
 have hg := h.goods
 obtain ⟨k1, k2, k3, k4, k5, _⟩ := ge
 refine ⟨by unfold okInt; omega, by unfold okInt; omega, by unfold okInt; omega, by omega, fun f hf => ?_⟩
 obtain ⟨m1, m2, m3⟩ := k5 f hf
 exact ⟨by unfold okInt; omega, by unfold okInt; omega, by unfold okInt; omega, by unfold okInt; omega⟩
theorem GL.mok {x : Lett} (h : GL x) : ∀ y ∈ x.lines, ∀ is ∈ x.rack.issues, MOk y is := fun y hy is his => by
 have gy := h.line y hy
 have gi := h.rack.issues is his
 exact ⟨gy.len.2, by unfold big; have := gy.sizes; omega, gy.many, gi.len, fun e he => (gi.entries e he).sizes.2⟩
theorem GL.aok {x : Lett} (h : GL x) : AOk x where
 g := ⟨h.rack.len.2, h.n.2, h.mok⟩
 r := h.rack.okRack
 t := ⟨h.rack.len.2, fun y hy => by have := h.rack.issues y hy; unfold okInt; have := this.days; have := (h.rack.issues y hy).held; omega⟩
 d := by have := h.days.lo; have := h.days.le; have := h.days.hi; unfold OkI; omega
 c := by have := h.money; unfold OkI; omega
 n := h.n.1
def cntJ (c : Int) : Nat → Nat
 | 0 => 0
 | j + 1 => (if inF c (9 - (j : Int)) = true then 1 else 0) + cntJ c j
theorem cntJ_all (c : Int) : cntJ c 10 = countF (readB c) := by
 unfold readB
 simp only [countF_cons]
 rfl
theorem tlN_cnt (f : Int → List Int) (first : Bool) (c : Int) (B : Nat) (h : ∀ d, (f d).length ≤ B) : ∀ j, (tlN f first c j).length ≤ cntJ c j * B
 | 0 => by simp [tlN]
 | j + 1 => by
  have h1 := tlN_cnt f first c B h j
  have h2 := h (9 - (j : Int))
  rw [tlN, List.length_append, cntJ, Nat.add_mul]
  by_cases q : inF c (9 - (j : Int)) = true
  ·rw [if_pos q, Nat.one_mul]
   split
   ·omega
   ·simp only [List.length_nil]; omega
  ·have q' : inF c (9 - (j : Int)) = false := by simpa using q
   rw [if_neg (by rw [q']; simp), if_neg q]
   simp only [List.length_nil]; omega
theorem numsS_cnt : ∀ (l : List Int) (first : Bool) (n : Int), (numsS l first n).length ≤ prodC l
 | [], _, _ => by simp [numsS, prodC]
 | c :: l, first, n => by
  rw [numsS]
  have := tlN_cnt (fun d => numsS l false (10 * n + d)) first c (prodC l) (fun d => numsS_cnt l false _) 10
  rw [cntJ_all] at this
  exact this
theorem GL.cnt {x : Lett} (h : GL x) : Cnt x := fun i hi j hj => by
 have hy := getD_mem (l := x.lines) default hj
 have his := getD_mem (l := x.rack.issues) default hi
 have hm := h.mok _ hy _ his
 have hw := (h.line _ hy).ways
 unfold candL meanL
 refine Nat.le_trans (flatMap_le _ 64 _ fun n _ => numL_le hm n) ?_
 have := numsS_cnt (x.lines.getD j default).digits true 0
 omega
theorem GL.spec {x : Lett} (h : GL x) : (AOk (lcOf x).x ∧ Cnt (lcOf x).x) ∧ lcOf x = lcOf (lcOf x).x := ⟨⟨h.aok, h.cnt⟩, rfl⟩
end Wb
namespace Wb
open Go Go.Proofs Enc Row
set_option linter.unusedSimpArgs false
set_option linter.unusedVariables false
set_option maxRecDepth 20000
set_option maxHeartbeats 8000000
noncomputable def E35t : List (Nat × Spec) := [(101, t101), (26, t26)] ++ E34t
theorem E35t_ok : AllOK E35t := ⟨⟨t101_ok, Tryz.call101⟩, ⟨t26_ok, Tryz.call26⟩, E34t_ok⟩
noncomputable def E35 : Env := mkE E35t []
theorem E35_ok : EnvOK Tryz.prog E35 := envOK E35t_ok trivial
theorem E35_ti {t : Nat} : E35.ti t = ti t := rfl
theorem E35_e {t : Nat} : E35.eqt t = eqB t := rfl
theorem E35_k {t : Nat} : E35.keyt t = keyB t := rfl
theorem E35_g {t : Nat} : E35.glob t = glB t := rfl
attribute [go_sem] E35_ti E35_e E35_k E35_g
def zeroLC : PV := .agg [.int .i64 0, .sl [] true, .int .i64 0, .int .i64 0, .sl [] true, .int .i64 0, .int .i64 0, .nilmap]
def askPV (x : Lett) (right : Bool) : PV :=
 if lettOk x = true then (if right = true then (if sortedM x = [] then .tup [.agg (encLC (lcOf x)), .sl [] true, .int .i64 4] else .tup [.agg (encLC (lcOf x)), .sl ((sortedM x).map encO) false, .int .i64 0])
  else .tup [zeroLC, .sl [] true, .int .i64 21]) else .tup [zeroLC, .sl [] true, .int .i64 20]
theorem lett_eta (x : Lett) : (⟨⟨x.rack.goods, x.rack.issues⟩, x.dlo, x.dhi, x.lines, x.clo, x.chi⟩ : Lett) = x := rfl
theorem encLC_lit (x : Lett) : encLC (lcOf x) = [.int .i64 x.rack.goods, .sl (x.rack.issues.map encI) false, .int .i64 x.dlo, .int .i64 x.dhi, .sl (x.lines.map encLL) false, .int .i64 x.clo, .int .i64 x.chi, .mp true 2 (openI x x.rack.issues.length)] := rfl
theorem lc_eta (x : Lett) : (⟨x, openI x x.rack.issues.length⟩ : LCalc) = lcOf x := rfl
theorem ltasked_fn (x : Lett) (hx : LOk x) (right : Bool) : Fn E35 0 61 Tryz.f61 (Tryz.f61.body.getD .skip) [.agg (encLt x), .bool right] (askPV x right) := by
 unfold Fn Tryz.f61 askPV
 cases hk : lettOk x with
 | false =>
  simp only [go_sem, @ct E35 26 t26 rfl, t26, encLt, lett_eta, callSpec, hk, if_false, zeroLC]
  exact hx
 | true =>
  have hg := lett_good hk
  cases right with
  | false =>
   simp only [go_sem, @ct E35 26 t26 rfl, t26, encLt, lett_eta, callSpec, hk, if_true, zeroLC]
   exact hx
  | true =>
   have hgs := eq_true hg.spec
   have hlg : LGood x := hg.aok.g
   have hxl := eq_true hx
   have hll : (lcOf x).x = x := rfl
   simp only [go_sem, @ct E35 26 t26 rfl, t26, @ct E35 63 t63 rfl, t63, @ct E35 101 t101 rfl, t101, encLt, lett_eta, callSpec, hk, if_true, hlg, encLC_lit, lc_eta, hgs, List.length_map, hxl, hll]
   refine ⟨⟨hg.aok, hg.cnt⟩, ?_⟩
   rw [condK_bool]
   refine ⟨fun h => ?_, fun h => ?_⟩
   ·have h' : sortedM x = [] := by
     have : ((sortedM x).length : Int) = 0 := by simpa using h
     exact List.eq_nil_of_length_eq_zero (by omega)
    simp only [go_sem, if_pos h']
   ·have h' : ¬ sortedM x = [] := fun e => by rw [e] at h; cases h
    simp only [go_sem, if_neg h']
def t61 : Spec := spec2 (fun (x : Lett) (_ : Bool) => LOk x) askPV
theorem t61_ok : SpecOK Tryz.prog glB 61 t61 := spec2_ok E35_ok Tryz.func61 rfl (by kernel_rfl) fun x r h => ltasked_fn x h r
def lineupO : List Line → Ord2
 | [a] => ⟨a, zLine⟩
 | [a, b] => ⟨a, b⟩
 | _ => ⟨zLine, zLine⟩
def lineupM (x : Lett) (ls : List Line) : Ord2 := if ls.length = x.lines.length then lineupO ls else ⟨zLine, zLine⟩
theorem lineup_fn (x : Lett) (hn : 1 ≤ x.lines.length ∧ x.lines.length ≤ 2) (ls : List Line) (hl : big ls.length) : Fn E35 0 64 Tryz.f64 (Tryz.f64.body.getD .skip) [.agg (encLC (lcOf x)), .sl (ls.map encL) false] (.tup [.agg (encO (lineupM x ls)), .bool (decide (ls.length = x.lines.length))]) := by
 unfold Fn Tryz.f64 lineupM
 by_cases h : ls.length = x.lines.length
 ·have hc : (∃ a, ls = [a]) ∨ ∃ a b, ls = [a, b] := by
   match ls, h with
   | [], h => simp only [List.length_nil] at h; omega
   | [a], _ => exact .inl ⟨a, rfl⟩
   | [a, b], _ => exact .inr ⟨a, b, rfl⟩
   | _ :: _ :: _ :: _, h => simp only [List.length_cons] at h; omega
  rw [if_pos h]
  have hd : decide (ls.length = x.lines.length) = true := by simpa using h
  rw [hd]
  rcases hc with ⟨⟨⟨a0, a1, a2⟩, a3⟩, rfl⟩ | ⟨⟨⟨a0, a1, a2⟩, a3⟩, ⟨⟨b0, b1, b2⟩, b3⟩, rfl⟩
  ·have hb : ((1 : Int) != (x.lines.length : Int)) = false := by rw [← h]; rfl
   simp only [go_sem, encLC_lit, List.length_map, hd, hb, cpy, rowsOf, lineupO, zLine, encL, encO, List.cons_append, List.nil_append, List.flatten_cons, List.flatten_nil, Int.natCast_one]
   rintro row rfl; exact ⟨rfl, rfl⟩
  ·have hb : ((2 : Int) != (x.lines.length : Int)) = false := by rw [← h]; rfl
   simp only [go_sem, encLC_lit, List.length_map, hd, hb, cpy, rowsOf, lineupO, zLine, encL, encO, List.cons_append, List.nil_append, List.flatten_cons, List.flatten_nil]
   rintro row (rfl | rfl) <;> exact ⟨rfl, rfl⟩
 ·rw [if_neg h]
  have hd : decide (ls.length = x.lines.length) = false := by simpa using h
  have hb : ((ls.length : Int) != (x.lines.length : Int)) = true := by simp only [bne_iff_ne, ne_eq]; omega
  simp only [go_sem, encLC_lit, List.length_map, hd, hb, zLine, encL, encO, List.cons_append, List.nil_append]
def t64 : Spec := spec2 (fun (c : LCalc) (ls : List Line) => (1 ≤ c.x.lines.length ∧ c.x.lines.length ≤ 2) ∧ big ls.length ∧ c = lcOf c.x) fun c ls => .tup [.agg (encO (lineupM c.x ls)), .bool (decide (ls.length = c.x.lines.length))]
theorem t64_ok : SpecOK Tryz.prog glB 64 t64 := spec2_ok E35_ok Tryz.func64 rfl (by kernel_rfl) fun c ls h => by
 have e : (Enc.enc c : PV) = .agg (encLC (lcOf c.x)) := by rw [← h.2.2]; rfl
 rw [e]; exact lineup_fn c.x h.1 ls h.2.1
noncomputable def E36t : List (Nat × Spec) := [(61, t61), (64, t64)] ++ E35t
theorem E36t_ok : AllOK E36t := ⟨⟨t61_ok, Tryz.call61⟩, ⟨t64_ok, Tryz.call64⟩, E35t_ok⟩
noncomputable def E36 : Env := mkE E36t []
theorem E36_ok : EnvOK Tryz.prog E36 := envOK E36t_ok trivial
theorem E36_ti {t : Nat} : E36.ti t = ti t := rfl
theorem E36_e {t : Nat} : E36.eqt t = eqB t := rfl
theorem E36_k {t : Nat} : E36.keyt t = keyB t := rfl
theorem E36_g {t : Nat} : E36.glob t = glB t := rfl
attribute [go_sem] E36_ti E36_e E36_k E36_g
def whenM (x : Lett) (ls : List Line) : Option Fnd := if ls.length = x.lines.length then getA (allM x) (lineupM x ls) else none
theorem GL.one {x : Lett} (h : GL x) : 1 ≤ (lcOf x).x.lines.length ∧ (lcOf x).x.lines.length ≤ 2 := h.n
theorem isOrder_fn (x : Lett) (hx : LOk x) (ls : List Line) (hl : big ls.length) : Fn E36 0 18 Tryz.f18 (Tryz.f18.body.getD .skip) [.agg (encLt x), .sl (ls.map encL) false] (if lettOk x = true then .tup [.bool (whenM x ls).isSome, .int .i64 0] else .tup [.bool false, .int .i64 20]) := by
 unfold Fn Tryz.f18
 have hxl := eq_true hx
 cases hk : lettOk x with
 | false =>
  simp only [go_sem, @ct E36 26 t26 rfl, t26, encLt, lett_eta, callSpec, hk, if_false, hxl]
 | true =>
  have hg := lett_good hk
  have hlg : LGood x := hg.aok.g
  have hbl := eq_true hl
  have hll : (lcOf x).x = x := rfl
  have h1 := eq_true hg.n.1
  have h2 := eq_true hg.n.2
  have hao := eq_true hg.aok
  obtain ⟨a0, a1, a2, a3, a4, a5, a6, a7, hO⟩ : ∃ a0 a1 a2 a3 a4 a5 a6 a7, lineupM x ls = ⟨⟨⟨a0, a1, a2⟩, a3⟩, ⟨⟨a4, a5, a6⟩, a7⟩⟩ := ⟨_, _, _, _, _, _, _, _, rfl⟩
  have hmg := mget_enc (lineupM x ls) (allM x)
  have hw : whenM x ls = if ls.length = x.lines.length then getA (allM x) (lineupM x ls) else none := rfl
  rw [hO] at hmg hw
  simp only [keyO] at hmg
  generalize hd : decide (ls.length = x.lines.length) = bd
  generalize hgA : getA (allM x) ⟨⟨⟨a0, a1, a2⟩, a3⟩, ⟨⟨a4, a5, a6⟩, a7⟩⟩ = oA at hmg hw
  have hres : (whenM x ls).isSome = (bd && oA.isSome) := by
   rw [hw, ← hd]
   by_cases q : ls.length = x.lines.length <;> simp [q]
  rw [hres]
  cases oA with
  | none =>
   simp only [go_sem, @ct E36 26 t26 rfl, t26, @ct E36 63 t63 rfl, t63, @ct E36 64 t64 rfl, t64, @ct E36 65 t65 rfl, t65, encLt, lett_eta, callSpec, hk, if_true, hlg, encLC_lit, lc_eta, List.length_map, hxl, hll, h1, h2, hbl, hao, dec_lines, hO, encO, encL, List.cons_append, List.nil_append, look, keyOf, ints, found, hmg, hd, Option.isSome_none]
   rfl
  | some f =>
   obtain ⟨f1, f2, f3, f4⟩ := f
   simp only [go_sem, @ct E36 26 t26 rfl, t26, @ct E36 63 t63 rfl, t63, @ct E36 64 t64 rfl, t64, @ct E36 65 t65 rfl, t65, encLt, lett_eta, callSpec, hk, if_true, hlg, encLC_lit, lc_eta, List.length_map, hxl, hll, h1, h2, hbl, hao, dec_lines, hO, encO, encL, List.cons_append, List.nil_append, look, keyOf, ints, found, hmg, hd, encFd, Option.isSome_some]
   rfl
def isOrdM (x : Lett) (ls : List Line) : PV := if lettOk x = true then .tup [.bool (whenM x ls).isSome, .int .i64 0] else .tup [.bool false, .int .i64 20]
def t18 : Spec := spec2 (fun (x : Lett) (ls : List Line) => LOk x ∧ big ls.length) isOrdM
theorem t18_ok : SpecOK Tryz.prog glB 18 t18 := spec2_ok E36_ok Tryz.func18 rfl (by kernel_rfl) fun x ls h => isOrder_fn x h.1 ls h.2
def whenPV (x : Lett) (ls : List Line) : PV := if lettOk x = true then (match whenM x ls with | some f => .tup [.agg [.int .i64 f.lo, .int .i64 f.hi], .int .i64 0] | none => .tup [.agg [.int .i64 0, .int .i64 0], .int .i64 4]) else .tup [.agg [.int .i64 0, .int .i64 0], .int .i64 20]
theorem when_fn (x : Lett) (hx : LOk x) (ls : List Line) (hl : big ls.length) : Fn E36 0 19 Tryz.f19 (Tryz.f19.body.getD .skip) [.agg (encLt x), .sl (ls.map encL) false] (whenPV x ls) := by
 unfold Fn Tryz.f19 whenPV
 have hxl := eq_true hx
 cases hk : lettOk x with
 | false =>
  simp only [go_sem, @ct E36 26 t26 rfl, t26, encLt, lett_eta, callSpec, hk, if_false, hxl]
 | true =>
  have hg := lett_good hk
  have hlg : LGood x := hg.aok.g
  have hbl := eq_true hl
  have hll : (lcOf x).x = x := rfl
  have h1 := eq_true hg.n.1
  have h2 := eq_true hg.n.2
  have hao := eq_true hg.aok
  obtain ⟨a0, a1, a2, a3, a4, a5, a6, a7, hO⟩ : ∃ a0 a1 a2 a3 a4 a5 a6 a7, lineupM x ls = ⟨⟨⟨a0, a1, a2⟩, a3⟩, ⟨⟨a4, a5, a6⟩, a7⟩⟩ := ⟨_, _, _, _, _, _, _, _, rfl⟩
  have hmg := mget_enc (lineupM x ls) (allM x)
  have hw : whenM x ls = if ls.length = x.lines.length then getA (allM x) (lineupM x ls) else none := rfl
  rw [hO] at hmg hw
  simp only [keyO] at hmg
  generalize hgA : getA (allM x) ⟨⟨⟨a0, a1, a2⟩, a3⟩, ⟨⟨a4, a5, a6⟩, a7⟩⟩ = oA at hmg hw
  by_cases q : ls.length = x.lines.length
  ·have hd : decide (ls.length = x.lines.length) = true := by simpa using q
   rw [if_pos q] at hw
   cases oA with
   | none =>
    simp only [go_sem, @ct E36 26 t26 rfl, t26, @ct E36 63 t63 rfl, t63, @ct E36 64 t64 rfl, t64, @ct E36 65 t65 rfl, t65, encLt, lett_eta, callSpec, hk, if_true, hlg, encLC_lit, lc_eta, List.length_map, hxl, hll, h1, h2, hbl, hao, dec_lines, hO, encO, encL, List.cons_append, List.nil_append, look, keyOf, ints, found, hmg, hd, hw]
    rfl
   | some f =>
    obtain ⟨f1, f2, f3, f4⟩ := f
    simp only [go_sem, @ct E36 26 t26 rfl, t26, @ct E36 63 t63 rfl, t63, @ct E36 64 t64 rfl, t64, @ct E36 65 t65 rfl, t65, encLt, lett_eta, callSpec, hk, if_true, hlg, encLC_lit, lc_eta, List.length_map, hxl, hll, h1, h2, hbl, hao, dec_lines, hO, encO, encL, List.cons_append, List.nil_append, look, keyOf, ints, found, hmg, hd, encFd, hw]
    rfl
  ·have hd : decide (ls.length = x.lines.length) = false := by simpa using q
   rw [if_neg q] at hw
   cases oA with
   | none =>
    simp only [go_sem, @ct E36 26 t26 rfl, t26, @ct E36 63 t63 rfl, t63, @ct E36 64 t64 rfl, t64, @ct E36 65 t65 rfl, t65, encLt, lett_eta, callSpec, hk, if_true, hlg, encLC_lit, lc_eta, List.length_map, hxl, hll, h1, h2, hbl, hao, dec_lines, hO, encO, encL, List.cons_append, List.nil_append, look, keyOf, ints, found, hmg, hd, hw]
    rfl
   | some f =>
    obtain ⟨f1, f2, f3, f4⟩ := f
    simp only [go_sem, @ct E36 26 t26 rfl, t26, @ct E36 63 t63 rfl, t63, @ct E36 64 t64 rfl, t64, @ct E36 65 t65 rfl, t65, encLt, lett_eta, callSpec, hk, if_true, hlg, encLC_lit, lc_eta, List.length_map, hxl, hll, h1, h2, hbl, hao, dec_lines, hO, encO, encL, List.cons_append, List.nil_append, look, keyOf, ints, found, hmg, hd, encFd, hw]
    rfl
def t19 : Spec := spec2 (fun (x : Lett) (ls : List Line) => LOk x ∧ big ls.length) whenPV
theorem t19_ok : SpecOK Tryz.prog glB 19 t19 := spec2_ok E36_ok Tryz.func19 rfl (by kernel_rfl) fun x ls h => when_fn x h.1 ls h.2
def manyPV (x : Lett) : PV := if lettOk x = true then .tup [.int .i64 (allM x).length, .int .i64 0] else .tup [.int .i64 0, .int .i64 20]
theorem ltmany_fn (x : Lett) (hx : LOk x) : Fn E36 0 21 Tryz.f21 (Tryz.f21.body.getD .skip) [.agg (encLt x)] (manyPV x) := by
 unfold Fn Tryz.f21 manyPV
 have hxl := eq_true hx
 cases hk : lettOk x with
 | false =>
  simp only [go_sem, @ct E36 26 t26 rfl, t26, encLt, lett_eta, callSpec, hk, if_false, hxl]
 | true =>
  have hg := lett_good hk
  have hlg : LGood x := hg.aok.g
  have hll : (lcOf x).x = x := rfl
  have hao := eq_true hg.aok
  have hen : (encAll (allM x)).length = (allM x).length := by simp [encAll]
  simp only [go_sem, @ct E36 26 t26 rfl, t26, @ct E36 63 t63 rfl, t63, @ct E36 65 t65 rfl, t65, encLt, lett_eta, callSpec, hk, if_true, hlg, encLC_lit, lc_eta, hxl, hll, hao, hen]
def t21 : Spec := spec1 LOk manyPV
theorem t21_ok : SpecOK Tryz.prog glB 21 t21 := spec1_ok E36_ok Tryz.func21 rfl (by kernel_rfl) fun x h => ltmany_fn x h
theorem binds_data (n : Nat) : Region.binds .any { on := n, ground := .data } = true := rfl
theorem binds_phase (n : Nat) : Region.binds .any { on := n, ground := .phase } = true := rfl
theorem binds_chain (n : Nat) : Region.binds .any { on := n, ground := .chain } = true := rfl
theorem binds_guard (n : Nat) : Region.binds .any { on := n, ground := .guard } = true := rfl
attribute [go_sem] binds_data binds_phase binds_chain binds_guard
structure CostOf (l : OL) (lo hi : Int) : Prop where
 a1 : ∃ e ∈ l, e.2.clo = lo
 a2 : ∀ e ∈ l, lo ≤ e.2.clo
 b1 : ∃ e ∈ l, e.2.chi = hi
 b2 : ∀ e ∈ l, e.2.chi ≤ hi
theorem CostOf.unique {l l' : OL} {a b a' b' : Int} (h : CostOf l a b) (k : CostOf l' a' b') (p : ∀ e, e ∈ l ↔ e ∈ l') : a = a' ∧ b = b' := by
 obtain ⟨⟨e1, m1, q1⟩, h2, ⟨e3, m3, q3⟩, h4⟩ := h
 obtain ⟨⟨f1, n1, r1⟩, k2, ⟨f3, n3, r3⟩, k4⟩ := k
 have := h2 f1 ((p _).2 n1)
 have := k2 e1 ((p _).1 m1)
 have := h4 f3 ((p _).2 n3)
 have := k4 e3 ((p _).1 m3)
 omega
theorem CostOf.add {l : OL} {lo hi : Int} (h : CostOf l lo hi) (e : Ord2 × Fnd) : CostOf (l ++ [e]) (min lo e.2.clo) (max hi e.2.chi) := by
 obtain ⟨⟨e1, m1, q1⟩, h2, ⟨e3, m3, q3⟩, h4⟩ := h
 have hm : ∀ d, d ∈ l ++ [e] ↔ d ∈ l ∨ d = e := fun d => by simp
 refine ⟨?_, fun d hd => ?_, ?_, fun d hd => ?_⟩
 ·by_cases q : lo ≤ e.2.clo
  ·exact ⟨e1, (hm _).2 (.inl m1), by omega⟩
  ·exact ⟨e, (hm _).2 (.inr rfl), by omega⟩
 ·rcases (hm _).1 hd with k | k
  ·have := h2 d k; omega
  ·subst k; omega
 ·by_cases q : e.2.chi ≤ hi
  ·exact ⟨e3, (hm _).2 (.inl m3), by omega⟩
  ·exact ⟨e, (hm _).2 (.inr rfl), by omega⟩
 ·rcases (hm _).1 hd with k | k
  ·have := h4 d k; omega
  ·subst k; omega
theorem CostOf.one (e : Ord2 × Fnd) : CostOf [e] e.2.clo e.2.chi :=
 ⟨⟨e, List.mem_singleton.2 rfl, rfl⟩, fun d hd => by rw [List.mem_singleton.1 hd]; exact Int.le_refl _, ⟨e, List.mem_singleton.2 rfl, rfl⟩, fun d hd => by rw [List.mem_singleton.1 hd]; exact Int.le_refl _⟩
def costSpan : OL → Int × Int
 | [] => (0, 0)
 | e :: l => l.foldl (fun s e => (min s.1 e.2.clo, max s.2 e.2.chi)) (e.2.clo, e.2.chi)
theorem costSpan_fold : ∀ (l l0 : OL) (s : Int × Int), CostOf l0 s.1 s.2 → CostOf (l0 ++ l) (l.foldl (fun s e => (min s.1 e.2.clo, max s.2 e.2.chi)) s).1 (l.foldl (fun s e => (min s.1 e.2.clo, max s.2 e.2.chi)) s).2
 | [], l0, s, h => by rw [List.append_nil]; exact h
 | e :: l, l0, s, h => by
  have := costSpan_fold l (l0 ++ [e]) (min s.1 e.2.clo, max s.2 e.2.chi) (h.add e)
  rwa [List.append_assoc] at this
theorem costSpan_of : ∀ {l : OL}, l ≠ [] → CostOf l (costSpan l).1 (costSpan l).2
 | [], h => absurd rfl h
 | e :: l, _ => costSpan_fold l [e] (e.2.clo, e.2.chi) (CostOf.one e)
theorem GL.okL {x : Lett} (h : GL x) : OkL (allM x) := fun e he => by
 have hm := getA_of_mem (keysM_once x) (show (e.1, e.2) ∈ allM x from he)
 rcases allM_told h.days e.1 with ⟨q, _⟩ | ⟨g, q, t⟩
 ·rw [q] at hm; cases hm
 ·rw [q] at hm
  cases hm
  have hd := h.days
  have hm := h.money
  have c1 : ∀ d, Mn x d e.1 → x.clo ≤ co x d e.1 ∧ co x d e.1 ≤ x.chi := fun d ⟨_, _, _, _, _, _, _, hc⟩ => by
   simpa only [inSpan, Bool.and_eq_true, decide_eq_true_eq] using hc
  obtain ⟨d1, _, p1, q1⟩ := t.clo
  obtain ⟨d2, _, p2, q2⟩ := t.chi
  have r1 := c1 d1 p1
  have r2 := c1 d2 p2
  have l1 := t.lo.1
  have l2 := t.hi.1
  have := hd.lo
  have := hd.hi
  exact ⟨by unfold OkI; omega, by unfold OkI; omega, by unfold OkI; omega, by unfold OkI; omega⟩
def costPV (x : Lett) : PV := if lettOk x = true then (if allM x = [] then .tup [.agg [.int .i64 0, .int .i64 0], .int .i64 4] else .tup [.agg [.int .i64 (costSpan (allM x)).1, .int .i64 (costSpan (allM x)).2], .int .i64 0]) else .tup [.agg [.int .i64 0, .int .i64 0], .int .i64 20]
theorem cost_fn' (x : Lett) (hx : LOk x) : Fn E36 0 25 Tryz.f25 (Tryz.f25.body.getD .skip) [.agg (encLt x)] (costPV x) := by
 unfold Fn Tryz.f25 costPV
 have hxl := eq_true hx
 cases hk : lettOk x with
 | false =>
  simp only [go_sem, @ct E36 26 t26 rfl, t26, encLt, lett_eta, callSpec, hk, if_false, hxl]
 | true =>
  have hg := lett_good hk
  have hlg : LGood x := hg.aok.g
  have hll : (lcOf x).x = x := rfl
  have hao := eq_true hg.aok
  have hok := hg.okL
  simp only [go_sem, @ct E36 26 t26 rfl, t26, @ct E36 63 t63 rfl, t63, @ct E36 65 t65 rfl, t65, encLt, lett_eta, callSpec, hk, if_true, hlg, encLC_lit, lc_eta, hxl, hll, hao, rangeV]
  generalize hA : allM x = A at hok ⊢
  refine ev_loopS [2, 3, 5, 18] (fun y : OL × OL × Int × Int => [(6, .bool (!y.2.1.isEmpty))]) (fun y H => (∃ cur, H ([], 25006003) = some (.iter true (encAll y.1) cur 1)) ∧ H ([], 25000001) = some (.cells [.int .i64 0, .int .i64 0] 1 false) ∧ H ([], 25004000) = some (.cells [.int .i64 y.2.2.1, .int .i64 y.2.2.2] 1 false) ∧
   (y.2.1 ++ y.1).Perm A ∧ (y.2.1 ≠ [] → CostOf y.2.1 y.2.2.1 y.2.2.2)) (fun y => y.1.length) (A, [], 0, 0) ?_ ⟨⟨none, ?_⟩, ?_, ?_, List.Perm.refl _, fun h => absurd rfl h⟩ ?_
  ·simp only [go_sem, List.isEmpty_nil]
  ·simp only [go_sem]
  ·simp only [go_sem]
  ·simp only [go_sem]
  ·simp only [go_sem]
   rintro K ⟨left, seen, lo, hi⟩ H ⟨⟨cur, h1⟩, h2, h3, h4, h5⟩ hK hE
   simp only at h1 h2 h3 h4 h5
   simp only [go_sem, nextV, h1]
   refine ⟨fun hz => ?_, fun i e he => ?_⟩
   ·have hl : left = [] := by cases left with
     | nil => rfl
     | cons a l => cases hz
    subst hl
    rw [List.append_nil] at h4
    refine hE _ _ _ (by simp) ?_
    cases seen with
    | nil =>
     have hAn : A = [] := h4.nil_eq.symm
     simp only [go_sem, List.isEmpty_nil, h2, if_pos hAn]
    | cons a l =>
     have hAn : A ≠ [] := fun q => by rw [q] at h4; have := h4.length_eq; simp at this
     obtain ⟨u1, u2⟩ := (h5 (by simp)).unique (costSpan_of hAn) fun e => h4.mem_iff
     simp only [go_sem, List.isEmpty_cons, h2, h3, if_neg hAn, u1, u2]
   ·obtain ⟨o, f, hof, rfl⟩ := encAll_get he
    rw [encAll_erase]
    have hpm := erase_perm hof
    have hll : (left.eraseIdx i).length < left.length := by rw [hpm.length_eq, List.length_cons]; omega
    have hnp : ((seen ++ [(o, f)]) ++ left.eraseIdx i).Perm A := by
     refine List.Perm.trans ?_ h4
     rw [List.append_assoc]
     exact List.Perm.append_left _ hpm.symm
    have hof' := hok (o, f) (h4.mem_iff.1 (List.mem_append_right _ (List.mem_of_getElem? hof)))
    obtain ⟨kf1, kf2, kf3, kf4⟩ := hof'
    have hb : big 1 = True := eq_true (by unfold big; omega)
    obtain ⟨f1, f2, f3, f4⟩ := f
    simp only at kf3 kf4
    cases seen with
    | nil =>
     simp only [go_sem, @ct E36 75 s108 rfl, s108, entryV, encFd, List.isEmpty_nil, h2, h3, neg_wrap kf4, least_min, max_neg kf4 kf4, hb, List.length_singleton, callSpec, dL_one1]
     refine hK (left.eraseIdx i, [(o, ⟨f1, f2, f3, f4⟩)], f3, f4) _ _ ?_ ⟨⟨some (keyO o, .agg (encFd ⟨f1, f2, f3, f4⟩)), ?_⟩, ?_, ?_, hnp, fun _ => CostOf.one _⟩ hll
     ·simp only [go_sem, List.isEmpty_cons]
     ·simp only [go_sem, encFd]
     ·simp only [go_sem, h2]
     ·simp only [go_sem, Int.min_self, Int.max_self]
    | cons a l =>
     have hcs := h5 (by simp)
     obtain ⟨⟨e1, m1, q1⟩, _, ⟨e3, m3, q3⟩, _⟩ := hcs
     have ko1 : OkI lo := by rw [← q1]; exact (hok e1 (h4.mem_iff.1 (List.mem_append_left _ m1))).clo
     have ko2 : OkI hi := by rw [← q3]; exact (hok e3 (h4.mem_iff.1 (List.mem_append_left _ m3))).chi
     simp only [go_sem, @ct E36 75 s108 rfl, s108, entryV, encFd, List.isEmpty_cons, h2, h3, neg_wrap kf4, neg_wrap ko2, least_min, max_neg ko2 kf4, hb, List.length_singleton, callSpec, dL_one1]
     refine hK (left.eraseIdx i, (a :: l) ++ [(o, ⟨f1, f2, f3, f4⟩)], min lo f3, max hi f4) _ _ ?_ ⟨⟨some (keyO o, .agg (encFd ⟨f1, f2, f3, f4⟩)), ?_⟩, ?_, ?_, hnp, fun _ => (h5 (by simp)).add (o, ⟨f1, f2, f3, f4⟩)⟩ hll
     ·simp only [go_sem, List.isEmpty_cons]
     ·simp only [go_sem, encFd]
     ·simp only [go_sem, h2]
     ·simp only [go_sem]
def t25 : Spec := spec1 LOk costPV
theorem t25_ok : SpecOK Tryz.prog glB 25 t25 := spec1_ok E36_ok Tryz.func25 rfl (by kernel_rfl) fun x h => cost_fn' x h
theorem clone_fn (a : Line) (l : List Line) (hl : l.length ≤ 1000) : Fn E0 0 62 Tryz.f62 (Tryz.f62.body.getD .skip) [.sl ((a :: l).map encL) false] (.sl ((a :: l).map encL) false) := by
 unfold Fn Tryz.f62
 have hrows : ∀ row ∈ (a :: l).map encL, row.length = 4 ∧ cells1 row = true := fun row h => by
  obtain ⟨y, _, rfl⟩ := List.mem_map.1 h; exact ⟨rfl, rfl⟩
 have hlen : ((a :: l).map encL).length = l.length + 1 := by simp
 simp only [go_sem, List.map_cons, app, rowsOf]
 refine ⟨fun row h => hrows row ?_, by omega⟩
 rw [List.map_cons]
 exact List.mem_cons.2 h
def t62 : Spec := spec1 (fun (l : List Line) => l ≠ [] ∧ l.length ≤ 1000) fun l => .sl (l.map encL) false
theorem t62_ok : SpecOK Tryz.prog glB 62 t62 := spec1_ok E0_ok Tryz.func62 rfl (by kernel_rfl) fun l h => by
 obtain ⟨h1, h2⟩ := h
 cases l with
 | nil => exact absurd rfl h1
 | cons a l => exact clone_fn a l (by simpa using Nat.le_of_succ_le h2)
def drowLs : List PV → Option (List Line)
 | [.sl rs _] => dL dLn rs
 | _ => none
instance : Row (List Line) where
 row l := [.sl (l.map encL) false]
 drow := drowLs
 wk_drow r l h := by
  unfold drowLs at h
  split at h
  ·exact ⟨⟨dL_wk (f := dLn) (enc := encL) (fun r a h => Row.wk_drow (α := Line) r a h) h, fun h => by cases h⟩, trivial⟩
  ·cases h
 drow_row l := dLn_map l
theorem dec_lines1 (a b c d : Int) (ex : Bool) : (dec (.sl [[.int .i64 a, .int .i64 b, .int .i64 c, .int .i64 d]] ex) : Option (List Line)) = some [⟨⟨a, b, c⟩, d⟩] := rfl
theorem dec_lines2 (a b c d e f g h : Int) (ex : Bool) : (dec (.sl [[.int .i64 a, .int .i64 b, .int .i64 c, .int .i64 d], [.int .i64 e, .int .i64 f, .int .i64 g, .int .i64 h]] ex) : Option (List Line)) = some [⟨⟨a, b, c⟩, d⟩, ⟨⟨e, f, g⟩, h⟩] := rfl
attribute [go_sem] dec_lines1 dec_lines2
def linesO (x : Lett) (o : Ord2) : List Line := if x.lines.length = 1 then [o.a] else [o.a, o.b]
def lsRow (l : List Line) : List PV := [.sl (l.map encL) true]
def ordersPV (x : Lett) : PV :=
 if lettOk x = true then (if sortedM x = [] then .tup [.sl [] true, .int .i64 4] else if 64 < (sortedM x).length then .tup [.sl [] true, .int .i64 6] else .tup [.sl ((sortedM x).map fun o => lsRow (linesO x o)) true, .int .i64 0])
 else .tup [.sl [] true, .int .i64 20]
noncomputable def E37t : List (Nat × Spec) := [(62, t62)] ++ E36t
theorem E37t_ok : AllOK E37t := ⟨⟨t62_ok, Tryz.call62⟩, E36t_ok⟩
noncomputable def E37 : Env := mkE E37t []
theorem E37_ok : EnvOK Tryz.prog E37 := envOK E37t_ok trivial
theorem E37_ti {t : Nat} : E37.ti t = ti t := rfl
theorem E37_e {t : Nat} : E37.eqt t = eqB t := rfl
theorem E37_k {t : Nat} : E37.keyt t = keyB t := rfl
theorem E37_g {t : Nat} : E37.glob t = glB t := rfl
attribute [go_sem] E37_ti E37_e E37_k E37_g
theorem orders_fn (x : Lett) (hx : LOk x) : Fn E37 0 15 Tryz.f15 (Tryz.f15.body.getD .skip) [.agg (encLt x)] (ordersPV x) := by
 unfold Fn Tryz.f15 ordersPV
 have hxl := eq_true hx
 cases hk : lettOk x with
 | false =>
  have ha : askPV x true = .tup [zeroLC, .sl [] true, .int .i64 20] := by unfold askPV; rw [hk]; rfl
  simp only [go_sem, @ct E37 61 t61 rfl, t61, encLt, lett_eta, callSpec, hk, if_false, hxl, ha, zeroLC]
 | true =>
  have hg := lett_good hk
  by_cases hs : sortedM x = []
  ·have ha : askPV x true = .tup [.agg (encLC (lcOf x)), .sl [] true, .int .i64 4] := by unfold askPV; rw [hk, if_pos rfl, if_pos rfl, if_pos hs]
   simp only [go_sem, @ct E37 61 t61 rfl, t61, encLt, lett_eta, callSpec, hk, if_true, hxl, ha, encLC_lit, if_pos hs]
  ·have ha : askPV x true = .tup [.agg (encLC (lcOf x)), .sl ((sortedM x).map encO) false, .int .i64 0] := by unfold askPV; rw [hk, if_pos rfl, if_pos rfl, if_neg hs]
   simp only [go_sem, @ct E37 61 t61 rfl, t61, encLt, lett_eta, callSpec, hk, if_true, hxl, ha, encLC_lit, if_neg hs, List.length_map]
   generalize sortedM x = S at hs ⊢
   rw [condK_bool]
   refine ⟨fun h => ?_, fun h => ?_⟩
   ·have h' : 64 < S.length := by have : (64 : Int) < (S.length : Int) := by simpa using h
                                  omega
    simp only [go_sem, if_pos h']
   ·have h' : ¬ 64 < S.length := by have : ¬ (64 : Int) < (S.length : Int) := by simpa using h
                                    omega
    simp only [go_sem, if_neg h', List.length_map]
    have hn : x.lines.length = 1 ∨ x.lines.length = 2 := by have := hg.n; omega
    refine ev_loopS [4, 23, 24] (fun y : Nat × PV => [(7, y.2), (25, .int .i64 y.1)]) (fun y H => y.1 ≤ S.length ∧ H ([], 15001006) = some (.cells (encLC (lcOf x)) 1 false) ∧ Own H (fun K => K = ([], 15011008)) y.2 1 ((S.take y.1).map fun o => lsRow (linesO x o))) (fun y => S.length - y.1) (0, .sl [] true) ?_ ⟨by simp, ?_, .inl ⟨rfl, rfl⟩⟩ ?_
    ·simp only [go_sem, Int.natCast_zero]
    ·simp only [go_sem, encLC_lit]
    ·simp only [go_sem]
     rintro K ⟨i, p⟩ H ⟨hi, h1, h2⟩ hK hE
     simp only at hi h1 h2
     have hOT := OwnTaint h2
     simp only [go_sem]
     rw [condK_bool]
     refine ⟨fun hc => ?_, fun hc => ?_⟩
     ·have hi' : i < S.length := by have := of_decide_eq_true hc; omega
      have hii : ((i : Int) < (S.length : Int)) = True := eq_true (by omega)
      have hi0 : (0 ≤ (i : Int)) = True := eq_true (by omega)
      have w2 : IntKind.i64.wrap ((i : Int) + 1) = (i : Int) + 1 := wrap_id (by omega)
      have htk : (S.take (i + 1)).map (fun o => lsRow (linesO x o)) = (S.take i).map (fun o => lsRow (linesO x o)) ++ [lsRow (linesO x (S.getD i default))] := by
       have e : S.getD i default = S[i] := by simp [hi']
       rw [List.take_succ_eq_append_getElem hi', List.map_append, e]; rfl
      have hlt : ((S.take i).map fun o => lsRow (linesO x o)).length ≤ 64 := by rw [List.length_map, List.length_take]; omega
      generalize hO : S.getD i default = O at htk
      obtain ⟨⟨⟨a0, a1, a2⟩, a3⟩, ⟨⟨a4, a5, a6⟩, a7⟩⟩ := O
      rw [encLC_lit] at h1
      have hne1 : (([⟨⟨a0, a1, a2⟩, a3⟩] : List Line) ≠ []) = True := eq_true (by simp)
      have hne2 : (([⟨⟨a0, a1, a2⟩, a3⟩, ⟨⟨a4, a5, a6⟩, a7⟩] : List Line) ≠ []) = True := eq_true (by simp)
      have hb1 : ((1 : Nat) ≤ 1000) = True := by simp
      have hb2 : ((2 : Nat) ≤ 1000) = True := by simp
      rcases hn with hn | hn
      ·have hnI : (x.lines.length : Int) = 1 := by omega
       simp only [go_sem, @ct E37 62 t62 rfl, t62, hii, hi0, Int.toNat_natCast, List.length_map, getD_mapN encO S i _ hi', hO, encO, encL, h1, hnI, hOT, arows, chunks, callSpec, Int.toNat_one]
       refine app_one trivial rfl rfl (by decide) (by decide) (set_at_eq _ _ _) (h2.frame fun K hK => ?_) rfl ?_ (fun row hr => ?_) ⟨rfl, rfl⟩ fun p5 H5 hO5 hF5 => ?_
       ·subst hK; simp only [go_sem]
       ·show (_ + 1) * 24 ≤ _
        omega
       ·obtain ⟨a, _, rfl⟩ := List.mem_map.1 hr; rfl
       ·have hOT5 := OwnTaint hO5
        simp only [go_sem, hOT5]
        refine hK (i + 1, p5) _ _ ?_ ⟨by simp only; omega, ?_, ?_⟩ (by simp only; omega)
        ·simp only [go_sem, w2, Int.natCast_add, Int.natCast_one]
        ·rw [hF5 _ (by simp)]
         simp only [go_sem, h1, encLC_lit]
        ·simp only [htk]
         have e : lsRow (linesO x ⟨⟨⟨a0, a1, a2⟩, a3⟩, ⟨⟨a4, a5, a6⟩, a7⟩⟩) = [.sl [[.int .i64 a0, .int .i64 a1, .int .i64 a2, .int .i64 a3]] true] := by unfold linesO; rw [if_pos hn]; rfl
         rw [e]; exact hO5
      ·have hnI : (x.lines.length : Int) = 2 := by omega
       simp only [go_sem, @ct E37 62 t62 rfl, t62, hii, hi0, Int.toNat_natCast, List.length_map, getD_mapN encO S i _ hi', hO, encO, encL, h1, hnI, hOT, arows, chunks, callSpec]
       refine app_one trivial rfl rfl (by decide) (by decide) (set_at_eq _ _ _) (h2.frame fun K hK => ?_) rfl ?_ (fun row hr => ?_) ⟨rfl, rfl⟩ fun p5 H5 hO5 hF5 => ?_
       ·subst hK; simp only [go_sem]
       ·show (_ + 1) * 24 ≤ _
        omega
       ·obtain ⟨a, _, rfl⟩ := List.mem_map.1 hr; rfl
       ·have hOT5 := OwnTaint hO5
        simp only [go_sem, hOT5]
        refine hK (i + 1, p5) _ _ ?_ ⟨by simp only; omega, ?_, ?_⟩ (by simp only; omega)
        ·simp only [go_sem, w2, Int.natCast_add, Int.natCast_one]
        ·rw [hF5 _ (by simp)]
         simp only [go_sem, h1, encLC_lit]
        ·simp only [htk]
         have e : lsRow (linesO x ⟨⟨⟨a0, a1, a2⟩, a3⟩, ⟨⟨a4, a5, a6⟩, a7⟩⟩) = [.sl [[.int .i64 a0, .int .i64 a1, .int .i64 a2, .int .i64 a3], [.int .i64 a4, .int .i64 a5, .int .i64 a6, .int .i64 a7]] true] := by unfold linesO; rw [if_neg (by omega)]; rfl
         rw [e]; exact hO5
     ·have hi' : i = S.length := by have : ¬ ((i : Int) < (S.length : Int)) := by simpa using hc
                                    omega
      subst hi'
      rw [List.take_length] at h2
      refine hE _ _ _ (by simp) ?_
      rcases h2 with ⟨q1, rfl⟩ | ⟨K2, v, rfl, rfl, q3⟩
      ·exact absurd (List.map_eq_nil_iff.1 q1) hs
      ·simp only [go_sem, q3, List.length_map]
def t15 : Spec := spec1 LOk ordersPV
theorem t15_ok : SpecOK Tryz.prog glB 15 t15 := spec1_ok E37_ok Tryz.func15 rfl (by kernel_rfl) fun x h => orders_fn x h
def sameT (a b : Item) : Bool := eqL (encT a) (encT b)
theorem sameT_iff {a b : Item} : sameT a b = true ↔ a = b := by
 obtain ⟨a0, a1, a2⟩ := a
 obtain ⟨b0, b1, b2⟩ := b
 simp [sameT, encT, eqL]
theorem index107_fn (l : List Item) (t : Item) (hl : big l.length) : Fn E0 0 107 Tryz.f107 (Tryz.f107.body.getD .skip) [.sl (l.map encT) false, .agg (encT t)] (.int .i64 (findI (sameT t) l 0)) := by
 unfold big at hl
 unfold Fn Tryz.f107
 have hsm : ∀ b, sameT t b = eqL (encT t) (encT b) := fun _ => rfl
 obtain ⟨t0, t1, t2⟩ := t
 simp only [encT] at hsm
 simp only [go_sem, encT, List.length_map]
 refine ev_loopS [0, 3, 6, 7] (fun i : Nat => [(8, .int .i64 i)]) (fun i H => i ≤ l.length ∧ findI (sameT ⟨t0, t1, t2⟩) (l.drop i) i = findI (sameT ⟨t0, t1, t2⟩) l 0 ∧ H ([], 107000000) = some (.cells [.int .i64 t0, .int .i64 t1, .int .i64 t2] 1 false)) (fun i => l.length - i) 0 ?_ ⟨Nat.zero_le _, by simp, ?_⟩ ?_
 ·simp only [go_sem, Int.natCast_zero]
 ·simp only [go_sem]
 ·simp only [go_sem]
  intro K i H ⟨hi, hf, h1⟩ hK hE
  rw [condK_bool]
  refine ⟨fun h => ?_, fun h => ?_⟩
  ·have hi' : i < l.length := by have := of_decide_eq_true h; omega
   have hii : ((i : Int) < (l.length : Int)) = True := eq_true (by omega)
   have hi0 : (0 ≤ (i : Int)) = True := eq_true (by omega)
   have w2 : IntKind.i64.wrap ((i : Int) + 1) = (i : Int) + 1 := wrap_id (by omega)
   have hfd := findI_drop (sameT ⟨t0, t1, t2⟩) hi'
   generalize hO : l.getD i default = O at hfd
   obtain ⟨o0, o1, o2⟩ := O
   have hsm' := hsm ⟨o0, o1, o2⟩
   simp only [go_sem] at hsm'
   simp only [go_sem, hii, hi0, Int.toNat_natCast, List.length_map, getD_mapN encT l i _ hi', hO, encT, h1]
   rw [← hsm', condK_bool]
   refine ⟨fun h2 => ?_, fun h2 => ?_⟩
   ·rw [if_pos h2] at hfd
    simp only [go_sem]
    refine hE _ _ _ (by simp) ?_
    simp only [go_sem]
    rw [← hf, hfd]
   ·rw [if_neg (by rw [h2]; simp)] at hfd
    simp only [go_sem]
    refine hK (i + 1) _ _ ?_ ⟨by omega, by rw [← hf, hfd], ?_⟩ (by omega)
    ·simp only [go_sem, w2, Int.natCast_add, Int.natCast_one]
    ·simp only [go_sem, h1]
  ·have hi' : i = l.length := by have : ¬ ((i : Int) < (l.length : Int)) := by simpa using h
                                 omega
   subst hi'
   simp only [go_sem]
   refine hE _ _ _ (by simp) ?_
   simp only [go_sem]
   rw [← hf, List.drop_length]; rfl
theorem dec_items (l : List Item) (ex : Bool) : (dec (.sl (l.map encT) ex) : Option (List Item)) = some l := drows_rows (α := Item) l
attribute [go_sem] dec_items
def t107 : Spec := spec2 (fun (l : List Item) (_ : Item) => big l.length) fun l t => .int .i64 (findI (sameT t) l 0)
theorem t107_ok : SpecOK Tryz.prog glB 107 t107 := spec2_ok E0_ok Tryz.func107 rfl (by kernel_rfl) fun l t h => index107_fn l t h
def contB (l : List Item) (t : Item) : Bool := decide (findI (sameT t) l 0 ≥ 0)
theorem findI_any {α : Type} (p : α → Bool) : ∀ (l : List α) (i : Nat), findI p l i ≥ 0 ↔ ∃ a ∈ l, p a = true
 | [], i => by simp [findI]
 | a :: l, i => by
  have ih := findI_any p l (i + 1)
  rw [findI]
  by_cases hp : p a = true
  ·rw [if_pos hp]; simp [hp]
  ·rw [if_neg hp, ih]; simp [hp]
theorem contB_iff {l : List Item} {t : Item} : contB l t = true ↔ t ∈ l := by
 unfold contB
 rw [decide_eq_true_eq, findI_any]
 constructor
 ·rintro ⟨a, h1, h2⟩; rw [sameT_iff.1 h2]; exact h1
 ·exact fun h => ⟨t, h, sameT_iff.2 rfl⟩
def E38t : List (Nat × Spec) := [(107, t107), (110, t110), (72, t72)]
theorem E38t_ok : AllOK E38t := ⟨⟨t107_ok, Tryz.call107⟩, ⟨t110_ok, Tryz.call110⟩, ⟨t72_ok, Tryz.call72⟩, trivial⟩
noncomputable def E38 : Env := mkE E38t []
theorem E38_ok : EnvOK Tryz.prog E38 := envOK E38t_ok trivial
theorem E38_ti {t : Nat} : E38.ti t = ti t := rfl
theorem E38_e {t : Nat} : E38.eqt t = eqB t := rfl
theorem E38_k {t : Nat} : E38.keyt t = keyB t := rfl
theorem E38_g {t : Nat} : E38.glob t = glB t := rfl
attribute [go_sem] E38_ti E38_e E38_k E38_g
theorem contains68_fn (l : List Item) (t : Item) (hl : big l.length) : Fn E38 0 68 Tryz.f68 (Tryz.f68.body.getD .skip) [.sl (l.map encT) false, .agg (encT t)] (.bool (contB l t)) := by
 unfold Fn Tryz.f68
 have hbl := eq_true hl
 obtain ⟨t0, t1, t2⟩ := t
 simp only [go_sem, @ct E38 107 t107 rfl, t107, encT, callSpec, hbl, contB]
def t68 : Spec := spec2 (fun (l : List Item) (_ : Item) => big l.length) fun l t => .bool (contB l t)
theorem t68_ok : SpecOK Tryz.prog glB 68 t68 := spec2_ok E38_ok Tryz.func68 rfl (by kernel_rfl) fun l t h => contains68_fn l t h
def orF : List Int → Int
 | [] => 0
 | a :: l => if a = 0 then orF l else a
theorem orF_drop {l : List Int} {i : Nat} (h : i < l.length) : orF (l.drop i) = if l.getD i 0 = 0 then orF (l.drop (i + 1)) else l.getD i 0 := by
 have e : l.getD i 0 = l[i] := by simp [h]
 rw [e, List.drop_eq_getElem_cons h]; rfl
theorem or_fn (l : List Int) (hl : big l.length) : Fn E0 0 71 Tryz.f71 (Tryz.f71.body.getD .skip) [.sl (il l) false] (.int .i64 (orF l)) := by
 unfold big at hl
 unfold Fn Tryz.f71
 simp only [go_sem, il_length]
 refine ev_loopS [3, 6, 7] (fun i : Nat => [(8, .int .i64 i)]) (fun i H => i ≤ l.length ∧ orF (l.drop i) = orF l) (fun i => l.length - i) 0 ?_ ⟨Nat.zero_le _, by simp⟩ ?_
 ·simp only [go_sem, Int.natCast_zero, il_length]
 ·simp only [go_sem]
  intro K i H ⟨hi, hf⟩ hK hE
  rw [condK_bool]
  refine ⟨fun h => ?_, fun h => ?_⟩
  ·have hi' : i < l.length := by have := of_decide_eq_true h; omega
   have hii : ((i : Int) < (l.length : Int)) = True := eq_true (by omega)
   have hi0 : (0 ≤ (i : Int)) = True := eq_true (by omega)
   have w2 : IntKind.i64.wrap ((i : Int) + 1) = (i : Int) + 1 := wrap_id (by omega)
   have hfd := orF_drop hi'
   simp only [go_sem, hii, hi0, Int.toNat_natCast, il_get, il_length]
   rw [condK_bool]
   refine ⟨fun h2 => ?_, fun h2 => ?_⟩
   ·have h2' : ¬ l.getD i 0 = 0 := by simpa using h2
    rw [if_neg h2'] at hfd
    simp only [go_sem]
    refine hE _ _ _ (by simp) ?_
    simp only [go_sem]
    rw [← hf, hfd]
   ·have h2' : l.getD i 0 = 0 := by simpa using h2
    rw [if_pos h2'] at hfd
    simp only [go_sem]
    refine hK (i + 1) _ _ ?_ ⟨by omega, by rw [← hf, hfd]⟩ (by omega)
    simp only [go_sem, w2, Int.natCast_add, Int.natCast_one]
  ·have hi' : i = l.length := by have : ¬ ((i : Int) < (l.length : Int)) := by simpa using h
                                 omega
   subst hi'
   simp only [go_sem]
   refine hE _ _ _ (by simp) ?_
   simp only [go_sem]
   rw [← hf, List.drop_length]; rfl
def t71 : Spec := spec1 (fun (l : List Int) => big l.length) fun l => .int .i64 (orF l)
theorem t71_ok : SpecOK Tryz.prog glB 71 t71 := spec1_ok E0_ok Tryz.func71 rfl (by kernel_rfl) fun l h => or_fn l h
def keyT (t : Item) : List Int := [t.good, t.size, t.colour]
theorem keyT_len (t : Item) : (keyT t).length = 3 := rfl
theorem keyT_inj {a b : Item} (h : keyT a = keyT b) : a = b := by
 obtain ⟨a0, a1, a2⟩ := a
 obtain ⟨b0, b1, b2⟩ := b
 simp only [keyT, List.cons.injEq, and_true] at h
 obtain ⟨rfl, rfl, rfl⟩ := h
 rfl
def cmpT (a b : Item) : Int := cmpK (keyT a) (keyT b)
noncomputable def E39t : List (Nat × Spec) := [(68, t68), (71, t71)] ++ E38t ++ E37t
theorem E39t_ok : AllOK E39t := AllOK.append (l := [(68, t68), (71, t71)] ++ E38t) ⟨⟨t68_ok, Tryz.call68⟩, ⟨t71_ok, Tryz.call71⟩, E38t_ok⟩ E37t_ok
noncomputable def E39 : Env := mkE E39t []
theorem E39_ok : EnvOK Tryz.prog E39 := envOK E39t_ok trivial
theorem E39_ti {t : Nat} : E39.ti t = ti t := rfl
theorem E39_e {t : Nat} : E39.eqt t = eqB t := rfl
theorem E39_k {t : Nat} : E39.keyt t = keyB t := rfl
theorem E39_g {t : Nat} : E39.glob t = glB t := rfl
attribute [go_sem] E39_ti E39_e E39_k E39_g
theorem dL_three (a b c : Int) (ex : Bool) : (dec (.sl [[.int .i64 a], [.int .i64 b], [.int .i64 c]] ex) : Option (List Int)) = some [a, b, c] := rfl
theorem can1_fn (a b : Item) : Fn E39 0 70 Tryz.f70 (Tryz.f70.body.getD .skip) [.agg (encT a), .agg (encT b)] (.int .i64 (cmpT a b)) := by
 unfold Fn Tryz.f70
 have hr : cmpT a b = orF [cmpI a.good b.good, cmpI a.size b.size, cmpI a.colour b.colour] := by
  unfold cmpT keyT
  simp only [cmpK, orF]
 rw [hr]
 obtain ⟨a0, a1, a2⟩ := a
 obtain ⟨b0, b1, b2⟩ := b
 have hb : big 3 = True := eq_true (by unfold big; omega)
 simp only [go_sem, @ct E39 71 t71 rfl, t71, @ct E39 72 t72 rfl, t72, encT, callSpec, dL_three, hb, waits2]
def t70 : Spec := spec2 (fun (_ _ : Item) => True) fun a b => .int .i64 (cmpT a b)
theorem t70_ok : SpecOK Tryz.prog glB 70 t70 := spec2_ok E39_ok Tryz.func70 rfl (by kernel_rfl) fun a b _ => can1_fn a b
theorem rI_keyT : (rI keyT : Item → List PV) = encT := by funext o; rfl
def sortTM : MSpec := sortFM keyT 3 cmpT 70
theorem sortTM_ok : MutOK Tryz.prog glB 69 sortTM :=
 sortFM_ok (f := keyT) (k := 3) (cf := cmpT) (g := 70) (s := t70) Tryz.sortT keyT_len (by decide) Tryz.isAgg77 Tryz.sizeOf77 (swoK keyT 3 keyT_len) (totK keyT 3 keyT_len fun _ _ => keyT_inj) Tryz.call70 t70_ok fun a b => rfl
noncomputable def E40t : List (Nat × Spec) := [(70, t70)] ++ E39t
theorem E40t_ok : AllOK E40t := ⟨⟨t70_ok, Tryz.call70⟩, E39t_ok⟩
noncomputable def E40 : Env := mkM E40t [] [(69, sortTM)]
theorem E40_ok : EnvOK Tryz.prog E40 := envMOK E40t_ok trivial ⟨⟨sortTM_ok, Tryz.call69⟩, trivial⟩
theorem E40_ti {t : Nat} : E40.ti t = ti t := rfl
theorem E40_e {t : Nat} : E40.eqt t = eqB t := rfl
theorem E40_k {t : Nat} : E40.keyt t = keyB t := rfl
theorem E40_g {t : Nat} : E40.glob t = glB t := rfl
attribute [go_sem] E40_ti E40_e E40_k E40_g
def dstep (acc : List Item) (t : Item) : List Item := if contB acc t = true then acc else acc ++ [t]
def itemsD (S : List Ord2) (line : Int) : List Item := S.foldl (fun acc o => dstep acc (lineO o line).item) []
def itemsM (x : Lett) (line : Int) : List Item := sortB cmpT (itemsD (sortedM x) line)
def lineB (x : Lett) (line : Int) : Bool := decide (0 ≤ line) && decide (line ≤ (x.lines.length : Int) - 1)
def canPV (x : Lett) (line : Int) : PV :=
 if lettOk x = true then (if lineB x line = true then (if sortedM x = [] then .tup [.sl [] true, .int .i64 4] else .tup [.sl ((itemsM x line).map encT) true, .int .i64 0]) else .tup [.sl [] true, .int .i64 21])
 else .tup [.sl [] true, .int .i64 20]
theorem dstep_mem {acc : List Item} {t a : Item} : a ∈ dstep acc t ↔ a ∈ acc ∨ a = t := by
 unfold dstep
 by_cases h : contB acc t = true
 ·rw [if_pos h]; exact ⟨.inl, fun q => q.elim id fun e => by rw [e]; exact contB_iff.1 h⟩
 ·rw [if_neg h]; simp
theorem dstep_ne (acc : List Item) (t : Item) : dstep acc t ≠ [] := fun e => by
 have : t ∈ dstep acc t := dstep_mem.2 (.inr rfl)
 rw [e] at this; cases this
theorem itemsD_ne {S : List Ord2} (h : S ≠ []) (line : Int) : itemsD S line ≠ [] := by
 unfold itemsD
 obtain ⟨l, a, rfl⟩ : ∃ l a, S = l ++ [a] := ⟨S.dropLast, S.getLast h, by rw [List.dropLast_concat_getLast]⟩
 rw [List.foldl_append]
 exact dstep_ne _ _
theorem dstep_len (acc : List Item) (t : Item) : (dstep acc t).length ≤ acc.length + 1 := by unfold dstep; split <;> simp
theorem itemsD_len : ∀ (S : List Ord2) (line : Int) (acc : List Item), (S.foldl (fun acc o => dstep acc (lineO o line).item) acc).length ≤ acc.length + S.length
 | [], _, _ => by simp
 | o :: S, line, acc => by
  have h1 := itemsD_len S line (dstep acc (lineO o line).item)
  have h2 := dstep_len acc (lineO o line).item
  rw [List.foldl_cons, List.length_cons]; omega
theorem sortedM_len {x : Lett} (h : GL x) : (sortedM x).length ≤ 3407872 := by
 unfold sortedM; rw [sortB_len]; exact keysM_len h.aok h.cnt
theorem can_fn (x : Lett) (hx : LOk x) (line : Int) : Fn E40 1 22 Tryz.f22 (Tryz.f22.body.getD .skip) [.agg (encLt x), .int .i64 line] (canPV x line) := by
 unfold Fn Tryz.f22 canPV
 have hxl := eq_true hx
 have hbg : (x.lines.length : Int) < 4611686018427387904 := by have := hx.2.1; unfold big at this; omega
 have w1 : IntKind.i64.wrap ((x.lines.length : Int) - 1) = (x.lines.length : Int) - 1 := wrap_id (by omega)
 have hlb : (decide (0 ≤ line) && decide (line ≤ (x.lines.length : Int) - 1)) = lineB x line := rfl
 cases hk : lettOk x with
 | false =>
  have ha : ∀ b, askPV x b = .tup [zeroLC, .sl [] true, .int .i64 20] := fun b => by unfold askPV; rw [hk]; rfl
  simp only [go_sem, @ct E40 61 t61 rfl, t61, @ct E40 67 sTween rfl, sTween, encLt, lett_eta, callSpec, hk, if_false, hxl, ha, zeroLC, List.length_map, w1, hlb]
 | true =>
  have hg := lett_good hk
  cases hlB : lineB x line with
  | false =>
   have ha : askPV x false = .tup [zeroLC, .sl [] true, .int .i64 21] := by unfold askPV; rw [hk]; rfl
   simp only [go_sem, @ct E40 61 t61 rfl, t61, @ct E40 67 sTween rfl, sTween, encLt, lett_eta, callSpec, hk, if_true, hxl, ha, zeroLC, List.length_map, w1, hlb, hlB]
  | true =>
   by_cases hs : sortedM x = []
   ·have ha : askPV x true = .tup [.agg (encLC (lcOf x)), .sl [] true, .int .i64 4] := by unfold askPV; rw [hk, if_pos rfl, if_pos rfl, if_pos hs]
    simp only [go_sem, @ct E40 61 t61 rfl, t61, @ct E40 67 sTween rfl, sTween, encLt, lett_eta, callSpec, hk, if_true, hxl, ha, encLC_lit, List.length_map, w1, hlb, hlB, if_pos hs]
   ·have ha : askPV x true = .tup [.agg (encLC (lcOf x)), .sl ((sortedM x).map encO) false, .int .i64 0] := by unfold askPV; rw [hk, if_pos rfl, if_pos rfl, if_neg hs]
    have hSl := sortedM_len hg
    have hit : itemsM x line = sortB cmpT (itemsD (sortedM x) line) := rfl
    simp only [go_sem, @ct E40 61 t61 rfl, t61, @ct E40 67 sTween rfl, sTween, encLt, lett_eta, callSpec, hk, if_true, hxl, ha, encLC_lit, List.length_map, w1, hlb, hlB, if_neg hs, hit]
    have hl2 : line = 0 ∨ line = 1 := by
     simp only [lineB, Bool.and_eq_true, decide_eq_true_eq] at hlB
     have := hg.n; omega
    generalize sortedM x = S at hs hSl ⊢
    refine ev_loopS [1, 27, 28] (fun y : Nat × PV => [(9, y.2), (29, .int .i64 y.1)]) (fun y H => y.1 ≤ S.length ∧ Own H (fun K => K = ([], 22009006)) y.2 3 ((itemsD (S.take y.1) line).map encT)) (fun y => S.length - y.1) (0, .sl [] true) ?_ ⟨by simp, .inl ⟨rfl, rfl⟩⟩ ?_
    ·simp only [go_sem, Int.natCast_zero]
    ·simp only [go_sem]
     rintro K ⟨i, p⟩ H ⟨hi, h2⟩ hK hE
     simp only at hi h2
     have hOT := OwnTaint h2
     simp only [go_sem]
     rw [condK_bool]
     refine ⟨fun hc => ?_, fun hc => ?_⟩
     ·have hi' : i < S.length := by have := of_decide_eq_true hc; omega
      have hii : ((i : Int) < (S.length : Int)) = True := eq_true (by omega)
      have hi0 : (0 ≤ (i : Int)) = True := eq_true (by omega)
      have w2 : IntKind.i64.wrap ((i : Int) + 1) = (i : Int) + 1 := wrap_id (by omega)
      have htk : itemsD (S.take (i + 1)) line = dstep (itemsD (S.take i) line) (lineO (S.getD i default) line).item := by
       have e : S.getD i default = S[i] := by simp [hi']
       unfold itemsD
       rw [List.take_succ_eq_append_getElem hi', List.foldl_append, e]; rfl
      have hlt : (itemsD (S.take i) line).length ≤ 3407872 := by
       have := itemsD_len (S.take i) line []
       unfold itemsD
       rw [List.length_nil, List.length_take] at this
       omega
      have hbig : big (itemsD (S.take i) line).length = True := eq_true (by unfold big; omega)
      have h2c := h2
      obtain ⟨P, hP⟩ : ∃ P, P = p := ⟨_, rfl⟩
      generalize hO : S.getD i default = O at htk
      generalize hI : itemsD (S.take i) line = I at *
      have hlen : (I.map encT).length = I.length := List.length_map ..
      obtain ⟨⟨⟨a0, a1, a2⟩, a3⟩, ⟨⟨a4, a5, a6⟩, a7⟩⟩ := O
      have hb0 : big 0 = True := eq_true (by unfold big; omega)
      rcases hl2 with rfl | rfl
      case' inl => have hit : (lineO ⟨⟨⟨a0, a1, a2⟩, a3⟩, ⟨⟨a4, a5, a6⟩, a7⟩⟩ 0).item = ⟨a0, a1, a2⟩ := rfl
      case' inr => have hit : (lineO ⟨⟨⟨a0, a1, a2⟩, a3⟩, ⟨⟨a4, a5, a6⟩, a7⟩⟩ 1).item = ⟨a4, a5, a6⟩ := by unfold lineO; rw [if_neg (by decide)]
      all_goals
       rw [hit] at htk
       rcases h2c with ⟨q1, rfl⟩ | ⟨K2, v, q2, rfl, q3⟩
       case' inl => have q3 : True := trivial
       case' inl => have hIn : I = [] := List.map_eq_nil_iff.1 q1
       case' inl => subst hIn
       case' inr => subst q2
       case' inr => rw [hlen] at h2 hP
       all_goals
        simp only [go_sem, @ct E40 68 t68 rfl, t68, hii, hi0, Int.toNat_natCast, List.length_map, getD_mapN encO S i _ hi', hO, encO, encL, List.cons_append, List.nil_append, callSpec, hbig, hb0, q3, dec_items]
        rw [condK_bool]
        refine ⟨fun hcb => ?_, fun hcb => ?_⟩
        ·have hcb' := hcb
         simp only [Bool.not_eq_true'] at hcb'
         have hds : ∀ (J : List Item) t, contB J t = false → dstep J t = J ++ [t] := fun J t h => if_neg (by rw [h]; simp)
         rw [hds _ _ hcb'] at htk
         simp only [go_sem]
         refine app_one trivial rfl rfl (by decide) (by decide) (set_at_eq _ _ _) (h2.frame fun K hK => ?_) rfl ?_ (fun row hr => ?_) ⟨rfl, rfl⟩ fun p5 H5 hO5 hF5 => ?_
         ·subst hK; simp only [go_sem]
         ·show (_ + 1) * 24 ≤ _
          simp only [List.length_map] at hlt ⊢
          omega
         ·obtain ⟨a, _, rfl⟩ := List.mem_map.1 hr; rfl
         ·have hOT5 := OwnTaint hO5
          simp only [go_sem, hOT5]
          refine hK (i + 1, p5) _ _ ?_ ⟨by simp only; omega, ?_⟩ (by simp only; omega)
          ·simp only [go_sem, w2, Int.natCast_add, Int.natCast_one]
          ·simp only [htk, List.map_append]
           exact hO5
        ·have hcb' := hcb
         simp only [Bool.not_eq_false'] at hcb'
         have hds : ∀ (J : List Item) t, contB J t = true → dstep J t = J := fun J t h => if_pos h
         rw [hds _ _ hcb'] at htk
         simp only [go_sem]
         refine hK (i + 1, P) _ _ ?_ ⟨by simp only; omega, ?_⟩ (by simp only; omega)
         ·simp only [go_sem, w2, hP, Int.natCast_add, Int.natCast_one]
         ·simp only [htk, hP]
          exact h2.frame fun K hK => by subst hK; simp only [go_sem]
     ·have hi' : i = S.length := by have : ¬ ((i : Int) < (S.length : Int)) := by simpa using hc
                                    omega
      subst hi'
      rw [List.take_length] at h2
      refine hE _ _ _ (by simp) ?_
      have hne := itemsD_ne hs line
      have hlt : (itemsD S line).length ≤ 3407872 := by
       have := itemsD_len S line []
       unfold itemsD
       rw [List.length_nil] at this
       omega
      generalize itemsD S line = I at *
      rcases h2 with ⟨q1, rfl⟩ | ⟨K2, v, rfl, rfl, q3⟩
      ·exact absurd (List.map_eq_nil_iff.1 q1) hne
      ·rw [← rI_keyT] at q3
       simp only [go_sem, @callV_in E40 69 rfl, heavy_none, @callN_mt E40 69 sortTM rfl rfl, sortTM, sortFM, List.length_map]
       refine ⟨I, q3, rfl, by omega, ?_⟩
       simp only [go_sem, rI_keyT, sortB_len, List.length_map]
def t22 : Spec := spec2 (fun (x : Lett) (_ : Int) => LOk x) canPV
theorem t22_ok : SpecOK Tryz.prog glB 22 t22 := spec2_ok E40_ok Tryz.func22 rfl (by kernel_rfl) fun x l h => can_fn x h l
end Wb
