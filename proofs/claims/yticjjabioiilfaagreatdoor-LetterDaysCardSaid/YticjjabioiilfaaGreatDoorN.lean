import Derived.Test.YticjjabioiilfaaGreatDoorM
set_option linter.unusedVariables false
set_option linter.unusedSimpArgs false
namespace Wb
open Go Go.Proofs Enc Row
set_option linter.unusedSimpArgs false
set_option linter.unusedVariables false
set_option maxRecDepth 20000
set_option maxHeartbeats 8000000
def lotI (lo hi n : Int) : Int := if hi ≤ lo then lo else lo + spinF n (hi - lo + 1)
def t16 : Spec := spec2 (fun (a : Int × Int) (n : Int) => (0 ≤ a.1 ∧ a.1 ≤ 1000000000) ∧ (0 ≤ a.2 ∧ a.2 ≤ 1000000000)) (fun a n => .int .i64 (lotI a.1 a.2 n))
noncomputable def E52t : List (Nat × Spec) := [(13, t13), (16, t16)] ++ E51t
noncomputable def E52 : Env := mkE E52t []
theorem E52_ti {t : Nat} : E52.ti t = ti t := rfl
theorem E52_e {t : Nat} : E52.eqt t = eqB t := rfl
theorem E52_k {t : Nat} : E52.keyt t = keyB t := rfl
theorem E52_g {t : Nat} : E52.glob t = glB t := rfl
attribute [go_sem] E52_ti E52_e E52_k E52_g
end Wb
