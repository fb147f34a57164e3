/- LetterDays: for every input the law's function returns true, and its arguments read afterwards as before. Condition: the package-level variable reads as the program's text lays it (the card ties it). -/
import Derived.Test.YticjjabioiilfaaGreatDoorDD
import Derived.Test.YticjjabioiilfaaGreatDoorR
namespace Go.Proofs.YticjjabioiilfaaGreatDoor
open Wb Go Go.Proofs Go.ChangeShapes Go.WideShapes Go.ChangeAt Go.RowKit
set_option linter.unusedVariables false
set_option linter.unusedSimpArgs false
set_option maxRecDepth 100000
theorem letterDays_opens : OpensA Tryz.prog [29, 41] (Wb.Lett × List Wb.Line × Unit) (fun x => [.agg (Wb.encLt x.1), .sl (x.2.1.map Wb.encL) false]) (fun x => Wb.okLt x.1 ∧ (x.2.1.length ≤ 17592186044416 ∧ ∀ a ∈ x.2.1, Wb.okLine a)) :=
  opensA_map (opensA_cons (Wb.argAgg Tryz.underlying29 rfl Wb.pLett) (opensA_cons (Wb.argSlice Tryz.underlying41 Wb.pLines) opensA_nil)) id (fun _ => rfl) (fun x h => ⟨h.1, h.2.1⟩)
theorem letterDays_lifted (walk : ∀ x : Wb.Lett × List Wb.Line × Unit, Wb.okLt x.1 ∧ (x.2.1.length ≤ 17592186044416 ∧ ∀ a ∈ x.2.1, Wb.okLine a) → ContractAt Tryz.prog Wb.glB 7 [.agg (Wb.encLt x.1), .sl (x.2.1.map Wb.encL) false] (.bool true)) (os : Os) (started : os.Started) (H : Type) (enc : TypeId × Value → H) :
    ReturnsInHanded {} Tryz.checked os 7 .any (fun w args => (Rows.letterDaysSpec.pre enc Tryz.prog Tryz.f7 [] false w args ∧ laidMetH Tryz.prog laidK w) ∧ sizedMet enc Tryz.prog Tryz.f7 (OpenSpec.ofChange Rows.letterDaysSpec) false w args)
      (Rows.letterDaysSpec.post enc Tryz.prog Tryz.f7 false true false false) := by
  refine returnsInHanded_of_change_and (C := Tryz.checked) (X := fun w _ => laidMetH Tryz.prog laidK w) (fun _ _ _ hh h => h.of_heap hh) own started (by kernel_rfl) Tryz.func7
    (ChangeSpec.witness_shaped (enc := enc) (C := Tryz.checked) (os := os) (X := fun w _ => laidMetH Tryz.prog laidK w) false (World.doorLaid Tryz.prog 400 os) #[.agg #[.int .i64 0, .slice none 0 0, .int .i64 0, .int .i64 0, .slice none 0 0, .int .i64 0, .int .i64 0], .slice none 0 0] 8 rfl (World.shaped_of_RefB (by kernel_rfl) (by kernel_rfl)) (by kernel_rfl) (by kernel_rfl) (by kernel_rfl) (door_met os _)) ?_
  intro W base args ds gs before hval0 hW _ hsz0 hL _
  have hval : ∀ (j : Nat) t v, Tryz.f7.params[j]? = some t → args[j]? = some v → Value.okWide Tryz.prog W .any base t v := hval0
  have hW' := hW
  obtain ⟨p, q, hA0, hV, rfl, hfz, hnd⟩ := hW
  have hA : DataW.TrodAll enc Tryz.prog W 0 (fun _ => true) true Tryz.f7.params.toList args.toList ds p := hA0
  have hsz : (DataW.weightsEach Tryz.prog (Tryz.f7.params.toList ++ Rows.letterDaysSpec.plain.varTypes Tryz.prog) (ds ++ gs)).all (· ≤ reachBytes) = true := hsz0
  rw [Tryz.params7] at hA hval hsz
  obtain ⟨rfl, rfl⟩ := trodVars_none hV
  have hsz' : ∀ n ∈ DataW.weightsEach Tryz.prog [29, 41] ds, n ≤ reachBytes := by
    have e : Rows.letterDaysSpec.plain.varTypes Tryz.prog = [] := rfl
    rw [e] at hsz
    simpa [List.all_eq_true] using hsz
  obtain ⟨x, hok, hrep⟩ := letterDays_opens hA (fun j t v e1 e2 => hval j t v (by simpa using e1) (by simpa using e2)) hsz'
  have hc := walk x hok W (fun b => b < W.heap.size) args.toList (fun _ h => h) (globOK hL) hrep
  rw [show args.toList.toArray = args from rfl] at hc
  refine hc.mono fun e W' hb => ?_
  obtain ⟨v, rfl, bel, hr⟩ := hb
  obtain rfl : v = .bool true := by cases hr; rfl
  have hall : ([29, 41] : List Nat).all (fun t => Tryz.prog.readableRec t && decide (t < Tryz.prog.types.size)) = true := by kernel_rfl
  have hback := trodAll_below laidOut (Bel.toBelow bel) (ts := [29, 41]) (fun t ht => by simpa using List.all_eq_true.1 hall t ht) hA
  obtain ⟨v0, vs0, d0, ds0, p0, q0, hargs, rfl, rfl, h0, r0⟩ := trodAll_cons hA
  obtain ⟨v1, vs1, d1, ds1, p1, q1, rfl, rfl, rfl, h1, r1⟩ := trodAll_cons r0
  obtain ⟨rfl, rfl, rfl⟩ := trodAll_nil r1
  exact ⟨_, rfl, _, _, _, [], _, [], hW', trodAll_mk1 (shut_bool Tryz.underlying4 _), hback, rfl, bel.toBelow.frame _, fun h => by cases h⟩
theorem letterDays_row (walk : ∀ x : Wb.Lett × List Wb.Line × Unit, Wb.okLt x.1 ∧ (x.2.1.length ≤ 17592186044416 ∧ ∀ a ∈ x.2.1, Wb.okLine a) → ContractAt Tryz.prog Wb.glB 7 [.agg (Wb.encLt x.1), .sl (x.2.1.map Wb.encL) false] (.bool true)) : Rows.LetterDaysSaid :=
  OpenClaim.holds_of_wide 7 Tryz.f7 rfl rfl rfl rfl rfl rfl rfl ⟨rfl, rfl, rfl, rfl, rfl⟩ rfl rfl rfl rfl rfl (by kernel_rfl) Tryz.func7 (by kernel_rfl)
    (of_decide_eq_true (by kernel_rfl)) (by unfold Func.isWrapper; first | (rw [if_pos (by decide +kernel)]; kernel_rfl) | (rw [if_neg (by decide +kernel)]; exact ⟨rfl, rfl⟩))
    (fun os started H enc _ => letterDays_lifted walk os started H enc)
theorem letterDays_card (walk : ∀ x : Wb.Lett × List Wb.Line × Unit, Wb.okLt x.1 ∧ (x.2.1.length ≤ 17592186044416 ∧ ∀ a ∈ x.2.1, Wb.okLine a) → ContractAt Tryz.prog Wb.glB 7 [.agg (Wb.encLt x.1), .sl (x.2.1.map Wb.encL) false] (.bool true)) : Rows.LetterDaysCardSaid :=
  Claim7.holds_tied_plain_at .later [] [.funcs, .funcs] true (true, "3b7b54f3166715faadb0507053d32a6bc4aaf32b579f022f5c7a6b04a0c4adab") false
    (letterDays_row walk) (fun _ h => by cases h) (by kernel_rfl) (fun _ h => by cases h) letterDays_row_tie rfl ⟨rfl, rfl⟩ (by kernel_rfl) rfl
    (fun f fn hf hfn => by
      obtain rfl : f = 7 := Option.some.inj ((show Tryz.prog.funcNamed "wishbook/wishbooklaw02.LetterDays" = some 7 by kernel_rfl).symm.trans hf) |>.symm
      obtain rfl : fn = Tryz.f7 := (Option.some.inj (Tryz.func7.symm.trans hfn)).symm
      exact ⟨by kernel_rfl, fun j t ht => by
        rw [Tryz.params7] at ht
        have hm : t ∈ [29, 41] := by simpa using Array.mem_of_getElem? ht
        have hall : ([29, 41].all fun u => !Tryz.prog.wantsStandIn u) = true := by kernel_rfl
        exact (show Tryz.prog.wantsStandIn t = false by simpa using List.all_eq_true.1 hall t hm)⟩)
    (by kernel_rfl)
theorem letterDays_holds : Rows.LetterDaysCardSaid := letterDays_card fun x hx => by
  obtain ⟨l, n, _⟩ := x
  obtain ⟨h1, h2, _⟩ := hx
  simp only at h1 h2
  exact fn_contract E70_ok Tryz.func7 rfl (by kernel_rfl) (daysL_walk l h1.lok n (by unfold big; omega))
end Go.Proofs.YticjjabioiilfaaGreatDoor

