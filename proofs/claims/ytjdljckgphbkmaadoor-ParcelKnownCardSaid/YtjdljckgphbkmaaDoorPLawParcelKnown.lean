/- ParcelKnown: for every input the law's function returns true, and its arguments read afterwards as before. Condition: the package-level variable reads as the program's text lays it (the card ties it). -/
import Derived.Test.YtjdljckgphbkmaaDoorL
import Derived.Test.YtjdljckgphbkmaaDoorR
namespace Go.Proofs.YtjdljckgphbkmaaDoor
open Wb Go Go.Proofs Go.ChangeShapes Go.WideShapes Go.ChangeAt Go.RowKit
set_option linter.unusedVariables false
set_option linter.unusedSimpArgs false
set_option maxRecDepth 100000
theorem parcelKnown_opens : OpensA Tryd.prog [] (Unit) (fun x => []) (fun x => True) :=
  opensA_map opensA_nil id (fun _ => rfl) (fun x h => trivial)
theorem parcelKnown_lifted (walk : ∀ x : Unit, True → ContractAt Tryd.prog Wb.glB 13 [] (.bool true)) (os : Os) (started : os.Started) (H : Type) (enc : TypeId × Value → H) :
    ReturnsInHanded {} Tryd.checked os 13 .any (fun w args => (Rows.parcelKnownSpec.pre enc Tryd.prog Tryd.f13 [] false w args ∧ laidMetH Tryd.prog laidK w) ∧ sizedMet enc Tryd.prog Tryd.f13 (OpenSpec.ofChange Rows.parcelKnownSpec) false w args)
      (Rows.parcelKnownSpec.post enc Tryd.prog Tryd.f13 false true false false) := by
  refine returnsInHanded_of_change_and (C := Tryd.checked) (X := fun w _ => laidMetH Tryd.prog laidK w) (fun _ _ _ hh h => h.of_heap hh) own started (by kernel_rfl) Tryd.func13
    (ChangeSpec.witness_shaped (enc := enc) (C := Tryd.checked) (os := os) (X := fun w _ => laidMetH Tryd.prog laidK w) false (World.doorLaid Tryd.prog 400 os) #[] 8 rfl (World.shaped_of_RefB (by kernel_rfl) (by kernel_rfl)) (by kernel_rfl) (by kernel_rfl) (by kernel_rfl) (door_met os _)) ?_
  intro W base args ds gs before hval0 hW _ hsz0 hL _
  have hval : ∀ (j : Nat) t v, Tryd.f13.params[j]? = some t → args[j]? = some v → Value.okWide Tryd.prog W .any base t v := hval0
  have hW' := hW
  obtain ⟨p, q, hA0, hV, rfl, hfz, hnd⟩ := hW
  have hA : DataW.TrodAll enc Tryd.prog W 0 (fun _ => true) true Tryd.f13.params.toList args.toList ds p := hA0
  have hsz : (DataW.weightsEach Tryd.prog (Tryd.f13.params.toList ++ Rows.parcelKnownSpec.plain.varTypes Tryd.prog) (ds ++ gs)).all (· ≤ reachBytes) = true := hsz0
  rw [Tryd.params13] at hA hval hsz
  obtain ⟨rfl, rfl⟩ := trodVars_none hV
  have hsz' : ∀ n ∈ DataW.weightsEach Tryd.prog [] ds, n ≤ reachBytes := by
    have e : Rows.parcelKnownSpec.plain.varTypes Tryd.prog = [] := rfl
    rw [e] at hsz
    simpa [List.all_eq_true] using hsz
  obtain ⟨x, hok, hrep⟩ := parcelKnown_opens hA (fun j t v e1 e2 => hval j t v (by simp at e1) (by simpa using e2)) hsz'
  have hc := walk x hok W (fun b => b < W.heap.size) args.toList (fun _ h => h) (globOK hL) hrep
  rw [show args.toList.toArray = args from rfl] at hc
  refine hc.mono fun e W' hb => ?_
  obtain ⟨v, rfl, bel, hr⟩ := hb
  obtain rfl : v = .bool true := by cases hr; rfl
  have hall : ([] : List Nat).all (fun t => Tryd.prog.readableRec t && decide (t < Tryd.prog.types.size)) = true := by kernel_rfl
  have hback := trodAll_below laidOut bel (ts := []) (fun t ht => by simpa using List.all_eq_true.1 hall t ht) hA
  obtain ⟨rfl, rfl, rfl⟩ := trodAll_none hA
  exact ⟨_, rfl, _, _, _, [], _, [], hW', trodAll_mk1 (shut_bool Tryd.underlying4 _), hback, rfl, bel.frame _, fun h => by cases h⟩
theorem parcelKnown_row (walk : ∀ x : Unit, True → ContractAt Tryd.prog Wb.glB 13 [] (.bool true)) : Rows.ParcelKnownSaid :=
  OpenClaim.holds_of_wide 13 Tryd.f13 rfl rfl rfl rfl rfl rfl rfl ⟨rfl, rfl, rfl, rfl, rfl⟩ rfl rfl rfl rfl rfl (by kernel_rfl) Tryd.func13 (by kernel_rfl)
    (of_decide_eq_true (by kernel_rfl)) (by unfold Func.isWrapper; first | (rw [if_pos (by decide +kernel)]; kernel_rfl) | (rw [if_neg (by decide +kernel)]; exact ⟨rfl, rfl⟩))
    (fun os started H enc _ => parcelKnown_lifted walk os started H enc)
theorem parcelKnown_card (walk : ∀ x : Unit, True → ContractAt Tryd.prog Wb.glB 13 [] (.bool true)) : Rows.ParcelKnownCardSaid :=
  Claim7.holds_tied_plain_at .later [] [.funcs] true (true, "7e78bb7b744dc57f42afa601b79f48f11b5aa257151351a491f5a1526c7d8ada") false
    (parcelKnown_row walk) (fun _ h => by cases h) (by kernel_rfl) (fun _ h => by cases h) parcelKnown_row_tie rfl ⟨rfl, rfl⟩ (by kernel_rfl) rfl
    (fun f fn hf hfn => by
      obtain rfl : f = 13 := Option.some.inj ((show Tryd.prog.funcNamed "wishbook/wishbooklaw06.ParcelKnown" = some 13 by kernel_rfl).symm.trans hf) |>.symm
      obtain rfl : fn = Tryd.f13 := (Option.some.inj (Tryd.func13.symm.trans hfn)).symm
      exact ⟨by kernel_rfl, fun j t ht => by
        rw [Tryd.params13] at ht
        simp at ht⟩)
    (by kernel_rfl)
theorem parcelKnown_holds : Rows.ParcelKnownCardSaid := parcelKnown_card fun x hx => by
  exact fn_contract E43_ok Tryd.func13 rfl (by kernel_rfl) known_fn
end Go.Proofs.YtjdljckgphbkmaaDoor

