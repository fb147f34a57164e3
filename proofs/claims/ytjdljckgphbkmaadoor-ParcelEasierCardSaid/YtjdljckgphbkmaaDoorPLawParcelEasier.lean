/- ParcelEasier: for every input the law's function returns true, and its arguments read afterwards as before. Condition: the package-level variable reads as the program's text lays it (the card ties it). -/
import Derived.Test.YtjdljckgphbkmaaDoorAC
import Derived.Test.YtjdljckgphbkmaaDoorR
namespace Go.Proofs.YtjdljckgphbkmaaDoor
open Wb Go Go.Proofs Go.ChangeShapes Go.WideShapes Go.ChangeAt Go.RowKit
set_option linter.unusedVariables false
set_option linter.unusedSimpArgs false
set_option maxRecDepth 100000
theorem len4_parcelEasier : ∀ l : List Int, l.length = 4 → ∃ a b c d, l = [a, b, c, d]
  | [a, b, c, d], _ => ⟨a, b, c, d, rfl⟩
theorem parcelEasier_opens : OpensA Tryd.prog [26, 67] (Wb.PBook × List Int × Unit) (fun x => [.agg (Wb.encB x.1), .agg (Wb.encZ x.2.1)]) (fun x => Wb.okPBook x.1 ∧ (x.2.1.length = 4 ∧ ∀ a ∈ x.2.1, Wb.okInt a)) :=
  opensA_map (opensA_cons (Wb.argAgg Tryd.underlying26 rfl Wb.pBook) (opensA_cons (Wb.argAgg Tryd.underlying67 rfl (Wb.pArr Tryd.underlying67 (by kernel_rfl))) opensA_nil)) id (fun _ => rfl) (fun x h => ⟨h.1, h.2.1⟩)
theorem parcelEasier_lifted (walk : ∀ x : Wb.PBook × List Int × Unit, Wb.okPBook x.1 ∧ (x.2.1.length = 4 ∧ ∀ a ∈ x.2.1, Wb.okInt a) → ContractAt Tryd.prog Wb.glB 10 [.agg (Wb.encB x.1), .agg (Wb.encZ x.2.1)] (.bool true)) (os : Os) (started : os.Started) (H : Type) (enc : TypeId × Value → H) :
    ReturnsInHanded {} Tryd.checked os 10 .any (fun w args => (Rows.parcelEasierSpec.pre enc Tryd.prog Tryd.f10 [] false w args ∧ laidMetH Tryd.prog laidK w) ∧ sizedMet enc Tryd.prog Tryd.f10 (OpenSpec.ofChange Rows.parcelEasierSpec) false w args)
      (Rows.parcelEasierSpec.post enc Tryd.prog Tryd.f10 false true false false) := by
  refine returnsInHanded_of_change_and (C := Tryd.checked) (X := fun w _ => laidMetH Tryd.prog laidK w) (fun _ _ _ hh h => h.of_heap hh) own started (by kernel_rfl) Tryd.func10
    (ChangeSpec.witness_shaped (enc := enc) (C := Tryd.checked) (os := os) (X := fun w _ => laidMetH Tryd.prog laidK w) false (World.doorLaid Tryd.prog 400 os) #[.agg #[.slice none 0 0, .slice none 0 0, .int .i64 0, .int .i64 0, .int .i64 0, .int .i64 0, .slice none 0 0], .agg #[.int .i64 0, .int .i64 0, .int .i64 0, .int .i64 0]] 8 rfl (World.shaped_of_RefB (by kernel_rfl) (by kernel_rfl)) (by kernel_rfl) (by kernel_rfl) (by kernel_rfl) (door_met os _)) ?_
  intro W base args ds gs before hval0 hW _ hsz0 hL _
  have hval : ∀ (j : Nat) t v, Tryd.f10.params[j]? = some t → args[j]? = some v → Value.okWide Tryd.prog W .any base t v := hval0
  have hW' := hW
  obtain ⟨p, q, hA0, hV, rfl, hfz, hnd⟩ := hW
  have hA : DataW.TrodAll enc Tryd.prog W 0 (fun _ => true) true Tryd.f10.params.toList args.toList ds p := hA0
  have hsz : (DataW.weightsEach Tryd.prog (Tryd.f10.params.toList ++ Rows.parcelEasierSpec.plain.varTypes Tryd.prog) (ds ++ gs)).all (· ≤ reachBytes) = true := hsz0
  rw [Tryd.params10] at hA hval hsz
  obtain ⟨rfl, rfl⟩ := trodVars_none hV
  have hsz' : ∀ n ∈ DataW.weightsEach Tryd.prog [26, 67] ds, n ≤ reachBytes := by
    have e : Rows.parcelEasierSpec.plain.varTypes Tryd.prog = [] := rfl
    rw [e] at hsz
    simpa [List.all_eq_true] using hsz
  obtain ⟨x, hok, hrep⟩ := parcelEasier_opens hA (fun j t v e1 e2 => hval j t v (by simpa using e1) (by simpa using e2)) hsz'
  have hc := walk x hok W (fun b => b < W.heap.size) args.toList (fun _ h => h) (globOK hL) hrep
  rw [show args.toList.toArray = args from rfl] at hc
  refine hc.mono fun e W' hb => ?_
  obtain ⟨v, rfl, bel, hr⟩ := hb
  obtain rfl : v = .bool true := by cases hr; rfl
  have hall : ([26, 67] : List Nat).all (fun t => Tryd.prog.readableRec t && decide (t < Tryd.prog.types.size)) = true := by kernel_rfl
  have hback := trodAll_below laidOut bel (ts := [26, 67]) (fun t ht => by simpa using List.all_eq_true.1 hall t ht) hA
  obtain ⟨v0, vs0, d0, ds0, p0, q0, hargs, rfl, rfl, h0, r0⟩ := trodAll_cons hA
  obtain ⟨v1, vs1, d1, ds1, p1, q1, rfl, rfl, rfl, h1, r1⟩ := trodAll_cons r0
  obtain ⟨rfl, rfl, rfl⟩ := trodAll_nil r1
  exact ⟨_, rfl, _, _, _, [], _, [], hW', trodAll_mk1 (shut_bool Tryd.underlying4 _), hback, rfl, bel.frame _, fun h => by cases h⟩
theorem parcelEasier_row (walk : ∀ x : Wb.PBook × List Int × Unit, Wb.okPBook x.1 ∧ (x.2.1.length = 4 ∧ ∀ a ∈ x.2.1, Wb.okInt a) → ContractAt Tryd.prog Wb.glB 10 [.agg (Wb.encB x.1), .agg (Wb.encZ x.2.1)] (.bool true)) : Rows.ParcelEasierSaid :=
  OpenClaim.holds_of_wide 10 Tryd.f10 rfl rfl rfl rfl rfl rfl rfl ⟨rfl, rfl, rfl, rfl, rfl⟩ rfl rfl rfl rfl rfl (by kernel_rfl) Tryd.func10 (by kernel_rfl)
    (of_decide_eq_true (by kernel_rfl)) (by unfold Func.isWrapper; first | (rw [if_pos (by decide +kernel)]; kernel_rfl) | (rw [if_neg (by decide +kernel)]; exact ⟨rfl, rfl⟩))
    (fun os started H enc _ => parcelEasier_lifted walk os started H enc)
theorem parcelEasier_card (walk : ∀ x : Wb.PBook × List Int × Unit, Wb.okPBook x.1 ∧ (x.2.1.length = 4 ∧ ∀ a ∈ x.2.1, Wb.okInt a) → ContractAt Tryd.prog Wb.glB 10 [.agg (Wb.encB x.1), .agg (Wb.encZ x.2.1)] (.bool true)) : Rows.ParcelEasierCardSaid :=
  Claim7.holds_tied_plain_at .later [] [.funcs] true (true, "7e78bb7b744dc57f42afa601b79f48f11b5aa257151351a491f5a1526c7d8ada") false
    (parcelEasier_row walk) (fun _ h => by cases h) (by kernel_rfl) (fun _ h => by cases h) parcelEasier_row_tie rfl ⟨rfl, rfl⟩ (by kernel_rfl) rfl
    (fun f fn hf hfn => by
      obtain rfl : f = 10 := Option.some.inj ((show Tryd.prog.funcNamed "wishbook/wishbooklaw06.ParcelEasier" = some 10 by kernel_rfl).symm.trans hf) |>.symm
      obtain rfl : fn = Tryd.f10 := (Option.some.inj (Tryd.func10.symm.trans hfn)).symm
      exact ⟨by kernel_rfl, fun j t ht => by
        rw [Tryd.params10] at ht
        have hm : t ∈ [26, 67] := by simpa using Array.mem_of_getElem? ht
        have hall : ([26, 67].all fun u => !Tryd.prog.wantsStandIn u) = true := by kernel_rfl
        exact (show Tryd.prog.wantsStandIn t = false by simpa using List.all_eq_true.1 hall t hm)⟩)
    (by kernel_rfl)
theorem parcelEasier_holds : Rows.ParcelEasierCardSaid := parcelEasier_card fun x hx => by
  obtain ⟨b, n, _⟩ := x
  obtain ⟨h1, h2, _⟩ := hx
  simp only at h1 h2
  have hB : Wb.Big4 b := ⟨by have := h1.1.1; unfold Wb.big; omega, by have := h1.2.1.1; unfold Wb.big; omega, fun k hk => by have := (h1.2.1.2 k hk).2.2.1.1; unfold Wb.big; omega, by have := h1.2.2.2.1; unfold Wb.big; omega⟩
  obtain ⟨n0, n1, n2, n3, rfl⟩ := len4_parcelEasier n h2
  exact fn_contract E24_ok Tryd.func10 rfl (by kernel_rfl) (easier_walk b hB n0 n1 n2 n3)
end Go.Proofs.YtjdljckgphbkmaaDoor

