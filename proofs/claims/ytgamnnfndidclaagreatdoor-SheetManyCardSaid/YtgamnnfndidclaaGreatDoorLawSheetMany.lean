/- The statement SheetMany: whatever comes in, the law's call returns true, and what came in reads behind it as before. No conditions. -/
import Derived.Test.YtgamnnfndidclaaGreatDoorAiJoin
import Derived.Test.YtgamnnfndidclaaGreatDoorYFoRow
import Derived.Test.YtgamnnfndidclaaGreatDoorCards
import Derived.Test.YtgamnnfndidclaaGreatDoorTie
import Derived.SevenTiedAt
import Derived.WalkKit
import Derived.ProofKit
import Derived.OpenShut
import Derived.ShutString
import Derived.ChangeOld
import Derived.Below
import Derived.SizedLaws
import Derived.Carry
import Derived.Test.YtgamnnfndidclaaGreatDoorLawSheetManyF1
import Derived.Test.YtgamnnfndidclaaGreatDoorLawSheetManyF3
import Derived.Test.YtgamnnfndidclaaGreatDoorLawSheetManyF5
import Derived.Test.YtgamnnfndidclaaGreatDoorLawSheetManyF7
set_option linter.all false
namespace Go.Proofs.YtgamnnfndidclaaGreatDoor.sheetMany
open Go.ChangeShapes Go.WideShapes Go.ChangeAt Go.RowKit
open Go.ChangeMaps (open_string shut_string)
theorem own : ownKnob Tryz.prog.godebug = none := by kernel_rfl
set_option maxRecDepth 100000 in
theorem lifted (os : Os) (started : os.Started) (H : Type) (enc : TypeId × Value → H) :
    ReturnsInHanded {} Tryz.checked os 7 .any (fun w args => (Rows.sheetManySpec.pre enc Tryz.prog Tryz.f7 Rows.sheetManyRow.domain false w args ∧ laidMetH Tryz.prog Ut.laidL w) ∧ sizedMet enc Tryz.prog Tryz.f7 (OpenSpec.ofChange Rows.sheetManySpec) false w args) (Rows.sheetManySpec.post enc Tryz.prog Tryz.f7 false true false false) := by
  refine Ut.returns_shaped (C := Tryz.checked) (X := fun w _ => laidMetH Tryz.prog Ut.laidL w) (fun _ _ _ hh h => h.of_heap hh) own started (by kernel_rfl) Tryz.func7
    (ChangeSpec.witness_shaped (enc := enc) (C := Tryz.checked) (os := os) (X := fun w _ => laidMetH Tryz.prog Ut.laidL w) false (World.laidAll Tryz.prog os Ut.laidL) #[.int .i64 0] 8 (World.laidAll_os _ _ _) (World.shaped_of_ZipB (by kernel_rfl) (by kernel_rfl)) (by kernel_rfl) (by kernel_rfl) (by kernel_rfl) (Ut.laid_witness os _)) ?_
  intro W base args ds gs before hval0 hW hcnd hsz0 hL hsh _
  have hsz : (DataW.weightsEach Tryz.prog (Tryz.f7.params.toList ++ Rows.sheetManySpec.plain.varTypes Tryz.prog) (ds ++ gs)).all (· ≤ reachBytes) = true := hsz0
  have hval : ∀ (j : Nat) t v, Tryz.f7.params[j]? = some t → args[j]? = some v → Value.okWide Tryz.prog W .any base t v := hval0
  have hW' := hW
  obtain ⟨p, q, hA0, hV, rfl, hfz, hnd⟩ := hW
  have hA : DataW.TrodAll enc Tryz.prog W 0 (fun _ => true) true Tryz.f7.params.toList args.toList ds p := hA0
  rw [Tryz.params7] at hA hval hsz
  obtain ⟨v0, vs0, d0, ds0, p0, q0, hargs, rfl, rfl, h0, r0⟩ := trodAll_cons hA
  obtain ⟨rfl, rfl, rfl⟩ := trodAll_nil r0
  obtain rfl : args = #[v0] := by cases args; simp_all
  obtain ⟨rfl, rfl⟩ := trodVars_none hV
  obtain ⟨a0, rfl, rfl, rfl, w0⟩ := open_int Tryz.underlying3 (hval 0 3 v0 rfl rfl) h0
  have hT := Ut.laid_of hL hsh
  clear hA0 hval0 hsz0 hsz hL hsh
  refine (Ut.smany_walk W hT a0 w0).mono fun e W' ⟨he, bel⟩ => ?_
  subst he
  exact ⟨_, rfl, _, _, _, [], _, [], hW', trodAll_mk1 (shut_bool Tryz.underlying4 _), (trodAll_cons_mk (shut_int Tryz.underlying3 w0) trodAll_mk0), rfl, bel.frame _, fun h => by cases h⟩
theorem over : Rows.sheetManyRow.holds Tryz.pinned (OpenSpec.ofChange Rows.sheetManySpec) :=
  OpenClaim.holds_of_wide 7 Tryz.f7 rfl rfl rfl rfl rfl rfl rfl ⟨rfl, rfl, rfl, rfl, rfl⟩ rfl rfl rfl rfl rfl m1 Tryz.func7 (Ai.joined_of k1 k2 k3 k4 k5 k6 k7 k8 k9 k10 k11 rfl k13 k14 k15 k16 rfl rfl k19)
    (of_decide_eq_true (by kernel_rfl)) (by unfold Func.isWrapper; first | (rw [if_pos (by decide +kernel)]; kernel_rfl) | (rw [if_neg (by decide +kernel)]; exact ⟨rfl, rfl⟩))
    (fun os started H enc _ => lifted os started H enc)
theorem card : Rows.SheetManyCardSaid :=
  Claim7.holds_tied_plain_at .later [] [.data, .data, .data, .pinned, .pinned] true (true, "d58050fe13c217d0146636b17af65d1948c4b9e61568d6cd6daf2db39096ef1c") true over (fun _ h => by cases h) m5 (fun _ h => by cases h) sheetMany_row_tie rfl ⟨rfl, rfl⟩ m2 rfl
    (fun f fn hf hfn => by
      obtain rfl : f = 7 := Option.some.inj (m1.symm.trans hf) |>.symm
      obtain rfl : fn = Tryz.f7 := (Option.some.inj (Tryz.func7.symm.trans hfn)).symm
      exact ⟨m3, fun j t ht => by
        rw [Tryz.params7] at ht
        have hm : t ∈ [3] := by simpa using Array.mem_of_getElem? ht
        exact (show Tryz.prog.wantsStandIn t = false by simpa using List.all_eq_true.1 m6 t hm)⟩)
    m4
end Go.Proofs.YtgamnnfndidclaaGreatDoor.sheetMany
namespace Go.Proofs.YtgamnnfndidclaaGreatDoor
theorem sheetMany_holds : Rows.SheetManyCardSaid := sheetMany.card
end Go.Proofs.YtgamnnfndidclaaGreatDoor

