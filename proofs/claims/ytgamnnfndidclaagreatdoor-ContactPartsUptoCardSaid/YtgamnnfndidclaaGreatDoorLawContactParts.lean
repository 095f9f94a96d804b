/- The statement ContactPartsUpto: whatever comes in, of bulk at most 1048576 values and letters together, the law's call returns true, and what came in reads behind it as before. -/
import Derived.Test.YtgamnnfndidclaaGreatDoorYXW
import Derived.Test.YtgamnnfndidclaaGreatDoorYFoRow
import Derived.Test.YtgamnnfndidclaaGreatDoorCards
import Derived.Test.YtgamnnfndidclaaGreatDoorTie
import Derived.SevenTiedAt
import Derived.WalkKit
import Derived.ProofKit
import Derived.OpenShut
import Derived.ShutString
import Derived.ChangeOld
import Derived.Below
import Derived.Carry
import Derived.Deep.DeepHandedRow
import Derived.Test.YtgamnnfndidclaaGreatDoorLawContactPartsF1
import Derived.Test.YtgamnnfndidclaaGreatDoorLawContactPartsF3
import Derived.Test.YtgamnnfndidclaaGreatDoorLawContactPartsF5
import Derived.Test.YtgamnnfndidclaaGreatDoorLawContactPartsF7
import Derived.Test.YtgamnnfndidclaaGreatDoorAiJoin
set_option linter.all false
namespace Go.Proofs.YtgamnnfndidclaaGreatDoor.contactParts
open Go.ChangeShapes Go.WideShapes Go.ChangeAt Go.RowKit
open Go.ChangeMaps (open_string shut_string)
theorem own : ownKnob Tryz.prog.godebug = none := by kernel_rfl
set_option maxRecDepth 100000 in
theorem contract (H : Type) (enc : TypeId × Value → H) (W : World) (base : Nat) (args : Array Value) (ds gs : List (DataW H)) (before : List MemPlace)
    (hval0 : ∀ (j : Nat) t v, Tryz.f9.params[j]? = some t → args[j]? = some v → Value.okWide Tryz.prog W .any base t v)
    (hW : DataW.Whole enc Tryz.prog Tryz.f9.params.toList Rows.contactPartsSpec.vars false W args.toList ds gs before) (hL : laidMetH Tryz.prog Ut.laidL W) (hsh : W.ShapedOpen Tryz.prog) (hk : Rows.uptoSmall H (ds ++ gs) = true) :
    Calls Tryz.prog 9 args W fun e W' => ∃ v, e = .returned v ∧ Rows.contactPartsSpec.post enc Tryz.prog Tryz.f9 false true false false W args v W' := by
  have hval : ∀ (j : Nat) t v, Tryz.f9.params[j]? = some t → args[j]? = some v → Value.okWide Tryz.prog W .any base t v := hval0
  have hW' := hW
  obtain ⟨p, q, hA0, hV, rfl, hfz, hnd⟩ := hW
  have hA : DataW.TrodAll enc Tryz.prog W 0 (fun _ => true) true Tryz.f9.params.toList args.toList ds p := hA0
  rw [Tryz.params9] at hA hval
  obtain ⟨v0, vs0, d0, ds0, p0, q0, hargs, rfl, rfl, h0, r0⟩ := trodAll_cons hA
  obtain ⟨v1, vs1, d1, ds1, p1, q1, rfl, rfl, rfl, h1, r1⟩ := trodAll_cons r0
  obtain ⟨v2, vs2, d2, ds2, p2, q2, rfl, rfl, rfl, h2, r2⟩ := trodAll_cons r1
  obtain ⟨v3, vs3, d3, ds3, p3, q3, rfl, rfl, rfl, h3, r3⟩ := trodAll_cons r2
  obtain ⟨rfl, rfl, rfl⟩ := trodAll_nil r3
  obtain rfl : args = #[v0, v1, v2, v3] := by cases args; simp_all
  obtain ⟨rfl, rfl⟩ := trodVars_none hV
  have hb : Rows.uptoBulkAll ([d0, d1, d2, d3] ++ []) ≤ 1048576 := of_decide_eq_true hk
  simp only [List.append_nil, Rows.uptoBulkAll] at hb
  obtain ⟨a0, rfl, rfl, rfl, y0⟩ := open_string Tryz.underlying9 (hval 0 9 v0 rfl rfl) h0
  obtain ⟨a1, rfl, rfl, rfl, y1⟩ := open_string Tryz.underlying9 (hval 1 9 v1 rfl rfl) h1
  obtain ⟨a2, rfl, rfl, rfl, w2⟩ := open_int Tryz.underlying3 (hval 2 3 v2 rfl rfl) h2
  obtain ⟨a3, rfl, rfl, rfl, w3⟩ := open_int Tryz.underlying3 (hval 3 3 v3 rfl rfl) h3
  have hT := Ut.laid_of hL hsh
  refine (Ut.cparts_walk W hT a0 (by simp only [Rows.uptoBulk, Array.length_toList] at hb; have e : a0.size = a0.data.size := rfl; omega) a1 (by simp only [Rows.uptoBulk, Array.length_toList] at hb; have e : a1.size = a1.data.size := rfl; omega) a2 w2 a3 w3).mono fun e W' ⟨he, bel⟩ => ?_
  subst he
  exact ⟨_, rfl, _, _, _, [], _, [], hW', trodAll_mk1 (shut_bool Tryz.underlying4 _), (trodAll_cons_mk (shut_string Tryz.underlying9 y0) (trodAll_cons_mk (shut_string Tryz.underlying9 y1) (trodAll_cons_mk (shut_int Tryz.underlying3 w2) (trodAll_cons_mk (shut_int Tryz.underlying3 w3) trodAll_mk0)))), rfl, bel.frame _, fun h => by cases h⟩
theorem reads (os : Os) {H : Type} (enc : TypeId × Value → H) : ∃ places, DataW.whole enc Tryz.prog ((World.laidAll Tryz.prog os Ut.laidL).forCall (fun _ _ => 0) ⟨#[], #[.string ByteArray.empty, .string ByteArray.empty, .int .i64 0, .int .i64 0], []⟩).memory Tryz.f9.params.toList Rows.contactPartsSpec.vars false #[Value.string ByteArray.empty, Value.string ByteArray.empty, Value.int .i64 0, Value.int .i64 0].toList 8 = some ([.lit (.string []), .lit (.string []), .lit (.int .i64 0), .lit (.int .i64 0)], [], places) :=
  ⟨[], by kernel_rfl⟩
theorem laid_met (os : Os) : laidMet Tryz.prog Rows.contactPartsUptoRow.laid ((World.laidAll Tryz.prog os Ut.laidL).forCall (fun _ _ => 0) ⟨#[], #[.string ByteArray.empty, .string ByteArray.empty, .int .i64 0, .int .i64 0], []⟩).memory :=
  laidMet_laidAll _ (by kernel_rfl) (by kernel_rfl)
set_option maxRecDepth 100000 in
theorem lifted (os : Os) (started : os.Started) (H : Type) (enc : TypeId × Value → H) (F : Stop.Interp) :
    ReturnsInHanded {} Tryz.checked os 9 .any ((Rows.OpenSpec.upto Rows.contactPartsSpec).preRow enc Tryz.prog Tryz.f9 Rows.contactPartsUptoRow.domain false Rows.contactPartsUptoRow.laid) (((Rows.OpenSpec.upto Rows.contactPartsSpec).at F).post enc Tryz.prog Tryz.f9 false true false false) := by
  obtain ⟨places, hx⟩ := reads os enc
  refine returnsInHanded_of_row (C := Tryz.checked) (s := Rows.OpenSpec.upto Rows.contactPartsSpec) own started (by kernel_rfl) Tryz.func9
    (Ut.witness_row_sh (enc := enc) (C := Tryz.checked) false (World.laidAll Tryz.prog os Ut.laidL) #[.string ByteArray.empty, .string ByteArray.empty, .int .i64 0, .int .i64 0] (World.laidAll_os _ _ _) (World.shaped_of_ZipB (by kernel_rfl) (by kernel_rfl)) (by kernel_rfl)
      (OpenSpec.preRow_of_cond 8 hx (by kernel_rfl) (fun k hk => by cases hk; kernel_rfl) (by kernel_rfl) (laid_met os))) ?_
  intro W base args ds gs before hval hW _ hcond _ hL hsh _
  exact contract H enc W base args ds gs before hval hW hL hsh (hcond _ rfl)
theorem over : Rows.contactPartsUptoRow.holds Tryz.pinned (Rows.OpenSpec.upto Rows.contactPartsSpec) :=
  OpenClaim.holds_of_cond 9 Tryz.f9 rfl rfl rfl rfl rfl rfl rfl ⟨rfl, rfl, rfl, rfl, rfl⟩ rfl rfl rfl rfl rfl m1 Tryz.func9 (Ai.joined_of k1 k2 k3 k4 k5 k6 k7 k8 k9 k10 k11 rfl k13 k14 k15 k16 rfl rfl k19)
    (of_decide_eq_true (by kernel_rfl)) (by unfold Func.isWrapper; first | (rw [if_pos (by decide +kernel)]; kernel_rfl) | (rw [if_neg (by decide +kernel)]; exact ⟨rfl, rfl⟩))
    (fun os started H enc _ F => by rw [OpenClaim.pre_eq_preRow]; exact lifted os started H enc F)
theorem card : Rows.ContactPartsUptoCardSaid :=
  Claim7.holds_tied_plain_at .later [] [.data, .data, .data, .pinned, .pinned] true (true, "d58050fe13c217d0146636b17af65d1948c4b9e61568d6cd6daf2db39096ef1c") true over (fun _ h => by cases h) m5 (fun _ h => by cases h) contactPartsUpto_row_tie rfl ⟨rfl, rfl⟩ m2 rfl
    (fun f fn hf hfn => by
      obtain rfl : f = 9 := Option.some.inj (m1.symm.trans hf) |>.symm
      obtain rfl : fn = Tryz.f9 := (Option.some.inj (Tryz.func9.symm.trans hfn)).symm
      exact ⟨m3, fun j t ht => by
        rw [Tryz.params9] at ht
        have hm : t ∈ [9, 9, 3, 3] := by simpa using Array.mem_of_getElem? ht
        exact (show Tryz.prog.wantsStandIn t = false by simpa using List.all_eq_true.1 m6 t hm)⟩)
    m4
end Go.Proofs.YtgamnnfndidclaaGreatDoor.contactParts
namespace Go.Proofs.YtgamnnfndidclaaGreatDoor
theorem contactParts_holds : Rows.ContactPartsUptoCardSaid := contactParts.card
end Go.Proofs.YtgamnnfndidclaaGreatDoor

