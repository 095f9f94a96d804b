/- The statement ContactGroupsUpto: whatever comes in, of bulk at most 1048576 values and letters together, the law's call returns true, and what came in reads cB it as before. -/
import Derived.Test.YtgamnnfndidclaaGreatDoorGYXW
import Derived.Test.YtgamnnfndidclaaGreatDoorCards
import Derived.Test.YtgamnnfndidclaaGreatDoorTie
import Derived.SevenTiedAt
import Derived.WalkKit
import Derived.ProofKit
import Derived.OpenShut
import Derived.ShutString
import Derived.ChangeOld
import Derived.Below
import Derived.Carry
import Derived.Deep.DeepHandedRow
import Derived.Test.YtgamnnfndidclaaGreatDoorGLawContactGroupsF1
import Derived.Test.YtgamnnfndidclaaGreatDoorGLawContactGroupsF3
import Derived.Test.YtgamnnfndidclaaGreatDoorGLawContactGroupsF5
import Derived.Test.YtgamnnfndidclaaGreatDoorGLawContactGroupsF7
import Derived.Test.YtgamnnfndidclaaGreatDoorGAiJoin
set_option linter.all false
namespace Go.Proofs.YtgamnnfndidclaaGreatDoor.contactGroups
open Go.ChangeShapes Go.WideShapes Go.ChangeAt Go.RowKit
open Go.ChangeMaps (open_string shut_string)
theorem own:ownKnob Tryz.prog.godebug=none:=by kernel_rfl
theorem laidOut:laidOutB Tryz.prog=true:=by kernel_rfl
theorem sum_bulk {H:Type}:∀ l:List (DataW H),(l.map Rows.uptoBulk).sum=Rows.uptoBulkAll l
 | []=>by simp [Rows.uptoBulkAll]
 | d::l=>by rw [List.map_cons,List.sum_cons,sum_bulk l]; simp only [Rows.uptoBulkAll]
set_option maxRecDepth 100000 in
theorem contract (H:Type)(enc:TypeId×Value→H)(W:World)(base:Nat)(args:Array Value)(ds gs:List (DataW H))(before:List MemPlace)
  (hval0:∀ (j:Nat) t v,Tryz.f8.params[j]?=some t→args[j]?=some v→Value.okWide Tryz.prog W .any base t v)
  (hW:DataW.Whole enc Tryz.prog Tryz.f8.params.toList Rows.contactGroupsSpec.vars false W args.toList ds gs before) (hL:laidMetH Tryz.prog Ut.laidL W) (hsh:W.ShapedOpen Tryz.prog) (hk:Rows.uptoSmall H (ds++gs)=true) :
  Calls Tryz.prog 8 args W fun e W' => ∃ v,e=.returned v∧Rows.contactGroupsSpec.post enc Tryz.prog Tryz.f8 false true false false W args v W' := by
 have hval:∀ (j:Nat) t v,Tryz.f8.params[j]?=some t→args[j]?=some v→Value.okWide Tryz.prog W .any base t v:=hval0
 have hW' := hW
 obtain ⟨p,q,hA0,hV,rfl,hfz,hnd⟩:=hW
 have hA:DataW.TrodAll enc Tryz.prog W 0 (fun _=>true) true Tryz.f8.params.toList args.toList ds p:=hA0
 rw [Tryz.params8] at hA hval
 obtain ⟨v0,vs0,d0,ds0,p0,q0,hargs,rfl,rfl,h0,r0⟩:=trodAll_cons hA
 obtain ⟨v1,vs1,d1,ds1,p1,q1,rfl,rfl,rfl,h1,r1⟩:=trodAll_cons r0
 obtain ⟨rfl,rfl,rfl⟩:=trodAll_nil r1
 obtain rfl:args=#[v0,v1]:=by cases args; simp_all
 obtain ⟨rfl,rfl⟩:=trodVars_none hV
 have hb:Rows.uptoBulkAll ([d0,d1]++[])≤1048576:=of_decide_eq_true hk
 simp only [List.append_nil,Rows.uptoBulkAll] at hb
 obtain ⟨a0,len0,cap0,rfl⟩:=okWide_slice Tryz.underlying23 (hval 0 23 v0 rfl rfl)
 have k0:=h0
 have lt0:∀ x∈p0,x.block<W.heap.size:=by obtain ⟨m,hm⟩:=k0; exact DataW.trod_lt m _ _ _ hm
 obtain ⟨ds0,hs0,cl0,ww0⟩:∃ ds,Ai.AT.has (.sl .str) ds∧Ai.Cl W [.slice a0 len0 cap0] ds∧Ai.DV.wt.wtL ds≤Rows.uptoBulk d0:=by
  obtain ⟨m,hm⟩:=k0
  exact Ai.open_wt (B:=Rows.uptoBulk) (by simp [Rows.uptoBulk]) (fun l=>by cases l <;> simp [Rows.uptoBulk]) (fun b=>by simp [Rows.uptoBulk]) (fun el sp=>by rw [sum_bulk]; simp only [Rows.uptoBulk]; omega) (fun ps=>by rw [sum_bulk]; simp only [Rows.uptoBulk]; omega) (.sl .str) (t:=23) (by kernel_rfl) hm
 obtain ⟨a1,rfl,rfl,rfl,w1⟩:=open_int Tryz.underlying3 (hval 1 3 v1 rfl rfl) h1
 have hT:=Ut.laid_of hL hsh
 refine (Ut.cgroups_walk W hT hs0 cl0 (by omega) a1 w1).mono fun e W' ⟨he,bel⟩=>?_
 subst he
 exact ⟨_,rfl,_,_,_,[],_,[],hW',trodAll_mk1 (shut_bool Tryz.underlying4 _),(trodAll_cons_mk (Below.trod laidOut (by kernel_rfl) (of_decide_eq_true (by kernel_rfl)) k0 bel lt0) (trodAll_cons_mk (shut_int Tryz.underlying3 w1) trodAll_mk0)),rfl,bel.frame _,fun h=>by cases h⟩
theorem reads (os:Os){H:Type}(enc:TypeId×Value→H):∃ places,DataW.whole enc Tryz.prog ((World.laidAll Tryz.prog os Ut.laidL).forCall (fun _ _=>0) ⟨#[],#[.slice none 0 0,.int .i64 0],[]⟩).memory Tryz.f8.params.toList Rows.contactGroupsSpec.vars false #[Value.slice none 0 0,Value.int .i64 0].toList 8=some ([.nil,.lit (.int .i64 0)],[],places):=
 ⟨[],by kernel_rfl⟩
theorem laid_met (os:Os):laidMet Tryz.prog Rows.contactGroupsUptoRow.laid ((World.laidAll Tryz.prog os Ut.laidL).forCall (fun _ _=>0) ⟨#[],#[.slice none 0 0,.int .i64 0],[]⟩).memory:=
 laidMet_laidAll _ (by kernel_rfl) (by kernel_rfl)
set_option maxRecDepth 100000 in
theorem lifted (os:Os)(started:os.Started)(H:Type)(enc:TypeId×Value→H)(F:Stop.Interp) :
  ReturnsInHanded {} Tryz.checked os 8 .any ((Rows.OpenSpec.upto Rows.contactGroupsSpec).preRow enc Tryz.prog Tryz.f8 Rows.contactGroupsUptoRow.domain false Rows.contactGroupsUptoRow.laid) (((Rows.OpenSpec.upto Rows.contactGroupsSpec).at F).post enc Tryz.prog Tryz.f8 false true false false):=by
 obtain ⟨places,hx⟩:=reads os enc
 refine returnsInHanded_of_row (C:=Tryz.checked) (s:=Rows.OpenSpec.upto Rows.contactGroupsSpec) own started (by kernel_rfl) Tryz.func8
  (Ut.witness_row_sh (enc:=enc) (C:=Tryz.checked) false (World.laidAll Tryz.prog os Ut.laidL) #[.slice none 0 0,.int .i64 0] (World.laidAll_os _ _ _) (World.shaped_of_ZipB (by kernel_rfl) (by kernel_rfl)) (by kernel_rfl)
   (OpenSpec.preRow_of_cond 8 hx (by kernel_rfl) (fun k hk=>by cases hk; kernel_rfl) (by kernel_rfl) (laid_met os))) ?_
 intro W base args ds gs before hval hW _ hcond _ hL hsh _
 exact contract H enc W base args ds gs before hval hW hL hsh (hcond _ rfl)
theorem over:Rows.contactGroupsUptoRow.holds Tryz.pinned (Rows.OpenSpec.upto Rows.contactGroupsSpec):=
 OpenClaim.holds_of_cond 8 Tryz.f8 rfl rfl rfl rfl rfl rfl rfl ⟨rfl,rfl,rfl,rfl,rfl⟩ rfl rfl rfl rfl rfl m1 Tryz.func8 (Ai.joined_of k1 k2 k3 k4 k5 k6 k7 k8 k9 k10 k11 rfl k13 k14 k15 k16 rfl rfl k19)
  (of_decide_eq_true (by kernel_rfl)) (by unfold Func.isWrapper; first | (rw [if_pos (by decide +kernel)]; kernel_rfl) | (rw [if_neg (by decide +kernel)]; exact ⟨rfl,rfl⟩))
  (fun os started H enc _ F=>by rw [OpenClaim.pre_eq_preRow]; exact lifted os started H enc F)
theorem card:Rows.ContactGroupsUptoCardSaid:=
  Claim7.holds_tied_plain_at .later [] [.data, .data, .data, .pinned, .pinned] true (true, "d58050fe13c217d0146636b17af65d1948c4b9e61568d6cd6daf2db39096ef1c") true over (fun _ h => by cases h) m5 (fun _ h => by cases h) contactGroupsUpto_row_tie rfl ⟨rfl, rfl⟩ m2 rfl
    (fun f fn hf hfn=>by
      obtain rfl:f=8:=Option.some.inj (m1.symm.trans hf) |>.symm
      obtain rfl:fn=Tryz.f8:=(Option.some.inj (Tryz.func8.symm.trans hfn)).symm
      exact ⟨m3,fun j t ht=>by
        rw [Tryz.params8] at ht
        have hm:t∈[23,3]:=by simpa using Array.mem_of_getElem? ht
        exact (show Tryz.prog.wantsStandIn t=false by simpa using List.all_eq_true.1 m6 t hm)⟩)
    m4
end Go.Proofs.YtgamnnfndidclaaGreatDoor.contactGroups
namespace Go.Proofs.YtgamnnfndidclaaGreatDoor
theorem contactGroups_holds:Rows.ContactGroupsUptoCardSaid:=contactGroups.card
end Go.Proofs.YtgamnnfndidclaaGreatDoor

