/- The law PrepGone. -/
import Derived.Test.YtbhlmbacgbfaoaaDoorPrG
set_option linter.all false
namespace Go.Proofs.Ut
open Go.Ai Classical
set_option linter.unusedSimpArgs false
set_option maxHeartbeats 1000000
set_option maxRecDepth 100000
def mixL : List UInt8 := [97, 66, 99, 68, 101, 88, 121, 90, 57, 45]
def mixAt (b : UInt8) : UInt8 := mixL.getD (b.toNat % 10) 0
def lowB (b : UInt8) : UInt8 := if 65 ≤ b.toNat ∧ b.toNat ≤ 90 then UInt8.ofNat (b.toNat + 32) else b
def gones : List Int := [173, 847, 6150, 8203, 8205, 8288, 65024, 65279]
theorem mix_ok : ∀ b ∈ mixL, smallL b.toNat = [((lowB b).toNat : Int)] ∧ nodeB (lowB b).toNat = true ∧ hostB (lowB b).toNat = true ∧ leftB (lowB b).toNat = false ∧ keptL b.toNat = [(b.toNat : Int)] ∧ banB b.toNat = false ∧ leftB b.toNat = false ∧ en b.toNat = [b] ∧ en (lowB b).toNat = [lowB b] ∧ 32 ≤ b.toNat ∧ b.toNat < 128 := by decide +kernel
theorem gones_ok : ∀ g ∈ gones, smallL g = [] ∧ keptL g = [] ∧ 32 ≤ g ∧ g ≤ 65533 ∧ ¬ (55296 ≤ g ∧ g ≤ 57343) := by decide +kernel
theorem mix_at (b : UInt8) : mixAt b ∈ mixL := by
  have h : b.toNat % 10 < mixL.length := Nat.mod_lt _ (by decide)
  unfold mixAt
  rw [List.getD_eq_getElem?_getD, List.getElem?_eq_getElem h]
  exact List.getElem_mem _
theorem mix_flat {f : Int → List Int} {g : UInt8 → Int} (h : ∀ b ∈ mixL, f b.toNat = [g b]) : ∀ Q : List UInt8, (∀ b ∈ Q, b ∈ mixL) → (Q.map (fun b => (b.toNat : Int))).flatMap f = Q.map g
  | [], _ => rfl
  | b :: Q, hq => by
    rw [List.map_cons, List.flatMap_cons, h b (hq b (by simp)), mix_flat h Q (fun x hx => hq x (by simp [hx]))]; rfl
theorem mix_en {f : UInt8 → UInt8} (h : ∀ b ∈ mixL, en (f b).toNat = [f b]) : ∀ Q : List UInt8, (∀ b ∈ Q, b ∈ mixL) → (Q.map (fun b => ((f b).toNat : Int))).flatMap en = Q.map f
  | [], _ => rfl
  | b :: Q, hq => by
    rw [List.map_cons, List.flatMap_cons, h b (hq b (by simp)), mix_en h Q (fun x hx => hq x (by simp [hx]))]; rfl
theorem gone_prep {m : Int → List Int} {p : Int → Bool} {f : UInt8 → UInt8} {g : Int} (hg : g ∈ gones) (hm : m g = []) (h1 : ∀ b ∈ mixL, m b.toNat = [((f b).toNat : Int)]) (h2 : ∀ b ∈ mixL, p (f b).toNat = true) (h3 : ∀ b ∈ mixL, leftB (f b).toNat = false) (h4 : ∀ b ∈ mixL, en (f b).toNat = [f b])
    (Q : List UInt8) (hQ : ∀ b ∈ Q, b ∈ mixL) (k : Nat) : prepR m p (Q.take k ++ en g ++ Q.drop k) = (Q.map f, 0) := by
  have ht : ∀ b ∈ Q.take k, b ∈ mixL := fun b hb => hQ b (List.mem_of_mem_take hb)
  have hd : ∀ b ∈ Q.drop k, b ∈ mixL := fun b hb => hQ b (List.mem_of_mem_drop hb)
  have e : Q.take k ++ en g ++ Q.drop k = ((Q.take k).map (fun b => (b.toNat : Int)) ++ [g] ++ (Q.drop k).map (fun b => (b.toNat : Int))).flatMap en := by
    have e1 : ∀ Q' : List UInt8, (∀ b ∈ Q', b ∈ mixL) → (Q'.map (fun b => (b.toNat : Int))).flatMap en = Q' := fun Q' h => by
      have := mix_en (f := id) (fun b hb => (mix_ok b hb).2.2.2.2.2.2.2.1) Q' h
      rw [List.map_id] at this
      exact this
    rw [List.flatMap_append, List.flatMap_append, e1 _ ht, e1 _ hd]
    simp
  have hpl : plainL ((Q.take k).map (fun b => (b.toNat : Int)) ++ [g] ++ (Q.drop k).map (fun b => (b.toNat : Int))) = true := by
    have hb : ∀ b ∈ mixL, (decide (32 ≤ (b.toNat : Int)) && decide ((b.toNat : Int) ≤ 65533) && !(decide (55296 ≤ (b.toNat : Int)) && decide ((b.toNat : Int) ≤ 57343))) = true := by decide +kernel
    have hgg : ∀ g ∈ gones, (decide (32 ≤ g) && decide (g ≤ 65533) && !(decide (55296 ≤ g) && decide (g ≤ 57343))) = true := by decide +kernel
    unfold plainL
    rw [List.all_eq_true]
    intro x hx
    simp only [List.mem_append, List.mem_map, List.mem_singleton] at hx
    rcases hx with (⟨b, hb', rfl⟩ | rfl) | ⟨b, hb', rfl⟩
    · exact hb b (ht b hb')
    · exact hgg _ hg
    · exact hb b (hd b hb')
  have hf : ((Q.take k).map (fun b => (b.toNat : Int)) ++ [g] ++ (Q.drop k).map (fun b => (b.toNat : Int))).flatMap m = Q.map (fun b => ((f b).toNat : Int)) := by
    rw [List.flatMap_append, List.flatMap_append, mix_flat h1 _ ht, mix_flat h1 _ hd]
    simp only [List.flatMap_cons, List.flatMap_nil, hm, List.append_nil]
    rw [← List.map_append, List.take_append_drop]
  rw [e, prep_form _ _ (plain_chars hpl).1 (plain_chars hpl).2]
  unfold form
  rw [hf, if_neg, if_pos, mix_en h4 _ hQ]
  · unfold straightB
    rw [if_neg]
    rw [Bool.not_eq_true, List.any_eq_false]
    intro x hx
    obtain ⟨b, hb, rfl⟩ := List.mem_map.1 hx
    rw [h3 b (hQ b hb)]; simp
  · rw [Bool.not_eq_true, List.any_eq_false]
    intro x hx
    obtain ⟨b, hb, rfl⟩ := List.mem_map.1 hx
    rw [h2 b (hQ b hb)]; simp
theorem gone11 (s : List UInt8) (at0 which : Int) : Ret 11 [.str s, .int .i64 at0, .int .i64 which] (.bool true) := by
  refine acalls_go c11 (by simp [f11]) ?_
  simp only [f11, ↓gos, gop, Nat.reduceBEq, Nat.reduceAdd, Nat.reduceSub, Nat.reduceLeDiff, Nat.reduceMul, Int.reduceLE, Int.reduceLT, Int.reduceNe, Int.reduceToNat]
  refine ⟨fun h1 => call_ret awake25 rfl rfl ?_, fun h1 => ?_⟩
  · simp only [↓gos, gop, Nat.reduceBEq, Nat.reduceAdd, Nat.reduceSub, Nat.reduceLeDiff, Nat.reduceMul, Int.reduceLE, Int.reduceLT, Int.reduceNe, Int.reduceToNat]
    exact endb rfl
  refine goN_lp (γ := Nat) (fun i => [(0, .str s), (1, .int .i64 at0), (2, .int .i64 which), (6, .bool false), (7, .str ((s.take i).map mixAt)), (8, .int .i64 i)]) (fun _ => []) (fun i => i ≤ s.length) (fun i => s.length - i) 0
    (wks rfl (Nat.zero_le _) ⟨rfl, rfl, rfl, rfl, rfl, rfl, trivial⟩) (Nat.zero_le _) fun i hi => ?_
  simp only [f11l0, ↓gos, gop, Nat.reduceBEq, Nat.reduceAdd, Nat.reduceSub, Nat.reduceLeDiff, Nat.reduceMul, Int.reduceLE, Int.reduceLT, Int.reduceNe, Int.reduceToNat]
  refine ⟨fun k1 => ?_, fun k1 => ?_⟩
  · refine ⟨by omega, fun v hv v1 hv1 => ?_⟩
    have hbt : bt s i = ((s.getD i 0).toNat : Int) := rfl
    have hlt := UInt8.toNat_lt (s.getD i 0)
    rw [hbt, wrap_i64 (by omega) (by omega)] at hv
    have q : v1 = (((s.getD i 0).toNat % 10 : Nat) : Int) := by rw [hv1, Int.tmod_eq_emod_of_nonneg (by omega), hv]; rfl
    refine ⟨by omega, by omega, .inr ⟨_, rfl, by simp, [mixAt (s.getD i 0)], ?_, ?_⟩⟩
    · rw [q]; rfl
    · refine ⟨by simp; omega, fun u hu => ?_⟩
      rw [wrap_i64 (by omega) (by omega)] at hu
      refine rnd_d 0 (i + 1) rfl (Nat.zero_le _) ⟨rfl, rfl, rfl, rfl, rfl, rfl, rfl, rfl, ?_, rfl, by show DV.int .i64 u = _; rw [hu]; rfl, rfl, trivial⟩ rfl (by omega) (by omega)
      show DV.str _ = DV.str _
      rw [List.take_succ_eq_append_getElem (by omega), List.map_append]
      simp [show i < s.length by omega]
  · obtain rfl : i = s.length := by omega
    rw [List.take_length]
    intro v hv v1 hv1 v2 hv2
    obtain ⟨j, hj, rfl⟩ : ∃ j : Nat, j < 8 ∧ v2 = (j : Int) := by
      have hb := wrap_u64_bd which
      rw [← hv] at hb
      have q : v1 = v % 8 := by rw [hv1, Int.tmod_eq_emod_of_nonneg hb.1]
      rw [wrap_i64 (by omega) (by omega)] at hv2
      exact ⟨v2.toNat, by omega, by omega⟩
    clear hv hv1 hv2
    have hgm : gones.getD j 0 ∈ gones := by
      rw [List.getD_eq_getElem?_getD, List.getElem?_eq_getElem (by simpa [gones] using hj)]
      exact List.getElem_mem _
    have hge : [[DV.int IntKind.i32 173], [DV.int IntKind.i32 847], [DV.int IntKind.i32 6150], [DV.int IntKind.i32 8203], [DV.int IntKind.i32 8205], [DV.int IntKind.i32 8288], [DV.int IntKind.i32 65024], [DV.int IntKind.i32 65279]][j]? = some [.int .i32 (gones.getD j 0)] := by
      have : j = 0 ∨ j = 1 ∨ j = 2 ∨ j = 3 ∨ j = 4 ∨ j = 5 ∨ j = 6 ∨ j = 7 := by omega
      rcases this with rfl | rfl | rfl | rfl | rfl | rfl | rfl | rfl <;> rfl
    refine ⟨by omega, by omega, ⟨_, hge, ⟨_, rfl, ?_⟩⟩⟩
    generalize gones.getD j 0 = g at hgm
    have hQ : ∀ b ∈ s.map mixAt, b ∈ mixL := fun b hb => by obtain ⟨x, _, rfl⟩ := List.mem_map.1 hb; exact mix_at x
    have hQl : (s.map mixAt).length ≤ 60 := by rw [List.length_map]; omega
    generalize s.map mixAt = Q at hQ hQl
    simp only [↓gos, gop, Nat.reduceBEq, Nat.reduceAdd, Nat.reduceSub, Nat.reduceLeDiff, Nat.reduceMul, Int.reduceLE, Int.reduceLT, Int.reduceNe, Int.reduceToNat]
    intro a1 ha1 a2 ha2 a3 ha3
    rw [wrap_i64 (by omega) (by omega)] at ha2
    subst ha2
    rw [show IntKind.u64.wrap ((Q.length : Int) + 1) = (Q.length : Int) + 1 from wrap_u64 (by omega) (by omega)] at ha3
    subst ha3
    refine ⟨by omega, ?_⟩
    intro a4 ha4 a5 ha5
    obtain ⟨k, hk, rfl⟩ : ∃ k : Nat, k ≤ Q.length ∧ a5 = (k : Int) := by
      have hb := wrap_u64_bd at0
      rw [← ha1] at hb
      have q : a4 = a1 % ((Q.length : Int) + 1) := by rw [ha4, Int.tmod_eq_emod_of_nonneg hb.1]
      have q2 : 0 ≤ a4 ∧ a4 < (Q.length : Int) + 1 := by rw [q]; exact ⟨Int.emod_nonneg _ (by omega), Int.emod_lt_of_pos _ (by omega)⟩
      rw [wrap_i64 (by omega) (by omega)] at ha5
      exact ⟨a5.toNat, by omega, by omega⟩
    clear ha1 ha4 ha5
    have hgl := en_len4 g
    have hgl' : (Utf8.encode g).data.toList.length ≤ 4 := hgl
    have htl : (Q.take ((k : Int)).toNat).length ≤ 60 := by rw [List.length_take]; omega
    have hdl : (List.take (Q.length - ((k : Int)).toNat) (List.drop ((k : Int)).toNat Q)).length ≤ 60 := by rw [List.length_take, List.length_drop]; omega
    refine ⟨by omega, by omega, by omega, by omega, by omega, by rw [List.length_append]; omega, ?_⟩
    rw [show List.take (Q.length - ((k : Int)).toNat) (List.drop ((k : Int)).toNat Q) = Q.drop k from List.take_of_length_le (by rw [List.length_drop]; exact Nat.le_refl _)]
    rw [show ((k : Int)).toNat = k from rfl]
    have hg := gones_ok g hgm
    have n1 : nodeR (Q.take k ++ en g ++ Q.drop k) = (Q.map lowB, 0) := gone_prep hgm hg.1 (fun b hb => (mix_ok b hb).1) (fun b hb => (mix_ok b hb).2.1) (fun b hb => (mix_ok b hb).2.2.2.1) (fun b hb => (mix_ok b hb).2.2.2.2.2.2.2.2.1) Q hQ k
    have n2 : hostR (Q.take k ++ en g ++ Q.drop k) = (Q.map lowB, 0) := gone_prep hgm hg.1 (fun b hb => (mix_ok b hb).1) (fun b hb => (mix_ok b hb).2.2.1) (fun b hb => (mix_ok b hb).2.2.2.1) (fun b hb => (mix_ok b hb).2.2.2.2.2.2.2.2.1) Q hQ k
    have n3 : resR (Q.take k ++ en g ++ Q.drop k) = (Q, 0) := by
      have := gone_prep (f := id) (p := fun c => !banB c) hgm hg.2.1 (fun b hb => (mix_ok b hb).2.2.2.2.1) (fun b hb => by show (!banB b.toNat) = true; rw [(mix_ok b hb).2.2.2.2.2.1]; rfl) (fun b hb => (mix_ok b hb).2.2.2.2.2.2.1) (fun b hb => (mix_ok b hb).2.2.2.2.2.2.2.1) Q hQ k
      rw [List.map_id] at this
      exact this
    have hT : (Q.take k ++ en g ++ Q.drop k).length < 100000000 := by
      simp only [List.length_append, List.length_take, List.length_drop]; omega
    have c1 := node26 _ hT
    have c2 := host28 _ hT
    have c3 := res30 _ hT
    rw [n1] at c1
    rw [n2] at c2
    rw [n3] at c3
    rw [show (Utf8.encode g).data.toList = en g from rfl]
    generalize Q.take k ++ en g ++ Q.drop k = T at c1 c2 c3 ⊢
    refine goN_lp (γ := Nat) (fun i => [(6, .bool false), (7, .str Q), (10, .str T), (11, .str ((Q.take i).map lowB)), (12, .int .i64 i)]) (fun _ => []) (fun i => i ≤ Q.length) (fun i => Q.length - i) 0
      (wkd 0 rfl (Nat.zero_le _) ⟨rfl, rfl, rfl, rfl, rfl, rfl, rfl, rfl, rfl, rfl, trivial⟩ rfl) (Nat.zero_le _) fun i hi => ?_
    simp only [f11l1, ↓gos, gop, Nat.reduceBEq, Nat.reduceAdd, Nat.reduceSub, Nat.reduceLeDiff, Nat.reduceMul, Int.reduceLE, Int.reduceLT, Int.reduceNe, Int.reduceToNat]
    refine ⟨fun k1 => ?_, fun k1 => ?_⟩
    · have hlt := UInt8.toNat_lt (Q.getD i 0)
      have hst : (Q.take (i + 1)).map lowB = (Q.take i).map lowB ++ [lowB (Q.getD i 0)] := by
        rw [List.take_succ_eq_append_getElem (by omega), List.map_append]
        simp [show i < Q.length by omega]
      rw [show bt Q i = ((Q.getD i 0).toNat : Int) from rfl]
      generalize Q.getD i 0 = b at hlt hst ⊢
      refine ⟨by omega, fun b1 => ⟨fun b2 v hv => ?_, fun b2 => ?_⟩, fun b1 => ?_⟩
      · rw [wrap_u8 (by omega) (by omega)] at hv
        have hl : (lowB b).toNat = b.toNat + 32 := by
          unfold lowB
          rw [if_pos (by omega), toNat_of _ (by omega)]
        refine .inr ⟨_, rfl, by simp, [lowB b], ?_, ?_⟩
        · show [[DV.int .u8 _]] = [[DV.int .u8 _]]
          rw [hl, hv]; rfl
        · refine ⟨by simp only [List.length_take, List.length_cons, List.length_nil]; omega, fun u hu => ?_⟩
          rw [wrap_i64 (by omega) (by omega)] at hu
          refine rnd_d 0 (i + 1) rfl (Nat.zero_le _) ⟨rfl, rfl, rfl, rfl, rfl, rfl, ?_, rfl, by show DV.int .i64 u = _; rw [hu]; rfl, rfl, trivial⟩ rfl (by omega) (by omega)
          show DV.str _ = DV.str _
          rw [hst]
      · have hl : lowB b = b := by
          unfold lowB
          rw [if_neg (by omega)]
        refine .inr ⟨_, rfl, by simp, [lowB b], ?_, ?_⟩
        · show [[DV.int .u8 _]] = [[DV.int .u8 _]]
          rw [hl]
        · refine ⟨by simp only [List.length_take, List.length_cons, List.length_nil]; omega, fun u hu => ?_⟩
          rw [wrap_i64 (by omega) (by omega)] at hu
          refine rnd_d 0 (i + 1) rfl (Nat.zero_le _) ⟨rfl, rfl, rfl, rfl, rfl, rfl, ?_, rfl, by show DV.int .i64 u = _; rw [hu]; rfl, rfl, trivial⟩ rfl (by omega) (by omega)
          show DV.str _ = DV.str _
          rw [hst]
      · have hl : lowB b = b := by
          unfold lowB
          rw [if_neg (by omega)]
        refine .inr ⟨_, rfl, by simp, [lowB b], ?_, ?_⟩
        · show [[DV.int .u8 _]] = [[DV.int .u8 _]]
          rw [hl]
        · refine ⟨by simp only [List.length_take, List.length_cons, List.length_nil]; omega, fun u hu => ?_⟩
          rw [wrap_i64 (by omega) (by omega)] at hu
          refine rnd_d 0 (i + 1) rfl (Nat.zero_le _) ⟨rfl, rfl, rfl, rfl, rfl, rfl, ?_, rfl, by show DV.int .i64 u = _; rw [hu]; rfl, rfl, trivial⟩ rfl (by omega) (by omega)
          show DV.str _ = DV.str _
          rw [hst]
    · obtain rfl : i = Q.length := by omega
      rw [List.take_length]
      refine call_ret c1 rfl rfl ?_
      simp only [↓gos, gop, Nat.reduceBEq, Nat.reduceAdd, Nat.reduceSub, Nat.reduceLeDiff, Nat.reduceMul, Int.reduceLE, Int.reduceLT, Int.reduceNe, Int.reduceToNat]
      refine call_ret c2 rfl rfl ?_
      simp only [↓gos, gop, Nat.reduceBEq, Nat.reduceAdd, Nat.reduceSub, Nat.reduceLeDiff, Nat.reduceMul, Int.reduceLE, Int.reduceLT, Int.reduceNe, Int.reduceToNat]
      refine call_ret c3 rfl rfl ?_
      simp only [↓gos, gop, Nat.reduceBEq, Nat.reduceAdd, Nat.reduceSub, Nat.reduceLeDiff, Nat.reduceMul, Int.reduceLE, Int.reduceLT, Int.reduceNe, Int.reduceToNat]
      refine call_ret awake25 rfl rfl ?_
      simp only [↓gos, gop, Nat.reduceBEq, Nat.reduceAdd, Nat.reduceSub, Nat.reduceLeDiff, Nat.reduceMul, Int.reduceLE, Int.reduceLT, Int.reduceNe, Int.reduceToNat]
      exact endb rfl
open Go.RowKit
theorem pgone_walk (W : World) (hT : Lib.Utf8Tabs 0 1 W) (a0 : ByteArray) (_ : a0.size ≤ 140737488351232) (a1 : Int) (_ : (Lit.int IntKind.i64 a1).wf = true) (a2 : Int) (_ : (Lit.int IntKind.i64 a2).wf = true) : Calls Tryd.prog 11 #[.string a0, .int .i64 a1, .int .i64 a2] W fun e W' => e = .returned (.bool true) ∧ Below W.heap.size W W' :=
  door_walk (gone11 a0.data.toList a1 a2) W hT [.string a0, .int .i64 a1, .int .i64 a2] rfl fun i v d h1 h2 => by
    rcases i with _ | _ | _ | i
    · cases h1; cases h2; exact .str _
    · cases h1; cases h2; exact .int _ _
    · cases h1; cases h2; exact .int _ _
    · simp at h1
end Go.Proofs.Ut
