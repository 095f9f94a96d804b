/- The library's Compact of texts. -/
import Derived.Test.YtgamnnfndidclaaGreatDoorYO
import Derived.Test.YtgamnnfndidclaaGreatDoorYFoUtD
import Derived.Test.YtgamnnfndidclaaGreatDoorYFoUtF
set_option linter.all false
namespace Go.Proofs.Ut
open Go.Ai
set_option maxRecDepth 100000
set_option linter.all false
theorem id0 (i : Nat) (h : i < 1) : [0][i]? = some i := by
  have : i = 0 := by omega
  subst this
  rfl
def cpA (l : List (List UInt8)) (i : Nat) : List (List UInt8) := cpK [] l i ++ l.drop (cpK [] l i).length
theorem cpA_len {l : List (List UInt8)} {i : Nat} (hi : i ≤ l.length) : (cpA l i).length = l.length := by
  have := cpK_le (d0 := []) l i
  simp [cpA]; omega
theorem cpA_at {l : List (List UInt8)} {i j : Nat} (h : (cpK [] l i).length ≤ j) : (cpA l i)[j]? = l[j]? := by
  unfold cpA
  rw [List.getElem?_append_right h, List.getElem?_drop]
  congr 1; omega
theorem cpA_set {l : List (List UInt8)} {i : Nat} {x : List UInt8} (hx : cpK [] l (i + 1) = cpK [] l i ++ [x]) (hi : i < l.length) : (cpA l i).set (cpK [] l i).length x = cpA l (i + 1) := by
  have := cpK_le (d0 := []) l i
  unfold cpA
  rw [List.set_append_right _ _ (Nat.le_refl _), Nat.sub_self, List.drop_eq_getElem_cons (by omega : (cpK [] l i).length < l.length), List.set_cons_zero, hx]
  simp
theorem compact156 (l : List (List UInt8)) (hl : l.length < 1000000000) :
    ACalls ED 156 [.arr 1 (l.map st1)] [.osl 1 0 0 l.length none] fun h d => h = [.arr 1 ((cpK [] l l.length).map st1 ++ List.replicate (l.length - (cpK [] l l.length).length) [.str []])] ∧ d = .osl 1 0 0 (cpK [] l l.length).length none := by
  refine acalls_go c156 (by simp [f156]) ?_
  simp only [f156, ↓gos, gop, Nat.reduceBEq, Nat.reduceAdd, Nat.reduceSub, Nat.reduceLeDiff, Nat.reduceMul, Int.reduceLE, Int.reduceLT, Int.reduceNe, Int.reduceToNat]
  have same : (∀ j, 0 < j → j < l.length → l.getD j [] ≠ l.getD (j - 1) []) → [AObj.arr 1 ((cpK [] l l.length).map st1 ++ List.replicate (l.length - (cpK [] l l.length).length) [.str []])] = [.arr 1 (l.map st1)] ∧ (cpK [] l l.length).length = l.length := fun h => by
    have e : cpK [] l l.length = l := by rw [cpK_id l _ (Nat.le_refl _) h, List.take_length]
    rw [e]; simp
  refine ⟨fun h2 => ?_, fun h2 => ?_⟩
  · obtain ⟨s1, s2⟩ := same fun j h3 h4 => by omega
    refine end_h [0] (by simp) (Nat.le_refl _) id0 (by simp) (by simp [rvd, DV.inL]) (by simp [inO]) rfl rfl ?_
    rw [s1, s2]
    simp [renO, rvd, DV.ren]
  · refine goN_lp (γ := Nat) (fun k => [(3, .int .i64 k), (0, .osl 1 0 0 l.length none)]) (fun k => [.arr 1 (l.map st1), .arr 1 []]) (fun k => 1 ≤ k ∧ k ≤ l.length ∧ ∀ j, 0 < j → j < k → l.getD j [] ≠ l.getD (j - 1) []) (fun k => l.length - k) 1
      (wks rfl (by simp) ⟨rfl, rfl, trivial⟩) ⟨by omega, by omega, fun j h3 h4 => by omega⟩ fun k hk => ?_
    obtain ⟨hk1, hk2, hk3⟩ := hk
    simp only [f156l1, ↓gos, gop, Nat.reduceBEq, Nat.reduceAdd, Nat.reduceSub, Nat.reduceLeDiff, Nat.reduceMul, Int.reduceLE, Int.reduceLT, Int.reduceNe, Int.reduceToNat]
    refine ⟨fun h3 => ?_, fun h3 => ?_⟩
    · have h3' : k < l.length := by omega
      have w1 : IntKind.i64.wrap ((k : Int) - 1) = ((k - 1 : Nat) : Int) := by rw [wrap_i64 (by omega) (by omega)]; omega
      have w2 : IntKind.i64.wrap ((k : Int) + 1) = ((k + 1 : Nat) : Int) := by rw [wrap_i64 (by omega) (by omega)]; rfl
      have e2 : ((k - 1 : Nat) : Int) < (l.length : Int) := by omega
      obtain ⟨x, hx⟩ : ∃ x, l[k]? = some x := ⟨_, List.getElem?_eq_getElem (by omega)⟩
      obtain ⟨y, hy⟩ : ∃ y, l[k - 1]? = some y := ⟨_, List.getElem?_eq_getElem (by omega)⟩
      have gx : l.getD k [] = x := by rw [List.getD_eq_getElem?_getD, hx]; rfl
      have gy : l.getD (k - 1) [] = y := by rw [List.getD_eq_getElem?_getD, hy]; rfl
      simp only [w1, forall_eq, h3, e2, hx, hy, st1, ↓gos, gop, Nat.reduceBEq, Nat.reduceAdd, Nat.reduceSub, Nat.reduceLeDiff, Nat.reduceMul, Int.reduceLE, Int.reduceLT, Int.reduceNe, Int.reduceToNat]
      refine ⟨fun q => ?_, fun q => ?_⟩
      · subst q
        have hdup : cpK [] l (k + 1) = cpK [] l k := by
          conv => lhs; unfold cpK
          rw [if_pos ⟨by omega, by rw [gx, gy]⟩]
        have hid : cpK [] l k = l.take k := cpK_id l k (by omega) hk3
        have hlen : (cpK [] l (k + 1)).length = k := by rw [hdup, hid]; simp; omega
        have hA1 : cpA l (k + 1) = l := by unfold cpA; rw [hlen, hdup, hid]; simp
        refine chk_i (by omega) ?_
        refine goN_lp (γ := Nat) (fun q => [(5, .int .i64 q), (4, .osl 1 0 k (l.length - k) none), (3, .int .i64 (cpK [] l (k + q)).length), (0, .osl 1 0 0 l.length none)]) (fun q => [.arr 1 ((cpA l (k + q)).map st1), .arr 1 []])
          (fun q => 1 ≤ q ∧ k + q ≤ l.length ∧ (cpK [] l (k + q)).length + 1 ≤ k + q) (fun q => l.length - q) 1
          (wks (by rw [hA1]) (by simp) ⟨rfl, rfl, by rw [hlen]; rfl, rfl, trivial⟩) ⟨by omega, by omega, by omega⟩ fun q hq => ?_
        obtain ⟨hq1, hq2, hq3⟩ := hq
        have hAl := cpA_len hq2
        simp only [f156l0, ↓gos, gop, Nat.reduceBEq, Nat.reduceAdd, Nat.reduceSub, Nat.reduceLeDiff, Nat.reduceMul, Int.reduceLE, Int.reduceLT, Int.reduceNe, Int.reduceToNat]
        refine ⟨fun h4 => ?_, fun h4 => ?_⟩
        · have h4' : k + q < l.length := by omega
          have w3 : IntKind.i64.wrap ((q : Int) - 1) = ((q - 1 : Nat) : Int) := by rw [wrap_i64 (by omega) (by omega)]; omega
          have w4 : IntKind.i64.wrap ((q : Int) + 1) = ((q + 1 : Nat) : Int) := by rw [wrap_i64 (by omega) (by omega)]; rfl
          have w5 : IntKind.i64.wrap (((cpK [] l (k + q)).length : Int) + 1) = (((cpK [] l (k + q)).length + 1 : Nat) : Int) := by rw [wrap_i64 (by omega) (by omega)]; rfl
          have e3 : ((q - 1 : Nat) : Int) < ((l.length - k : Nat) : Int) := by omega
          have e4 : ((cpK [] l (k + q)).length : Int) < (l.length : Int) := by omega
          obtain ⟨u, hu⟩ : ∃ u, l[k + q]? = some u := ⟨_, List.getElem?_eq_getElem h4'⟩
          obtain ⟨v, hv⟩ : ∃ v, l[k + (q - 1)]? = some v := ⟨_, List.getElem?_eq_getElem (by omega)⟩
          have gu : l.getD (k + q) [] = u := by rw [List.getD_eq_getElem?_getD, hu]; rfl
          have gv : l.getD (k + q - 1) [] = v := by rw [List.getD_eq_getElem?_getD, show k + q - 1 = k + (q - 1) by omega, hv]; rfl
          have hu' : (cpA l (k + q))[k + q]? = some u := by rw [cpA_at (by omega), hu]
          have hv' : (cpA l (k + q))[k + (q - 1)]? = some v := by rw [cpA_at (by omega), hv]
          simp only [w3, w4, forall_eq, h4, e3, hu', hv', st1, ↓gos, gop, Nat.reduceBEq, Nat.reduceAdd, Nat.reduceSub, Nat.reduceLeDiff, Nat.reduceMul, Int.reduceLE, Int.reduceLT, Int.reduceNe, Int.reduceToNat]
          refine ⟨fun r => ?_, fun r => ?_⟩
          · have hnx : cpK [] l (k + q + 1) = cpK [] l (k + q) ++ [u] := by
              conv => lhs; unfold cpK
              rw [if_neg (fun z => r (by rw [← gu, ← gv]; exact z.2)), gu]
            have hset := cpA_set hnx h4'
            refine chk_i (by omega) (optP_at [] (by omega) ?_)
            refine rnd_s (q + 1) ?_ (by simp) ⟨rfl, rfl, ?_, rfl, trivial⟩ ⟨by omega, by omega, ?_⟩ (by omega)
            · rw [show k + (q + 1) = k + q + 1 from rfl, ← hset, List.map_set]; rfl
            · show DV.int .i64 _ = DV.int .i64 _
              rw [w5, show k + (q + 1) = k + q + 1 from rfl, hnx]; simp
            · rw [show k + (q + 1) = k + q + 1 from rfl, hnx]; simp; omega
          · subst r
            have hnx : cpK [] l (k + (q + 1)) = cpK [] l (k + q) := by
              rw [show k + (q + 1) = k + q + 1 from rfl]
              conv => lhs; unfold cpK
              rw [if_pos ⟨by omega, by rw [gu, gv]⟩]
            refine rnd_s (q + 1) ?_ (by simp) ⟨rfl, rfl, ?_, rfl, trivial⟩ ⟨by omega, by omega, by rw [hnx]; omega⟩ (by omega)
            · unfold cpA; rw [hnx]
            · rw [hnx]; rfl
        · have hq : k + q = l.length := by omega
          rw [hq] at hq3 hAl
          simp only [hq]
          have hm := cpK_le (d0 := []) l l.length
          have htk : ((cpA l l.length).map st1).take (cpK [] l l.length).length = (cpK [] l l.length).map st1 := by
            unfold cpA; simp
          refine chk_i (by omega) (clr_osl (E := ED) rfl (by simp; omega) ?_)
          have hdr : List.drop ((cpK [] l l.length).length + (l.length - (cpK [] l l.length).length)) ((cpA l l.length).map st1) = [] := List.drop_eq_nil_of_le (by simp; omega)
          rw [htk, hdr]
          simp only [↓gos, gop, Nat.reduceBEq, Nat.reduceAdd, Nat.reduceSub, Nat.reduceLeDiff, Nat.reduceMul, Int.reduceLE, Int.reduceLT, Int.reduceNe, Int.reduceToNat]
          refine chk_i (by omega) ?_
          exact end_h [0] (by simp) (Nat.le_refl _) id0 (by simp) (by simp [rvd, DV.inL]) (by simp [inO]) rfl rfl ⟨by simp [renO], by simp [rvd, DV.ren]⟩
      · rw [w2]
        refine rnd_s (k + 1) rfl (by simp) ⟨rfl, rfl, trivial⟩ ⟨by omega, by omega, fun j h4 h5 => ?_⟩ (by omega)
        rcases Nat.lt_or_ge j k with h6 | h6
        · exact hk3 j h4 h6
        · obtain rfl : j = k := by omega
          rw [gx, gy]; exact q
    · obtain rfl : k = l.length := by omega
      obtain ⟨s1, s2⟩ := same hk3
      refine end_h [0] (by simp) (Nat.le_refl _) id0 (by simp) (by simp [rvd, DV.inL]) (by simp [inO]) rfl rfl ?_
      rw [s1, s2]
      simp [renO, rvd, DV.ren]
end Go.Proofs.Ut

/- The library's DeleteFunc of texts; item.Groups. -/
namespace Go.Proofs.Ut
open Go.Ai
set_option maxRecDepth 100000
set_option linter.all false
theorem frz_rowt {F : List Nat} {h : List AObj} {sz i n : Nat} {es r : List (List DV)} {c : Option Nat} (hi : h[i]? = some (.arr sz es)) (hn : n ≤ es.length) (hr : es.take n = r) (hF : F.contains i = true) : rvd (frzDs F h [.osl sz i 0 n c]) = .sl sz r := by
  subst hr
  have hF' : i ∈ F := by simpa using hF
  simp [rvd, frzDs, frzD, DV.low, frz, hF', hi, hn]
theorem none187 (s : List UInt8) : DRet 187 [.str s] (.bool (decide (s = []))) := by
  refine acalls_go c187 (by simp [f187]) ?_
  simp only [f187, ↓gos, gop, Nat.reduceBEq, Nat.reduceAdd, Nat.reduceSub, Nat.reduceLeDiff, Nat.reduceMul, Int.reduceLE, Int.reduceLT, Int.reduceNe, Int.reduceToNat]
  refine ⟨fun h => endb ?_, fun h => endb ?_⟩
  · rw [decide_eq_true h]
  · rw [decide_eq_false h]
theorem take_getDq {α : Type} {l : List α} {j : Nat} (h : j < l.length) (d : α) : l.take (j + 1) = l.take j ++ [l.getD j d] := by
  rw [List.getD_eq_getElem?_getD, List.getElem?_eq_getElem h]; simp
theorem take_idx (x : List UInt8) : ∀ l : List (List UInt8), x ∉ l.take (l.idxOf x)
  | [] => by simp
  | y :: l => by
    have ih := take_idx x l
    by_cases h : y = x
    · subst h; simp
    · have hb : (y == x) = false := by simpa using h
      rw [List.idxOf_cons, hb]
      simp only [cond_false, List.take_succ_cons, List.mem_cons, not_or]
      exact ⟨fun e => h e.symm, ih⟩
def idxE (l : List (List UInt8)) : Int := if [] ∈ l then (l.idxOf [] : Nat) else -1
theorem index176e (l : List (List UInt8)) (hl : l.length < 1000000000) : DRet 176 [.sl 1 (l.map st1), .fn 187 []] (.int .i64 (idxE l)) := by
  refine acalls_go c176 (by simp [f176]) ?_
  simp only [f176, ↓gos, gop, Nat.reduceBEq, Nat.reduceAdd, Nat.reduceSub, Nat.reduceLeDiff, Nat.reduceMul, Int.reduceLE, Int.reduceLT, Int.reduceNe, Int.reduceToNat]
  refine goN_lp (γ := Nat) (fun i => [(8, .int .i64 i), (7, .int .i64 l.length), (0, .sl 1 (l.map st1)), (1, .fn 187 [])]) (fun _ => []) (fun i => i ≤ l.length ∧ [] ∉ l.take i) (fun i => l.length - i) 0
    (wks rfl (by simp) ⟨rfl, rfl, rfl, rfl, trivial⟩) ⟨by omega, by simp⟩ fun i hi => ?_
  obtain ⟨hi, ht⟩ := hi
  simp only [f176l0, ↓gos, gop, Nat.reduceBEq, Nat.reduceAdd, Nat.reduceSub, Nat.reduceLeDiff, Nat.reduceMul, Int.reduceLE, Int.reduceLT, Int.reduceNe, Int.reduceToNat]
  refine ⟨fun h => ?_, fun h => ?_⟩
  · have h2 : i < l.length := by omega
    refine optP_at [] (by simpa using h2) ?_
    have htk := take_getDq h2 []
    have hdr : l = l.take i ++ l.getD i [] :: l.drop (i + 1) := by
      rw [List.getD_eq_getElem?_getD, List.getElem?_eq_getElem h2]; simp
    have hti : (l.take i).length = i := by simp; omega
    generalize l.getD i [] = s at *
    simp only [st1, ↓gos, gop, Nat.reduceBEq, Nat.reduceAdd, Nat.reduceSub, Nat.reduceLeDiff, Nat.reduceMul, Int.reduceLE, Int.reduceLT, Int.reduceNe, Int.reduceToNat]
    refine call_ret (none187 s) rfl rfl ?_
    by_cases hs : s = []
    · subst hs
      simp only [decide_true, ↓gos, gop, Nat.reduceBEq, Nat.reduceAdd, Nat.reduceSub, Nat.reduceLeDiff, Nat.reduceMul, Int.reduceLE, Int.reduceLT, Int.reduceNe, Int.reduceToNat]
      refine endi ?_
      unfold idxE
      have hm : [] ∈ l := by rw [hdr]; simp
      have he : l.idxOf [] = i := by rw [hdr, List.idxOf_append, if_neg ht, List.idxOf_cons_self, hti, Nat.zero_add]
      rw [if_pos hm, he]
    · rw [decide_eq_false hs]
      simp only [↓gos, gop, Nat.reduceBEq, Nat.reduceAdd, Nat.reduceSub, Nat.reduceLeDiff, Nat.reduceMul, Int.reduceLE, Int.reduceLT, Int.reduceNe, Int.reduceToNat]
      intro v hv
      rw [wrap_i64 (by omega) (by omega)] at hv
      subst hv
      refine rnd_s (i + 1) rfl (by simp) ⟨rfl, rfl, rfl, rfl, trivial⟩ ⟨by omega, ?_⟩ (by omega)
      rw [htk]; simp [ht, Ne.symm hs]
  · have h2 : i = l.length := by omega
    subst h2
    rw [List.take_length] at ht
    refine endi ?_
    unfold idxE
    rw [if_neg ht]
def flK (l : List (List UInt8)) (j : Nat) : List (List UInt8) := (l.take j).filter fun s => !decide (s = [])
def flA (l : List (List UInt8)) (j : Nat) : List (List UInt8) := flK l j ++ l.drop (flK l j).length
theorem flK_le (l : List (List UInt8)) (j : Nat) : (flK l j).length ≤ j := Nat.le_trans (List.length_filter_le _ _) (by simp; omega)
theorem flA_len {l : List (List UInt8)} {i : Nat} (hi : i ≤ l.length) : (flA l i).length = l.length := by
  have := flK_le l i
  simp [flA]; omega
theorem flA_at {l : List (List UInt8)} {i j : Nat} (h : (flK l i).length ≤ j) : (flA l i)[j]? = l[j]? := by
  unfold flA
  rw [List.getElem?_append_right h, List.getElem?_drop]
  congr 1; omega
theorem flA_set {l : List (List UInt8)} {i : Nat} {x : List UInt8} (hx : flK l (i + 1) = flK l i ++ [x]) (hi : i < l.length) : (flA l i).set (flK l i).length x = flA l (i + 1) := by
  have := flK_le l i
  unfold flA
  rw [List.set_append_right _ _ (Nat.le_refl _), Nat.sub_self, List.drop_eq_getElem_cons (by omega : (flK l i).length < l.length), List.set_cons_zero, hx]
  simp
theorem flK_id {l : List (List UInt8)} {i : Nat} (h : [] ∉ l.take i) : flK l i = l.take i := by
  unfold flK
  rw [List.filter_eq_self]
  intro s hs
  have : s ≠ [] := fun e => h (e ▸ hs)
  simp [this]
theorem delete186 (l : List (List UInt8)) (tl : List (List DV)) (hl : l.length < 1000000000) :
    ACalls ED 186 [.arr 1 (l.map st1 ++ tl)] [.osl 1 0 0 l.length none, .fn 187 []] fun h d => h = [.arr 1 ((flK l l.length).map st1 ++ (List.replicate (l.length - (flK l l.length).length) [.str []] ++ tl))] ∧ d = .osl 1 0 0 (flK l l.length).length none := by
  refine acalls_go c186 (by simp [f186]) ?_
  simp only [f186, ↓gos, gop, Nat.reduceBEq, Nat.reduceAdd, Nat.reduceSub, Nat.reduceLeDiff, Nat.reduceMul, Int.reduceLE, Int.reduceLT, Int.reduceNe, Int.reduceToNat]
  refine call_ret (index176e l hl) (by simp [DV.dn, DV.low, DV.low.lowAll]) rfl ?_
  simp only [↓gos, gop, Nat.reduceBEq, Nat.reduceAdd, Nat.reduceSub, Nat.reduceLeDiff, Nat.reduceMul, Int.reduceLE, Int.reduceLT, Int.reduceNe, Int.reduceToNat]
  unfold idxE
  by_cases hm : [] ∈ l
  · rw [if_pos hm]
    have hil := List.idxOf_lt_length_of_mem hm
    have hin : [] ∉ l.take (l.idxOf []) := take_idx [] l
    have e1 : (((l.idxOf [] : Nat) : Int) = -1) = False := by simp
    have w1 : IntKind.i64.wrap (((l.idxOf [] : Nat) : Int) + 1) = ((l.idxOf [] + 1 : Nat) : Int) := by rw [wrap_i64 (by omega) (by omega)]; rfl
    have hat : l[l.idxOf []]? = some [] := by rw [List.getElem?_eq_getElem hil]; simp
    generalize l.idxOf [] = k at *
    simp only [e1, w1, forall_eq, ↓gos, gop, Nat.reduceBEq, Nat.reduceAdd, Nat.reduceSub, Nat.reduceLeDiff, Nat.reduceMul, Int.reduceLE, Int.reduceLT, Int.reduceNe, Int.reduceToNat]
    have hk0 : flK l k = l.take k := flK_id hin
    have hk1 : flK l (k + 1) = l.take k := by
      unfold flK
      rw [take_getDq hil [], List.getD_eq_getElem?_getD, hat, List.filter_append]
      have := hk0
      unfold flK at this
      rw [this]; simp
    have hA : flA l (k + 1) = l := by unfold flA; rw [hk1]; simp [Nat.min_eq_left (Nat.le_of_lt hil)]
    have hle : (flK l (k + 1)).length = k := by rw [hk1]; simp; omega
    refine goN_lp (γ := Nat) (fun j => [(6, .int .i64 j), (5, .int .i64 (flK l j).length), (1, .fn 187 []), (0, .osl 1 0 0 l.length none)]) (fun j => [.arr 1 ((flA l j).map st1 ++ tl), .arr 1 []])
      (fun j => j ≤ l.length ∧ (flK l j).length < j) (fun j => l.length - j) (k + 1)
      (wks (by rw [hA]) (by simp) ⟨rfl, by rw [hle]; rfl, rfl, rfl, trivial⟩) ⟨by omega, by omega⟩ fun j hj => ?_
    obtain ⟨hj1, hj2⟩ := hj
    have hAl := flA_len hj1
    simp only [f186l0, ↓gos, gop, Nat.reduceBEq, Nat.reduceAdd, Nat.reduceSub, Nat.reduceLeDiff, Nat.reduceMul, Int.reduceLE, Int.reduceLT, Int.reduceNe, Int.reduceToNat]
    refine ⟨fun h4 => ?_, fun h4 => ?_⟩
    · have h4' : j < l.length := by omega
      have w3 : IntKind.i64.wrap ((j : Int) + 1) = ((j + 1 : Nat) : Int) := by rw [wrap_i64 (by omega) (by omega)]; rfl
      have w5 : IntKind.i64.wrap (((flK l j).length : Int) + 1) = (((flK l j).length + 1 : Nat) : Int) := by rw [wrap_i64 (by omega) (by omega)]; rfl
      obtain ⟨u, hu⟩ : ∃ u, l[j]? = some u := ⟨_, List.getElem?_eq_getElem h4'⟩
      have hu' : ((flA l j).map st1 ++ tl)[j]? = some (st1 u) := by
        rw [List.getElem?_append_left (by simp; omega), List.getElem?_map, flA_at (by omega), hu]; rfl
      have hnx : flK l (j + 1) = flK l j ++ (if u = [] then [] else [u]) := by
        unfold flK
        rw [take_getDq h4' [], List.getD_eq_getElem?_getD, hu, List.filter_append]
        by_cases hz : u = [] <;> simp [hz]
      simp only [w3, forall_eq, h4, hu', st1, ↓gos, gop, Nat.reduceBEq, Nat.reduceAdd, Nat.reduceSub, Nat.reduceLeDiff, Nat.reduceMul, Int.reduceLE, Int.reduceLT, Int.reduceNe, Int.reduceToNat]
      refine call_ret (none187 u) rfl rfl ?_
      by_cases hz : u = []
      · rw [if_pos hz, List.append_nil] at hnx
        rw [decide_eq_true hz]
        simp only [w3, forall_eq, ↓gos, gop, Nat.reduceBEq, Nat.reduceAdd, Nat.reduceSub, Nat.reduceLeDiff, Nat.reduceMul, Int.reduceLE, Int.reduceLT, Int.reduceNe, Int.reduceToNat]
        refine rnd_s (j + 1) ?_ (by simp) ⟨rfl, by rw [hnx]; rfl, rfl, rfl, trivial⟩ ⟨by omega, by rw [hnx]; omega⟩ (by omega)
        unfold flA; rw [hnx]
      · rw [if_neg hz] at hnx
        have hset := flA_set hnx h4'
        have e5 : ((flK l j).length : Int) < (l.length : Int) := by omega
        obtain ⟨z, hz'⟩ : ∃ z, ((flA l j).map st1 ++ tl)[(flK l j).length]? = some [z] := by
          refine ⟨.str ((flA l j).getD (flK l j).length []), ?_⟩
          rw [List.getElem?_append_left (by simp; omega), List.getElem?_map, List.getD_eq_getElem?_getD, List.getElem?_eq_getElem (by omega)]; rfl
        rw [decide_eq_false hz]
        simp only [w3, w5, e5, hz', forall_eq, ↓gos, gop, Nat.reduceBEq, Nat.reduceAdd, Nat.reduceSub, Nat.reduceLeDiff, Nat.reduceMul, Int.reduceLE, Int.reduceLT, Int.reduceNe, Int.reduceToNat]
        refine rnd_s (j + 1) ?_ (by simp) ⟨rfl, by rw [hnx]; simp; rfl, rfl, rfl, trivial⟩ ⟨by omega, by rw [hnx]; simp; omega⟩ (by omega)
        rw [← hset, List.map_set, List.set_append_left _ _ (by simp; omega)]; rfl
    · obtain rfl : j = l.length := by omega
      have htk : ((flA l l.length).map st1 ++ tl).take (flK l l.length).length = (flK l l.length).map st1 := by
        rw [List.take_append_of_le_length (by simp; omega)]
        unfold flA; simp
      have hdr : ((flA l l.length).map st1 ++ tl).drop ((flK l l.length).length + (l.length - (flK l l.length).length)) = tl := by
        rw [show (flK l l.length).length + (l.length - (flK l l.length).length) = ((flA l l.length).map st1).length by simp; omega]
        simp
      refine chk_i (by omega) (clr_osl (E := ED) rfl (by simp; omega) ?_)
      rw [htk, hdr]
      simp only [↓gos, gop, Nat.reduceBEq, Nat.reduceAdd, Nat.reduceSub, Nat.reduceLeDiff, Nat.reduceMul, Int.reduceLE, Int.reduceLT, Int.reduceNe, Int.reduceToNat]
      refine chk_i (by omega) ?_
      exact end_h [0] (by simp) (Nat.le_refl _) id0 (by simp) (by simp [rvd, DV.inL]) (by simp [inO]) rfl rfl ⟨by simp [renO], by simp [rvd, DV.ren]⟩
  · rw [if_neg hm]
    have e : flK l l.length = l := by rw [flK_id (by rw [List.take_length]; exact hm), List.take_length]
    simp only [↓gos, gop, Nat.reduceBEq, Nat.reduceAdd, Nat.reduceSub, Nat.reduceLeDiff, Nat.reduceMul, Int.reduceLE, Int.reduceLT, Int.reduceNe, Int.reduceToNat]
    exact end_h [0] (by simp) (Nat.le_refl _) id0 (by simp) (by simp [rvd, DV.inL]) (by simp [inO]) rfl rfl ⟨by rw [e]; simp [renO], by rw [e]; simp [rvd, DV.ren]⟩
theorem groups147 (l : List (List UInt8)) (hl : l.length < 20) (h0 : l ≠ []) : DRet 147 [.sl 1 (l.map sv)] (.sl 1 ((groupsR l).map sv)) := by
  have hsl := srt_len (lt := Op.bytesLess) l
  have hcl := cpK_le (d0 := []) (srtT Op.bytesLess l) l.length
  refine acalls_goF c147 (by simp [f147]) ?_
  simp only [f147, finF_e, finF_en, ↓gos, gop, Nat.reduceBEq, Nat.reduceAdd, Nat.reduceSub, Nat.reduceLeDiff, Nat.reduceMul, Int.reduceLE, Int.reduceLT, Int.reduceNe, Int.reduceToNat]
  refine call_new (sorted184 l hl h0) (by simp [DV.closed, DV.closed.closedAll]) ?_
  simp only [DV.ren, renO, finF_e, finF_en, ↓gos, gop, Nat.reduceBEq, Nat.reduceAdd, Nat.reduceSub, Nat.reduceLeDiff, Nat.reduceMul, Int.reduceLE, Int.reduceLT, Int.reduceNe, Int.reduceToNat]
  have hc := compact156 (srtT Op.bytesLess l) (by omega)
  rw [hsl] at hc
  refine call_h (h1 := [.arr 1 ((srtT Op.bytesLess l).map st1)]) [1] [1] (by simp) (by simp) rfl rfl rfl rfl hc rfl ?_
  simp only [List.foldl, setAll, renO, DV.ren, upL, finF_e, finF_en, ↓gos, gop, Nat.reduceBEq, Nat.reduceAdd, Nat.reduceSub, Nat.reduceLeDiff, Nat.reduceMul, Int.reduceLE, Int.reduceLT, Int.reduceNe, Int.reduceToNat]
  have hd := delete186 (cpK [] (srtT Op.bytesLess l) l.length) (List.replicate (l.length - (cpK [] (srtT Op.bytesLess l) l.length).length) [.str []]) (by omega)
  refine call_h (h1 := [.arr 1 ((cpK [] (srtT Op.bytesLess l) l.length).map st1 ++ List.replicate (l.length - (cpK [] (srtT Op.bytesLess l) l.length).length) [.str []])]) [1] [1] (by simp) (by simp) rfl rfl rfl rfl hd rfl ?_
  simp only [List.foldl, setAll, renO, DV.ren, upL, finF_e, finF_en, ↓gos, gop, Nat.reduceBEq, Nat.reduceAdd, Nat.reduceSub, Nat.reduceLeDiff, Nat.reduceMul, Int.reduceLE, Int.reduceLT, Int.reduceNe, Int.reduceToNat]
  have hfl := flK_le (cpK [] (srtT Op.bytesLess l) l.length) (cpK [] (srtT Op.bytesLess l) l.length).length
  refine end_fc [1] (frz_rowt (es := (flK (cpK [] (srtT Op.bytesLess l) l.length) (cpK [] (srtT Op.bytesLess l) l.length).length).map st1 ++ _) rfl (by simp) (by rw [List.take_left' (by simp)]) rfl) rfl ⟨rfl, ?_⟩
  unfold groupsR flK
  rw [List.take_length]; rfl
end Go.Proofs.Ut

/- Ranges, at the Door program (written by wip/tools/prnum.py out of RgA, RgB). -/
namespace Go.Proofs.Ut
open Go.Ai Classical
set_option linter.unusedSimpArgs false
set_option maxHeartbeats 1000000
set_option maxRecDepth 100000
def rg (r : Int × Int) : List DV := [.int .i64 r.1, .int .i64 r.2]
abbrev Ret (f : Nat) (args : List DV) (D : DV) : Prop := ACalls ED f [] args fun h d => h = [] ∧ d = D
abbrev Row (f : Nat) (args : List DV) (L : List (Int × Int)) : Prop := ACalls ED f [] args fun h d => h = [.arr 2 (L.map rg)] ∧ d = .osl 2 0 0 L.length none
def hasB (r : Int × Int) (c : Int) : Bool := decide (r.1 ≤ c) && decide (c ≤ r.2)
theorem has_calls (r : Int × Int) (c : Int) : Ret 291 [.agg (rg r), .int .i64 c] (.bool (hasB r c)) := by
  refine acalls_go c291 (by simp [f291]) ?_
  simp only [f291, rg, ↓gos, gop, Nat.reduceBEq, Nat.reduceAdd, Nat.reduceSub, Nat.reduceLeDiff, Nat.reduceMul, Int.reduceLE, Int.reduceLT, Int.reduceNe, Int.reduceToNat]
  exact ⟨fun h1 => ⟨fun h2 => endb (by simp [h1, h2, hasB]), fun h2 => endb (by simp [h1, h2, hasB])⟩, fun h1 => endb (by simp [h1, hasB])⟩
theorem found_calls (l : List (Int × Int)) (c : Int) (hl : l.length < 1000000000000) : Ret 290 [.sl 2 (l.map rg), .int .i64 c, .fn 291 []] (.bool (l.any (hasB · c))) := by
  refine acalls_go c290 (by simp [f290]) ?_
  simp only [f290, rg, ↓gos, gop, Nat.reduceBEq, Nat.reduceAdd, Nat.reduceSub, Nat.reduceLeDiff, Nat.reduceMul, Int.reduceLE, Int.reduceLT, Int.reduceNe, Int.reduceToNat]
  refine goN_lp (γ := Nat) (fun i => [(1, .int .i64 c), (2, .fn 291 []), (9, .sl 2 (l.map rg)), (10, .int .i64 l.length), (11, .int .i64 i)]) (fun _ => []) (fun i => i ≤ l.length ∧ ∀ j, j < i → hasB (l.getD j (0, 0)) c = false) (fun i => l.length - i) 0 (wks rfl (Nat.le_refl _) ⟨rfl, rfl, rfl, rfl, rfl, trivial⟩) (by simp) fun i hi => ?_
  simp only [f290l0, rg, ↓gos, gop, Nat.reduceBEq, Nat.reduceAdd, Nat.reduceSub, Nat.reduceLeDiff, Nat.reduceMul, Int.reduceLE, Int.reduceLT, Int.reduceNe, Int.reduceToNat]
  obtain ⟨hi, hP⟩ := hi
  refine ⟨fun h1 => optP_at (0, 0) (by omega) (call_ret (has_calls _ c) rfl rfl ?_), fun h1 => endb ?_⟩
  · cases hb : hasB (l.getD i (0, 0)) c
    · simp only [↓gos, gop, Nat.reduceBEq, Nat.reduceAdd, Nat.reduceSub, Nat.reduceLeDiff, Nat.reduceMul, Int.reduceLE, Int.reduceLT, Int.reduceNe, Int.reduceToNat]
      intro v hv
      rw [wrap_i64 (by omega) (by omega)] at hv
      refine rnd_d 0 (i + 1) rfl (Nat.le_refl _) ⟨rfl, rfl, rfl, rfl, rfl, rfl, rfl, rfl, by simp [hv, slots], rfl, trivial⟩ rfl ⟨by omega, fun j hj => ?_⟩ (by omega)
      by_cases hji : j = i
      · subst hji; exact hb
      · exact hP j (by omega)
    · simp only [↓gos, gop, Nat.reduceBEq, Nat.reduceAdd, Nat.reduceSub, Nat.reduceLeDiff, Nat.reduceMul, Int.reduceLE, Int.reduceLT, Int.reduceNe, Int.reduceToNat]
      refine endb ?_
      symm
      rw [List.any_eq_true]
      exact ⟨l.getD i (0, 0), by simp [show i < l.length by omega], hb⟩
  · symm
    rw [List.any_eq_false]
    intro x hx
    obtain ⟨j, hj, rfl⟩ := List.getElem_of_mem hx
    have := hP j (by omega)
    simpa [hj] using this
theorem in_calls (l : List (Int × Int)) (c : Int) (hl : l.length < 1000000000000) : Ret 245 [.sl 2 (l.map rg), .int .i64 c] (.bool (l.any (hasB · c))) := by
  refine acalls_go c245 (by simp [f245]) ?_
  simp only [f245, ↓gos, gop, Nat.reduceBEq, Nat.reduceAdd, Nat.reduceSub, Nat.reduceLeDiff, Nat.reduceMul, Int.reduceLE, Int.reduceLT, Int.reduceNe, Int.reduceToNat]
  refine call_ret (found_calls l c hl) rfl rfl ?_
  simp only [↓gos, gop, Nat.reduceBEq, Nat.reduceAdd, Nat.reduceSub, Nat.reduceLeDiff, Nat.reduceMul, Int.reduceLE, Int.reduceLT, Int.reduceNe, Int.reduceToNat]
  exact endb rfl
theorem pair_calls (a b : Int) : Ret 324 [.int .i64 a, .int .i64 b] (.agg (rg (a, b))) := by
  refine acalls_go c324 (by simp [f324]) ?_
  simp only [f324, rg, ↓gos, gop, Nat.reduceBEq, Nat.reduceAdd, Nat.reduceSub, Nat.reduceLeDiff, Nat.reduceMul, Int.reduceLE, Int.reduceLT, Int.reduceNe, Int.reduceToNat]
  exact end1 rfl rfl
def prs : List Int → List (Int × Int)
  | a :: b :: l => (a, b) :: prs l
  | _ => []
theorem pairs_calls (l : List Int) (hl : l.length < 10000) : Row 323 [.agg [.sl 1 (l.map num)], .fn 324 []] (prs l) := by
  refine acalls_go c323 (by simp [f323]) ?_
  simp only [f323, ↓gos, gop, Nat.reduceBEq, Nat.reduceAdd, Nat.reduceSub, Nat.reduceLeDiff, Nat.reduceMul, Int.reduceLE, Int.reduceLT, Int.reduceNe, Int.reduceToNat]
  refine goN_lp (γ := List (Int × Int) × List Int) (fun g => [(1, .fn 324 []), (5, .osl 2 2 0 g.1.length none), (6, .sl 1 (g.2.map num))]) (fun g => [.box [.sl 1 (l.map num)], .arr 2 [], .arr 2 (g.1.map rg)]) (fun g => g.1 ++ prs g.2 = prs l ∧ g.1.length + g.2.length ≤ l.length) (fun g => g.2.length) ([], l) (wks rfl (Nat.zero_le _) ⟨rfl, rfl, rfl, trivial⟩) (by simp) fun g hg => ?_
  obtain ⟨acc, rest⟩ := g
  obtain ⟨hg, hlen⟩ := hg
  rcases rest with _ | ⟨a, _ | ⟨b, r⟩⟩
  · simp only [f323l0, num, ↓gos, gop, Nat.reduceBEq, Nat.reduceAdd, Nat.reduceSub, Nat.reduceLeDiff, Nat.reduceMul, Int.reduceLE, Int.reduceLT, Int.reduceNe, Int.reduceToNat]
    exact end_row rfl (by simpa [prs] using congrArg (List.map rg) hg) (by simpa [prs] using congrArg List.length hg)
  · simp only [f323l0, num, ↓gos, gop, Nat.reduceBEq, Nat.reduceAdd, Nat.reduceSub, Nat.reduceLeDiff, Nat.reduceMul, Int.reduceLE, Int.reduceLT, Int.reduceNe, Int.reduceToNat]
    exact end_row rfl (by simpa [prs] using congrArg (List.map rg) hg) (by simpa [prs] using congrArg List.length hg)
  · simp only [f323l0, num, ↓gos, gop, Nat.reduceBEq, Nat.reduceAdd, Nat.reduceSub, Nat.reduceLeDiff, Nat.reduceMul, Int.reduceLE, Int.reduceLT, Int.reduceNe, Int.reduceToNat]
    refine ⟨fun _ => call_ret (pair_calls a b) rfl rfl ?_, fun h => by omega⟩
    simp only [rg, ↓gos, gop, Nat.reduceBEq, Nat.reduceAdd, Nat.reduceSub, Nat.reduceLeDiff, Nat.reduceMul, Int.reduceLE, Int.reduceLT, Int.reduceNe, Int.reduceToNat]
    have hd : acc.length + (r.length + 2) ≤ l.length := by simpa using hlen
    refine ⟨by omega, by omega, by omega, ?_⟩
    refine rnd_d 3 (acc ++ [(a, b)], r) ?_ (Nat.zero_le _) ⟨rfl, rfl, ?_, rfl, ?_, rfl, trivial⟩ rfl ⟨?_, ?_⟩ (by simp; omega)
    · simp [rg, num]
    · simp [slots]
    · have e : List.take (r.length + 1 + 1 - 2) (r.map num) = r.map num := List.take_of_length_le (by simp)
      rw [e]; rfl
    · simpa [prs] using hg
    · simp; omega
theorem made_calls (l : List Int) (hl : l.length < 10000) : Row 292 [.sl 1 (l.map num)] (prs l) := by
  refine acalls_go c292 (by simp [f292]) ?_
  simp only [f292, ↓gos, gop, Nat.reduceBEq, Nat.reduceAdd, Nat.reduceSub, Nat.reduceLeDiff, Nat.reduceMul, Int.reduceLE, Int.reduceLT, Int.reduceNe, Int.reduceToNat]
  refine call_new (pairs_calls l hl) (by simp [DV.closed, DV.closed.closedAll]) ?_
  simp only [DV.ren, renO, ↓gos, gop, Nat.reduceBEq, Nat.reduceAdd, Nat.reduceSub, Nat.reduceLeDiff, Nat.reduceMul, Int.reduceLE, Int.reduceLT, Int.reduceNe, Int.reduceToNat]
  exact end_row rfl rfl rfl
def lettersL : List Int := [65, 90, 97, 122, 192, 214, 216, 246, 248, 591, 880, 1327, 19968, 40959]
theorem letters51_calls : Row 246 [] (prs lettersL) := by
  refine acalls_go c246 (by simp [f246]) ?_
  simp only [f246, ↓gos, gop, Nat.reduceBEq, Nat.reduceAdd, Nat.reduceSub, Nat.reduceLeDiff, Nat.reduceMul, Int.reduceLE, Int.reduceLT, Int.reduceNe, Int.reduceToNat]
  refine call_lend (made_calls lettersL (by decide)) rfl rfl ?_
  simp only [DV.ren, renO, ↓gos, gop, Nat.reduceBEq, Nat.reduceAdd, Nat.reduceSub, Nat.reduceLeDiff, Nat.reduceMul, Int.reduceLE, Int.reduceLT, Int.reduceNe, Int.reduceToNat]
  exact end_row rfl rfl rfl
def bannedL : List Int := [0, 31, 127, 160, 5760, 5760, 8192, 8202, 8232, 8239, 8287, 8287, 12288, 12288, 57344, 63743, 65533, 65535, 917504, 917631, 983040, 1114111]
theorem banned71_calls : Row 256 [] (prs bannedL) := by
  refine acalls_go c256 (by simp [f256]) ?_
  simp only [f256, ↓gos, gop, Nat.reduceBEq, Nat.reduceAdd, Nat.reduceSub, Nat.reduceLeDiff, Nat.reduceMul, Int.reduceLE, Int.reduceLT, Int.reduceNe, Int.reduceToNat]
  refine call_lend (made_calls bannedL (by decide)) rfl rfl ?_
  simp only [DV.ren, renO, ↓gos, gop, Nat.reduceBEq, Nat.reduceAdd, Nat.reduceSub, Nat.reduceLeDiff, Nat.reduceMul, Int.reduceLE, Int.reduceLT, Int.reduceNe, Int.reduceToNat]
  exact end_row rfl rfl rfl
def rightLeftL : List Int := [1424, 1535, 1536, 1791, 64285, 64335]
theorem rightLeft52_calls : Row 247 [] (prs rightLeftL) := by
  refine acalls_go c247 (by simp [f247]) ?_
  simp only [f247, ↓gos, gop, Nat.reduceBEq, Nat.reduceAdd, Nat.reduceSub, Nat.reduceLeDiff, Nat.reduceMul, Int.reduceLE, Int.reduceLT, Int.reduceNe, Int.reduceToNat]
  refine call_lend (made_calls rightLeftL (by decide)) rfl rfl ?_
  simp only [DV.ren, renO, ↓gos, gop, Nat.reduceBEq, Nat.reduceAdd, Nat.reduceSub, Nat.reduceLeDiff, Nat.reduceMul, Int.reduceLE, Int.reduceLT, Int.reduceNe, Int.reduceToNat]
  exact end_row rfl rfl rfl
def goneL : List Int := [173, 173, 847, 847, 6150, 6150, 8203, 8205, 8288, 8288, 65024, 65039, 65279, 65279]
theorem gone80_calls : Row 258 [] (prs goneL) := by
  refine acalls_go c258 (by simp [f258]) ?_
  simp only [f258, ↓gos, gop, Nat.reduceBEq, Nat.reduceAdd, Nat.reduceSub, Nat.reduceLeDiff, Nat.reduceMul, Int.reduceLE, Int.reduceLT, Int.reduceNe, Int.reduceToNat]
  refine call_lend (made_calls goneL (by decide)) rfl rfl ?_
  simp only [DV.ren, renO, ↓gos, gop, Nat.reduceBEq, Nat.reduceAdd, Nat.reduceSub, Nat.reduceLeDiff, Nat.reduceMul, Int.reduceLE, Int.reduceLT, Int.reduceNe, Int.reduceToNat]
  exact end_row rfl rfl rfl
end Go.Proofs.Ut
