import Derived.Test.YtbhlmbacgbfaoaaRgF
set_option linter.all false
namespace Go.Proofs.Rg
open Go.Ai Classical
set_option linter.unusedSimpArgs false
set_option maxHeartbeats 1000000
set_option maxRecDepth 100000
/-- What is left of two lists, and what was taken of them. -/
structure Mid (a b p x y : List (Int × Int)) : Prop where
  perm : (p ++ x ++ y).Perm (a ++ b)
  sort : p.Pairwise (fun u v => u.1 ≤ v.1)
  le : ∀ u ∈ p, ∀ v ∈ x ++ y, u.1 ≤ v.1
  sx : x.Pairwise (fun u v => u.1 ≤ v.1)
  sy : y.Pairwise (fun u v => u.1 ≤ v.1)
def f15t : ACode := tl (tl (bl (tl f15l0)))
theorem f15e : f15l0 = .seq (hd f15l0) (.block 1 (.seq (hd (bl (tl f15l0))) (.seq (hd (tl (bl (tl f15l0)))) f15t))) := rfl
theorem f15_tail {post : AExit → St → Prop} {Q : St → Prop} {ks : List Fr} (L : List (Nat × DV)) (w : Int × Int) (x y out : List (Int × Int)) (hw : I64 w) (ho : ∀ r ∈ out, I64 r) (hn : out.length < 1000000000)
    (h0 : slots L 0 = .sl 2 (x.map rg)) (h1 : slots L 1 = .sl 2 (y.map rg)) (h5 : slots L 5 = .osl 2 1 0 out.length none) (h6 : slots L 6 = .ptr 2 0)
    (hQ : ∀ L' H', slots L' 0 = .sl 2 (x.map rg) → slots L' 1 = .sl 2 (y.map rg) → slots L' 5 = .osl 2 1 0 (mg out w).length none → H'.take 2 = [.arr 2 [], .arr 2 ((mg out w).map rg)] → Q (sta L' H')) :
    goN E0 0 post (.block 1 :: .inv Q :: ks) f15t L [.arr 2 [], .arr 2 (out.map rg), .box (rg w)] := by
  simp only [f15t, f15l0, tl_seq, bl_block, rg, h0, h1, h5, h6, ↓gos, gop, Nat.reduceBEq, Nat.reduceAdd, Nat.reduceSub, Nat.reduceLeDiff, Nat.reduceMul, Int.reduceLE, Int.reduceLT, Int.reduceNe, Int.reduceToNat]
  refine ⟨fun g1 v1 hv1 => ?_, fun g1 => ⟨by omega, by omega, ?_⟩⟩
  · have hne : out.length ≠ 0 := by omega
    rw [wrap_i64 (by omega) (by omega)] at hv1
    have hvl : v1.toNat = out.length - 1 := by omega
    have hol : out[v1.toNat]? = some (lastR out) := by
      unfold lastR
      have : out.length - 1 < out.length := by omega
      rw [hvl]; simp [this]
    have hqI := ho _ (lastR_mem hne)
    unfold I64 at hqI hw
    have e1 : IntKind.i64.wrap ((out.length : Int) - 1) = out.length - 1 := wrap_i64 (by omega) (by omega)
    have upd : w.1 ≤ (lastR out).2 + 1 → ∀ (v x : Int), v = out.length - 1 → x = max (lastR out).2 w.2 → (List.map rg out).set v.toNat [.int .i64 (lastR out).1, .int .i64 x] = (mg out w).map rg := fun hle v x hv hx => by
      have : v.toNat = out.length - 1 := by omega
      unfold mg
      rw [if_neg hne, if_pos hle, this, List.map_set, hx]; rfl
    have lenm : w.1 ≤ (lastR out).2 + 1 → (mg out w).length = out.length := fun hle => by unfold mg; rw [if_neg hne, if_pos hle]; simp
    have hat : ∀ v : Int, v = out.length - 1 → out[v.toNat]? = some (lastR out) := fun v hv => by rw [show v = v1 by omega]; exact hol
    have kl : ∀ s d, slots L s = d → slots (kilS 1 L) s = kil 1 d := fun s d h => by rw [← h]; exact (slots_kill _ L s).symm
    refine ⟨by omega, by omega, optP_in _ hol ⟨fun g2 v hv v2 hv2 => ?_, fun g2 v hv v2 hv2 => ?_⟩⟩
    · rw [e1] at hv hv2
      refine ⟨by omega, by omega, optP_in _ (hat _ hv2) fun v3 hv3 => ⟨by omega, by omega, optP_in _ (hat _ hv) ?_⟩⟩
      rw [mx_eq] at hv3
      have hle : w.1 ≤ (lastR out).2 + 1 := by omega
      exact hQ _ _ (by simp only [h0, ↓gos, gop, Nat.reduceBEq, Nat.reduceAdd, Nat.reduceSub, Nat.reduceLeDiff, Nat.reduceMul, Int.reduceLE, Int.reduceLT, Int.reduceNe, Int.reduceToNat]) (by simp only [h1, ↓gos, gop, Nat.reduceBEq, Nat.reduceAdd, Nat.reduceSub, Nat.reduceLeDiff, Nat.reduceMul, Int.reduceLE, Int.reduceLT, Int.reduceNe, Int.reduceToNat]) (by simp only [h5, lenm hle, ↓gos, gop, Nat.reduceBEq, Nat.reduceAdd, Nat.reduceSub, Nat.reduceLeDiff, Nat.reduceMul, Int.reduceLE, Int.reduceLT, Int.reduceNe, Int.reduceToNat]) (by simp [upd hle v v3 hv hv3])
    · rw [e1] at hv2
      rw [wrap_i64 (by omega) (by omega)] at hv
      refine ⟨by omega, by omega, optP_in _ (hat _ hv2) ⟨fun g3 v3 hv3 v4 hv4 => ?_, fun g3 => ⟨by omega, by omega, ?_⟩⟩⟩
      · rw [e1] at hv3 hv4
        refine ⟨by omega, by omega, optP_in _ (hat _ hv4) fun v5 hv5 => ⟨by omega, by omega, optP_in _ (hat _ hv3) ?_⟩⟩
        rw [mx_eq] at hv5
        have hle : w.1 ≤ (lastR out).2 + 1 := by omega
        exact hQ _ _ (by simp only [h0, ↓gos, gop, Nat.reduceBEq, Nat.reduceAdd, Nat.reduceSub, Nat.reduceLeDiff, Nat.reduceMul, Int.reduceLE, Int.reduceLT, Int.reduceNe, Int.reduceToNat]) (by simp only [h1, ↓gos, gop, Nat.reduceBEq, Nat.reduceAdd, Nat.reduceSub, Nat.reduceLeDiff, Nat.reduceMul, Int.reduceLE, Int.reduceLT, Int.reduceNe, Int.reduceToNat]) (by simp only [h5, lenm hle, ↓gos, gop, Nat.reduceBEq, Nat.reduceAdd, Nat.reduceSub, Nat.reduceLeDiff, Nat.reduceMul, Int.reduceLE, Int.reduceLT, Int.reduceNe, Int.reduceToNat]) (by simp [upd hle v3 v5 hv3 hv5])
      · have hmg : mg out w = out ++ [w] := by unfold mg; rw [if_neg hne, if_neg (by omega)]
        refine hQ _ _ ?_ ?_ (by simp [hmg, slots]) ?_
        · simp only [↓gos, gop, Nat.reduceBEq, Nat.reduceAdd, Nat.reduceSub, Nat.reduceLeDiff, Nat.reduceMul, Int.reduceLE, Int.reduceLT, Int.reduceNe, Int.reduceToNat]; exact kl 0 _ h0
        · simp only [↓gos, gop, Nat.reduceBEq, Nat.reduceAdd, Nat.reduceSub, Nat.reduceLeDiff, Nat.reduceMul, Int.reduceLE, Int.reduceLT, Int.reduceNe, Int.reduceToNat]; exact kl 1 _ h1
        · have e : List.take out.length (out.map rg) = out.map rg := List.take_of_length_le (by simp)
          simp only [e, hmg, List.map_append]; rfl
  · have kl : ∀ s d, slots L s = d → slots (kilS 1 L) s = kil 1 d := fun s d h => by rw [← h]; exact (slots_kill _ L s).symm
    have hn0 : out.length = 0 := by omega
    have hmg : mg out w = [w] := by unfold mg; rw [if_pos hn0]
    obtain rfl : out = [] := List.eq_nil_of_length_eq_zero hn0
    refine hQ _ _ ?_ ?_ (by simp [hmg, slots]) ?_
    · simp only [↓gos, gop, Nat.reduceBEq, Nat.reduceAdd, Nat.reduceSub, Nat.reduceLeDiff, Nat.reduceMul, Int.reduceLE, Int.reduceLT, Int.reduceNe, Int.reduceToNat]; exact kl 0 _ h0
    · simp only [↓gos, gop, Nat.reduceBEq, Nat.reduceAdd, Nat.reduceSub, Nat.reduceLeDiff, Nat.reduceMul, Int.reduceLE, Int.reduceLT, Int.reduceNe, Int.reduceToNat]; exact kl 1 _ h1
    · simp only [hmg]; rfl
theorem rt_sorted {l : List (Int × Int)} (h : Rt l) : l.Pairwise (fun u v => u.1 ≤ v.1) := by
  rw [List.pairwise_iff_getElem]
  have key : ∀ (n i : Nat) (hi : i + n < l.length), (l[i]'(by omega)).1 ≤ (l[i + n]).1 := by
    intro n
    induction n with
    | zero => intro i hi; exact Int.le_refl _
    | succ n ih =>
      intro i hi
      have h1 := ih i (by omega)
      have h2 := h (i + n) (by omega)
      have h3 := (h (i + (n + 1)) hi).2 (by omega)
      unfold okAt at h2
      have e1 : l.getD (i + n) (0, 0) = l[i + n] := by simp [show i + n < l.length by omega]
      have e2 : l.getD (i + (n + 1)) (0, 0) = l[i + (n + 1)] := by simp [hi]
      have e3 : i + (n + 1) - 1 = i + n := by omega
      rw [e1] at h2
      rw [e3, e1, e2] at h3
      omega
  intro i j hi hj hij
  have := key (j - i) i (by omega)
  have e : i + (j - i) = j := by omega
  simp only [e] at this
  exact this
theorem join2_calls (a b : List (Int × Int)) (ha : a.length < 100000000) (hb : b.length < 100000000) (hai : ∀ r ∈ a, I64 r) (hbi : ∀ r ∈ b, I64 r) : ACalls E0 15 [] [.sl 2 (a.map rg), .sl 2 (b.map rg)] fun h d => ∃ J, JoinR a b J ∧ h = [.arr 2 (J.map rg)] ∧ d = .osl 2 0 0 J.length none := by
  refine acalls_go c15 (by simp [f15]) ?_
  simp only [f15, ↓gos, gop, Nat.reduceBEq, Nat.reduceAdd, Nat.reduceSub, Nat.reduceLeDiff, Nat.reduceMul, Int.reduceLE, Int.reduceLT, Int.reduceNe, Int.reduceToNat]
  refine call_ret (right2_calls a (by omega)) rfl rfl ?_
  by_cases h1 : Rt a
  · simp only [h1, decide_true, ↓gos, gop, Nat.reduceBEq, Nat.reduceAdd, Nat.reduceSub, Nat.reduceLeDiff, Nat.reduceMul, Int.reduceLE, Int.reduceLT, Int.reduceNe, Int.reduceToNat]
    refine call_ret (right2_calls b (by omega)) rfl rfl ?_
    by_cases h2 : Rt b
    · simp only [h2, decide_true, ↓gos, gop, Nat.reduceBEq, Nat.reduceAdd, Nat.reduceSub, Nat.reduceLeDiff, Nat.reduceMul, Int.reduceLE, Int.reduceLT, Int.reduceNe, Int.reduceToNat]
      refine goN_lp (γ := List (Int × Int) × List (Int × Int) × List (Int × Int) × List (Int × Int)) (fun g => [(0, .sl 2 (g.2.1.map rg)), (1, .sl 2 (g.2.2.1.map rg)), (5, .osl 2 1 0 g.2.2.2.length none)])
        (fun g => [.arr 2 [], .arr 2 (g.2.2.2.map rg)]) (fun g => Mid a b g.1 g.2.1 g.2.2.1 ∧ g.2.2.2 = g.1.foldl mg [] ∧ g.2.2.2.length ≤ g.1.length ∧ (∀ r ∈ g.2.2.2, I64 r)) (fun g => g.2.1.length + g.2.2.1.length) ([], a, b, []) (wks rfl (Nat.zero_le _) ⟨rfl, rfl, rfl, trivial⟩) ?_ fun g hg => ?_
      · exact ⟨⟨by simp, .nil, by simp, rt_sorted h1, rt_sorted h2⟩, rfl, by simp, by simp⟩
      obtain ⟨p, x, y, out⟩ := g
      obtain ⟨hM, hout, hlen, hI⟩ := hg
      simp only at hM hout hlen hI
      rw [f15e]
      have hplen : p.length + x.length + y.length = a.length + b.length := by
        have := hM.perm.length_eq
        simp at this; omega
      have hall : ∀ r, r ∈ p ++ x ++ y → I64 r := fun r hr => by
        rcases List.mem_append.1 (hM.perm.mem_iff.1 hr) with h | h
        · exact hai r h
        · exact hbi r h
      have tk : ∀ (z : List (Int × Int)), DV.sl 2 (List.take (z.length + 1 - 1) (z.map rg)) = .sl 2 (z.map rg) := fun z => by
        rw [List.take_of_length_le (by simp)]
      have nx : ∀ (w : Int × Int) (x' y' : List (Int × Int)) (n : Nat), I64 w → Mid a b (p ++ [w]) x' y' → x'.length + y'.length < n → ∀ L' H', slots L' 0 = .sl 2 (x'.map rg) → slots L' 1 = .sl 2 (y'.map rg) → slots L' 5 = .osl 2 1 0 (mg out w).length none → H'.take 2 = [.arr 2 [], .arr 2 ((mg out w).map rg)] →
          rnd 0 (fun g : List (Int × Int) × List (Int × Int) × List (Int × Int) × List (Int × Int) => [(0, .sl 2 (g.2.1.map rg)), (1, .sl 2 (g.2.2.1.map rg)), (5, .osl 2 1 0 g.2.2.2.length none)])
            (fun g => [.arr 2 [], .arr 2 (g.2.2.2.map rg)]) (fun g => Mid a b g.1 g.2.1 g.2.2.1 ∧ g.2.2.2 = g.1.foldl mg [] ∧ g.2.2.2.length ≤ g.1.length ∧ (∀ r ∈ g.2.2.2, I64 r)) (fun g => g.2.1.length + g.2.2.1.length) n (sta L' H') := fun w x' y' n hw hM' hn L' H' k0 k1 k5 kH =>
        rnd_d 2 (p ++ [w], x', y', mg out w) kH (Nat.zero_le _) ⟨k0, rfl, k1, rfl, k5, rfl, trivial⟩ rfl ⟨hM', by rw [hout]; simp, by have := mg_len out w; simp; omega, mg_mem hI hw fun h => by
          have := hI _ (lastR_mem h)
          unfold I64 at *
          simp only
          omega⟩ hn
      have pickx : ∀ u x', x = u :: x' → (∀ v ∈ y, u.1 ≤ v.1) → I64 u ∧ Mid a b (p ++ [u]) x' y := fun u x' e hle => by
        subst e
        refine ⟨hall u (by simp), ⟨by simpa using hM.perm, ?_, ?_, (List.pairwise_cons.1 hM.sx).2, hM.sy⟩⟩
        · rw [List.pairwise_append]
          exact ⟨hM.sort, by simp, fun a ha b hb => by simp at hb; subst hb; exact hM.le a ha _ (by simp)⟩
        · intro s hs t ht
          rcases List.mem_append.1 hs with hs | hs
          · exact hM.le s hs t (by simp at ht ⊢; rcases ht with h | h <;> simp [h])
          · simp at hs; subst hs
            rcases List.mem_append.1 ht with h | h
            · exact (List.pairwise_cons.1 hM.sx).1 t h
            · exact hle t h
      have picky : ∀ u y', y = u :: y' → (∀ v ∈ x, u.1 ≤ v.1) → I64 u ∧ Mid a b (p ++ [u]) x y' := fun u y' e hle => by
        subst e
        refine ⟨hall u (by simp), ⟨?_, ?_, ?_, hM.sx, (List.pairwise_cons.1 hM.sy).2⟩⟩
        · refine List.Perm.trans ?_ hM.perm
          simp only [List.append_assoc]
          exact List.Perm.append_left p (by simpa using (List.perm_middle (a := u) (l₁ := x) (l₂ := y')).symm)
        · rw [List.pairwise_append]
          exact ⟨hM.sort, by simp, fun a ha b hb => by simp at hb; subst hb; exact hM.le a ha _ (by simp)⟩
        · intro s hs t ht
          rcases List.mem_append.1 hs with hs | hs
          · exact hM.le s hs t (by simp at ht ⊢; rcases ht with h | h <;> simp [h])
          · simp at hs; subst hs
            rcases List.mem_append.1 ht with h | h
            · exact hle t h
            · exact (List.pairwise_cons.1 hM.sy).1 t h
      have ol : out.length < 1000000000 := by omega
      rcases x with _ | ⟨u, x⟩ <;> rcases y with _ | ⟨v, y⟩
      · simp only [f15l0, hd_seq, tl_seq, bl_block, rg, ↓gos, gop, Nat.reduceBEq, Nat.reduceAdd, Nat.reduceSub, Nat.reduceLeDiff, Nat.reduceMul, Int.reduceLE, Int.reduceLT, Int.reduceNe, Int.reduceToNat]
        refine end_rowP rfl ⟨out, ⟨fun _ => ⟨p, by simpa using hM.perm, hM.sort, hout⟩, fun q => absurd ⟨h1, h2⟩ q⟩, rfl, rfl⟩
      · simp only [f15l0, hd_seq, tl_seq, bl_block, rg, ↓gos, gop, Nat.reduceBEq, Nat.reduceAdd, Nat.reduceSub, Nat.reduceLeDiff, Nat.reduceMul, Int.reduceLE, Int.reduceLT, Int.reduceNe, Int.reduceToNat]
        obtain ⟨hI', hM'⟩ := picky v y rfl (by simp)
        exact ⟨by omega, f15_tail _ v [] y out hI' hI ol rfl (tk y) rfl rfl (nx v [] y _ hI' hM' (by simp))⟩
      · simp only [f15l0, hd_seq, tl_seq, bl_block, rg, ↓gos, gop, Nat.reduceBEq, Nat.reduceAdd, Nat.reduceSub, Nat.reduceLeDiff, Nat.reduceMul, Int.reduceLE, Int.reduceLT, Int.reduceNe, Int.reduceToNat]
        obtain ⟨hI', hM'⟩ := pickx u x rfl (by simp)
        exact ⟨by omega, f15_tail _ u x [] out hI' hI ol (tk x) rfl rfl rfl (nx u x [] _ hI' hM' (by simp))⟩
      · simp only [f15l0, hd_seq, tl_seq, bl_block, rg, ↓gos, gop, Nat.reduceBEq, Nat.reduceAdd, Nat.reduceSub, Nat.reduceLeDiff, Nat.reduceMul, Int.reduceLE, Int.reduceLT, Int.reduceNe, Int.reduceToNat]
        refine ⟨fun g1 => ?_, fun g1 => ?_⟩
        · obtain ⟨hI', hM'⟩ := pickx u x rfl (fun t ht => by
            rcases List.mem_cons.1 ht with rfl | ht
            · exact g1
            · exact Int.le_trans g1 ((List.pairwise_cons.1 hM.sy).1 t ht))
          exact ⟨by omega, f15_tail _ u x (v :: y) out hI' hI ol (tk x) rfl rfl rfl (nx u x (v :: y) _ hI' hM' (by simp))⟩
        · obtain ⟨hI', hM'⟩ := picky v y rfl (fun t ht => by
            rcases List.mem_cons.1 ht with rfl | ht
            · omega
            · have := (List.pairwise_cons.1 hM.sx).1 t ht; omega)
          exact ⟨by omega, f15_tail _ v (u :: x) y out hI' hI ol rfl (tk y) rfl rfl (nx v (u :: x) y _ hI' hM' (by simp))⟩
    · simp only [h2, decide_false, ↓gos, gop, Nat.reduceBEq, Nat.reduceAdd, Nat.reduceSub, Nat.reduceLeDiff, Nat.reduceMul, Int.reduceLE, Int.reduceLT, Int.reduceNe, Int.reduceToNat]
      exact end_rowP rfl ⟨[], ⟨fun q => absurd q.2 h2, fun _ => rfl⟩, rfl, rfl⟩
  · simp only [h1, decide_false, ↓gos, gop, Nat.reduceBEq, Nat.reduceAdd, Nat.reduceSub, Nat.reduceLeDiff, Nat.reduceMul, Int.reduceLE, Int.reduceLT, Int.reduceNe, Int.reduceToNat]
    exact end_rowP rfl ⟨[], ⟨fun q => absurd q.1 h1, fun _ => rfl⟩, rfl, rfl⟩
end Go.Proofs.Rg
