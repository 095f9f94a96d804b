/- Characters and their bytes: put behind one another, cut, written. Nothing of any program. -/
import Derived.Test.YtbnmhlienklfpaaGreatDoorZFoUtE
import Derived.Test.YtbnmhlienklfpaaGreatDoorZFoUtF
import Derived.Test.YtbnmhlienklfpaaGreatDoorAiBld
import Derived.Test.YtbnmhlienklfpaaGreatDoorZFuns
import Derived.Test.YtbnmhlienklfpaaGreatDoorZFoShelf
import Derived.Shelf.Strings.Count
import Derived.Shelf.Strings.IndexAnyAll
set_option linter.all false
namespace Go.Proofs.Ut
open Go.Ai Classical
set_option linter.unusedSimpArgs false
set_option maxHeartbeats 1000000
set_option maxRecDepth 100000
theorem D_shift (a b : List UInt8) (j : Nat) : D (a ++ b) (a.length + j) = D b j := by
  rw [← decodeL_at, ← decodeL_at, List.drop_append, List.drop_eq_nil_of_le (by omega), Nat.add_sub_cancel_left, List.nil_append]
theorem runAt_shift (p : Int → Bool) (a b : List UInt8) : ∀ n j, b.length - j ≤ n → runAt p (a ++ b) (a.length + j) = runAt p b j := fun n => by
  have hl : (a ++ b).length = a.length + b.length := List.length_append
  induction n with
  | zero => intro j h; rw [runAt_end _ _ _ (by omega), runAt_end _ _ _ (by omega)]
  | succ n ih =>
    intro j h
    by_cases hj : j < b.length
    · have := D_len b j hj
      rw [runAt_step p (a ++ b) _ (by omega), runAt_step p b j hj, D_shift, Nat.add_assoc, ih _ (by omega)]
    · rw [runAt_end _ _ _ (by omega), runAt_end _ _ _ (by omega)]
theorem rlAt_shift (a b : List UInt8) : ∀ n j, b.length - j ≤ n → rlAt (a ++ b) (a.length + j) = rlAt b j := fun n => by
  have hl : (a ++ b).length = a.length + b.length := List.length_append
  induction n with
  | zero => intro j h; rw [rlAt_end _ _ (by omega), rlAt_end _ _ (by omega)]
  | succ n ih =>
    intro j h
    by_cases hj : j < b.length
    · have := D_len b j hj
      rw [rlAt_step (a ++ b) _ (by omega), rlAt_step b j hj, D_shift, Nat.add_assoc, ih _ (by omega)]
    · rw [rlAt_end _ _ (by omega), rlAt_end _ _ (by omega)]
/-- A character's bytes. -/
def en (c : Int) : List UInt8 := (Utf8.encode c).data.toList
theorem en_eq {c : Nat} (h : okC c) : en c = if c < 128 then [UInt8.ofNat c] else if c < 2048 then [UInt8.ofNat (192 + c / 64), UInt8.ofNat (128 + c % 64)] else if c < 65536 then [UInt8.ofNat (224 + c / 4096), UInt8.ofNat (128 + c / 64 % 64), UInt8.ofNat (128 + c % 64)] else [UInt8.ofNat (240 + c / 262144), UInt8.ofNat (128 + c / 4096 % 64), UInt8.ofNat (128 + c / 64 % 64), UInt8.ofNat (128 + c % 64)] := by
  unfold en Utf8.encode
  rw [if_pos ((valid_iff c).2 h)]
  simp only [Int.toNat_natCast]
  split
  · rfl
  · split
    · rfl
    · split <;> rfl
theorem toNat_of (n : Nat) (h : n < 256) : (UInt8.ofNat n).toNat = n := by simp; omega
theorem D_en (c : Nat) (h : okC c) (t : List UInt8) : D (en c ++ t) 0 = (c, (en c).length) := by
  have ho := h
  unfold okC at ho
  rw [en_eq h]
  split
  · rename_i h1
    have b0 : by_ ([UInt8.ofNat c] ++ t) 0 = c := toNat_of c (by omega)
    rw [D1 (by rw [b0]; exact h1), b0]; rfl
  split
  · rename_i h1 h2
    have b0 : by_ ([UInt8.ofNat (192 + c / 64), UInt8.ofNat (128 + c % 64)] ++ t) 0 = 192 + c / 64 := toNat_of _ (by omega)
    have b1 : by_ ([UInt8.ofNat (192 + c / 64), UInt8.ofNat (128 + c % 64)] ++ t) (0 + 1) = 128 + c % 64 := toNat_of _ (by omega)
    rw [D2 (by rw [b0]; omega), b0, b1, if_pos ⟨by simp, by omega⟩, if_pos (by omega)]
    exact Prod.ext (by simp only; omega) rfl
  split
  · rename_i h1 h2 h3
    have b0 : by_ ([UInt8.ofNat (224 + c / 4096), UInt8.ofNat (128 + c / 64 % 64), UInt8.ofNat (128 + c % 64)] ++ t) 0 = 224 + c / 4096 := toNat_of _ (by omega)
    have b1 : by_ ([UInt8.ofNat (224 + c / 4096), UInt8.ofNat (128 + c / 64 % 64), UInt8.ofNat (128 + c % 64)] ++ t) (0 + 1) = 128 + c / 64 % 64 := toNat_of _ (by omega)
    have b2 : by_ ([UInt8.ofNat (224 + c / 4096), UInt8.ofNat (128 + c / 64 % 64), UInt8.ofNat (128 + c % 64)] ++ t) (0 + 2) = 128 + c % 64 := toNat_of _ (by omega)
    have e : (224 + c / 4096) % 16 * 4096 + (128 + c / 64 % 64) % 64 * 64 + (128 + c % 64) % 64 = c := by omega
    rw [D3 (by rw [b0]; omega), b0, b1, b2, if_pos ⟨⟨by simp, by omega⟩, by simp, by omega⟩, e, if_pos ⟨by omega, h⟩]
    rfl
  · rename_i h1 h2 h3
    have b0 : by_ ([UInt8.ofNat (240 + c / 262144), UInt8.ofNat (128 + c / 4096 % 64), UInt8.ofNat (128 + c / 64 % 64), UInt8.ofNat (128 + c % 64)] ++ t) 0 = 240 + c / 262144 := toNat_of _ (by omega)
    have b1 : by_ ([UInt8.ofNat (240 + c / 262144), UInt8.ofNat (128 + c / 4096 % 64), UInt8.ofNat (128 + c / 64 % 64), UInt8.ofNat (128 + c % 64)] ++ t) (0 + 1) = 128 + c / 4096 % 64 := toNat_of _ (by omega)
    have b2 : by_ ([UInt8.ofNat (240 + c / 262144), UInt8.ofNat (128 + c / 4096 % 64), UInt8.ofNat (128 + c / 64 % 64), UInt8.ofNat (128 + c % 64)] ++ t) (0 + 2) = 128 + c / 64 % 64 := toNat_of _ (by omega)
    have b3 : by_ ([UInt8.ofNat (240 + c / 262144), UInt8.ofNat (128 + c / 4096 % 64), UInt8.ofNat (128 + c / 64 % 64), UInt8.ofNat (128 + c % 64)] ++ t) (0 + 3) = 128 + c % 64 := toNat_of _ (by omega)
    have e : (240 + c / 262144) % 8 * 262144 + (128 + c / 4096 % 64) % 64 * 4096 + (128 + c / 64 % 64) % 64 * 64 + (128 + c % 64) % 64 = c := by omega
    rw [D4 (by rw [b0]; omega), b0, b1, b2, b3, if_pos ⟨⟨by simp, by omega⟩, ⟨by simp, by omega⟩, by simp, by omega⟩, e, if_pos ⟨by omega, h⟩]
    rfl
theorem en_len {c : Nat} (h : okC c) : 1 ≤ (en c).length ∧ (en c).length ≤ 4 ∧ (2 ≤ (en c).length ↔ 128 ≤ c) := by
  rw [en_eq h]
  split
  · simp; omega
  split
  · simp; omega
  split
  · simp; omega
  · simp; omega
theorem en_good {c : Nat} (h : okC c) (t : List UInt8) : D (en c ++ t) 0 ≠ (65533, 1) := by
  rw [D_en c h t]
  intro q
  obtain ⟨q1, q2⟩ := Prod.mk.inj q
  have := (en_len h).2.2
  omega
theorem run_en (p : Int → Bool) {c : Nat} (h : okC c) (t : List UInt8) : runAt p (en c ++ t) 0 = (p c && runAt p t 0) := by
  have := en_len h
  rw [runAt_step p _ 0 (by simp; omega), if_neg (en_good h t), D_en c h t, Nat.zero_add]
  have := runAt_shift p (en c) t _ 0 (Nat.le_refl _)
  rw [Nat.add_zero] at this
  rw [this]
theorem rl_en {c : Nat} (h : okC c) (t : List UInt8) : rlAt (en c ++ t) 0 = (c : Int) :: rlAt t 0 := by
  have := en_len h
  rw [rlAt_step _ 0 (by simp; omega), D_en c h t, Nat.zero_add]
  have := rlAt_shift (en c) t _ 0 (Nat.le_refl _)
  rw [Nat.add_zero] at this
  rw [this]
/-- A row of characters, written. -/
theorem run_ens (p : Int → Bool) (t : List UInt8) : ∀ cs : List Nat, (∀ c ∈ cs, okC c) → runAt p (cs.flatMap (fun c : Nat => en c) ++ t) 0 = (cs.all (fun c : Nat => p c) && runAt p t 0)
  | [], _ => by simp
  | c :: cs, h => by
    rw [List.flatMap_cons, List.append_assoc, run_en p (h c (by simp)), run_ens p t cs (fun x hx => h x (by simp [hx])), List.all_cons, Bool.and_assoc]
theorem rl_ens (t : List UInt8) : ∀ cs : List Nat, (∀ c ∈ cs, okC c) → rlAt (cs.flatMap (fun c : Nat => en c) ++ t) 0 = cs.map (fun c : Nat => (c : Int)) ++ rlAt t 0
  | [], _ => by simp
  | c :: cs, h => by
    rw [List.flatMap_cons, List.append_assoc, rl_en (h c (by simp)), rl_ens t cs (fun x hx => h x (by simp [hx])), List.map_cons, List.cons_append]
theorem run_nil (p : Int → Bool) : runAt p [] 0 = true := rfl
theorem rl_nil : rlAt [] 0 = [] := rfl
end Go.Proofs.Ut

/- The law of layer 1: awake, UtfTells. -/
namespace Go.Proofs.Ut
open Go.Ai Classical
set_option linter.unusedSimpArgs false
set_option maxHeartbeats 1000000
set_option maxRecDepth 100000
abbrev DRet (f : Nat) (args : List DV) (D : DV) : Prop := ACalls ED f [] args fun h d => h = [] ∧ d = D
theorem valid_c (s : List UInt8) (hs : s.length < 100000000000) : DRet 26 [.str s] (.bool (runAt mayB s 0)) := by
  have := valid16 rfl vED s (by omega)
  rw [valid_runAt] at this
  exact this
theorem ascii_runes : ∀ s : List UInt8, (∀ b ∈ s, b.toNat < 128) → s = (s.map (·.toNat)).flatMap (fun c : Nat => en c)
  | [], _ => rfl
  | b :: s, h => by
    have hb := h b (by simp)
    rw [List.map_cons, List.flatMap_cons, ← ascii_runes s (fun x hx => h x (by simp [hx])), en_eq (by unfold okC; omega), if_pos hb]
    simp
theorem run_ascii (p : Int → Bool) (s : List UInt8) (h : ∀ b ∈ s, b.toNat < 128) : runAt p s 0 = s.all (fun b => p b.toNat) ∧ rlAt s 0 = s.map (fun b => (b.toNat : Int)) := by
  have e := ascii_runes s h
  have ho : ∀ c ∈ s.map (·.toNat), okC c := fun c hc => by
    obtain ⟨b, hb, rfl⟩ := List.mem_map.1 hc
    have := h b hb
    unfold okC; omega
  constructor
  · conv => lhs; rw [e]
    have := run_ens p [] _ ho
    rw [List.append_nil, run_nil, Bool.and_true] at this
    rw [this, List.all_map]; rfl
  · conv => lhs; rw [e]
    have := rl_ens [] _ ho
    rw [List.append_nil, rl_nil, List.append_nil] at this
    rw [this, List.map_map]; rfl
end Go.Proofs.Ut

/- What the library does for csv: where a sign stands, what is ahead of it, what a builder holds. -/
namespace Go.Proofs.Ut
open Go.Ai Classical Go.Shelf Go.RowKit
set_option linter.unusedSimpArgs false
set_option maxHeartbeats 1000000
set_option maxRecDepth 100000
/-- A call that leaves all as it lies. -/
theorem scal {f : Nat} {args : List DV} {r : DV} (hent : Ent Tryz.prog f) (h : ∀ (w : World) (ok : Nat → Prop) (β : Ai.Loc) (vs : List Value), vs.length = args.length → (∀ (i : Nat) v d, vs[i]? = some v → args[i]? = some d → Rep w ok β v d) →
    ∃ v, (∀ w ok β, Rep w ok β v r) ∧ Calls Tryz.prog f vs.toArray w fun e w' => e = .returned v ∧ Below w.heap.size w w') : DRet f args r := by
  refine ⟨hent, fun w ok β vs hg hn hh hl hv => ?_⟩
  obtain ⟨v, hr, hc⟩ := h w ok β vs hl hv
  refine hc.mono ?_
  rintro e w' ⟨rfl, hb⟩
  exact ⟨_, ok, β, [], _, rfl, ⟨rfl, rfl⟩, stable_below hg hn hb, Ev.below hb, hrep_nil hh hb.size, hr _ _ _, fun l cs q => by simp at q, Nat.le_refl _, fun _ _ _ => rfl⟩
theorem of_str {w : World} {ok : Nat → Prop} {β : Ai.Loc} {v : Value} {s : List UInt8} (h : Rep w ok β v (.str s)) : v = .string ⟨s.toArray⟩ := by
  generalize hd : DV.str s = d at h
  cases h <;> try cases hd
  rfl
theorem of_int {w : World} {ok : Nat → Prop} {β : Ai.Loc} {v : Value} {k : IntKind} {n : Int} (h : Rep w ok β v (.int k n)) : v = .int k n := by
  cases h; rfl
theorem two {vs : List Value} {a b : DV} (h : vs.length = [a, b].length) : ∃ u v, vs = [u, v] := by
  match vs, h with
  | [u, v], _ => exact ⟨u, v, rfl⟩
theorem index131 (s : List UInt8) (c : UInt8) : DRet 82 [.str s, .str [c]] (.int .i64 (Lib.indexByte s c)) := by
  refine scal ⟨Tryz.f82, Tryz.func82, by kernel_rfl, by kernel_rfl⟩ fun w ok β vs hl hv => ?_
  obtain ⟨u, v, rfl⟩ := two hl
  obtain rfl := of_str (hv 0 u _ rfl rfl)
  obtain rfl := of_str (hv 1 v _ rfl rfl)
  refine ⟨_, fun _ _ _ => .int _ _, (Any.stringslite_Index_one Tryz.lays219 ⟨s.toArray⟩ c w).mono ?_⟩
  rintro e w' ⟨rfl, rfl⟩
  exact ⟨rfl, Below.refl _ _⟩
theorem byte133 (s : List UInt8) (c : Int) : DRet 106 [.str s, .int .u8 c] (.int .i64 (Lib.indexByte s c.toNat.toUInt8)) := by
  refine scal ⟨Tryz.f106, Tryz.func106, by kernel_rfl, by kernel_rfl⟩ fun w ok β vs hl hv => ?_
  obtain ⟨u, v, rfl⟩ := two hl
  obtain rfl := of_str (hv 0 u _ rfl rfl)
  obtain rfl := of_int (hv 1 v _ rfl rfl)
  refine ⟨_, fun _ _ _ => .int _ _, (Any.stringslite_IndexByte Tryz.lays217 ⟨s.toArray⟩ c w).mono ?_⟩
  rintro e w' ⟨rfl, rfl⟩
  exact ⟨rfl, Below.refl _ _⟩
theorem byte124 (s : List UInt8) (c : Int) : DRet 110 [.str s, .int .u8 c] (.int .i64 (Lib.indexByte s c.toNat.toUInt8)) := by
  refine acalls_go c110 (by simp [f110]) ?_
  simp only [f110, ↓gos, gop, Nat.reduceBEq, Nat.reduceAdd, Nat.reduceSub, Nat.reduceLeDiff, Nat.reduceMul, Int.reduceLE, Int.reduceLT, Int.reduceNe, Int.reduceToNat]
  refine call_ret (byte133 s c) rfl rfl ?_
  simp only [↓gos, gop, Nat.reduceBEq, Nat.reduceAdd, Nat.reduceSub, Nat.reduceLeDiff, Nat.reduceMul, Int.reduceLE, Int.reduceLT, Int.reduceNe, Int.reduceToNat]
  exact endi rfl
theorem ws58 (gr : Bool) (bs s : List UInt8) (hlen : bs.length + s.length ≤ 140737488355328) : ACalls ED 33 (Bld gr 57 5 bs) [.ptr 1 0, .str s] (fun h' d => h' = Bld gr 57 5 (bs ++ s) ∧ d = .undef) :=
  ws_prim (E := ED) Tryz.lays166 Tryz.extra166 rfl rfl rfl ⟨Tryz.f33, Tryz.func33, by kernel_rfl, by kernel_rfl⟩ gr bs s hlen
theorem str60 (gr : Bool) (bs : List UInt8) : ACalls ED 34 (Bld gr 57 5 bs) [.ptr 1 0] (fun h' d => h' = [.dead, .box [.undef, .undef]] ∧ d = .str bs) :=
  str_prim (E := ED) Tryz.lays169 Tryz.extra169 rfl rfl rfl ⟨Tryz.f34, Tryz.func34, by kernel_rfl, by kernel_rfl⟩ gr bs
/-- What is ahead of a sign, and what behind it. -/
def cut (c : UInt8) : List UInt8 → List UInt8 × List UInt8 × Bool
  | [] => ([], [], false)
  | x :: s => if x = c then ([], s, true) else (x :: (cut c s).1, (cut c s).2.1, (cut c s).2.2)
theorem index_cut (c : UInt8) : ∀ s : List UInt8, (Lib.indexByte s c < 0 ∧ cut c s = (s, [], false)) ∨ (∃ n : Nat, Lib.indexByte s c = n ∧ n < s.length ∧ cut c s = (s.take n, s.drop (n + 1), true))
  | [] => .inl ⟨by simp [Lib.indexByte], rfl⟩
  | x :: s => by
    unfold Lib.indexByte cut
    by_cases hx : x = c
    · rw [if_pos hx, if_pos (by simp [hx])]
      exact .inr ⟨0, rfl, by simp, rfl⟩
    · rw [if_neg hx, if_neg (by simp [hx])]
      rcases index_cut c s with ⟨h1, h2⟩ | ⟨n, h1, h2, h3⟩
      · have := Lib.indexByte_ge s c
        have e : Lib.indexByte s c = -1 := by omega
        rw [h2, if_pos (by rw [e]; rfl)]
        exact .inl ⟨by omega, rfl⟩
      · rw [h3, h1, if_neg (by first | (simp; done) | (simp; omega))]
        exact .inr ⟨n + 1, by omega, by simpa using h2, rfl⟩
theorem cut123 (s : List UInt8) (c : UInt8) (hs : s.length < 1000000000000) : DRet 58 [.str s, .str [c]] (.tup [.str (cut c s).1, .str (cut c s).2.1, .bool (cut c s).2.2]) := by
  refine acalls_go c58 (by simp [f58]) ?_
  simp only [f58, ↓gos, gop, Nat.reduceBEq, Nat.reduceAdd, Nat.reduceSub, Nat.reduceLeDiff, Nat.reduceMul, Int.reduceLE, Int.reduceLT, Int.reduceNe, Int.reduceToNat]
  refine call_ret (index131 s c) rfl rfl ?_
  simp only [↓gos, gop, Nat.reduceBEq, Nat.reduceAdd, Nat.reduceSub, Nat.reduceLeDiff, Nat.reduceMul, Int.reduceLE, Int.reduceLT, Int.reduceNe, Int.reduceToNat]
  rcases index_cut c s with ⟨h1, h2⟩ | ⟨n, h1, h2, h3⟩
  · refine ⟨fun h => absurd h (by omega), fun _ => ?_⟩
    rw [h2]
    exact finE_closed rfl ⟨rfl, rfl⟩
  · rw [h1]
    refine ⟨fun _ => ⟨by omega, by omega, fun v hv => ?_⟩, fun h => absurd h (by omega)⟩
    rw [wrap_i64 (by omega) (by omega)] at hv
    subst hv
    refine ⟨by omega, by omega, ?_⟩
    rw [h3]
    refine finE_closed rfl ⟨rfl, ?_⟩
    have e1 : ((n : Int)).toNat = n := by omega
    have e2 : ((n : Int) + 1).toNat = n + 1 := by omega
    rw [e1, e2, List.take_of_length_le (l := s.drop (n + 1)) (by simp)]
    rfl
theorem cut112 (s : List UInt8) (c : UInt8) (hs : s.length < 1000000000000) : DRet 27 [.str s, .str [c]] (.tup [.str (cut c s).1, .str (cut c s).2.1, .bool (cut c s).2.2]) := by
  refine acalls_go c27 (by simp [f27]) ?_
  simp only [f27, ↓gos, gop, Nat.reduceBEq, Nat.reduceAdd, Nat.reduceSub, Nat.reduceLeDiff, Nat.reduceMul, Int.reduceLE, Int.reduceLT, Int.reduceNe, Int.reduceToNat]
  refine call_ret (cut123 s c hs) rfl rfl ?_
  simp only [↓gos, gop, Nat.reduceBEq, Nat.reduceAdd, Nat.reduceSub, Nat.reduceLeDiff, Nat.reduceMul, Int.reduceLE, Int.reduceLT, Int.reduceNe, Int.reduceToNat]
  exact finE_closed rfl ⟨rfl, rfl⟩
theorem pre118 (s p : List UInt8) (hs : s.length < 1000000000000) (hp : p.length < 1000000000000) : DRet 59 [.str s, .str p] (.bool (p.isPrefixOf s)) := by
  refine acalls_go c59 (by simp [f59]) ?_
  simp only [f59, ↓gos, gop, Nat.reduceBEq, Nat.reduceAdd, Nat.reduceSub, Nat.reduceLeDiff, Nat.reduceMul, Int.reduceLE, Int.reduceLT, Int.reduceNe, Int.reduceToNat]
  have hiff : p.isPrefixOf s = true ↔ s.take p.length = p := by
    rw [List.isPrefixOf_iff_prefix, List.prefix_iff_eq_take]
    exact eq_comm
  refine ⟨fun h => ⟨h, fun q => endb ?_, fun q => endb ?_⟩, fun h => endb ?_⟩
  · rw [hiff.2 q]
  · cases hp : p.isPrefixOf s
    · rfl
    · exact absurd (hiff.1 hp) q
  · cases hp : p.isPrefixOf s
    · rfl
    · have := congrArg List.length (hiff.1 hp)
      rw [List.length_take] at this
      omega
theorem pre113 (s p : List UInt8) (hs : s.length < 1000000000000) (hp : p.length < 1000000000000) : DRet 28 [.str s, .str p] (.bool (p.isPrefixOf s)) := by
  refine acalls_go c28 (by simp [f28]) ?_
  simp only [f28, ↓gos, gop, Nat.reduceBEq, Nat.reduceAdd, Nat.reduceSub, Nat.reduceLeDiff, Nat.reduceMul, Int.reduceLE, Int.reduceLT, Int.reduceNe, Int.reduceToNat]
  refine call_ret (pre118 s p hs hp) rfl rfl ?_
  simp only [↓gos, gop, Nat.reduceBEq, Nat.reduceAdd, Nat.reduceSub, Nat.reduceLeDiff, Nat.reduceMul, Int.reduceLE, Int.reduceLT, Int.reduceNe, Int.reduceToNat]
  exact endb rfl
/-- What is behind what a text begins with. -/
def behind (p s : List UInt8) : List UInt8 × Bool := if p.isPrefixOf s then (s.drop p.length, true) else (s, false)
end Go.Proofs.Ut
