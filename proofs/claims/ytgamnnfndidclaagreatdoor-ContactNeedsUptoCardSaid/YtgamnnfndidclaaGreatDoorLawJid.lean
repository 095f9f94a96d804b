/- Ends of one value; places in shared rows. -/
import Derived.Test.YtgamnnfndidclaaGreatDoorAiGo4
import Derived.Test.YtgamnnfndidclaaGreatDoorAiState
import Derived.KernelRfl
set_option linter.all false
namespace Go.Ai
theorem end1 {d D : DV} {h : List AObj} (hs : d.closed = true) (e : d = D) : finE 0 (fun h d => h = [] ∧ d = D) (some [d]) h := finE_closed hs ⟨rfl, e⟩
theorem endb {b b' : Bool} {h : List AObj} (e : b = b') : finE 0 (fun h d => h = [] ∧ d = .bool b') (some [.bool b]) h := end1 rfl (by rw [e])
theorem endi {k : IntKind} {n n' : Int} {h : List AObj} (e : n = n') : finE 0 (fun h d => h = [] ∧ d = .int k n') (some [.int k n]) h := end1 rfl (by rw [e])
theorem ends {s s' : List UInt8} {h : List AObj} (e : s = s') : finE 0 (fun h d => h = [] ∧ d = .str s') (some [.str s]) h := end1 rfl (by rw [e])
theorem optP_at {α : Type} {l : List α} {i : Nat} {K : α → Prop} (d : α) (h : i < l.length) (hk : K (l.getD i d)) : optP l[i]? K := ⟨l.getD i d, by simp [h], hk⟩
theorem wrap_u64 {x : Int} (h0 : 0 ≤ x) (h1 : x < 18446744073709551616) : IntKind.u64.wrap x = x := by
 simp [IntKind.wrap, IntKind.bits, IntKind.signed]; omega
theorem wrap_i32 {x : Int} (h0 : -2147483648 ≤ x) (h1 : x < 2147483648) : IntKind.i32.wrap x = x := by
 simp [IntKind.wrap, IntKind.bits, IntKind.signed]; omega
theorem wrap_u8 {x : Int} (h0 : 0 ≤ x) (h1 : x < 256) : IntKind.u8.wrap x = x := by
 simp [IntKind.wrap, IntKind.bits, IntKind.signed]; omega
theorem end_row {sz i n n' : Nat} {es es' : List (List DV)} {h : List AObj} (hi : h[i]? = some (.arr sz es)) (he : es = es') (hn : n = n') : finE 0 (fun h d => h = [.arr sz es'] ∧ d = .osl sz 0 0 n' none) (some [.osl sz i 0 n none]) h := by
 subst he; subst hn
 have hlt : i < h.length := (List.getElem?_eq_some_iff.1 hi).1
 have hg : h.getD i .dead = .arr sz es := by simp [hi]
 refine ⟨_, rfl, [i], by simp, Nat.zero_le _, fun _ h => by omega, fun l hl => by simp at hl; omega, by simp [rvd, DV.inL], fun l hl => ?_, ?_, ?_⟩
 ·simp only [List.mem_singleton] at hl
  subst hl
  rw [hg]; rfl
 ·simp only [List.map_cons, List.map_nil, hg]; rfl
 ·simp [rvd, DV.ren]
theorem dn_osl {sz i n : Nat} {es : List (List DV)} {h : List AObj} {c : Option Nat} (hi : h[i]? = some (.arr sz es)) (hn : n = es.length) : DV.dn [] h (.osl sz i 0 n c) = .sl sz es := by
 subst hn
 simp [DV.dn, DV.low, hi]
theorem call_lend {E : Env} {L : List (Nat × DV)} {h : List AObj} {f : Nat} {ds ds' : List DV} {H : List AObj} {D : DV} {K : DV → St → Prop} (hc : ACalls E f [] ds' (fun h d => h = H ∧ d = D)) (he : ds.map (DV.dn [] h) = ds') (hf : (D.free && H.all freeO) = true)
  (hk : K (D.ren (h.length + ·)) (sta L (h ++ H.map (renO (h.length + ·))))) : acall E true f ds K (sta L h) := by
 refine .go ?_
 refine .inr (.inr ⟨false, [], fun h' d => h' = H ∧ d = D, .inl rfl, List.nodup_nil, fun _ h => by simp at h, ?_, fun h' d e => ?_⟩)
 ·rw [show (sta L h).h = h from rfl, he]; exact hc
 ·obtain ⟨rfl, rfl⟩ := e
  refine ⟨.inr hf, ?_⟩
  have e : upL (sta L h).h.length [] = (h.length + ·) := by funext i; simp [upL]; rfl
  rw [e]
  have e2 : (sta L h).handed false [] h' = sta L (h ++ h'.map (renO (h.length + ·))) := by
   unfold St.handed
   simp only [List.filter_nil, List.isEmpty_nil, Bool.or_true, if_true, List.map_nil, setAll, List.length_nil, List.drop_zero, e]
   cases h' <;> rfl
  rw [e2]
  exact hk
theorem end_rowc {sz i n n' : Nat} {c c' : Option Nat} {es es' : List (List DV)} {h : List AObj} (hi : h[i]? = some (.arr sz es)) (he : es = es') (hn : n = n') (hc : c = c') : finE 0 (fun h d => h = [.arr sz es'] ∧ d = .osl sz 0 0 n' c') (some [.osl sz i 0 n c]) h := by
 subst he; subst hn; subst hc
 have hlt : i < h.length := (List.getElem?_eq_some_iff.1 hi).1
 have hg : h.getD i .dead = .arr sz es := by simp [hi]
 refine ⟨_, rfl, [i], by simp, Nat.zero_le _, fun _ h => by omega, fun l hl => by simp at hl; omega, by simp [rvd, DV.inL], fun l hl => ?_, ?_, ?_⟩
 ·simp only [List.mem_singleton] at hl
  subst hl
  rw [hg]; rfl
 ·simp only [List.map_cons, List.map_nil, hg]; rfl
 ·simp [rvd, DV.ren]
theorem contains1 (i : Nat) : (fun l => [i].contains l) = fun l => l == i := by funext l; rw [Bool.eq_iff_iff]; simp
def hd : ACode → ACode
 | .seq a _ => a
 | c => c
def tl : ACode → ACode
 | .seq _ b => b
 | c => c
theorem hd_seq {a b : ACode} : hd (.seq a b) = a := rfl
theorem tl_seq {a b : ACode} : tl (.seq a b) = b := rfl
theorem closed_low {ρ : Nat → Option Nat} {h : List AObj} : ∀ {d : DV}, d.closed = true → d.low ρ h = d := by
 intro d
 refine DV.rec (motive_1 := fun d => d.closed = true → d.low ρ h = d) (motive_2 := fun l => DV.closed.closedAll l = true → DV.low.lowAll ρ h l = l) (motive_3 := fun _ => True)
  ?_ ?_ ?_ ?_ ?_ ?_ ?_ ?_ ?_ ?_ ?_ ?_ ?_ ?_ ?_ ?_ ?_ ?_ ?_ ?_ ?_ ?_ ?_ ?_ ?_ ?_ d
 all_goals first
  | (intros; rfl)
  | (intros; simp_all [DV.closed, DV.low, DV.closed.closedAll, DV.low.lowAll]; done)
  | skip
theorem map_same {α : Type} {f : α → α} : ∀ {l : List α}, (∀ d ∈ l, f d = d) → l.map f = l
 | [], _ => rfl
 | d :: l, h => by rw [List.map_cons, h d (by simp), map_same fun d hd => h d (by simp [hd])]
theorem end_box1 {post : List AObj → DV → Prop} {ds : List DV} {h : List AObj} {cs : List DV} (hs : (rvd ds).closed = true) (hi : h[0]? = some (.box cs)) (hc : cs.all DV.closed = true) (hp : post [.box cs] (rvd ds)) : finE 1 post (some ds) h := by
  have hlt : 0 < h.length := (List.getElem?_eq_some_iff.1 hi).1
  have hg : h.getD 0 .dead = .box cs := by rw [List.getD_eq_getElem?_getD, hi]; rfl
  refine ⟨ds, rfl, [0], by simp, Nat.le_refl _, fun i h => by obtain rfl : i = 0 := by omega
                                                              rfl, fun l hl => by simp at hl; omega, closed_inL hs, fun l hl => ?_, ?_⟩
  · simp only [List.mem_singleton] at hl
    subst hl
    rw [hg]
    simp only [inO, List.all_eq_true] at *
    exact fun d hd => closed_inL (hc d hd)
  · have e : cs.map (DV.ren fun x => List.idxOf x [0]) = cs := map_same fun d hd => closed_ren (List.all_eq_true.1 hc d hd)
    simp only [List.map_cons, List.map_nil, hg, renO]
    rw [closed_ren hs, e]
    exact hp
theorem call_box1 {E : Env} {L : List (Nat × DV)} {h : List AObj} {f : Nat} {ds ds' : List DV} {post : List AObj → DV → Prop} {K : DV → St → Prop} {i : Nat} {cs : List DV} (hi : h[i]? = some (.box cs)) (hcl : cs.all DV.closed = true) (hc : ACallsK E false f [.box cs] ds' post) (he : ds.map (DV.dn [i] h) = ds')
  (hin : ds.all (DV.inL [i].contains) = true) (hk : ∀ h' d, post h' d → ∃ cs', h' = [.box cs'] ∧ cs'.all DV.closed = true ∧ d.closed = true ∧ K d (sta L (h.set i (.box cs')))) : acall E true f ds K (sta L h) := by
 have hlt : i < h.length := (List.getElem?_eq_some_iff.1 hi).1
 have hg : h.getD i .dead = .box cs := by simp [hi]
 have el : ∀ ρ, cs.map (DV.low ρ h) = cs := fun ρ => map_same fun d hd => closed_low (List.all_eq_true.1 hcl d hd)
 refine .go ?_
 refine .inr (.inr ⟨false, [i], post, .inl rfl, by simp, fun l hl => by simp at hl; subst hl; exact hlt, ?_, fun h' d hp => ?_⟩)
 ·rw [show (sta L h).h = h from rfl, he]
  simp only [List.map_cons, List.map_nil, hg, lowO, el]
  exact hc
 ·obtain ⟨cs', rfl, hcl', hd, hk⟩ := hk h' d hp
  refine ⟨.inl ?_, ?_⟩
  ·rw [Bool.and_eq_true]
   refine ⟨hin, ?_⟩
   simp only [List.all_cons, List.all_nil, Bool.and_true, show (sta L h).h = h from rfl, hg, inO, List.all_eq_true]
   exact fun d hd => closed_inL (List.all_eq_true.1 hcl d hd)
  ·rw [closed_ren hd]
   have er : ∀ ρ, cs'.map (DV.ren ρ) = cs' := fun ρ => map_same fun d hd => closed_ren (List.all_eq_true.1 hcl' d hd)
   have e : (sta L h).handed false [i] [AObj.box cs'] = sta L (h.set i (.box cs')) := by
    unfold St.handed
    have e1 : (List.filter (fun l => !isBox (sta L h).h[l]?) [i]) = [] := by simp [show (sta L h).h = h from rfl, hi, isBox]
    simp only [e1, List.isEmpty_nil, Bool.or_true, if_true, List.map_cons, List.map_nil, renO, er, setAll, List.length_cons, List.length_nil, List.drop_succ_cons, List.drop_zero, List.append_nil]
    rfl
   rw [e]; exact hk
theorem call_box1f {E : Env} {L : List (Nat × DV)} {h : List AObj} {f : Nat} {ds ds' : List DV} {post : List AObj → DV → Prop} {K : DV → St → Prop} {i : Nat} {cs : List DV} (hi : h[i]? = some (.box cs)) (hcl : cs.all DV.closed = true) (hc : ACallsK E false f [.box cs] ds' post) (he : ds.map (DV.dn [i] h) = ds')
  (hf : ∀ h' d, post h' d → (d.free && h'.all freeO) = true) (hk : ∀ h' d, post h' d → ∃ cs', h' = [.box cs'] ∧ cs'.all DV.closed = true ∧ d.closed = true ∧ K d (sta L (h.set i (.box cs')))) : acall E true f ds K (sta L h) := by
 have hlt : i < h.length := (List.getElem?_eq_some_iff.1 hi).1
 have hg : h.getD i .dead = .box cs := by simp [hi]
 have el : ∀ ρ, cs.map (DV.low ρ h) = cs := fun ρ => map_same fun d hd => closed_low (List.all_eq_true.1 hcl d hd)
 refine .go ?_
 refine .inr (.inr ⟨false, [i], post, .inl rfl, by simp, fun l hl => by simp at hl; subst hl; exact hlt, ?_, fun h' d hp => ?_⟩)
 ·rw [show (sta L h).h = h from rfl, he]
  simp only [List.map_cons, List.map_nil, hg, lowO, el]
  exact hc
 ·obtain ⟨cs', rfl, hcl', hd, hk⟩ := hk h' d hp
  refine ⟨.inr (hf _ _ hp), ?_⟩
  ·rw [closed_ren hd]
   have er : ∀ ρ, cs'.map (DV.ren ρ) = cs' := fun ρ => map_same fun d hd => closed_ren (List.all_eq_true.1 hcl' d hd)
   have e : (sta L h).handed false [i] [AObj.box cs'] = sta L (h.set i (.box cs')) := by
    unfold St.handed
    have e1 : (List.filter (fun l => !isBox (sta L h).h[l]?) [i]) = [] := by simp [show (sta L h).h = h from rfl, hi, isBox]
    simp only [e1, List.isEmpty_nil, Bool.or_true, if_true, List.map_cons, List.map_nil, renO, er, setAll, List.length_cons, List.length_nil, List.drop_succ_cons, List.drop_zero, List.append_nil]
    rfl
   rw [e]; exact hk
theorem call_mix {E : Env} {b : Bool} {L : List (Nat × DV)} {h : List AObj} {f : Nat} {ds ds' : List DV} {H : List AObj} {D : DV} {K : DV → St → Prop} (hc : ACalls E f [] ds' (fun h d => h = H ∧ d = D)) (he : ds.map (DV.dn [] h) = ds') (hf : (D.free && H.all freeO) = true)
  (hk : K (D.ren (h.length + ·)) (sta L (h ++ H.map (renO (h.length + ·))))) : acall E b f ds K (sta L h) := by
 refine .go ?_
 refine .inr (.inr ⟨false, [], fun h' d => h' = H ∧ d = D, .inr ⟨rfl, rfl, H, D, rfl, rfl⟩, List.nodup_nil, fun _ h => by simp at h, ?_, fun h' d e => ?_⟩)
 ·rw [show (sta L h).h = h from rfl, he]; exact hc
 ·obtain ⟨rfl, rfl⟩ := e
  refine ⟨.inr hf, ?_⟩
  have e : upL (sta L h).h.length [] = (h.length + ·) := by funext i; simp [upL]; rfl
  rw [e]
  have e2 : (sta L h).handed false [] h' = sta L (h ++ h'.map (renO (h.length + ·))) := by
   unfold St.handed
   simp only [List.filter_nil, List.isEmpty_nil, Bool.or_true, if_true, List.map_nil, setAll, List.length_nil, List.drop_zero, e]
   cases h' <;> rfl
  rw [e2]
  exact hk
section
variable {α : Type} (lt : α → α → Bool)
structure Tot : Prop where
 asym : ∀ x y, lt x y = true → lt y x = false
 tr : ∀ x y z, lt y x = false → lt z y = false → lt z x = false
 anti : ∀ x y, lt y x = false → lt x y = false → x = y
end
section
variable {α : Type} {lt : α → α → Bool}
theorem Tot.irr (T : Tot lt) (x : α) : lt x x = false := by
 cases h : lt x x with
 | false => rfl
 | true => have := T.asym x x h; rw [h] at this; cases this
end
theorem bl_cons (a b : UInt8) (x y : List UInt8) : Op.bytesLess (a :: x) (b :: y) = (decide (a.toNat < b.toNat) || (decide (a.toNat = b.toNat) && Op.bytesLess x y)) := by
 have h : Op.bytesLess (a :: x) (b :: y) = (decide (a < b) || (a == b && Op.bytesLess x y)) := rfl
 rw [h]
 have h1 : decide (a < b) = decide (a.toNat < b.toNat) := by simp [UInt8.lt_iff_toNat_lt]
 have h2 : (a == b) = decide (a.toNat = b.toNat) := by
  rw [Bool.eq_iff_iff]; simp [UInt8.toNat_inj]
 rw [h1, h2]
theorem bl_nil (x : List UInt8) : Op.bytesLess x [] = false := by cases x <;> rfl
theorem bl_asym : ∀ x y : List UInt8, Op.bytesLess x y = true → Op.bytesLess y x = false
 | x, [], h => by rw [bl_nil] at h; cases h
 | [], y :: l, _ => bl_nil _
 | a :: x, b :: y, h => by
  rw [bl_cons] at h ⊢
  have ih := bl_asym x y
  simp only [Bool.or_eq_true, Bool.and_eq_true, decide_eq_true_eq] at h
  rcases h with h | ⟨h1, h2⟩
  ·rw [decide_eq_false (by omega), decide_eq_false (by omega)]; rfl
  ·rw [decide_eq_false (by omega), ih h2]; simp
theorem bl_tr : ∀ x y z : List UInt8, Op.bytesLess y x = false → Op.bytesLess z y = false → Op.bytesLess z x = false
 | [], _, z, _, _ => bl_nil z
 | a :: x, [], z, h, _ => by simp [Op.bytesLess] at h
 | a :: x, b :: y, [], _, h => by simp [Op.bytesLess] at h
 | a :: x, b :: y, c :: z, h1, h2 => by
  rw [bl_cons] at h1 h2 ⊢
  have ih := bl_tr x y z
  simp only [Bool.or_eq_false_iff, Bool.and_eq_false_imp, decide_eq_false_iff_not, decide_eq_true_eq] at h1 h2 ⊢
  refine ⟨by omega, fun e => ih (h1.2 (by omega)) (h2.2 (by omega))⟩
theorem bl_anti : ∀ x y : List UInt8, Op.bytesLess y x = false → Op.bytesLess x y = false → x = y
 | [], [], _, _ => rfl
 | [], b :: y, _, h => by simp [Op.bytesLess] at h
 | a :: x, [], h, _ => by simp [Op.bytesLess] at h
 | a :: x, b :: y, h1, h2 => by
  rw [bl_cons] at h1 h2
  simp only [Bool.or_eq_false_iff, Bool.and_eq_false_imp, decide_eq_false_iff_not, decide_eq_true_eq] at h1 h2
  have e : a.toNat = b.toNat := by omega
  rw [UInt8.toNat_inj.1 e, bl_anti x y (h1.2 e.symm) (h2.2 e)]
theorem bl_tot : Tot Op.bytesLess := ⟨bl_asym, bl_tr, bl_anti⟩
section
variable {α : Type} (lt : α → α → Bool) (d0 : α)
end
section
variable {α : Type} {lt : α → α → Bool} {d0 : α}
end
section
variable {α : Type} (lt : α → α → Bool) (d0 : α)
def St2 (l : List α) : Prop := l.Pairwise fun x y => lt x y = true
end
section
variable {α : Type} {lt : α → α → Bool} {d0 : α}
end
end Go.Ai

namespace Go.Proofs.Ut
def splitL (c : UInt8) : List UInt8 → List (List UInt8)
 | [] => [[]]
 | b :: s => if b = c then [] :: splitL c s else match splitL c s with
  | [] => [[b]]
  | x :: l => (b :: x) :: l
theorem splitL_no (c : UInt8) : ∀ x : List UInt8, c ∉ x → splitL c x = [x]
 | [], _ => rfl
 | b :: x, h => by
  simp only [List.mem_cons, not_or] at h
  unfold splitL
  rw [if_neg (fun e => h.1 e.symm), splitL_no c x h.2]
theorem splitL_app (c : UInt8) (r : List UInt8) : ∀ x : List UInt8, c ∉ x → splitL c (x ++ c :: r) = x :: splitL c r
 | [], _ => by simp [splitL]
 | b :: x, h => by
  simp only [List.mem_cons, not_or] at h
  rw [List.cons_append]
  conv => lhs; unfold splitL
  rw [if_neg (fun e => h.1 e.symm), splitL_app c r x h.2]
theorem splitL_pos (c : UInt8) (s : List UInt8) : splitL c s ≠ [] := by
 cases s with
 | nil => simp [splitL]
 | cons b s =>
  unfold splitL
  split
  ·simp
  ·split <;> simp
def okPart (x : List UInt8) : Bool := !decide (x = []) && !decide (x.head? = some 45) && !decide (x.getLast? = some 45)
def dropDot (s : List UInt8) : List UInt8 := if s.getLast? = some 46 then s.dropLast else s
def okDom (d : List UInt8) : Bool := decide (d.length ≤ 100) && (splitL 46 d).all okPart
theorem okDom_nil : okDom [] = false := by decide
def domOf (x : List UInt8 × Int) : List UInt8 × Int := if x.2 ≠ 0 then ([], x.2) else if okDom (dropDot x.1) = false then ([], 14) else (dropDot x.1, 0)
def keptOf (x : List UInt8 × Int) (is : Bool) (most : Nat) : List UInt8 × Int := if x.2 ≠ 0 then ([], x.2) else if is = true ∧ (x.1 = [] ∨ most < x.1.length) then ([], 14) else x
def bareOf (L D R : List UInt8 × Int) : List UInt8 × Int := if D.2 ≠ 0 then ([], D.2) else if L.2 ≠ 0 then ([], L.2) else if R.2 ≠ 0 then ([], R.2) else if R.1 ≠ [] then ([], 14) else (if L.1 = [] then D.1 else L.1 ++ 64 :: D.1, 0)
end Go.Proofs.Ut
