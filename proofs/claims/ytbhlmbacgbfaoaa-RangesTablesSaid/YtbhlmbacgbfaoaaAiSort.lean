/- A sort of the library's, as a contract over a row that is handed down. -/
import Derived.Test.YtbhlmbacgbfaoaaAiEnd
import Derived.Shelf.SlSortCmp.NoneTotal
set_option linter.all false
namespace Go.Ai
open Go.Sort Go.Proofs
theorem flat_at {α : Type} {encD : α → List DV} {k : Nat} (hkd : ∀ x, (encD x).length = k) (d : List α) {t : Nat} (hk : 0 < k) (ht : t < d.length * k) : ∃ x, d[t / k]? = some x ∧ (d.map encD).flatten[t]? = (encD x)[t % k]? := by
  have h1 : t / k < d.length := by rw [Nat.div_lt_iff_lt_mul hk]; exact ht
  refine ⟨d[t / k], List.getElem?_eq_getElem h1, ?_⟩
  have e : t = t / k * k + t % k := by rw [Nat.mul_comm]; exact (Nat.div_add_mod t k).symm
  have := flatten_get (sz := k) (es := d.map encD) (fun e he => by obtain ⟨x, _, rfl⟩ := List.mem_map.1 he; exact hkd x) (j := t / k) (e := encD d[t / k]) (by simp [h1]) (q := t % k) (Nat.mod_lt _ hk)
  rw [← e] at this
  exact this
theorem sort_prim {E : Env} {α : Type} [Inhabited α] {f g k : Nat} (hk0 : 0 < k) {enc : α → List Value} {encD : α → List DV} (hke : ∀ x, (enc x).length = k) (hkd : ∀ x, (encD x).length = k) (h1 : ∀ x, ∀ v ∈ enc x, v.oneCell' = true)
    (hrep : ∀ (w : World) (ok : Nat → Prop) x (i : Nat) v d, (enc x)[i]? = some v → (encD x)[i]? = some d → Rep w ok noLoc v d)
    (hinv : ∀ (w : World) (ok : Nat → Prop) x (i : Nat) v d, (encD x)[i]? = some d → Rep w ok noLoc v d → (enc x)[i]? = some v) (hent : Ent E.P f) {lt : α → α → Bool}
    (hnone : ∀ (p : Option Addr) (cap : Nat) (fv : Value) (w : World), Calls E.P f #[.slice p 0 cap, fv] w fun e w' => e = .returned (.tuple #[]) ∧ w' = w)
    (hsome : ∀ (blk off cap : Nat) (d : Array α) (w : World), HoldsK enc k w blk off d → blk < w.heap.size → d.size < 4611686018427387904 → Calls E.P f #[.slice (some ⟨blk, off, none⟩) d.size cap, .func (.func g) #[] #[]] w fun e w' =>
      e = .returned (.tuple #[]) ∧ ∃ d' n os, PermIn 0 d.size d d' ∧ SortedIn lt 0 d.size d' ∧ w' = sortWorldK enc k w blk off n d' os)
    (d : List α) (hd : d.length < 4611686018427387904) (cap : Option Nat) :
    ACallsK E true f [.arr k (d.map encD)] [.osl k 0 0 d.length cap, .fn g []] fun h r => r = .tup [] ∧ ∃ d' : List α, d'.Perm d ∧ d'.Pairwise (fun x y => lt y x = false) ∧ h = [.arr k (d'.map encD)] := by
  refine ⟨hent, fun w ok β vs hg hn hh hlen hv => ?_⟩
  obtain ⟨v0, v1, rfl⟩ : ∃ v0 v1, vs = [v0, v1] := by
    match vs, hlen with
    | [a, b], _ => exact ⟨a, b, rfl⟩
  have r0 := hv 0 v0 _ rfl rfl
  have r1 := hv 1 v1 _ rfl rfl
  obtain rfl : v1 = .func (.func g) #[] #[] := by
    cases r1 with | fn f vs ds hl h =>
    obtain rfl : vs = [] := List.eq_nil_of_length_eq_zero (by simpa using hl)
    rfl
  have htup : ∀ (w' : World) (ok : Nat → Prop) (β : Loc), Rep w' ok β (.tuple #[]) (.tup []) := fun w' ok β => .tup [] [] rfl (fun i v d h _ => by simp at h)
  have hnil : ∀ p c, v0 = .slice p 0 c → d = [] → Calls E.P f [v0, .func (.func g) #[] #[]].toArray w fun e w' => ∃ v ok' β' h' r, e = .returned v ∧ (r = DV.tup [] ∧ ∃ d' : List α, d'.Perm d ∧ d'.Pairwise (fun x y => lt y x = false) ∧ h' = [AObj.arr k (d'.map encD)]) ∧ E.G w' ∧ Ev w ok β w' ok' β' ∧ HRep E.N w' ok' β' h' ∧ Rep w' ok' β' v r ∧
      (∀ (l : Nat) cs, [AObj.arr k (d.map encD)][l]? = some (.box cs) → β' l = β l ∧ ∃ cs', h'[l]? = some (.box cs')) ∧ [AObj.arr k (d.map encD)].length ≤ h'.length ∧ (true = true → ∀ l, l < [AObj.arr k (d.map encD)].length → β' l = β l) := by
    rintro p c rfl rfl
    refine (hnone p c _ w).mono ?_
    rintro e w' ⟨rfl, rfl⟩
    exact ⟨_, ok, β, _, _, rfl, ⟨rfl, [], .refl _, .nil, rfl⟩, hg, Ev.refl _ _ _, hh, htup _ _ _, fun l cs h => ⟨rfl, cs, h⟩, Nat.le_refl _, fun _ _ _ => rfl⟩
  have hd0 : ∀ {n : Nat}, n = d.length → n = 0 → d = [] := fun h1 h2 => List.eq_nil_of_length_eq_zero (by omega)
  generalize hn0 : d.length = n0 at r0
  cases r0 with
  | oslnil sz l off cap hcap hz => exact hnil none 0 rfl (hd0 hn0.symm rfl)
  | osl sz l off n c b x y t m hb hnc hsz hy hm hr cap hcap =>
    rcases Nat.eq_zero_or_pos n0 with hz | hp
    · subst hz; exact hnil _ _ rfl (hd0 hn0.symm rfl)
    · have hyx : y = x := by have := hy (by omega); omega
      subst hyx
      obtain ⟨hes, ho⟩ := hh.obj 0 _ rfl
      rcases ho with ⟨_, hno⟩ | ⟨_, b', x', cs, ty, fz, k1, k2, k3, k4, k5⟩
      · rw [hb] at hno; cases hno
      · rw [hb] at k1
        injection k1 with k1; injection k1 with k1a k1b
        subst k1a; subst k1b
        rw [List.length_map] at k4
        have hbw : b < w.heap.size := (hh.lt 0 b y hb).2
        have hH : HoldsK enc k w b y d.toArray := by
          intro j hj
          rw [size_flatK, List.size_toArray] at hj
          obtain ⟨xx, hx1, hx2⟩ := flat_at hkd d hk0 hj
          have hjc : y + j < cs.size := by omega
          have hv' : cs[y + j]? = some cs[y + j] := Array.getElem?_eq_getElem hjc
          have hmod : j % k < (encD xx).length := by rw [hkd]; exact Nat.mod_lt _ hk0
          obtain ⟨_, q⟩ := k5 j _ _ hv' (hx2.trans (List.getElem?_eq_getElem hmod))
          have q2 := hinv _ _ xx (j % k) _ _ (List.getElem?_eq_getElem hmod) q
          refine ⟨?_, ?_⟩
          · simp only [World.cell?, k2, Option.isSome_none, Bool.false_eq_true, if_false, hv']
            rw [get_flatK _ _ _ _ (by simpa using hj)]
            have e1 : d.toArray[j / k]! = xx := by
              have : j / k < d.length := (List.getElem?_eq_some_iff.1 hx1).1
              rw [getElem!_pos d.toArray (j / k) (by simpa using this)]
              simpa [List.getElem?_eq_getElem this] using hx1
            rw [e1, id, List.getElem!_eq_getElem?_getD, q2]; rfl
          · simpa [World.frozen?, k2] using k3 (y + j) hjc
        have hcall := hsome b y c d.toArray w hH hbw (by simpa using hd)
        simp only [List.size_toArray, hn0] at hcall
        refine hcall.mono ?_
        rintro e w' ⟨rfl, d', q, os, hperm, hsorted, rfl⟩
        have hsz' : d'.size = d.length := by simpa using hperm.1
        have hheap : ∀ c', c' < w.heap.size → c' ≠ b → (sortWorldK enc k w b y q d' os).heap[c']? = w.heap[c']? := fun c' hc hne => by
          unfold sortWorldK
          rw [heap_grow_old _ _ (by simp [putRowK, putRow, mapBlock, Sort.ahead, hc])]
          simp [putRowK, putRow, mapBlock, Sort.ahead, Array.getElem?_modify, Ne.symm hne]
        have hblk : (sortWorldK enc k w b y q d' os).heap[b]? = some (.cells (putCells id y (flatK enc k d') cs) ty fz) := by
          unfold sortWorldK
          rw [heap_grow_old _ _ (by simp [putRowK, putRow, mapBlock, Sort.ahead, hbw])]
          simp [putRowK, putRow, mapBlock, Sort.ahead, Array.getElem?_modify, k2, onCells]
        have hsize : w.heap.size ≤ (sortWorldK enc k w b y q d' os).heap.size := by
          unfold sortWorldK
          simp [putRowK, putRow, mapBlock, Sort.ahead]
        have hN : E.N ≤ b := (hh.lt 0 b y hb).1
        refine ⟨_, ok, β, [.arr k (d'.toList.map encD)], _, rfl, ⟨rfl, d'.toList, ?_, ?_, rfl⟩, ?_, ?_, ⟨hh.out, hh.inj, fun l b1 o1 h => ⟨(hh.lt l b1 o1 h).1, Nat.lt_of_lt_of_le (hh.lt l b1 o1 h).2 hsize⟩, hh.dis, fun b1 h => Nat.lt_of_lt_of_le (hh.okl b1 h) hsize, fun l o hl => ?_⟩, htup _ _ _, fun l cs h => ?_, Nat.le_refl _, fun _ _ _ => rfl⟩
        · have := hperm.2.2
          have e1 : d'.extract 0 n0 = d' := by
            have : n0 = d'.size := by rw [hsz', hn0]
            rw [this]; simp
          rw [e1, List.extract_toArray, List.extract_eq_take_drop, ← hn0] at this
          simpa using this
        · rw [List.pairwise_iff_getElem]
          intro i j hi hj hij
          have := hsorted i j (Nat.zero_le _) hij (by simp at hj ⊢; omega)
          rw [getElem!_pos d' j (by simpa using hj), getElem!_pos d' i (by simpa using hi)] at this
          simpa using this
        · exact E.stable w _ hg fun c' hc' => hheap c' (by omega) (by omega)
        · refine ⟨rfl, rfl, rfl, hsize, fun c' hc' hno => hheap c' hc' fun e => hno 0 _ hb e.symm, fun l x h => .inl ⟨l, x, h, rfl⟩, fun _ h => h, fun _ h => .inl h, fun c' hc' => ?_⟩
          by_cases e : c' = b
          · subst e; simp [World.shape?, hblk, k2, putCells]
          · simp [World.shape?, hheap c' hc' e]
        · rcases l with _ | l
          · simp only [List.getElem?_cons_zero, Option.some.injEq] at hl
            subst hl
            refine ⟨fun e he => by obtain ⟨x, _, rfl⟩ := List.mem_map.1 he; exact hkd x, .inr ⟨hk0, b, y, _, ty, fz, hb, hblk, ?_, ?_, ?_⟩⟩
            · rw [show (putCells id y (flatK enc k d') cs).size = cs.size by simp [putCells]]; exact k3
            · rw [show (putCells id y (flatK enc k d') cs).size = cs.size by simp [putCells]]; simpa [hsz'] using k4
            · intro t v dd hv hd'
              have htl : t < d'.toList.length * k := by
                rcases Nat.lt_or_ge t (d'.toList.length * k) with h | h
                · exact h
                · rw [List.getElem?_eq_none (by rw [flatten_len (sz := k) (fun e he => by obtain ⟨x, _, rfl⟩ := List.mem_map.1 he; exact hkd x)]; simpa using h)] at hd'
                  cases hd'
              obtain ⟨xx, hx1, hx2⟩ := flat_at hkd d'.toList hk0 htl
              rw [hx2] at hd'
              have htk : t < d'.size * k := by simpa using htl
              have hcs : y + t < cs.size := by rw [hsz'] at htk; omega
              have hvv : v = (enc xx)[t % k]! := by
                simp only [putCells, Array.getElem?_mapIdx, Array.getElem?_eq_getElem hcs, Option.map_some, Option.some.injEq] at hv
                rw [if_pos ⟨by omega, by rw [size_flatK]; omega⟩] at hv
                rw [← hv, id, Nat.add_sub_cancel_left, get_flatK _ _ _ _ htk]
                have : t / k < d'.size := by rw [Nat.div_lt_iff_lt_mul hk0]; exact htk
                rw [getElem!_pos d' (t / k) this]
                have : d'[t / k] = xx := by
                  rw [Array.getElem?_toList, Array.getElem?_eq_getElem this] at hx1
                  simpa using hx1
                rw [this]
              have hm2 : t % k < (enc xx).length := by rw [hke]; exact Nat.mod_lt _ hk0
              have hv2 : (enc xx)[t % k]? = some v := by rw [hvv, List.getElem!_eq_getElem?_getD, List.getElem?_eq_getElem hm2]; rfl
              exact ⟨h1 xx v (List.mem_of_getElem? hv2), hrep _ _ xx (t % k) v dd hv2 hd'⟩
          · simp at hl
        · rcases l with _ | l
          · simp at h
          · simp at h
end Go.Ai
