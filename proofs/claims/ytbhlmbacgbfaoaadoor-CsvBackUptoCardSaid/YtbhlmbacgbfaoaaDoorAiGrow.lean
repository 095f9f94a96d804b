/- (*strings.Builder).Grow at a builder that holds nothing: a row for what will come, and nothing else is turned. -/
import Derived.Shelf.Strings.Builder2
import Derived.Test.YtbhlmbacgbfaoaaDoorAiBld
set_option linter.all false
namespace Go.Ai
open Go.Proofs Go.Shelf Go.RowKit
variable {P : Program} {ρ : Ren}

theorem Beside.trans {a b c : World} {x : Nat} (h : Beside a b x none) (k : Beside b c x none) : Beside a c x none :=
  ⟨k.os.trans h.os, k.tape.trans h.tape, k.output.trans h.output, Nat.le_trans h.size k.size, fun i hi hx hr => (k.block i (Nat.lt_of_lt_of_le hi h.size) hx hr).trans (h.block i hi hx hr), fun i hi => (k.shape i (Nat.lt_of_lt_of_le hi h.size)).trans (h.shape i hi)⟩
theorem Beside.drew {w w' : World} {x : Nat} {r : Option Nat} (h : Beside w w' x r) : Beside w w'.drew x r := ⟨h.os, h.tape, h.output, h.size, h.block, h.shape⟩
theorem Hd.drew {w : World} {b T : Nat} {p v : Value} {fz : Nat × Nat} (h : Hd w b T p v fz) : Hd w.drew b T p v fz := h

/-- What grow leaves. -/
def Grown (w w' : World) (b : Nat) (T e : Nat) (fz : Nat × Nat) : Prop :=
  ∃ v', Hd w' b T (.pointer (some ⟨b, 0, none⟩)) v' fz ∧ w'.ownsRow 0 e 1 v' 0 [] ∧ Beside w w' b none ∧ (∀ g, v'.ownBlock = some g → w.heap.size ≤ g) ∧ Roomy v'

theorem grown_new {w : World} {b T e : Nat} {fz : Nat × Nat} {cs : Array Value} (h : Hd w b T (.pointer (some ⟨b, 0, none⟩)) (.slice none 0 0) fz) (hm : cs.size ≤ maxLen) (h0 : 0 < cs.size) :
    Grown w ((w.alloc (.cells cs e)).setCell ⟨b, 1, none⟩ (.slice (some ⟨w.heap.size, 0, none⟩) 0 cs.size)) b T e fz := by
  have hlt := h.lt
  have hb2 : (w.alloc (.cells cs e)).heap[b]? = some (.cells #[.pointer (some ⟨b, 0, none⟩), .slice none 0 0] T fz) := (Lib.alloc_old w _ b hlt).trans h.1
  have hb3 : ((w.alloc (.cells cs e)).setCell ⟨b, 1, none⟩ (.slice (some ⟨w.heap.size, 0, none⟩) 0 cs.size)).heap[b]? = some (.cells #[.pointer (some ⟨b, 0, none⟩), .slice (some ⟨w.heap.size, 0, none⟩) 0 cs.size] T fz) := by
    unfold World.setCell
    simp only [Array.getElem?_modify, if_true, hb2, Option.map_some]
    rfl
  have ho : ∀ k, k ≠ b → ((w.alloc (.cells cs e)).setCell ⟨b, 1, none⟩ (.slice (some ⟨w.heap.size, 0, none⟩) 0 cs.size)).heap[k]? = (w.alloc (.cells cs e)).heap[k]? := fun k hk => Below.heap_setCell _ _ _ _ hk
  have hg : ((w.alloc (.cells cs e)).setCell ⟨b, 1, none⟩ (.slice (some ⟨w.heap.size, 0, none⟩) 0 cs.size)).heap[w.heap.size]? = some (.cells cs e (0, 0)) := by
    rw [ho _ (by omega)]; exact push_new w _
  refine ⟨.slice (some ⟨w.heap.size, 0, none⟩) 0 cs.size, ⟨hb3, h.2.1, .inr rfl⟩, ⟨rfl, .inr ⟨w.heap.size, cs.size, cs, rfl, Nat.zero_le _, hg, Nat.zero_le _, hm, by simp, by simp⟩⟩, ⟨rfl, rfl, rfl, ?_, fun k hk hkb _ => ?_, fun k hk => ?_⟩, fun g hq => ?_, fun a m c hv => ?_⟩
  · simp [World.setCell]
  · rw [ho k hkb]; exact Lib.alloc_old w _ k hk
  · by_cases hkb : k = b
    · subst hkb
      rw [shape_cells hb3, shape_cells h.1]; rfl
    · exact shape_eq ((ho k hkb).trans (Lib.alloc_old w _ k hk))
  · simp [Value.ownBlock] at hq; omega
  · simp at hv; omega

set_option maxHeartbeats 2000000 in
set_option maxRecDepth 1000000 in
theorem grow_in (L : Lays.n241 P ρ) (X : Builder.Extra P ρ) {b : Nat} {fz : Nat × Nat} {w : World} (h : Hd w b (ρ.t 72) (.pointer (some ⟨b, 0, none⟩)) (.slice none 0 0) fz) (n : Nat) (h0 : 0 < n) (hn : n ≤ 281474976710656) :
    Calls P (ρ.f 241) #[.pointer (some ⟨b, 0, none⟩), .int .i64 n] w fun e w' => e = .returned (.tuple #[]) ∧ Grown w w' b (ρ.t 72) (ρ.t 5) fz := by
  obtain ⟨cs, hrun, hle, hmax⟩ := Lib.run_makeNoZero (P := P) w.drew #[(ρ.t 3)] (ρ.t 37) (ρ.t 5) L.t37 n hn
  have hlt := h.lt
  have ha : (w.alloc (.cells cs (ρ.t 5))).heap[b]? = some (.cells #[.pointer (some ⟨b, 0, none⟩), .slice none 0 0] (ρ.t 72) fz) := (Lib.alloc_old w _ b hlt).trans h.1
  have hcall : (callFunc (ρ.f 277) #[.int .i64 (IntKind.i64.wrap (IntKind.i64.wrap 0 + (n : Int)))]).run P w.drew = .ok (.value (.slice (some ⟨w.drew.heap.size, 0, none⟩) n cs.size)) (w.drew.drew.drew.alloc (.cells cs (ρ.t 5))) := by
    have hw : IntKind.i64.wrap (IntKind.i64.wrap 0 + (n : Int)) = n := by
      rw [IntKind.wrap_i64, IntKind.wrap_i64]; omega
    rw [hw, run_callFunc_extern L.f277 (by kernel_rfl) (by kernel_rfl) (by kernel_rfl) (e := Extern.BytealgMakeNoZero.makeNoZero #[(ρ.t 3)] #[(ρ.t 37)]) (by kernel_rfl), hrun]
    rfl
  have c1 : w.drew.cell? ⟨b, 1, none⟩ = some (.slice none 0 0) := by
    have : w.drew.heap[b]? = _ := h.1
    rw [Lib.cell_of_heap this]; rfl
  have c2 : (w.alloc (.cells cs (ρ.t 5))).cell? ⟨b, 1, none⟩ = some (.slice none 0 0) := by rw [Lib.cell_of_heap ha]; rfl
  have f2 : (w.alloc (.cells cs (ρ.t 5))).frozen? ⟨b, 1, none⟩ = false := by
    have := h.2.1 1 (by omega)
    simp only [World.frozen?, ha]
    exact this
  have hcopy : ∀ W : World, (Builtin.copy_ #[(ρ.t 37), (ρ.t 37)] (ρ.t 3) #[.slice (some ⟨w.heap.size, 0, none⟩) 0 cs.size, .slice none 0 0]).run P W = .ok (goInt 0) W :=
    fun W => run_copy_none W (ρ.t 37) (ρ.t 37) (ρ.t 3) (ρ.t 5) _ _ 0 cs.size 0 0 L.t37 X.sizeByte rfl
  have hfin : ∀ w', w' = ((w.alloc (.cells cs (ρ.t 5))).setCell ⟨b, 1, none⟩ (.slice (some ⟨w.heap.size, 0, none⟩) 0 cs.size)).drew.drew.drew → Grown w w' b (ρ.t 72) (ρ.t 5) fz := fun w' e => by
    obtain ⟨v', g1, g2, g3, g4, g5⟩ := grown_new (e := ρ.t 5) h (hmax (by unfold maxLen; omega)) (Nat.lt_of_lt_of_le h0 hle)
    subst e
    exact ⟨v', g1, g2, g3.drew.drew.drew, g4, g5⟩
  have mixed := L.mixed
  have t72 := L.t72; have a72 := L.a72; have z72 := L.z72; have v72 := L.v72; have u72 := run_underlying L.t72
  have t70 := L.t70; have a70 := L.a70; have z70 := L.z70; have v70 := L.v70; have u70 := run_underlying L.t70
  have t37 := L.t37; have a37 := L.a37; have z37 := L.z37; have v37 := L.v37; have u37 := run_underlying L.t37
  have t3 := L.t3; have a3 := L.a3; have z3 := L.z3; have v3 := L.v3; have u3 := run_underlying L.t3
  have t5 := X.t5; have a5 := X.a5; have z5 := X.z5; have v5 := X.v5; have u5 := run_underlying X.t5
  clear hlt ha h
  go_enter L.f241, Body.n241_ntmps ρ
  go_wp2
  go_region_o
  all_goals (go_wp2; go_end0; exact ⟨rfl, hfin _ rfl⟩)
end Go.Ai
