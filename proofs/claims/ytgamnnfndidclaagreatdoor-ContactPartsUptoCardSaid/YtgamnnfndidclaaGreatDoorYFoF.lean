/- Addresses: jid.Domain, Parse, Text, Bare. -/
import Derived.Test.YtgamnnfndidclaaGreatDoorYJ
import Derived.Shelf.Lays
import Derived.Ground.NamesProg
import Derived.Test.YtgamnnfndidclaaGreatDoorProg
import Derived.Test.YtgamnnfndidclaaGreatDoorYO3
import Derived.Lib.Case
import Derived.Test.YtgamnnfndidclaaGreatDoorYFoUtD
open Nat renaming reduceBEq → qA, reduceAdd → qB, reduceSub → qC, reduceLeDiff → qD, reduceMul → qE
open Int renaming reduceLE → qF, reduceLT → qG, reduceNe → qH, reduceToNat → qI
set_option linter.all false
namespace Go.Proofs.Ut
open Go.Ai
set_option maxRecDepth 100000
set_option linter.all false
def bareR (s : List UInt8) : List UInt8 × Int :=
  bareOf (keptOf (nodeR (if (cut 64 (cut 47 s).1).2.2 then (cut 64 (cut 47 s).1).1 else [])) (cut 64 (cut 47 s).1).2.2 64) (domOf (hostR (if (cut 64 (cut 47 s).1).2.2 then (cut 64 (cut 47 s).1).2.1 else (cut 47 s).1)))
    (keptOf (resR (cut 47 s).2.1) (cut 47 s).2.2 64)
theorem dropDot_le (s : List UInt8) : (dropDot s).length ≤ s.length := by unfold dropDot; split <;> simp
theorem domain159 (s : List UInt8) (hs : s.length < 100000000) (hr : (hostR s).1.length < 1000000000) : SE 159 [.str s] (domOf (hostR s)) := by
  refine acalls_go c159 (by simp [f159]) ?_
  simp only [f159, ↓gos, gop, qA, qB, qC, qD, qE, qF, qG, qH, qI]
  refine call_ret (host28 s hs) rfl rfl ?_
  unfold domOf
  generalize hostR s = x at *
  obtain ⟨t, e⟩ := x
  simp only at hr
  simp only [↓gos, gop, qA, qB, qC, qD, qE, qF, qG, qH, qI]
  refine ⟨fun h => ?_, fun h => ?_⟩
  · rw [if_pos h]; exact finE_closed rfl ⟨rfl, rfl⟩
  · rw [if_neg (by simpa using h)]
    refine call_ret (trim199 t hr) rfl rfl ?_
    have hd := dropDot_le t
    generalize dropDot t = d at *
    simp only [↓gos, gop, qA, qB, qC, qD, qE, qF, qG, qH, qI]
    unfold okDom
    refine ⟨fun q => ?_, fun q => ?_⟩
    · rw [decide_eq_false (by omega)]; exact finE_closed rfl ⟨rfl, rfl⟩
    · rw [decide_eq_true (by omega), Bool.true_and]
      refine call_ret (right200 d (by omega)) rfl rfl ?_
      cases (splitL 46 d).all okPart
      · simp only [↓gos, gop, qA, qB, qC, qD, qE, qF, qG, qH, qI]; exact finE_closed rfl ⟨rfl, rfl⟩
      · simp only [↓gos, gop, qA, qB, qC, qD, qE, qF, qG, qH, qI]; exact finE_closed rfl ⟨rfl, rfl⟩
theorem kept160 (f : Nat) (r : List UInt8 × Int) (s : List UInt8) (is : Bool) (most : Nat) (hm : most < 1000) (hr : r.1.length < 1000000000) (hf : SE f [.str s] r) : SE 160 [.agg [.str s, .bool is], .fn f [], .int .i64 most] (keptOf r is most) := by
  refine acalls_go c160 (by simp [f160]) ?_
  simp only [f160, ↓gos, gop, qA, qB, qC, qD, qE, qF, qG, qH, qI]
  refine call_ret hf rfl rfl ?_
  obtain ⟨t, e⟩ := r
  simp only at hr
  unfold keptOf
  simp only [↓gos, gop, qA, qB, qC, qD, qE, qF, qG, qH, qI]
  refine ⟨fun h => ?_, fun h => ?_⟩
  · rw [if_pos h]; exact finE_closed rfl ⟨rfl, rfl⟩
  · obtain rfl : e = 0 := by simpa using h
    rw [if_neg (by simp)]
    cases is
    · rw [if_neg (by simp)]
      simp only [↓gos, gop, qA, qB, qC, qD, qE, qF, qG, qH, qI]
      exact finE_closed rfl ⟨rfl, rfl⟩
    · simp only [↓gos, gop, qA, qB, qC, qD, qE, qF, qG, qH, qI]
      refine ⟨fun q => ?_, fun q => ⟨fun q2 => ?_, fun q2 => ?_⟩⟩
      · rw [if_pos (.inl q)]; exact finE_closed rfl ⟨rfl, rfl⟩
      · rw [if_pos (.inr (by omega))]; exact finE_closed rfl ⟨rfl, rfl⟩
      · rw [if_neg (fun h => h.elim q (by omega))]; exact finE_closed rfl ⟨rfl, rfl⟩
theorem text123 (l d : List UInt8) (hl : l.length < 1000000000) (hd : d.length < 1000000000) : DRet 123 [.agg [.str l, .str d, .str []]] (.str (if l = [] then d else l ++ 64 :: d)) := by
  refine acalls_go c123 (by simp [f123]) ?_
  simp only [f123, ↓gos, gop, qA, qB, qC, qD, qE, qF, qG, qH, qI]
  refine ⟨fun h => ?_, fun h => ?_⟩
  · rw [if_neg h]
    refine chk_i (by omega) (chk_i (by simp; omega) (ends (by simp)))
  · rw [if_pos (by simpa using h)]
    exact ends rfl
theorem parts158 (s : List UInt8) (hs : s.length < 1000000000) : DRet 158 [.str s] (.tup [.agg [.str (if (cut 64 (cut 47 s).1).2.2 then (cut 64 (cut 47 s).1).1 else []), .bool (cut 64 (cut 47 s).1).2.2],
    .str (if (cut 64 (cut 47 s).1).2.2 then (cut 64 (cut 47 s).1).2.1 else (cut 47 s).1), .agg [.str (cut 47 s).2.1, .bool (cut 47 s).2.2]]) := by
  refine acalls_go c158 (by simp [f158]) ?_
  simp only [f158, ↓gos, gop, qA, qB, qC, qD, qE, qF, qG, qH, qI]
  refine call_ret (cut112 s 47 (by omega)) rfl rfl ?_
  have hl := cut_len 47 s
  generalize cut 47 s = x at *
  obtain ⟨head, res, has⟩ := x
  simp only at hl
  simp only [↓gos, gop, qA, qB, qC, qD, qE, qF, qG, qH, qI]
  refine call_ret (cut112 head 64 (by omega)) rfl rfl ?_
  generalize cut 64 head = x at *
  obtain ⟨l, d, is⟩ := x
  cases is
  · simp only [↓gos, gop, qA, qB, qC, qD, qE, qF, qG, qH, qI]
    exact finE_closed rfl ⟨rfl, by simp [rvd]⟩
  · simp only [↓gos, gop, qA, qB, qC, qD, qE, qF, qG, qH, qI]
    exact finE_closed rfl ⟨rfl, by simp [rvd]⟩
structure JP where
  l : List UInt8
  d : List UInt8
  r : List UInt8
  e : Int
def parseOf (L D R : List UInt8 × Int) : JP := if D.2 ≠ 0 then ⟨[], [], [], D.2⟩ else if L.2 ≠ 0 then ⟨[], [], [], L.2⟩ else if R.2 ≠ 0 then ⟨[], [], [], R.2⟩ else ⟨L.1, D.1, R.1, 0⟩
def jidR (s : List UInt8) : JP :=
  parseOf (keptOf (nodeR (if (cut 64 (cut 47 s).1).2.2 then (cut 64 (cut 47 s).1).1 else [])) (cut 64 (cut 47 s).1).2.2 64) (domOf (hostR (if (cut 64 (cut 47 s).1).2.2 then (cut 64 (cut 47 s).1).2.1 else (cut 47 s).1)))
    (keptOf (resR (cut 47 s).2.1) (cut 47 s).2.2 64)
def bareR' (p : JP) : List UInt8 × Int := if p.e ≠ 0 then ([], p.e) else if p.r ≠ [] then ([], 14) else (if p.l = [] then p.d else p.l ++ 64 :: p.d, 0)
theorem bare_jid (s : List UInt8) : bareR s = bareR' (jidR s) := by
  unfold bareR jidR bareOf parseOf bareR'
  generalize domOf _ = D
  generalize keptOf _ _ _ = L
  generalize keptOf _ _ _ = R
  by_cases h1 : D.2 = 0
  · by_cases h2 : L.2 = 0
    · by_cases h3 : R.2 = 0
      · simp [h1, h2, h3]
      · simp [h1, h2, h3]
    · simp [h1, h2]
  · simp [h1]
def okJ (s : List UInt8) : Prop := ∀ x : List UInt8, x.length ≤ s.length → (nodeR x).1.length < 1000000000 ∧ (hostR x).1.length < 1000000000 ∧ (resR x).1.length < 1000000000
theorem parse122 (s : List UInt8) (hs : s.length < 100000000) (hb : okJ s) : DRet 122 [.str s] (.tup [.agg [.str (jidR s).l, .str (jidR s).d, .str (jidR s).r], .int .i64 (jidR s).e]) := by
  have hl := cut_len 47 s
  have hl2 := cut_len 64 (cut 47 s).1
  have hp := parts158 s (by omega)
  unfold jidR
  generalize cut 47 s = x at *
  obtain ⟨head, res, has⟩ := x
  simp only at *
  generalize cut 64 head = x at *
  obtain ⟨l, d, is⟩ := x
  simp only at *
  have hln : (if is = true then l else []).length ≤ s.length := by cases is <;> simp; omega
  have hdn : (if is = true then d else head).length ≤ s.length := by cases is <;> simp <;> omega
  generalize (if is = true then l else []) = l at *
  generalize (if is = true then d else head) = d at *
  have cD := domain159 d (by omega) (hb d hdn).2.1
  have cL := kept160 161 (nodeR l) l is 64 (by omega) (hb l hln).1 (node26 l (by omega))
  have cR := kept160 162 (resR res) res has 64 (by omega) (hb res hl.2).2.2 (res30 res (by omega))
  generalize domOf (hostR d) = D at *
  generalize keptOf (nodeR l) is 64 = L at *
  generalize keptOf (resR res) has 64 = R at *
  obtain ⟨D, eD⟩ := D
  obtain ⟨L, eL⟩ := L
  obtain ⟨R, eR⟩ := R
  refine acalls_go c122 (by simp [f122]) ?_
  simp only [f122, ↓gos, gop, qA, qB, qC, qD, qE, qF, qG, qH, qI]
  refine call_ret hp rfl rfl ?_
  simp only [↓gos, gop, qA, qB, qC, qD, qE, qF, qG, qH, qI]
  refine call_ret cD rfl rfl ?_
  unfold parseOf
  simp only [↓gos, gop, qA, qB, qC, qD, qE, qF, qG, qH, qI]
  refine ⟨fun h => ?_, fun h => ?_⟩
  · rw [if_pos h]; exact finE_closed rfl ⟨rfl, rfl⟩
  · rw [if_neg (by simpa using h)]
    refine call_ret cL rfl rfl ?_
    simp only [↓gos, gop, qA, qB, qC, qD, qE, qF, qG, qH, qI]
    refine ⟨fun h => ?_, fun h => ?_⟩
    · rw [if_pos h]; exact finE_closed rfl ⟨rfl, rfl⟩
    · rw [if_neg (by simpa using h)]
      refine call_ret cR rfl rfl ?_
      simp only [↓gos, gop, qA, qB, qC, qD, qE, qF, qG, qH, qI]
      refine ⟨fun h => ?_, fun h => ?_⟩
      · rw [if_pos h]; exact finE_closed rfl ⟨rfl, rfl⟩
      · rw [if_neg (by simpa using h)]
        exact finE_closed rfl ⟨rfl, rfl⟩
theorem kept_le (x : List UInt8 × Int) (is : Bool) (n : Nat) : (keptOf x is n).1.length ≤ x.1.length := by
  unfold keptOf; split
  · simp
  · split <;> simp
theorem dom_le (x : List UInt8 × Int) : (domOf x).1.length ≤ x.1.length := by
  have := dropDot_le x.1
  unfold domOf; split
  · simp
  · split <;> simp <;> omega
theorem jid_le (s : List UInt8) (hb : okJ s) : (jidR s).l.length < 1000000000 ∧ (jidR s).d.length < 1000000000 := by
  have hl := cut_len 47 s
  have hl2 := cut_len 64 (cut 47 s).1
  unfold jidR
  generalize cut 47 s = x at *
  obtain ⟨head, res, has⟩ := x
  simp only at *
  generalize cut 64 head = x at *
  obtain ⟨l, d, is⟩ := x
  simp only at *
  have hln : (if is = true then l else []).length ≤ s.length := by cases is <;> simp; omega
  have hdn : (if is = true then d else head).length ≤ s.length := by cases is <;> simp <;> omega
  generalize (if is = true then l else []) = l at *
  generalize (if is = true then d else head) = d at *
  have q1 := (hb l hln).1
  have q2 := (hb d hdn).2.1
  have q3 := kept_le (nodeR l) is 64
  have q4 := dom_le (hostR d)
  unfold parseOf
  repeat' split
  all_goals simp
  all_goals omega
theorem bare63 (s : List UInt8) (hs : s.length < 100000000) (hb : okJ s) : SE 63 [.str s] (bareR s) := by
  have hj := jid_le s hb
  have hp := parse122 s hs hb
  rw [bare_jid]
  refine acalls_go c63 (by simp [f63]) ?_
  simp only [f63, ↓gos, gop, qA, qB, qC, qD, qE, qF, qG, qH, qI]
  generalize jidR s = p at *
  obtain ⟨l, d, r, e⟩ := p
  refine call_ret hp rfl rfl ?_
  unfold bareR'
  simp only at *
  simp only [↓gos, gop, qA, qB, qC, qD, qE, qF, qG, qH, qI]
  refine ⟨fun h => ?_, fun h => ⟨fun h2 => ?_, fun h2 => ?_⟩⟩
  · rw [if_pos h]; exact finE_closed rfl ⟨rfl, rfl⟩
  · rw [if_neg (by simpa using h), if_pos h2]; exact finE_closed rfl ⟨rfl, rfl⟩
  · rw [if_neg (by simpa using h), if_neg (by simpa using h2)]
    obtain rfl : r = [] := by simpa using h2
    refine call_ret (text123 l d hj.1 hj.2) rfl rfl ?_
    simp only [↓gos, gop, qA, qB, qC, qD, qE, qF, qG, qH, qI]
    exact finE_closed rfl ⟨rfl, rfl⟩
end Go.Proofs.Ut

/-
  DERIVED: THE SHELF's CONTRACTS AT THIS DUMP, IN PLAIN WORDS (tools/lay-plain.mjs out of 'YVcShelf.lean', which tools/lay-shelf.mjs wrote): THE SAME DECLARATIONS UNDER THE SAME NAMES: 'import', 'namespace', 'open', 'def', 'theorem' AND NOTHING ELSE: no command of the shelf's: FOR A HAND-IN. Each laying: the table of numbers ('.._ren') and one theorem, a field a fact of the dump's own or the kernel's comparison; each contract: ONE APPLICATION.
-/
namespace Go.Proofs
open Go.Shelf
def Tryz.lays158_ren : Go.Shelf.Ren := ⟨fun | 158 => 218 | 165 => 190 | 166 => 174 | 167 => 263 | 169 => 175 | 230 => 264 | 203 => 265 | 240 => 223 | 241 => 229 | 197 => 220 | 118 => 301 | 168 => 302 | 270 => 303 | 262 => 304 | 276 => 274 | 277 => 279 | 260 => 267 | 242 => 328 | 313 => 329 | 278 => 340 | 274 => 268 | 275 => 269 | n => n, fun | 9 => 9 | 4 => 4 | 3 => 3 | 5 => 5 | 72 => 169 | 0 => 0 | 76 => 172 | 75 => 171 | 107 => 212 | 70 => 167 | 20 => 20 | 37 => 47 | 127 => 213 | 21 => 21 | 105 => 210 | 164 => 272 | 162 => 265 | 203 => 330 | 119 => 197 | 46 => 22 | 139 => 200 | 138 => 199 | 51 => 218 | 160 => 263 | 208 => 303 | 206 => 301 | 80 => 174 | n => n, fun | 13 => 5 | 3 => 0 | 4 => 1 | n => n⟩
theorem Tryz.lays158 : Go.Proofs.Lays.n158 Tryz.prog Tryz.lays158_ren := {
  mixed := by kernel_rfl
  f118 := Tryz.func301.trans (congrArg some (by kernel_rfl))
  f158 := Tryz.func218.trans (congrArg some (by kernel_rfl))
  f165 := Tryz.func190.trans (congrArg some (by kernel_rfl))
  f166 := Tryz.func174.trans (congrArg some (by kernel_rfl))
  f167 := Tryz.func263.trans (congrArg some (by kernel_rfl))
  f168 := Tryz.func302.trans (congrArg some (by kernel_rfl))
  f169 := Tryz.func175.trans (congrArg some (by kernel_rfl))
  f197 := Tryz.func220.trans (congrArg some (by kernel_rfl))
  f203 := Tryz.func265.trans (congrArg some (by kernel_rfl))
  f230 := Tryz.func264.trans (congrArg some (by kernel_rfl))
  f240 := Tryz.func223.trans (congrArg some (by kernel_rfl))
  f241 := Tryz.func229.trans (congrArg some (by kernel_rfl))
  f242 := Tryz.func328.trans (congrArg some (by kernel_rfl))
  f260 := Tryz.func267.trans (congrArg some (by kernel_rfl))
  f262 := Tryz.func304.trans (congrArg some (by kernel_rfl))
  f270 := Tryz.func303.trans (congrArg some (by kernel_rfl))
  f274 := Tryz.func268.trans (congrArg some (by kernel_rfl))
  f275 := Tryz.func269.trans (congrArg some (by kernel_rfl))
  f276 := Tryz.func274.trans (congrArg some (by kernel_rfl))
  f277 := Tryz.func279.trans (congrArg some (by kernel_rfl))
  f278 := Tryz.func340.trans (congrArg some (by kernel_rfl))
  f313 := Tryz.func329.trans (congrArg some (by kernel_rfl))
  t0 := Tryz.underlying0
  a0 := Tryz.isAgg0
  z0 := Tryz.sizeOf0
  v0 := Tryz.zeroValue0
  t3 := Tryz.underlying3
  a3 := Tryz.isAgg3
  z3 := Tryz.sizeOf3
  v3 := Tryz.zeroValue3
  t4 := Tryz.underlying4
  a4 := Tryz.isAgg4
  z4 := Tryz.sizeOf4
  v4 := Tryz.zeroValue4
  t5 := Tryz.underlying5
  a5 := Tryz.isAgg5
  z5 := Tryz.sizeOf5
  v5 := Tryz.zeroValue5
  t9 := Tryz.underlying9
  a9 := Tryz.isAgg9
  z9 := Tryz.sizeOf9
  v9 := Tryz.zeroValue9
  t20 := Tryz.underlying20
  a20 := Tryz.isAgg20
  z20 := Tryz.sizeOf20
  v20 := Tryz.zeroValue20
  t21 := Tryz.underlying21
  a21 := Tryz.isAgg21
  z21 := Tryz.sizeOf21
  v21 := Tryz.zeroValue21
  t37 := Tryz.underlying47
  a37 := Tryz.isAgg47
  z37 := Tryz.sizeOf47
  v37 := Tryz.zeroValue47
  t46 := Tryz.underlying22
  a46 := Tryz.isAgg22
  z46 := Tryz.sizeOf22
  v46 := Tryz.zeroValue22
  t51 := Tryz.underlying218
  a51 := Tryz.isAgg218
  z51 := Tryz.sizeOf218
  v51 := Tryz.zeroValue218
  t70 := Tryz.underlying167
  a70 := Tryz.isAgg167
  z70 := Tryz.sizeOf167
  v70 := Tryz.zeroValue167
  t72 := Tryz.underlying169
  a72 := Tryz.isAgg169
  z72 := Tryz.sizeOf169
  v72 := Tryz.zeroValue169
  t75 := Tryz.underlying171
  a75 := Tryz.isAgg171
  z75 := Tryz.sizeOf171
  v75 := Tryz.zeroValue171
  t76 := Tryz.underlying172
  a76 := Tryz.isAgg172
  z76 := Tryz.sizeOf172
  v76 := Tryz.zeroValue172
  t105 := Tryz.underlying210
  a105 := Tryz.isAgg210
  z105 := Tryz.sizeOf210
  v105 := Tryz.zeroValue210
  t107 := Tryz.underlying212
  a107 := Tryz.isAgg212
  z107 := Tryz.sizeOf212
  v107 := Tryz.zeroValue212
  t119 := Tryz.underlying197
  a119 := Tryz.isAgg197
  z119 := Tryz.sizeOf197
  t127 := Tryz.underlying213
  a127 := Tryz.isAgg213
  z127 := Tryz.sizeOf213
  v127 := Tryz.zeroValue213
  t138 := Tryz.underlying199
  a138 := Tryz.isAgg199
  z138 := Tryz.sizeOf199
  v138 := Tryz.zeroValue199
  t139 := Tryz.underlying200
  a139 := Tryz.isAgg200
  z139 := Tryz.sizeOf200
  v139 := Tryz.zeroValue200
  t160 := Tryz.underlying263
  a160 := Tryz.isAgg263
  z160 := Tryz.sizeOf263
  v160 := Tryz.zeroValue263
  t162 := Tryz.underlying265
  a162 := Tryz.isAgg265
  z162 := Tryz.sizeOf265
  v162 := Tryz.zeroValue265
  t164 := Tryz.underlying272
  a164 := Tryz.isAgg272
  z164 := Tryz.sizeOf272
  v164 := Tryz.zeroValue272
  t203 := Tryz.underlying330
  a203 := Tryz.isAgg330
  z203 := Tryz.sizeOf330
  v203 := Tryz.zeroValue330
  t206 := Tryz.underlying301
  a206 := Tryz.isAgg301
  z206 := Tryz.sizeOf301
  v206 := Tryz.zeroValue301
  t208 := Tryz.underlying303
  a208 := Tryz.isAgg303
  z208 := Tryz.sizeOf303
  v208 := Tryz.zeroValue303
  g3 := by kernel_rfl
  g4 := by kernel_rfl
  g13 := by kernel_rfl }
def Tryz.lays239_ren : Go.Shelf.Ren := ⟨fun | 239 => 221 | 274 => 268 | 275 => 269 | n => n, fun | 21 => 21 | 4 => 4 | 3 => 3 | 156 => 259 | 0 => 0 | 49 => 258 | 157 => 260 | 46 => 22 | 159 => 262 | 162 => 265 | 160 => 263 | 208 => 303 | 51 => 218 | 206 => 301 | n => n, fun | 11 => 3 | 12 => 4 | 13 => 5 | n => n⟩
theorem Tryz.lays239 : Go.Proofs.Lays.n239 Tryz.prog Tryz.lays239_ren := {
  mixed := by kernel_rfl
  f239 := Tryz.func221.trans (congrArg some (by kernel_rfl))
  f274 := Tryz.func268.trans (congrArg some (by kernel_rfl))
  f275 := Tryz.func269.trans (congrArg some (by kernel_rfl))
  t0 := Tryz.underlying0
  a0 := Tryz.isAgg0
  z0 := Tryz.sizeOf0
  v0 := Tryz.zeroValue0
  t3 := Tryz.underlying3
  a3 := Tryz.isAgg3
  z3 := Tryz.sizeOf3
  v3 := Tryz.zeroValue3
  t4 := Tryz.underlying4
  a4 := Tryz.isAgg4
  z4 := Tryz.sizeOf4
  v4 := Tryz.zeroValue4
  t21 := Tryz.underlying21
  a21 := Tryz.isAgg21
  z21 := Tryz.sizeOf21
  v21 := Tryz.zeroValue21
  t46 := Tryz.underlying22
  a46 := Tryz.isAgg22
  z46 := Tryz.sizeOf22
  v46 := Tryz.zeroValue22
  t49 := Tryz.underlying258
  a49 := Tryz.isAgg258
  z49 := Tryz.sizeOf258
  v49 := Tryz.zeroValue258
  t51 := Tryz.underlying218
  a51 := Tryz.isAgg218
  z51 := Tryz.sizeOf218
  v51 := Tryz.zeroValue218
  t156 := Tryz.underlying259
  a156 := Tryz.isAgg259
  z156 := Tryz.sizeOf259
  t157 := Tryz.underlying260
  a157 := Tryz.isAgg260
  z157 := Tryz.sizeOf260
  v157 := Tryz.zeroValue260
  t159 := Tryz.underlying262
  a159 := Tryz.isAgg262
  z159 := Tryz.sizeOf262
  v159 := Tryz.zeroValue262
  t160 := Tryz.underlying263
  a160 := Tryz.isAgg263
  z160 := Tryz.sizeOf263
  v160 := Tryz.zeroValue263
  t162 := Tryz.underlying265
  a162 := Tryz.isAgg265
  z162 := Tryz.sizeOf265
  v162 := Tryz.zeroValue265
  t206 := Tryz.underlying301
  a206 := Tryz.isAgg301
  z206 := Tryz.sizeOf301
  v206 := Tryz.zeroValue301
  t208 := Tryz.underlying303
  a208 := Tryz.isAgg303
  z208 := Tryz.sizeOf303
  v208 := Tryz.zeroValue303
  g11 := by kernel_rfl
  g12 := by kernel_rfl
  g13 := by kernel_rfl }
end Go.Proofs

/- Cards: the plain law. -/
namespace Go.Proofs.Ut
open Go.Ai
set_option linter.unusedSimpArgs false
set_option linter.unusedVariables false
set_option maxRecDepth 100000
theorem u8_all {P : UInt8 → Prop} (h : ∀ n, n < 256 → P (UInt8.ofNat n)) (c : UInt8) : P c := by
  have := h c.toNat (UInt8.toNat_lt c)
  rwa [UInt8.ofNat_toNat] at this
def SGN : List UInt8 := [65, 66, 67, 68, 69, 70, 71, 72, 73, 74, 75, 76, 77, 78, 79, 80, 81, 82, 83, 84, 85, 86, 87, 88, 89, 90, 97, 98, 99, 100, 101, 102, 103, 104, 105, 106, 107, 108, 109, 110, 111, 112, 113, 114, 115, 116, 117, 118, 119, 120, 121, 122, 48, 49, 50, 51, 52, 53, 54, 55, 56, 57, 45]
def isS (c : UInt8) : Bool := SGN.contains c
def A4 : List UInt8 := [59, 58, 44, 34]
def A3 : List UInt8 := [59, 58, 44]
def up (s : List UInt8) : List UInt8 := s.map Lib.upperB
theorem sgn_a (c : UInt8) : isS c = true → c.toNat < 128 ∧ 32 ≤ c.toNat ∧ mayB c.toNat = true := u8_all (P := fun c => isS c = true → c.toNat < 128 ∧ 32 ≤ c.toNat ∧ mayB c.toNat = true) (by decide +kernel) c
def wordL (s : List UInt8) : List UInt8 := s.takeWhile isS
def restL (s : List UInt8) : List UInt8 := s.dropWhile isS
theorem word_rest (s : List UInt8) : wordL s ++ restL s = s := List.takeWhile_append_dropWhile
theorem word_sgn (s : List UInt8) : ∀ x ∈ wordL s, isS x = true := fun x hx => by
  have := List.all_takeWhile (p := isS) (l := s)
  exact List.all_eq_true.1 this x hx
def valueL (s : List UInt8) : List UInt8 × List UInt8 × Bool :=
  match s with
  | [] => ([], [], true)
  | x :: t => if x = 34 then cut 34 t else ((x :: t).takeWhile (fun c => !A4.contains c), (x :: t).dropWhile (fun c => !A4.contains c), true)
def paramL (s : List UInt8) : (List UInt8 × List UInt8) × List UInt8 × Bool :=
  if up (wordL s) = [] then ((up (wordL s), []), restL s, false) else
  match restL s with
  | [] => ((up (wordL s), []), [], false)
  | x :: t => if x = 61 then ((up (wordL s), (valueL t).1), (valueL t).2) else ((up (wordL s), []), x :: t, false)
def parsL : Nat → List (List UInt8 × List UInt8) → List UInt8 → List (List UInt8 × List UInt8) × List UInt8 × Bool
  | 0, acc, s => (acc, s, true)
  | k + 1, acc, s => match s with
    | [] => (acc, [], true)
    | x :: t => if x = 59 then (if (paramL t).2.2 = true then parsL k (acc ++ [(paramL t).1]) (paramL t).2.1 else (acc, (paramL t).2.1, false)) else (acc, x :: t, true)
theorem cut_yes (c : UInt8) : ∀ s : List UInt8, (cut c s).2.2 = true → s = (cut c s).1 ++ c :: (cut c s).2.1 ∧ c ∉ (cut c s).1
  | [], h => by simp [cut] at h
  | x :: s, h => by
    rw [cut] at h ⊢
    by_cases hx : x = c
    · rw [if_pos hx]; subst hx; simp
    · rw [if_neg hx] at h ⊢
      have := cut_yes c s h
      simp only at this ⊢
      refine ⟨by rw [List.cons_append, ← this.1], ?_⟩
      simp only [List.mem_cons, not_or]
      exact ⟨fun e => hx e.symm, this.2⟩
theorem value_len (s : List UInt8) : (valueL s).2.1.length ≤ s.length := by
  unfold valueL
  cases s with
  | nil => simp
  | cons x t =>
    simp only
    split
    · have := (cut_lenB 34 t).1; simp only [List.length_cons]; omega
    · exact (List.dropWhile_sublist _).length_le
theorem rest_len (s : List UInt8) : (restL s).length ≤ s.length := (List.dropWhile_sublist _).length_le
theorem param_len (s : List UInt8) : (paramL s).2.1.length ≤ s.length := by
  unfold paramL
  have := rest_len s
  split
  · exact this
  · cases hr : restL s with
    | nil => simp
    | cons x t =>
      rw [hr] at this
      simp only
      split
      · have h2 := value_len t
        simp only [List.length_cons] at this
        show (valueL t).2.1.length ≤ _
        omega
      · exact this
theorem parsL_fuel : ∀ k j acc (s : List UInt8), s.length ≤ k → s.length ≤ j → parsL k acc s = parsL j acc s
  | 0, 0, _, _, _, _ => rfl
  | 0, j + 1, acc, s, h, _ => by obtain rfl := List.eq_nil_of_length_eq_zero (show s.length = 0 by omega); rfl
  | k + 1, 0, acc, s, _, h => by obtain rfl := List.eq_nil_of_length_eq_zero (show s.length = 0 by omega); rfl
  | k + 1, j + 1, acc, [], _, _ => rfl
  | k + 1, j + 1, acc, x :: t, h1, h2 => by
    have := param_len t
    simp only [List.length_cons] at h1 h2
    simp only [parsL]
    rw [parsL_fuel k j _ (paramL t).2.1 (by omega) (by omega)]
def parsA (acc : List (List UInt8 × List UInt8)) (s : List UInt8) := parsL s.length acc s
theorem parsA_step (acc : List (List UInt8 × List UInt8)) (t : List UInt8) : parsA acc (59 :: t) = if (paramL t).2.2 = true then parsA (acc ++ [(paramL t).1]) (paramL t).2.1 else (acc, (paramL t).2.1, false) := by
  have := param_len t
  unfold parsA
  rw [List.length_cons, parsL, if_pos rfl, parsL_fuel t.length (paramL t).2.1.length _ _ (by omega) (Nat.le_refl _)]
theorem parsA_end (acc : List (List UInt8 × List UInt8)) (s : List UInt8) (h : s.head? ≠ some 59) : parsA acc s = (acc, s, true) := by
  cases s with
  | nil => rfl
  | cons x t =>
    unfold parsA
    rw [List.length_cons, parsL, if_neg (fun e => h (by rw [e]; rfl))]
structure PR where
  g : List UInt8
  n : List UInt8
  ps : List (List UInt8 × List UInt8)
  v : List UInt8
  deriving DecidableEq
def headL (s : List UInt8) : List UInt8 × List UInt8 × List UInt8 :=
  if wordL s ≠ [] ∧ (restL s).head? = some 46 then (wordL s, wordL (restL s).tail, restL (restL s).tail) else ([], wordL s, restL s)
def lastL (s : List UInt8) : List UInt8 × Bool := if s.head? = some 58 then (s.tail, true) else (s, false)
def propL (s : List UInt8) : PR × Bool :=
  if up (headL s).2.1 = [] then (⟨(headL s).1, [], [], (lastL (headL s).2.2).1⟩, false) else
  if (parsA [] (headL s).2.2).2.2 = false then (⟨(headL s).1, up (headL s).2.1, (parsA [] (headL s).2.2).1, []⟩, false) else
  (⟨(headL s).1, up (headL s).2.1, (parsA [] (headL s).2.2).1, (lastL (parsA [] (headL s).2.2).2.1).1⟩, (lastL (parsA [] (headL s).2.2).2.1).2)
def quoL (v : List UInt8) : List UInt8 := if v = [] ∨ v.any A3.contains = true then 34 :: v ++ [34] else v
def attL (a : List UInt8 × List UInt8) : List UInt8 := 59 :: a.1 ++ 61 :: quoL a.2
def frontL (p : PR) : List UInt8 := if p.g = [] then p.n else p.g ++ 46 :: p.n
def writtenL (p : PR) : List UInt8 := frontL p ++ p.ps.flatMap attL ++ 58 :: p.v
end Go.Proofs.Ut

/- What the laws of fold ask first; what is folded is unfolded as it was. -/
namespace Go.Proofs.Ut
open Go.Ai Classical Go.Shelf Go.RowKit
set_option linter.unusedSimpArgs false
set_option linter.unusedVariables false
set_option maxHeartbeats 1000000
set_option maxRecDepth 100000
end Go.Proofs.Ut

/- What is refused: rows without their end, escapes that are none, too much. -/
namespace Go.Proofs.Ut
open Go.Ai Classical Go.Shelf Go.RowKit
set_option linter.unusedSimpArgs false
set_option linter.unusedVariables false
set_option maxHeartbeats 1000000
set_option maxRecDepth 100000
end Go.Proofs.Ut
