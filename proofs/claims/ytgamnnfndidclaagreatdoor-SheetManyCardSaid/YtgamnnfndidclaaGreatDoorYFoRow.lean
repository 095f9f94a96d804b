/- sheet.Write itself. -/
import Derived.Test.YtgamnnfndidclaaGreatDoorYW7
import Derived.Test.YtgamnnfndidclaaGreatDoorAiGrow2
import Derived.Test.YtgamnnfndidclaaGreatDoorAiEnd
import Derived.Carry
import Derived.Test.YtgamnnfndidclaaGreatDoorYFoUtF
import Derived.Test.YtgamnnfndidclaaGreatDoorRows
import Derived.Lib.LaidIn
import Derived.Lib.LaidTab
import Derived.Lib.LaidU8T
import Derived.PinnedBridge
import Derived.ProofKit
import Derived.LaidMore
import Derived.Lay
import Derived.Stop.Joined
import Derived.Handed
import Derived.Shelf.Vars
open Nat renaming reduceBEq → qA, reduceAdd → qB, reduceSub → qC, reduceLeDiff → qD, reduceMul → qE
open Int renaming reduceLE → qF, reduceLT → qG, reduceNe → qH, reduceToNat → qI
set_option linter.all false
namespace Go.Proofs.Ut
open Go.Ai
set_option maxRecDepth 100000
set_option linter.all false
theorem COLS_len : COLS.length = 10 := rfl
theorem names49 : DRet 47 [.sl 3 cols, .fn 49 []] (.sl 1 (COLS.map sv)) := by
  refine acalls_goF c47 (by simp [f47]) ?_
  simp only [f47, finF_e, finF_en, ↓gos, gop, qA, qB, qC, qD, qE, qF, qG, qH, qI]
  refine goN_lp (γ := Nat) (fun i => [(10, .int .i64 i), (9, .int .i64 10), (8, .sl 3 cols), (1, .fn 49 []), (5, .osl 1 1 0 i none)]) (fun i => [.arr 1 [], .arr 1 ((COLS.take i).map sv)]) (fun i => i ≤ 10) (fun i => 10 - i) 0
    (wks rfl (by simp) ⟨rfl, rfl, rfl, rfl, rfl, trivial⟩) (by omega) fun i hi => ?_
  simp only [f47l0, finF_e, finF_en, ↓gos, gop, qA, qB, qC, qD, qE, qF, qG, qH, qI]
  refine ⟨fun h => ?_, fun h => ?_⟩
  · have h2 : i < 10 := by omega
    have h1 := tc_closed i h2
    refine optP_in (colv i) (cols_at i h2) ?_
    simp only [colv, finF_e, finF_en, ↓gos, gop, qA, qB, qC, qD, qE, qF, qG, qH, qI]
    refine call_clo (name49 (COLS.getD i []) (tf i) (uf i) (tc i) (tc i) h1 h1) (by
      rw [List.all_cons, show (DV.agg [.str (COLS.getD i []), .fn (tf i) (tc i), .fn (uf i) (tc i)]).closed = true from col_closed i h2]; rfl) rfl ?_
    simp only [finF_e, finF_en, ↓gos, gop, qA, qB, qC, qD, qE, qF, qG, qH, qI]
    have e : List.take i (List.map sv (List.take i COLS)) = List.map sv (List.take i COLS) := List.take_of_length_le (by simp [COLS_len]; omega)
    refine chk_i (by simp [COLS_len]; omega) (chk_i (by omega) (chk_i (by omega) ?_))
    intro v hv
    rw [wrap_i64 (by omega) (by omega)] at hv
    have e3 : v = ((i + 1 : Nat) : Int) := by rw [hv]; rfl
    subst e3
    refine rnd_d 2 (i + 1) ?_ (by simp) ⟨rfl, rfl, rfl, rfl, rfl, rfl, rfl, rfl, rfl, rfl, trivial⟩ rfl (by omega) (by omega)
    rw [take_getD' (show i < COLS.length from h2) [], e]
    simp [sv]
  · have h2 : i = 10 := by omega
    subst h2
    exact end_fc [1] (D := .sl 1 (COLS.map sv)) rfl rfl ⟨rfl, rfl⟩
def writeR (l : List CT) : List (List (List UInt8)) × Int := if l.length ≤ 60 then (if l.any refC = true then ([], 12) else (COLS :: l.map tells, 0)) else ([], 12)
theorem write19 (l : List CT) (hl : l.length < 1000000000) (hw : ∀ c ∈ l, okTell c) :
    DRet 19 [.sl 11 (l.map ctv)] (.tup [.sl 1 ((writeR l).1.map rwv), .int .i64 (writeR l).2]) := by
  refine acalls_goF c19 (by simp [f19]) ?_
  simp only [f19, List.length_map, finF_e, finF_en, ↓gos, gop, qA, qB, qC, qD, qE, qF, qG, qH, qI]
  unfold writeR
  refine ⟨fun h => ?_, fun h => ?_⟩
  · rw [if_neg (by omega)]
    exact end_fc [1] rfl rfl ⟨rfl, rfl⟩
  · rw [if_pos (by omega)]
    refine call_clo (contains46 l hl fun c hc => (hw c hc).s) rfl rfl ?_
    cases l.any refC
    · simp only [Bool.false_eq_true, reduceIte, finF_e, finF_en, ↓gos, gop, qA, qB, qC, qD, qE, qF, qG, qH, qI]
      refine call_clo columns48 rfl rfl ?_
      simp only [finF_e, finF_en, ↓gos, gop, qA, qB, qC, qD, qE, qF, qG, qH, qI]
      refine call_clo names49 rfl rfl ?_
      simp only [finF_e, finF_en, ↓gos, gop, qA, qB, qC, qD, qE, qF, qG, qH, qI]
      refine goN_lp (γ := Nat) (fun i => [(21, .int .i64 i), (20, .int .i64 l.length), (19, .sl 11 (l.map ctv)), (5, .osl 1 1 0 (i + 1) none)]) (fun i => [.arr 1 [], .arr 1 ((COLS :: (l.take i).map tells).map rwv)]) (fun i => i ≤ l.length) (fun i => l.length - i) 0
        (wks rfl (by simp) ⟨rfl, rfl, rfl, rfl, trivial⟩) (by omega) fun i hi => ?_
      simp only [f19l0, finF_e, finF_en, ↓gos, gop, qA, qB, qC, qD, qE, qF, qG, qH, qI]
      refine ⟨fun h5 => ?_, fun h5 => ?_⟩
      · have h2 : i < l.length := by omega
        have hm : l[i] ∈ l := List.getElem_mem h2
        have htk : l.take (i + 1) = l.take i ++ [l[i]] := by rw [List.take_add_one, List.getElem?_eq_getElem h2]; rfl
        refine optP_in l[i] (by simp [h2]) ?_
        generalize l[i] = c at *
        have e : List.take 11 (ctv c) = ctv c := rfl
        have hcl := ctv_closed c
        simp only [e, finF_e, finF_en, ↓gos, gop, qA, qB, qC, qD, qE, qF, qG, qH, qI]
        refine chk_i (Nat.le_refl 11) (chk_i rfl (chk_i rfl ?_))
        simp only [ocP_ctv, finF_e, finF_en, ↓gos, gop, qA, qB, qC, qD, qE, qF, qG, qH, qI]
        refine call_clo columns48 rfl rfl ?_
        simp only [finF_e, finF_en, ↓gos, gop, qA, qB, qC, qD, qE, qF, qG, qH, qI]
        refine call_h (h1 := [.box (ctv c)]) (ds1 := [.sl 3 cols, .fn 50 [.ptr 0 0]]) [4] [] (by simp) (by simp) rfl (by
          simp only [List.map_cons, List.map_nil, List.getD_cons_zero, List.getD_cons_succ, lowO]
          rw [map_same fun d hd => closed_low (List.all_eq_true.1 hcl d hd)]) rfl (by
          simp only [List.all_cons, List.all_nil, Bool.and_true, Bool.and_eq_true]
          refine ⟨⟨rfl, rfl⟩, ?_⟩
          exact List.all_eq_true.2 fun d hd => closed_inL (List.all_eq_true.1 hcl d hd)) (each47 c (hw c hm)) rfl ?_
        simp only [List.foldl, setAll, renO, DV.ren, upL, map_same fun d hd => closed_ren (List.all_eq_true.1 hcl d hd), finF_e, finF_en, ↓gos, gop, qA, qB, qC, qD, qE, qF, qG, qH, qI]
        have hti : (l.take i).length = i := by simp; omega
        refine chk_i (by omega) (chk_i (by omega) (chk_i (by omega) ?_))
        intro v hv
        rw [wrap_i64 (by omega) (by omega)] at hv
        have e3 : v = ((i + 1 : Nat) : Int) := by rw [hv]; rfl
        subst e3
        refine rnd_d 2 (i + 1) ?_ (by simp) ⟨rfl, rfl, rfl, rfl, rfl, rfl, rfl, rfl, trivial⟩ rfl (by omega) (by omega)
        have e : List.take i (List.map rwv (List.map tells (List.take i l))) = List.map rwv (List.map tells (List.take i l)) := List.take_of_length_le (by simp; omega)
        rw [htk, e]
        simp only [List.map_append, List.map_cons, List.map_nil]
        rfl
      · have h2 : i = l.length := by omega
        subst h2
        rw [List.take_length]
        refine end_fc [1] (D := .tup [.sl 1 (rwv COLS :: List.map rwv (List.map tells l)), .int .i64 0]) ?_ rfl ⟨rfl, rfl⟩
        have e : frzD [1] [.arr 1 [], .arr 1 (rwv COLS :: List.map rwv (List.map tells l))] (.osl 1 1 0 (l.length + 1) none) = .sl 1 (rwv COLS :: List.map rwv (List.map tells l)) :=
          frz_row (F := [1]) (sz := 1) (i := 1) (n := l.length + 1) (c := none) rfl (by simp) rfl
        show DV.tup [frzD _ _ _, _] = _
        rw [e]; rfl
    · simp only [reduceIte, finF_e, finF_en, ↓gos, gop, qA, qB, qC, qD, qE, qF, qG, qH, qI]
      exact end_fc [1] rfl rfl ⟨rfl, rfl⟩
end Go.Proofs.Ut

/- The statements of sheet: what holds of rows that are given, and awake. -/
namespace Go.Proofs.Ut
open Go.Ai
set_option maxRecDepth 100000
set_option linter.all false
def okSB (c : CT) : Bool := [c.name, c.family, c.given, c.nick, c.jid, c.email, c.tel, c.note, c.uid].all (fun s => decide (s.length < 10000)) && decide (c.groups.length < 10000) && c.groups.all (fun s => decide (s.length < 10000)) && c.other.isEmpty
theorem okS_of {c : CT} (h : okSB c = true) : okS c := by
  simp only [okSB, Bool.and_eq_true, List.all_cons, List.all_nil, decide_eq_true_eq, Bool.and_true] at h
  obtain ⟨⟨⟨⟨h1, h2, h3, h4, h5, h6, h7, h8, h9⟩, h10⟩, h11⟩, h12⟩ := h
  have e : c.other = [] := by simpa using h12
  refine ⟨by omega, by omega, by omega, by omega, by omega, by omega, by omega, by omega, by omega, by omega, fun s hs => ?_, by simp [e], fun p hp => by simp [e] at hp⟩
  have := List.all_eq_true.1 h11 s hs
  simp only [decide_eq_true_eq] at this
  omega
def okRowB (names row : List (List UInt8)) : Bool := decide (row.length < 10000) && row.all (fun s => decide (s.length < 10000)) && decide ((splitF 59 false [] (row.getD (names.idxOf GROUPS) [])).length < 20) && okSB (oneF names row 10).1
def okRowsB (rows : List (List (List UInt8))) : Bool := match rows with
  | [] => true
  | r :: tl => decide (r.length < 10000) && r.all (fun s => decide (s.length < 10000)) && (!(headR r).2 || tl.all (okRowB (headR r).1))
theorem okRow_of {names row : List (List UInt8)} (h : okRowB names row = true) : okRow names row := by
  simp only [okRowB, Bool.and_eq_true, decide_eq_true_eq, List.all_eq_true] at h
  obtain ⟨⟨⟨h1, h2⟩, h3⟩, h4⟩ := h
  exact ⟨by omega, fun s hs => by have := h2 s hs; omega, h3, okS_of h4⟩
theorem okRows_of {rows : List (List (List UInt8))} (h : okRowsB rows = true) : okRows rows := by
  cases rows with
  | nil => trivial
  | cons r tl =>
    simp only [okRowsB, Bool.and_eq_true, decide_eq_true_eq, List.all_eq_true] at h
    obtain ⟨⟨h1, h2⟩, h3⟩ := h
    refine ⟨by omega, fun s hs => by have := h2 s hs; omega, fun hh row hr => ?_⟩
    rw [hh] at h3
    simp only [Bool.not_true, Bool.false_or, List.all_eq_true] at h3
    exact okRow_of (h3 row hr)
def awR : List (List (List UInt8)) := [[[74, 73, 68], [78, 97, 109, 101]], [[65, 64, 104], [110]]]
theorem aw_is : readR awR = ([{ C0 with name := [110], jid := [97, 64, 104] }], 0, 0) := by kernel_rfl
theorem aw_ok : okRows awR := okRows_of (by decide +kernel)
theorem aw_read : DRet 14 [.sl 1 [[.sl 1 [[.str [74, 73, 68]], [.str [78, 97, 109, 101]]]], [.sl 1 [[.str [65, 64, 104]], [.str [110]]]]]] (.tup [.sl 11 [ctv { C0 with name := [110], jid := [97, 64, 104] }], .int .i64 0, .int .i64 0]) := by
  have h := read14 awR (by decide) aw_ok
  rw [aw_is] at h
  exact h
theorem awake15 : DRet 15 [] (.bool true) := by
  refine acalls_goF c15 (by simp [f15]) ?_
  simp only [f15, finF_e, finF_en, ↓gos, gop, qA, qB, qC, qD, qE, qF, qG, qH, qI]
  refine call_frz [2] rfl ?_
  simp only [finF_e, finF_en, ↓gos, gop, qA, qB, qC, qD, qE, qF, qG, qH, qI]
  refine call_clo aw_read rfl rfl ?_
  simp only [ctv, C0, finF_e, finF_en, ↓gos, gop, qA, qB, qC, qD, qE, qF, qG, qH, qI]
  exact end_fc [1] rfl rfl ⟨rfl, rfl⟩
end Go.Proofs.Ut

/- SheetWrong. -/
namespace Go.Proofs.Ut
open Go.Ai
set_option maxRecDepth 100000
set_option linter.all false
def heads : List (List (List UInt8)) := [[], [[106,105,100]], [NAME, NAME], [NAME, [78,65,77,69]], [NAME, [120]], [NAME, []]]
def bads : List (List (List UInt8)) := [[[110],[]],[[110],[64],[]],[[110],[],[92]],[[],[],[]],[[110],[],[],[]],[[110],[97,64,98,47,99],[92]]]
def wants : List Int := [12,14,18,12,12,14]
def rowsW (k : Nat) : List (List (List UInt8)) := [NAME, JID, GROUPS] :: List.replicate k [[110],[],[]]
theorem w1 : ∀ k, k < 6 → (readR [heads.getD k [], [[97]]]) = ([], 0, 21) := by
  have h : ∀ k, k < 6 → ((readR [heads.getD k [], [[97]]]).1.length, (readR [heads.getD k [], [[97]]]).2) = (0, 0, 21) := by decide +kernel
  intro k hk
  have := h k hk
  generalize readR _ = q at *
  obtain ⟨q1, q2⟩ := q
  simp only [Prod.mk.injEq, List.length_eq_zero_iff] at this
  obtain ⟨rfl, rfl, rfl⟩ := this
  rfl
theorem w2 : ∀ a, a < 5 → ∀ k, k < 6 → readR (rowsW a ++ [bads.getD k []]) = ([], ((a + 1 : Nat) : Int), wants.getD k 0) := by
  have h : ∀ a, a < 5 → ∀ k, k < 6 → ((readR (rowsW a ++ [bads.getD k []])).1.length, (readR (rowsW a ++ [bads.getD k []])).2) = (0, ((a + 1 : Nat) : Int), wants.getD k 0) := by decide +kernel
  intro a ha k hk
  have := h a ha k hk
  generalize readR _ = q at *
  obtain ⟨q1, q2⟩ := q
  simp only [Prod.mk.injEq, List.length_eq_zero_iff] at this
  obtain ⟨rfl, rfl, rfl⟩ := this
  rfl
theorem w3 : ∀ a, a < 5 → ((readR (rowsW a)).1.length, (readR (rowsW a)).2) = (a, 0, 0) := by decide +kernel
theorem o1 : ∀ k, k < 6 → okRowsB [heads.getD k [], [[97]]] = true := by decide +kernel
theorem o2 : ∀ a, a < 5 → ∀ k, k < 6 → okRowsB (rowsW a ++ [bads.getD k []]) = true := by decide +kernel
theorem o3 : ∀ a, a < 5 → okRowsB (rowsW a) = true := by decide +kernel
theorem mod_in (y : Int) (n : Nat) (hn : 0 < n) (h9 : n < 1000) : ∃ a : Nat, a < n ∧ IntKind.i64.wrap ((IntKind.u64.wrap y).tmod n) = a := by
  have h0 : 0 ≤ IntKind.u64.wrap y := by
    simp only [IntKind.wrap, IntKind.bits, IntKind.signed]
    exact Int.emod_nonneg _ (by decide)
  obtain ⟨m, hm⟩ := Int.eq_ofNat_of_zero_le h0
  refine ⟨m % n, Nat.mod_lt _ hn, ?_⟩
  rw [hm]
  have h1 : ((m : Int).tmod n) = ((m % n : Nat) : Int) := by
    rw [Int.tmod_eq_emod_of_nonneg (by omega)]; simp
  have := Nat.mod_lt m hn
  rw [h1, wrap_i64 (by omega) (by omega)]
end Go.Proofs.Ut

/- What one word says of a value, another says too: nil is no row at all. -/
namespace Go.Ai
def Le (d' d : DV) : Prop := ∀ (w : World) (ok : Nat → Prop) (β : Loc) (v : Value), Rep w ok β v d' → Rep w ok β v d
theorem Le.refl (d : DV) : Le d d := fun _ _ _ _ h => h
theorem le_nils {sz : Nat} : Le (.nils sz) (.sl sz []) := fun w ok β v h => by
  cases h with
  | nils sz hz => exact .sl none 0 0 sz [] 0 0 (fun _ => .int .i64 0) rfl (Nat.le_refl _) hz (by simp) (fun h => absurd h (Nat.lt_irrefl _)) (fun k h => by simp at h) (fun k h => by simp at h) (fun k d h => by simp at h)
def LeL (a b : List DV) : Prop := a.length = b.length ∧ ∀ (k : Nat) d' d, a[k]? = some d' → b[k]? = some d → Le d' d
theorem LeL.nil : LeL [] [] := ⟨rfl, fun k d' d h => by simp at h⟩
theorem LeL.cons {x y : DV} {a b : List DV} (h : Le x y) (hs : LeL a b) : LeL (x :: a) (y :: b) := ⟨by simp [hs.1], fun k d' d h1 h2 => by
  cases k with
  | zero => simp at h1 h2; subst h1 h2; exact h
  | succ k => exact hs.2 k _ _ (by simpa using h1) (by simpa using h2)⟩
theorem LeL.refl : ∀ a, LeL a a
  | [] => .nil
  | x :: a => .cons (Le.refl x) (.refl a)
theorem LeL.append {a b : List DV} : ∀ {c d : List DV}, LeL a b → LeL c d → LeL (a ++ c) (b ++ d) := by
  induction a generalizing b with
  | nil => intro c d h h2; obtain rfl : b = [] := List.eq_nil_of_length_eq_zero h.1.symm; exact h2
  | cons x a ih =>
    intro c d h h2
    match b, h with
    | [], h => have := h.1; simp at this
    | y :: b, h => exact .cons (h.2 0 _ _ rfl rfl) (ih ⟨by have := h.1; simpa using this, fun k d' d q1 q2 => h.2 (k + 1) _ _ (by simpa using q1) (by simpa using q2)⟩ h2)
theorem le_sl {sz : Nat} {es' es : List (List DV)} (hl : es'.length = es.length) (hs : ∀ e ∈ es, e.length = sz) (hp : LeL es'.flatten es.flatten) : Le (.sl sz es') (.sl sz es) := fun w ok β v h => by
  cases h with
  | sl A n c sz es0 b x vs hn hnc hsz hes hA hc h1 h =>
    refine .sl A n c sz es b x vs (hn.trans hl) hnc hsz hs hA hc h1 fun k d hd => ?_
    have hk : k < es'.flatten.length := by rw [hp.1]; exact (List.getElem?_eq_some_iff.1 hd).1
    exact hp.2 k _ _ (List.getElem?_eq_getElem hk) hd _ _ _ _ (h k _ (List.getElem?_eq_getElem hk))
theorem LeL.replicate {a b : List DV} (h : LeL a b) : ∀ n, LeL (List.replicate n a).flatten (List.replicate n b).flatten
  | 0 => .nil
  | n + 1 => by
    simp only [List.replicate_succ, List.flatten_cons]
    exact h.append (.replicate h n)
theorem ACalls.le {E : Env} {f : Nat} {h : List AObj} {args' args : List DV} {post : List AObj → DV → Prop} (hc : ACalls E f h args post) (hl : LeL args' args) : ACalls E f h args' post :=
  ⟨hc.1, fun w ok β vs hG hN hH hlen hv => hc.2 w ok β vs hG hN hH (hlen.trans hl.1) fun i v d h1 h2 => by
    have hi : i < args'.length := by rw [hl.1]; exact (List.getElem?_eq_some_iff.1 h2).1
    exact hl.2 i _ _ (List.getElem?_eq_getElem hi) h2 _ _ _ _ (hv i v _ h1 (List.getElem?_eq_getElem hi))⟩
end Go.Ai

/- SheetMany. -/
namespace Go.Proofs.Ut
open Go.Ai
set_option maxRecDepth 100000
set_option linter.all false
theorem read14n : DRet 14 [.nils 1] (.tup [.sl 11 [], .int .i64 0, .int .i64 0]) := by
  refine acalls_goF c14 (by simp [f14]) ?_
  simp only [f14, finF_e, finF_en, ↓gos, gop, qA, qB, qC, qD, qE, qF, qG, qH, qI]
  exact end_fc [0, 1, 2, 3] rfl rfl ⟨rfl, rfl⟩
def CN : CT := { C0 with name := [110] }
def rowsM (n : Nat) : List (List (List UInt8)) := [[78, 65, 77, 69]] :: List.replicate n [[110]]
theorem m1 : ∀ k, k < 5 → ((readR (rowsM (58 + k))).1.length, (readR (rowsM (58 + k))).2) = if 58 + k ≤ 60 then (58 + k, 0, 0) else (0, 0, 4) := by decide +kernel
theorem m2 : ∀ k, k < 5 → okRowsB (rowsM (58 + k)) = true := by decide +kernel
theorem m3 : ((readR (rowsM 0)).1.length, (readR (rowsM 0)).2) = (0, 0, 0) := by decide +kernel
theorem m3' : okRowsB (rowsM 0) = true := by decide +kernel
def CNr : List DV := [.str [110], .str [], .str [], .str [], .str [], .str [], .str [], .str [], .str [], .nils 1, .nils 4]
theorem CN_le : LeL CNr (ctv CN) := .cons (.refl _) (.cons (.refl _) (.cons (.refl _) (.cons (.refl _) (.cons (.refl _) (.cons (.refl _) (.cons (.refl _) (.cons (.refl _) (.cons (.refl _) (.cons le_nils (.cons le_nils .nil))))))))))
theorem m4 : refC CN = false := by decide +kernel
theorem CN_ok : okTell CN := ⟨okS_of (by decide +kernel), by decide +kernel⟩
theorem m5 (n : Nat) : (writeR (List.replicate n CN)).2 = if n ≤ 60 then 0 else 12 := by
  unfold writeR
  simp only [List.length_replicate]
  have h : (List.replicate n CN).any refC = false := by
    rw [List.any_eq_false]
    intro c hc
    rw [List.eq_of_mem_replicate hc, m4]; simp
  rw [h]
  split <;> simp
theorem many7 (y : Int) : DRet 7 [.int .i64 y] (.bool true) := by
  refine acalls_goF c7 (by simp [f7]) ?_
  simp only [f7, finF_e, finF_en, ↓gos, gop, qA, qB, qC, qD, qE, qF, qG, qH, qI]
  intro v h1 v1 h2 v2 h3 v3 h4
  obtain ⟨k, hk, ek⟩ := mod_in y 5 (by decide) (by decide)
  have e3 : v2 = k := by rw [h3, h2, h1]; exact ek
  subst e3
  rw [wrap_i64 (by omega) (by omega)] at h4
  have e4 : v3 = ((58 + k : Nat) : Int) := by rw [h4]; rfl
  subst e4
  clear h1 h2 h3 h4
  have q1 := m1 k hk
  have q2 := read14 (rowsM (58 + k)) (by simp [rowsM]; omega) (okRows_of (m2 k hk))
  have q3 := read14 (rowsM 0) (by simp [rowsM]) (okRows_of m3')
  have q4 := write19 (List.replicate (58 + k) CN) (by simp; omega) (fun c hc => by rw [List.eq_of_mem_replicate hc]; exact CN_ok)
  have q5 := m5 (58 + k)
  have q4 := q4.le (args' := [.sl 11 (List.replicate (58 + k) CNr)]) (.cons (le_sl (by simp) (fun e he => by
    obtain ⟨c, _, rfl⟩ := List.mem_map.1 he; rfl) (by rw [List.map_replicate]; exact .replicate CN_le _)) .nil)
  have q6 := m3
  generalize hn : 58 + k = n at *
  have hn5 : n < 70 := by omega
  refine goN_lp (γ := Nat) (fun i => [(5, .int .i64 i), (4, .osl 11 2 0 i none), (3, .osl 1 1 0 (i + 1) none), (2, .bool false), (0, .int .i64 n)]) (fun i => [.dead, .arr 1 ((rowsM i).map rwv), .arr 11 (List.replicate i CNr)]) (fun i => i ≤ n) (fun i => n - i) 0
    (wks rfl (by simp) ⟨rfl, rfl, rfl, rfl, rfl, trivial⟩) (by omega) fun i hi => ?_
  simp only [f7l0, finF_e, finF_en, ↓gos, gop, qA, qB, qC, qD, qE, qF, qG, qH, qI]
  refine ⟨fun h5 => ?_, fun h5 => ?_⟩
  · have hl : (rowsM i).length = i + 1 := by simp [rowsM]
    have hl2 : (List.replicate i CNr).length = i := by simp
    refine chk_i (by omega) (chk_i (by omega) (chk_i (by omega) (chk_i (by omega) (chk_i (by omega) (chk_i (by omega) ?_)))))
    intro v hv
    rw [wrap_i64 (by omega) (by omega)] at hv
    have e : v = ((i + 1 : Nat) : Int) := by rw [hv]; rfl
    subst e
    refine rnd_d 3 (i + 1) ?_ (by simp) ⟨rfl, rfl, rfl, rfl, rfl, rfl, rfl, rfl, rfl, rfl, trivial⟩ rfl (by omega) (by omega)
    have ht : List.take (i + 1) (List.map rwv (rowsM i)) = List.map rwv (rowsM i) := List.take_of_length_le (by simp [hl])
    have ht2 : List.take i (List.replicate i CNr) = List.replicate i CNr := List.take_of_length_le (by simp)
    have hr : List.map rwv (rowsM (i + 1)) = List.map rwv (rowsM i) ++ [[.sl 1 [[.str [110]]]]] := by
      simp only [rowsM, List.replicate_succ', List.map_cons, List.map_append]; rfl
    rw [ht, hr, ht2, List.replicate_succ']
    rfl
  · have hin : i = n := by omega
    subst hin
    refine call_frz [1] rfl ?_
    have hl : (rowsM i).length = i + 1 := by simp [rowsM]
    have ht : List.take (i + 1) (List.map rwv (rowsM i)) = List.map rwv (rowsM i) := List.take_of_length_le (by simp [hl])
    simp only [hl, ht, Nat.le_refl, decide_true, finF_e, finF_en, ↓gos, gop, qA, qB, qC, qD, qE, qF, qG, qH, qI]
    refine call_clo q2 rfl rfl ?_
    simp only [finF_e, finF_en, ↓gos, gop, qA, qB, qC, qD, qE, qF, qG, qH, qI]
    refine call_frz [2] rfl ?_
    have ht2 : List.take i (List.replicate i CNr) = List.replicate i CNr := List.take_of_length_le (by simp)
    simp only [ht2, List.length_replicate, Nat.le_refl, decide_true, finF_e, finF_en, ↓gos, gop, qA, qB, qC, qD, qE, qF, qG, qH, qI]
    refine call_clo q4 rfl rfl ?_
    simp only [finF_e, finF_en, ↓gos, gop, qA, qB, qC, qD, qE, qF, qG, qH, qI]
    refine chk_i (by omega) ?_
    generalize readR (rowsM i) = r1 at *
    generalize readR (rowsM 0) = r2 at *
    generalize writeR (List.replicate i CN) = r3 at *
    obtain ⟨a1, a2, a3⟩ := r1
    obtain ⟨b1, b2, b3⟩ := r2
    obtain ⟨c1, c2⟩ := r3
    simp only [Prod.mk.injEq] at q6
    obtain ⟨hb1, rfl, rfl⟩ := q6
    simp only at q5
    refine call_clo q3 rfl rfl ?_
    simp only [finF_e, finF_en, ↓gos, gop, qA, qB, qC, qD, qE, qF, qG, qH, qI]
    refine call_clo read14n rfl rfl ?_
    simp only [finF_e, finF_en, ↓gos, gop, qA, qB, qC, qD, qE, qF, qG, qH, qI]
    refine ⟨fun h6 => ?_, fun h6 => ?_⟩
    · have h6 : i ≤ 60 := by omega
      rw [if_pos h6] at q1 q5
      simp only [Prod.mk.injEq] at q1
      obtain ⟨ha, rfl, rfl⟩ := q1
      subst q5
      refine call_clo awake15 rfl rfl ?_
      simp only [ha, hb1, List.length_map, finF_e, finF_en, ↓gos, gop, qA, qB, qC, qD, qE, qF, qG, qH, qI]
      exact end_fc [] rfl rfl ⟨rfl, rfl⟩
    · have h6 : ¬ i ≤ 60 := by omega
      rw [if_neg h6] at q1 q5
      simp only [Prod.mk.injEq] at q1
      obtain ⟨ha, rfl, rfl⟩ := q1
      subst q5
      refine call_clo awake15 rfl rfl ?_
      simp only [ha, hb1, List.length_map, finF_e, finF_en, ↓gos, gop, qA, qB, qC, qD, qE, qF, qG, qH, qI]
      exact end_fc [] rfl rfl ⟨rfl, rfl⟩
end Go.Proofs.Ut

/- From a contract to a row: a law's call, in a world that came in. -/
namespace Go.Ai
open Go.RowKit
theorem row_walk {E : Env} {f : Nat} {args : List DV} (hc : ACalls E f [] args fun h d => h = [] ∧ d = .bool true) (W : World) (hg : E.G W) (hn : E.N ≤ W.heap.size) (vs : List Value) (hl : vs.length = args.length)
    (hv : ∀ (i : Nat) v d, vs[i]? = some v → args[i]? = some d → Rep W (fun b => b < W.heap.size) noLoc v d) : Calls E.P f vs.toArray W fun e W' => e = .returned (.bool true) ∧ Below W.heap.size W W' := by
  refine (hc.2 W (fun b => b < W.heap.size) noLoc vs hg hn ⟨fun _ _ => rfl, fun l l' b o o' h => by simp [noLoc] at h, fun l b o h => by simp [noLoc] at h, fun l b o h => by simp [noLoc] at h, fun _ h => h, fun l o h => by simp at h⟩ hl hv).mono ?_
  rintro e W' ⟨v, ok', β', h', d, rfl, ⟨_, rfl⟩, _, hev, _, hr, _⟩
  refine ⟨by rw [hr.bool_in], ⟨hev.os, hev.tape, hev.output, hev.size, fun k hk => hev.same k hk fun l x h => by simp [noLoc] at h⟩⟩
end Go.Ai

/- From what a row lists to where the variables lie; the witness; the world's shape kept. -/
namespace Go.Proofs.Ut
open Go.Shelf Go.Lib Go.RowKit
open Go.Proofs.YtgamnnfndidclaaGreatDoor Go.Ai
noncomputable abbrev laidL : List (String × DataW Unit) := [("unicode/utf8.acceptRanges", Rows.laid_unicode_utf8_acceptRanges), ("unicode.asciiFold", Rows.laid_unicode_asciiFold), ("unicode.caseOrbit", Rows.laid_unicode_caseOrbit), ("unicode.CaseRanges", Rows.laid_unicode_CaseRanges), ("unicode/utf8.first", Rows.laid_unicode_utf8_first)]
theorem accept_eq : (Rows.laid_unicode_utf8_acceptRanges : DataW Unit) = acceptData := by kernel_rfl
theorem first_eq : Rows.laid_unicode_utf8_first = firstData := by kernel_rfl
def foldZ : List Int := (List.range 128).map foldC
theorem fold_eq : (Rows.laid_unicode_asciiFold : DataW Unit) = tabData .u16 foldZ := by kernel_rfl
theorem tab_of_read {P : Program} {W : World} {name : String} {k : IntKind} {zs : List Int} {g : Nat} {t e : TypeId} {n : Nat}
    (hg : P.globalNamed name = some g) (hty : (P.globals[g]?).map (·.type) = some t) (ht : P.underlying t = some (.array n e)) (he : P.underlying e = some (.int k)) (hce : P.cellsOf e = 1) (hct : P.cellsOf t = n)
    (h : VarReads P W name (tabData k zs)) : TabIs P W name k zs := by
  obtain ⟨g', t', cs, fuel, p, hg', ht', hvar, hd⟩ := h
  obtain rfl := Option.some.inj (hg.symm.trans hg')
  obtain rfl := Option.some.inj (hty.symm.trans ht')
  unfold TabIs
  rw [hvar, ← cells_of_tab ht he hce hct hd]
theorem laid_of {W : World} (h : laidMetH Tryz.prog laidL W) (hsh : W.ShapedOpen Tryz.prog) : Laid W := by
  rw [MakeChecks.laidMetH_plain _ _ _ (by kernel_rfl)] at h
  have h3 := Lib.laidMet.reads h (.tail _ (.tail _ (.tail _ (.tail _ (.head _)))))
  have h4 := Lib.laidMet.reads h (.head _)
  have h0 := Lib.laidMet.reads h (.tail _ (.head _))
  rw [first_eq] at h3
  rw [accept_eq] at h4
  rw [fold_eq] at h0
  refine ⟨utf8Tabs_of_readsT (U8Types.of196 Tryz.laysValid) ⟨by kernel_rfl, by kernel_rfl, by kernel_rfl, by kernel_rfl, by kernel_rfl, by kernel_rfl, by kernel_rfl⟩ h3 h4, ?_, fun i hi => ?_⟩
  · exact cell_of_shapedOpen_int (t := 3) (zero := #[.int .i64 0]) hsh (of_decide_eq_true (by kernel_rfl)) (by kernel_rfl) (by kernel_rfl) (by kernel_rfl) (by kernel_rfl) (by kernel_rfl)
  · have ht := tab_of_read (P := Tryz.prog) (g := 3) (t := 259) (e := 258) (n := 128) (by kernel_rfl) (by kernel_rfl) (by kernel_rfl) (by kernel_rfl) (by kernel_rfl) (by kernel_rfl) h0
    have := ht.cell (g := 3) (by kernel_rfl) i (by simpa [foldZ] using hi)
    rw [this]
    simp [foldZ, hi]
theorem laid_size {W : World} (h : Laid W) : 4 ≤ W.heap.size := by
  have hm := h.fold 0 (by omega)
  rcases Nat.lt_or_ge 3 W.heap.size with h1 | h1
  · exact h1
  · simp [World.cell?, Array.getElem?_eq_none h1] at hm
theorem laid_witness (os : Os) (args : Array Value) : laidMetH Tryz.prog laidL ((World.laidAll Tryz.prog os laidL).forCall (fun _ _ => 0) ⟨#[], args, []⟩).memory := by
  rw [MakeChecks.laidMetH_plain _ _ _ (by kernel_rfl)]
  exact laidMet_laidAll _ (by kernel_rfl) (by kernel_rfl)
theorem door_walk {f : Nat} {args : List DV} (hc : Ai.ACalls ED f [] args fun h d => h = [] ∧ d = .bool true) (W : World) (hT : Laid W) (vs : List Value) (hl : vs.length = args.length)
    (hv : ∀ (i : Nat) v d, vs[i]? = some v → args[i]? = some d → Ai.Rep W (fun b => b < W.heap.size) Ai.noLoc v d) : Calls Tryz.prog f vs.toArray W fun e W' => e = .returned (.bool true) ∧ Below W.heap.size W W' :=
  Ai.row_walk hc W hT (laid_size hT) vs hl hv
theorem returns_shaped {H : Type} {enc : TypeId × Value → H} {a : Assume} {C : Checked} {os : Os} {f : FuncId} {fn : Func} {s : ChangeSpec} {conds : List PathCond} {apart fresh handsOn again : Bool} {X : World → Array Value → Prop}
    (hX : ∀ (w w' : World) (args : Array Value), w.heap = w'.heap → X w args → X w' args)
    (own : ownKnob C.prog.godebug = none) (started : os.Started) (noInit : C.prog.inits.idxOf? f = none) (hfn : C.prog.funcs[f]? = some fn)
    (witness : ∃ (w : World) (tape : Tape) (i : Input), w.os = os ∧ (w.forCall tape i).Shaped C.prog ∧ i.vars = [] ∧ Input.okWide C.prog (w.forCall tape i) .any w.heap.size f i ∧
      ((s.pre enc C.prog fn conds apart (w.forCall tape i).memory i.args ∧ X (w.forCall tape i).memory i.args) ∧ sizedMet enc C.prog fn (OpenSpec.ofChange s) apart (w.forCall tape i).memory i.args) ∧ a.holds C.prog (lone (Frame.enter C.prog f i.args .normal) [] (w.forCall tape i)))
    (contract : ∀ (W : World) (base : Nat) (args : Array Value) (ds gs : List (DataW H)) (before : List MemPlace),
      (∀ (j : Nat) t v, fn.params[j]? = some t → args[j]? = some v → Value.okWide C.prog W .any base t v) →
      DataW.Whole enc C.prog fn.params.toList s.vars apart W args.toList ds gs before →
      conds.all (PathCond.test C.prog ⟨fn.params.toList, ds, s.plain.varTypes C.prog, gs⟩) = true →
      (DataW.weightsEach C.prog (fn.params.toList ++ s.plain.varTypes C.prog) (ds ++ gs)).all (· ≤ reachBytes) = true → X W args → W.ShapedOpen C.prog →
      a.holds C.prog (lone (Frame.enter C.prog f args .normal) [] W) →
      Calls C.prog f args W fun e W' => ∃ v, e = .returned v ∧ s.post enc C.prog fn apart fresh handsOn again W args v W') :
    ReturnsInHanded a C os f .any (fun w args => (s.pre enc C.prog fn conds apart w args ∧ X w args) ∧ sizedMet enc C.prog fn (OpenSpec.ofChange s) apart w args) (s.post enc C.prog fn apart fresh handsOn again) := by
  refine returnsInHanded_of_calls own started noInit witness ?_
  intro w tape i _ hsh _ hok hpre hholds
  obtain ⟨_, _, _, fn', hfn', _, _, _, _, hval⟩ := hok
  have e : fn' = fn := Option.some.inj (hfn'.symm.trans hfn)
  subst e
  obtain ⟨⟨⟨ds, gs, before, hw, hc⟩, hx⟩, hz⟩ := hpre
  have hw' := DataW.Whole.of_heap (w' := w.forCall tape i) (by rfl) hw
  refine (contract (w.forCall tape i) w.heap.size i.args ds gs before hval hw' hc (hz.weights hw) (hX _ _ _ (by rfl) hx) hsh hholds).mono fun e W' ⟨v, he, hp⟩ => ?_
  subst he
  exact ChangeSpec.post_blind hp
end Go.Proofs.Ut
