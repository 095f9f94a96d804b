/- Rows that grow, ends, loops, calls. -/
import Derived.Test.YtgamnnfndidclaaGreatDoorAiGo2
set_option linter.all false
namespace Go.Ai
/-- What leads to one place is forgotten. -/
def kil (i : Nat) (d : DV) : DV := d.kill (· == i)
section
variable {i : Nat}
theorem kil_int {k : IntKind} {n : Int} : kil i (.int k n) = .int k n := rfl
theorem kil_bool {b : Bool} : kil i (.bool b) = .bool b := rfl
theorem kil_str {s : List UInt8} : kil i (.str s) = .str s := rfl
theorem kil_nilp : kil i .nilp = .nilp := rfl
theorem kil_nilfn : kil i .nilfn = .nilfn := rfl
theorem kil_nili : kil i .nili = .nili := rfl
theorem kil_undef : kil i .undef = .undef := rfl
theorem kil_emp {b : Bool} {n : Nat} : kil i (.emp b n) = .emp b n := rfl
theorem kil_nils {n : Nat} : kil i (.nils n) = .nils n := rfl
theorem kil_sl {sz : Nat} {es : List (List DV)} : kil i (.sl sz es) = .sl sz es := rfl
theorem kil_eptr {cs : List DV} {o : Nat} : kil i (.eptr cs o) = .eptr cs o := rfl
theorem kil_if {b : Bool} {d : DV} : (if b = true then DV.undef else d) = sel b .undef d := by cases b <;> rfl
theorem kil_ptr {l o : Nat} : kil i (.ptr l o) = sel (l == i) .undef (.ptr l o) := by simp only [kil, DV.kill, kil_if]
theorem kil_mp {l : Nat} : kil i (.mp l) = sel (l == i) .undef (.mp l) := by simp only [kil, DV.kill, kil_if]
theorem kil_self {l t m : Nat} : kil i (.self l t m) = sel (l == i) .undef (.self l t m) := by simp only [kil, DV.kill, kil_if]
theorem kil_hdr {l t m : Nat} : kil i (.hdr l t m) = sel (l == i) .undef (.hdr l t m) := by simp only [kil, DV.kill, kil_if]
theorem kil_aptr {sz l j q : Nat} : kil i (.aptr sz l j q) = sel (l == i) .undef (.aptr sz l j q) := by simp only [kil, DV.kill, kil_if]
theorem kil_osl {sz l off n : Nat} {c : Option Nat} : kil i (.osl sz l off n c) = sel (l == i) .undef (.osl sz l off n c) := by simp only [kil, DV.kill, kil_if]
def kilL (i : Nat) (l : List DV) : List DV := l.map (kil i)
theorem kilL_nil : kilL i [] = [] := rfl
theorem kilL_cons {d : DV} {l : List DV} : kilL i (d :: l) = kil i d :: kilL i l := rfl
theorem kil_agg {l : List DV} : kil i (.agg l) = .agg (kilL i l) := by simp only [kil, DV.kill, killAll_map]; rfl
theorem kil_tup {l : List DV} : kil i (.tup l) = .tup (kilL i l) := by simp only [kil, DV.kill, killAll_map]; rfl
theorem kil_ifc {f : Nat} {l : List DV} : kil i (.ifc f l) = .ifc f (kilL i l) := by simp only [kil, DV.kill, killAll_map]; rfl
theorem kil_bnd {f : Nat} {l : List DV} : kil i (.bnd f l) = .bnd f (kilL i l) := by simp only [kil, DV.kill, killAll_map]; rfl
theorem kil_fn {f : Nat} {l : List DV} : kil i (.fn f l) = .fn f (kilL i l) := by simp only [kil, DV.kill, killAll_map]; rfl
def kilS (i : Nat) (L : List (Nat × DV)) : List (Nat × DV) := killS (· == i) L
theorem kilS_nil : kilS i [] = [] := rfl
theorem kilS_cons {t : Nat} {d : DV} {L : List (Nat × DV)} : kilS i ((t, d) :: L) = (t, kil i d) :: kilS i L := rfl
def kilH (i : Nat) (h : List AObj) : List AObj := h.map (killO (· == i))
theorem kilH_nil : kilH i [] = [] := rfl
theorem kilH_box {cs : List DV} {h : List AObj} : kilH i (.box cs :: h) = .box (kilL i cs) :: kilH i h := rfl
theorem kilH_arr {sz : Nat} {es : List (List DV)} {h : List AObj} : kilH i (.arr sz es :: h) = .arr sz es :: kilH i h := rfl
theorem kilH_iter {s : List UInt8} {p : Nat} {h : List AObj} : kilH i (.iter s p :: h) = .iter s p :: kilH i h := rfl
theorem kilH_mapo {es : List (List UInt8 × PV)} {h : List AObj} : kilH i (.mapo es :: h) = .mapo es :: kilH i h := rfl
theorem kilH_buf {e : Nat} {bs : List UInt8} {h : List AObj} : kilH i (.buf e bs :: h) = .buf e bs :: kilH i h := rfl
theorem kilH_gbuf {e : Nat} {bs : List UInt8} {h : List AObj} : kilH i (.gbuf e bs :: h) = .gbuf e bs :: kilH i h := rfl
theorem kilH_dead {h : List AObj} : kilH i (.dead :: h) = .dead :: kilH i h := rfl
theorem sta_kill {L : List (Nat × DV)} {h : List AObj} : (sta L h).kill (· == i) = sta (kilS i L) (kilH i h) := by
  unfold St.kill sta kilS kilH
  congr 1
  funext s
  exact slots_kill _ L s
end
section
variable {E : Env} {L : List (Nat × DV)} {h : List AObj} {K : DV → St → Prop}
theorem ap_nils {sz bytes n : Nat} {y : DV} : appendD sz bytes (.nils n) y K (sta L h) = elems h y sz fun ys => chk (ys.length * bytes ≤ 1099511627776) (chk (ys.length ≤ 1099511627776)
    (evl (nrm ys.length) fun n => newP h (.arr sz ys) fun i h' => K (.osl sz i 0 n none) (sta L h'))) := rfl
theorem ap_osl {sz bytes i n : Nat} {y : DV} : appendD sz bytes (.osl sz i 0 n none) y K (sta L h) = elems h y sz fun ys => arrP sz h[i]? fun es => chk (n ≤ es.length) (chk ((n + ys.length) * bytes ≤ 1099511627776) (chk (n + ys.length ≤ 1099511627776)
    (evl (nrm (n + ys.length)) fun n' => evl (nrm (es.take n ++ ys)) fun es' => evl (nrm (kilS i L)) fun L' => evl (nrm ((kilH i h).set i (.arr sz es'))) fun h' => K (.osl sz i 0 n' none) (sta L' h')))) := by
  unfold appendD
  simp only [true_and, sta_kill, sta_at]
  rfl
theorem ap_frz {sz bytes i n : Nat} {y : DV} : appendfD sz bytes (.osl sz i 0 n none) y K (sta L h) = elems h y sz fun ys => arrP sz h[i]? fun es => chk (n = es.length) (chk ((n + ys.length) * bytes ≤ 1099511627776) (chk (n + ys.length ≤ 1099511627776)
    (evl (nrm (es ++ ys)) fun es' => evl (nrm (frzS [i] h L)) fun L' => evl (nrm (frzH [i] h 0 h)) fun h' => K (.sl sz es') (sta L' h')))) := by
  unfold appendfD
  simp only [true_and, sta_freeze]
  rfl
theorem ap_cap {sz bytes i off n c : Nat} {y : DV} : appendD sz bytes (.osl sz i off n (some c)) y K (sta L h) = elems h y sz fun ys => arrP sz h[i]? fun es => chk (off + c ≤ es.length) (chk (n + ys.length ≤ c)
    (evl (nrm (n + ys.length)) fun n' => evl (nrm (es.take (off + n) ++ ys ++ es.drop (off + n + ys.length))) fun es' => evl (nrm (h.set i (.arr sz es'))) fun h' => K (.osl sz i off n' (some c)) (sta L h'))) := by
  unfold appendD
  simp only [true_and, sta_at]
  rfl
theorem ap_cpy {sz i off n : Nat} {c : Option Nat} {y : DV} : copyD sz (.osl sz i off n c) y K (sta L h) = elems h y sz fun ys => arrP sz h[i]? fun es => chk (off + n ≤ es.length) (chk (ys.length ≤ n)
    (evl (nrm (es.take off ++ ys ++ es.drop (off + ys.length))) fun es' => evl (nrm (h.set i (.arr sz es'))) fun h' => K (.int .i64 ys.length) (sta L h'))) := by
  unfold copyD
  simp only [true_and, sta_at]
  rfl
end
/-- An end. -/
def finE (m0 : Nat) (post : List AObj → DV → Prop) (o : Option (List DV)) (h : List AObj) : Prop := ∃ ds, o = some ds ∧ ∃ ρ : List Nat, ρ.Nodup ∧ m0 ≤ ρ.length ∧ (∀ i, i < m0 → ρ[i]? = some i) ∧ (∀ l ∈ ρ, l < h.length) ∧ (rvd ds).inL ρ.contains = true ∧
      (∀ l ∈ ρ, inO ρ.contains (h.getD l .dead) = true) ∧
      atEnd post (ρ.map fun l => renO (ρ.idxOf ·) (h.getD l .dead)) ((rvd ds).ren (ρ.idxOf ·))
@[congr] theorem finE_congr {m0 : Nat} {post : List AObj → DV → Prop} {o o' : Option (List DV)} {h : List AObj} (e : o = o') : finE m0 post o h = finE m0 post o' h := by rw [e]
theorem fin_e {m0 : Nat} {res : List RV} {post : List AObj → DV → Prop} {L : List (Nat × DV)} {h : List AObj} : fin m0 res post .ret (sta L h) = finE m0 post (rvl (sta L h) res) h := rfl
theorem fin_en {m0 : Nat} {res : List RV} {post : List AObj → DV → Prop} {L : List (Nat × DV)} {h : List AObj} : fin m0 res post .normal (sta L h) = finE m0 post (rvl (sta L h) res) h := rfl
def cel (d : DV) (a : Option Nat) (h : List AObj) : Option DV := match d with
  | .ptr l o => match h[l]?, a with
    | some (.box cs), none => cs[o]?
    | some (.box cs), some n => if o + n ≤ cs.length then some (.agg ((cs.drop o).take n)) else none
    | _, _ => none
  | _ => none
def cel2 (x : Option AObj) (a : Option Nat) (o : Nat) : Option DV := match x, a with
    | some (.box cs), none => cs[o]?
    | some (.box cs), some n => if o + n ≤ cs.length then some (.agg ((cs.drop o).take n)) else none
    | _, _ => none
theorem cel_p {l o : Nat} {a : Option Nat} {h : List AObj} : cel (.ptr l o) a h = cel2 h[l]? a o := rfl
theorem cel2_n {cs : List DV} {o : Nat} : cel2 (some (.box cs)) none o = cs[o]? := rfl
theorem cel2_s {cs : List DV} {o n : Nat} : cel2 (some (.box cs)) (some n) o = sel (decide (o + n ≤ cs.length)) (some (.agg ((cs.drop o).take n))) none := by
  unfold cel2; by_cases e : o + n ≤ cs.length <;> simp [e, sel]
theorem rvl_nil {st : St} : rvl st [] = some [] := rfl
theorem rvl_t {s : Nat} {l : List RV} {L : List (Nat × DV)} {h : List AObj} : rvl (sta L h) (.t s :: l) = (rvl (sta L h) l).map (slots L s :: ·) := rfl
theorem rvl_c {s : Nat} {a : Option Nat} {l : List RV} {L : List (Nat × DV)} {h : List AObj} : rvl (sta L h) (.cell s a :: l) = (cel (slots L s) a h).bind fun d => (rvl (sta L h) l).map (d :: ·) := rfl
theorem finE_closed {post : List AObj → DV → Prop} {ds : List DV} {h : List AObj} (hs : (rvd ds).closed = true) (hp : post [] (rvd ds)) : finE 0 post (some ds) h :=
  ⟨ds, rfl, [], List.nodup_nil, Nat.le_refl _, fun _ h => by omega, fun _ h => by simp at h, closed_inL hs, fun _ h => by simp at h, by rw [closed_ren hs]; exact hp⟩
section
variable {E : Env} {m0 : Nat} {post : AExit → St → Prop} {ks : List Fr} {L : List (Nat × DV)} {h : List AObj}
theorem goK_nil {e : AExit} : goK E m0 post [] e L h = post e (sta L h) := rfl
/-- A round's end. -/
def rnd (m0 : Nat) {γ : Type} (SL : γ → List (Nat × DV)) (SH : γ → List AObj) (P : γ → Prop) (μ : γ → Nat) (n : Nat) (st' : St) : Prop := ∃ g', Wk m0 st' (sta (SL g') (SH g')) ∧ P g' ∧ μ g' < n
def agrs (L : List (Nat × DV)) : List (Nat × DV) → Prop
  | [] => True
  | (t, d) :: M => slots L t = d ∧ agrs L M
def agru (m : Nat) (L : List (Nat × DV)) : List (Nat × DV) → Prop
  | [] => True
  | (t, d) :: M => slots L t = d ∧ d.under m = true ∧ agru m L M
theorem agr_s : ∀ {M : List (Nat × DV)}, agrs L M → agr (sta L h) (fun _ => True) M
  | [], _ => trivial
  | (_, _) :: _, hh => ⟨⟨hh.1, trivial⟩, agr_s hh.2⟩
theorem agr_u {m : Nat} : ∀ {M : List (Nat × DV)}, agru m L M → agr (sta L h) (fun d => d.under m = true) M
  | [], _ => trivial
  | (_, _) :: _, hh => ⟨⟨hh.1, hh.2.1⟩, agr_u hh.2.2⟩
theorem wks {M : List (Nat × DV)} {h' : List AObj} (hh : h = h') (hm : m0 ≤ h.length) (ha : agrs L M) : Wk m0 (sta L h) (sta M h') := wk_keep (st := sta L h) hh hm (agr_s ha)
theorem wkd (m : Nat) {M : List (Nat × DV)} {h' : List AObj} (hh : h.take m = h') (hm : m0 ≤ m) (ha : agru m L M) (hb : (h'.all fun o => inO (fun l => decide (l < m)) o) = true) : Wk m0 (sta L h) (sta M h') := wk_drop m (st := sta L h) hh hm (agr_u ha) hb
theorem goN_lp {b : ACode} {γ : Type} (SL : γ → List (Nat × DV)) (SH : γ → List AObj) (P : γ → Prop) (μ : γ → Nat) (g0 : γ)
    (h0 : Wk m0 (sta L h) (sta (SL g0) (SH g0))) (hp : P g0)
    (round : ∀ g, P g → goN E m0 post (.inv (rnd m0 SL SH P μ (μ g)) :: ks) b (SL g) (SH g)) : goN E m0 post ks (.loop b) L h := goN_loop SL SH P μ g0 h0 hp round
theorem rnd_s {γ : Type} {SL : γ → List (Nat × DV)} {SH : γ → List AObj} {P : γ → Prop} {μ : γ → Nat} {n : Nat} (g : γ) (hh : h = SH g) (hm : m0 ≤ h.length) (ha : agrs L (SL g)) (hp : P g) (hμ : μ g < n) : rnd m0 SL SH P μ n (sta L h) :=
  ⟨g, wks hh hm ha, hp, hμ⟩
theorem rnd_d {γ : Type} {SL : γ → List (Nat × DV)} {SH : γ → List AObj} {P : γ → Prop} {μ : γ → Nat} {n : Nat} (m : Nat) (g : γ) (hh : h.take m = SH g) (hm : m0 ≤ m) (ha : agru m L (SL g)) (hb : ((SH g).all fun o => inO (fun l => decide (l < m)) o) = true) (hp : P g) (hμ : μ g < n) : rnd m0 SL SH P μ n (sta L h) :=
  ⟨g, wkd m hh hm ha hb, hp, hμ⟩
/-- A call that hands back one plain value. -/
theorem call_ret {b : Bool} {f : Nat} {ds ds' : List DV} {D : DV} {K : DV → St → Prop} (hc : ACalls E f [] ds' (fun h d => h = [] ∧ d = D)) (he : ds.map (DV.dn [] h) = ds') (hs : D.scalar = true) (hk : K D (sta L h)) : acall E b f ds K (sta L h) := by
  refine .go ?_
  refine .inl ⟨fun d => d = D, ?_, ⟨D, rfl⟩, fun d e => e ▸ ⟨hs, hk⟩⟩
  rw [show (sta L h).h = h from rfl, he]
  exact hc
theorem call_any {b : Bool} {f : Nat} {ds ds' : List DV} {post : DV → Prop} {K : DV → St → Prop} (hc : ACalls E f [] ds' (fun h d => h = [] ∧ post d)) (he : ds.map (DV.dn [] h) = ds') (hx : ∃ d, post d) (hk : ∀ d, post d → d.scalar = true ∧ K d (sta L h)) : acall E b f ds K (sta L h) := by
  refine .go ?_
  refine .inl ⟨post, ?_, hx, hk⟩
  rw [show (sta L h).h = h from rfl, he]
  exact hc
/-- A call that hands back what it made, or what it was handed. -/
theorem call_new {b : Bool} {f : Nat} {ds : List DV} {H : List AObj} {D : DV} {K : DV → St → Prop} (hc : ACalls E f [] ds (fun h d => h = H ∧ d = D)) (hcl : ∀ d ∈ ds, d.closed = true) (hk : K (D.ren (h.length + ·)) (sta L (h ++ H.map (renO (h.length + ·))))) : acall E b f ds K (sta L h) := by
  refine .go ?_
  refine .inr (.inl ⟨fun h' d => h' = H ∧ d = D, hc, hcl, ⟨H, D, rfl, rfl⟩, fun h' d e => ?_⟩)
  obtain ⟨rfl, rfl⟩ := e
  exact hk
end
end Go.Ai
