/- From what a row lists to where the variables lie; the witness; the world's shape kept. -/
import Derived.Test.YtgamnnfndidclaaGreatDoorGYFoUtF
import Derived.Test.YtgamnnfndidclaaGreatDoorGAiRow
import Derived.Test.YtgamnnfndidclaaGreatDoorRows
import Derived.Lib.LaidIn
import Derived.Lib.LaidTab
import Derived.Lib.LaidU8T
import Derived.PinnedBridge
import Derived.ProofKit
import Derived.LaidMore
import Derived.Lay
import Derived.Stop.Joined
import Derived.Handed
import Derived.Shelf.Vars
import Derived.ChangeArms
import Derived.ChangeSlices
import Derived.Deep.DeepHandedRow
set_option linter.all false
namespace Go.Proofs.Ut
open Go.Shelf Go.Lib Go.RowKit
open Go.Proofs.YtgamnnfndidclaaGreatDoor Go.Ai
noncomputable abbrev laidL : List (String × DataW Unit) := [("unicode/utf8.acceptRanges", Rows.laid_unicode_utf8_acceptRanges), ("unicode.asciiFold", Rows.laid_unicode_asciiFold), ("unicode.caseOrbit", Rows.laid_unicode_caseOrbit), ("unicode.CaseRanges", Rows.laid_unicode_CaseRanges), ("unicode/utf8.first", Rows.laid_unicode_utf8_first)]
theorem JE:(Rows.laid_unicode_utf8_acceptRanges:DataW Unit)=acceptData:=by kernel_rfl
theorem QX:Rows.laid_unicode_utf8_first=firstData:=by kernel_rfl
def MG:List Int:=(List.range 128).map kB
theorem XJ:(Rows.laid_unicode_asciiFold:DataW Unit)=tabData .u16 MG:=by kernel_rfl
theorem vY {P:Program}{W:World}{name:String}{k:IntKind}{zs:List Int}{g:Nat}{t e:TypeId}{n:Nat}
  (hg:P.globalNamed name=some g) (hty:(P.globals[g]?).map (·.type)=some t) (ht:P.underlying t=some (.array n e)) (he:P.underlying e=some (.int k)) (hce:P.cellsOf e=1) (hct:P.cellsOf t=n)
  (h:VarReads P W name (tabData k zs)):TabIs P W name k zs:=by
 obtain ⟨g',t',cs,fuel,p,hg',ht',hvar,hd⟩:=h
 obtain rfl:=Option.some.inj (hg.symm.trans hg')
 obtain rfl:=Option.some.inj (hty.symm.trans ht')
 unfold TabIs
 rw [hvar,← cells_of_tab ht he hce hct hd]
theorem laid_of {W:World}(h:laidMetH Tryz.prog laidL W)(hsh:W.ShapedOpen Tryz.prog):Laid W:=by
 rw [MakeChecks.laidMetH_plain _ _ _ (by kernel_rfl)] at h
 have h3:=Lib.laidMet.reads h (.tail _ (.tail _ (.tail _ (.tail _ (.head _)))))
 have h4:=Lib.laidMet.reads h (.head _)
 have h0:=Lib.laidMet.reads h (.tail _ (.head _))
 rw [QX] at h3
 rw [JE] at h4
 rw [XJ] at h0
 refine ⟨utf8Tabs_of_readsT (U8Types.of196 Tryz.laysValid) ⟨by kernel_rfl,by kernel_rfl,by kernel_rfl,by kernel_rfl,by kernel_rfl,by kernel_rfl,by kernel_rfl⟩ h3 h4,?_,fun i hi=>?_⟩
 ·exact cell_of_shapedOpen_int (t:=3) (zero:=#[.int .i64 0]) hsh (of_decide_eq_true (by kernel_rfl)) (by kernel_rfl) (by kernel_rfl) (by kernel_rfl) (by kernel_rfl) (by kernel_rfl)
 ·have ht:=vY (P:=Tryz.prog) (g:=3) (t:=259) (e:=258) (n:=128) (by kernel_rfl) (by kernel_rfl) (by kernel_rfl) (by kernel_rfl) (by kernel_rfl) (by kernel_rfl) h0
  have:=ht.cell (g:=3) (by kernel_rfl) i (by simpa [MG] using hi)
  rw [this]
  simp [MG,hi]
theorem HK {W:World}(h:Laid W):4≤W.heap.size:=by
 have hm:=h.fold 0 (by omega)
 rcases Nat.lt_or_ge 3 W.heap.size with h1|h1
 ·exact h1
 ·simp [World.cell?,Array.getElem?_eq_none h1] at hm
theorem HL {f:Nat}{args:List DV}(hc:Ai.ACalls ED f [] args fun h d=>h=[]∧d=.bool true)(W:World)(hT:Laid W)(vs:List Value)(hl:vs.length=args.length)
  (hv:∀ (i:Nat) v d,vs[i]?=some v→args[i]?=some d→Ai.Rep W (fun b=>b<W.heap.size) Ai.noLoc v d):Calls Tryz.prog f vs.toArray W fun e W' => e=.returned (.bool true)∧Below W.heap.size W W' :=
 Ai.row_walk hc W hT (HK hT) vs hl hv
end Go.Proofs.Ut

namespace Go.Ai
inductive AT where
 | int (k:IntKind)
 | str
 | bool
 | sl (e:AT)
 | st (l:List AT)
def AT.cells:AT→Nat
 | .st l=>cellsL l
 | _=>1
where cellsL:List AT→Nat
 | []=>0
 | a::l=>a.cells+cellsL l
def AT.has:AT→List DV→Prop
 | .int k,ds=>∃ n,ds=[.int k n]∧(Lit.int k n).wf=true
 | .str,ds=>∃ s:List UInt8,ds=[.str s]∧s.length≤maxLen
 | .bool,ds=>∃ b,ds=[.bool b]
 | .sl e,ds=>∃ es,ds=[.sl e.cells es]∧es.length≤maxLen∧∀ x∈es,e.has x
 | .st l,ds=>hasL l ds
where hasL:List AT→List DV→Prop
 | [],ds=>ds=[]
 | a::l,ds=>∃ x y,ds=x++y∧a.has x∧hasL l y
mutual
def AT.fits (P:Program):AT→TypeId→Bool
 | .int k,t=>match P.underlying t with | some (.int k')=>k == k' | _=>false
 | .str,t=>match P.underlying t with | some .string=>true | _=>false
 | .bool,t=>match P.underlying t with | some .bool=>true | _=>false
 | .sl e,t=>match P.underlying t with | some (.slice t')=>e.fits P t' && P.cellsOf t' == e.cells&&decide (0<e.cells) | _=>false
 | .st l,t=>match P.underlying t with | some (.struct fs)=>AT.fitsL P l fs.toList 0&&P.cellsOf t == AT.cells.cellsL l | _=>false
def AT.fitsL (P:Program):List AT→List Field→Nat→Bool
 | [],[],_=>true
 | a::l,f::fs,o=>f.offset == o&&P.cellsOf f.type == a.cells&&a.fits P f.type&&AT.fitsL P l fs (o+a.cells)
 | _,_,_=>false
end
theorem TY:∀ {a:AT}{ds:List DV},a.has ds→ds.length=a.cells:=by
 intro a
 refine AT.rec (motive_1:=fun a=>∀ {ds:List DV},a.has ds→ds.length=a.cells) (motive_2:=fun l=>∀ {ds:List DV},AT.has.hasL l ds→ds.length=AT.cells.cellsL l) ?_ ?_ ?_ ?_ ?_ ?_ ?_ a
 ·rintro k ds ⟨n,rfl,_⟩; rfl
 ·rintro ds ⟨n,rfl,_⟩; rfl
 ·rintro ds ⟨n,rfl⟩; rfl
 ·rintro e _ ds ⟨n,rfl,_⟩; rfl
 ·intro l ih ds h; exact ih h
 ·intro ds h; simp only [AT.has.hasL] at h; subst h; rfl
 ·rintro a l iha ihl ds ⟨x,y,rfl,hx,hy⟩
  rw [List.length_append,iha hx,ihl hy]; rfl
theorem EE {α:Type}{p:Nat→α→Prop}:∀ (n:Nat),(∀ i,i<n→∃ x,p i x)→∃ l:List α,l.length=n∧∀ i x,l[i]?=some x→p i x
 | 0,_=>⟨[],rfl,fun i x h=>by simp at h⟩
 | n+1,h=>by
  obtain ⟨l,hl,hp⟩:=EE n fun i hi=>h i (by omega)
  obtain ⟨x,hx⟩:=h n (by omega)
  refine ⟨l++[x],by simp [hl],fun i y hy=>?_⟩
  rcases Nat.lt_or_ge i l.length with hi|hi
  ·rw [List.getElem?_append_left hi] at hy; exact hp i y hy
  ·rw [List.getElem?_append_right hi] at hy
   have:i=l.length:=by
    rcases Nat.eq_or_lt_of_le hi with e|e
    ·exact e.symm
    ·rw [List.getElem?_eq_none (by simp; omega)] at hy; cases hy
   subst this
   simp at hy; subst hy; rw [hl]; exact hx
def Cl (w:World)(cs:List Value)(ds:List DV):Prop:=cs.length=ds.length∧∀ (i:Nat) v d,cs[i]?=some v→ds[i]?=some d→v.oneCell' = true∧Rep w (fun b=>b<w.heap.size) noLoc v d
theorem Cl.nil {w:World}:Cl w [] []:=⟨rfl,fun i v d h=>by simp at h⟩
theorem Cl.one {w:World}{v:Value}{d:DV}(h1:v.oneCell' = true)(h:Rep w (fun b=>b<w.heap.size) noLoc v d):Cl w [v] [d]:=⟨rfl,fun i v' d' hv hd=>by
 rcases i with _|i
 ·simp at hv hd; subst hv; subst hd; exact ⟨h1,h⟩
 ·simp at hv⟩
theorem Cl.app {w:World}{cs cs' : List Value}{ds ds' : List DV}(h:Cl w cs ds)(k:Cl w cs' ds'):Cl w (cs++cs') (ds++ds'):=by
 refine ⟨by simp [h.1,k.1],fun i v d hv hd=>?_⟩
 rcases Nat.lt_or_ge i cs.length with hi|hi
 ·rw [List.getElem?_append_left hi] at hv
  rw [List.getElem?_append_left (by rw [← h.1]; exact hi)] at hd
  exact h.2 i v d hv hd
 ·rw [List.getElem?_append_right hi] at hv
  rw [List.getElem?_append_right (by rw [← h.1]; exact hi),← h.1] at hd
  exact k.2 _ v d hv hd
section
variable {H:Type} {enc:TypeId×Value→H} {P:Program} {w:World} {base:Nat} {spare:Nat→Bool} {held:Bool}
end
section
variable {H:Type} {enc:TypeId×Value→H} {P:Program} {w:World} {base:Nat} {spare:Nat→Bool} {held:Bool}
theorem tL {α β:Type}{f:α→Nat}{g:β→Nat}:∀ (a:List α)(b:List β),a.length=b.length→(∀ (i:Nat) x y,a[i]?=some x→b[i]?=some y→f x≤g y)→(a.map f).sum≤(b.map g).sum
 | [],[],_,_=>Nat.le_refl _
 | x::a,y::b,hl,h=>by
  have h0:=h 0 x y rfl rfl
  have ih:=tL a b (by simpa using hl) fun i u v hu hv=>h (i+1) u v (by simpa using hu) (by simpa using hv)
  simp only [List.map_cons,List.sum_cons]
  omega
 | [],_::_,hl,_=>by simp at hl
 | _::_,[],hl,_=>by simp at hl
theorem BT {c:Nat}{p:List DV→Prop}{wt:List DV→Nat}{B:DataW H→Nat}{t t' : TypeId}(hu:P.underlying t=some (.slice t'))(hc:P.cellsOf t' = c)(hpos:0<c)(hB0:1≤B .nil)
  (hB1:∀ el sp,(el.map B).sum+1≤B (.slice el sp))
  (ih:∀ {fuel:Nat} {cs:List Value} {x:DataW H×List MemPlace},DataW.trod enc P w base spare held fuel t' cs=some x→∃ ds,ds.length=c∧p ds∧Cl w cs ds∧wt ds≤B x.1)
  {fuel:Nat} {cs:List Value} {x:DataW H×List MemPlace} (h:DataW.trod enc P w base spare held fuel t cs=some x) :
  ∃ es,Cl w cs [.sl c es]∧(∀ y∈es,p y)∧(es.map wt).sum+1≤B x.1:=by
 rcases DataW.trod_slice hu h with ⟨rfl,rfl⟩|⟨ad,len,cap,elems,rest,n,rfl,rfl,rfl,hb,hlc,hcap,hel,helem,_⟩
 ·refine ⟨[],.one rfl ?_,by simp,by simpa using hB0⟩
  exact .sl none 0 0 c [] 0 0 (fun _=>undef) rfl (Nat.le_refl _) hpos (by simp) (fun h=>by omega) (fun k h=>by simp at h) (fun k h=>by simp at h) (fun k d h=>by simp at h)
 ·rw [hc] at helem
  obtain ⟨es,hes,hp⟩:=EE (p:=fun i (ds:List DV)=>(ds.length=c∧p ds∧∀ y,elems[i]?=some y→wt ds≤B y.1)∧∃ cs,w.cells? base (ad.add (i*c)) c=some cs∧Cl w cs ds) len fun i hi=>by
   have:=helem i hi
   have hil:i<elems.length:=by omega
   rw [List.getElem?_eq_getElem hil,Option.bind_eq_some_iff] at this
   obtain ⟨cs,h1,h2⟩:=this
   obtain ⟨ds,h3,h4,h5,h6⟩:=ih h2
   exact ⟨ds,⟨h3,h4,fun y hy=>by rw [List.getElem?_eq_getElem hil] at hy; cases hy; exact h6⟩,cs,h1,h5⟩
  have hlen:∀ y∈es,y.length=c:=fun y hy=>by
   obtain ⟨i,hi⟩:=List.getElem?_of_mem hy
   exact (hp i y hi).1.1
  have hsum:(es.map wt).sum≤((elems.map (·.1)).map B).sum:=by
   rw [List.map_map]
   exact tL es elems (by omega) fun i u v hu hv=>(hp i u hu).1.2.2 v hv
  refine ⟨es,.one rfl ?_,fun y hy=>?_,?_⟩
  rotate_left
  ·obtain ⟨i,hi⟩:=List.getElem?_of_mem hy
   exact (hp i y hi).1.2.1
  ·have:=hB1 (elems.map (·.1)) (rest.map (·.1))
   show _≤B (.slice (elems.map (·.1)) (rest.map (·.1)))
   omega
  have cell:∀ k,k<len*c→∃ v d,w.cell? (ad.add k)=some v∧es.flatten[k]?=some d∧v.oneCell' = true∧Rep w (fun b=>b<w.heap.size) noLoc v d:=fun k hk=>by
   have hi:k / c<len:=by rw [Nat.div_lt_iff_lt_mul hpos]; exact hk
   have hq:k % c<c:=Nat.mod_lt _ hpos
   have hi' : k / c<es.length:=by omega
   have hge:=List.getElem?_eq_getElem hi'
   obtain ⟨hh,cs,hcs,hcl⟩:=hp (k / c) _ hge
   obtain ⟨_,hcl1,hcl2⟩:=World.cells?_some hcs
   have ek:k=k / c*c+k % c:=by rw [Nat.mul_comm]; exact (Nat.div_add_mod k c).symm
   have hcell:=hcl2 (k % c) hq
   have hadd:∀ x y,(ad.add x).add y=ad.add (x+y):=fun x y=>by
    simp only [Addr.add]
    by_cases h1:x=0 <;> by_cases h2:y=0 <;> simp [h1,h2,Nat.add_assoc]
   rw [hadd,← ek] at hcell
   have hv:cs[k % c]?=some (cs[k % c]'(by omega)):=List.getElem?_eq_getElem _
   have hfl:=bZ hlen hge hq
   rw [← ek] at hfl
   have hdl:k % c<(es[k / c]).length:=by rw [hh.1]; exact hq
   have hd:=List.getElem?_eq_getElem hdl
   have:=hcl.2 _ _ _ hv hd
   exact ⟨_,_,hcell.trans hv,hfl.trans hd,this.1,this.2⟩
  have hspot:0<len→ad.spot=none∧ad.block<w.heap.size:=fun hl=>by
   obtain ⟨v,d,h1,_⟩:=cell 0 (Nat.mul_pos hl hpos)
   have h0:ad.add 0=ad:=by simp [Addr.add]
   rw [h0] at h1
   unfold World.cell? at h1
   split at h1
   ·rename_i hb
    by_cases hs:ad.spot.isSome=true
    ·rw [if_pos hs] at h1; cases h1
    ·exact ⟨by simpa using hs,(Array.getElem?_eq_some_iff.1 hb).1⟩
   ·cases h1
  refine .sl (some ad) len cap c es ad.block ad.off (fun k=>(w.cell? (ad.add k)).getD undef) hes.symm hlc hpos hlen (fun hl=>⟨by obtain ⟨h1,_⟩:=hspot hl; cases ad; simp at h1; subst h1; rfl,(hspot hl).2⟩) (fun k hk=>?_) (fun k hk=>?_) (fun k d hd=>?_)
  ·obtain ⟨v,d,h1,_⟩:=cell k hk
   have hl:0<len:=by
    rcases Nat.eq_zero_or_pos len with h0|h0
    ·subst h0; simp at hk
    ·exact h0
   have ha:ad.add k=⟨ad.block,ad.off+k,none⟩:=by
    obtain ⟨h1,_⟩:=hspot hl
    cases ad; simp at h1; subst h1; exact cN _ _ _
   rw [← ha,h1]; rfl
  ·obtain ⟨v,d,h1,_,h3,_⟩:=cell k hk
   rw [h1]; exact h3
  ·have hk:k<len*c:=by
    rcases Nat.lt_or_ge k (len*c) with h|h
    ·exact h
    ·rw [List.getElem?_eq_none (by rw [aP hlen,hes]; exact h)] at hd; cases hd
   obtain ⟨v,d',h1,h2,_,h4⟩:=cell k hk
   rw [hd] at h2
   cases h2
   rw [h1]; exact h4
end
def DV.wt:DV→Nat
 | .str s=>s.length+1
 | .sl _ es=>wtEs es+1
 | _=>1
where
 wtL:List DV→Nat
  | []=>0
  | d::l=>d.wt+wtL l
 wtEs:List (List DV)→Nat
  | []=>0
  | e::es=>wtL e+wtEs es
theorem oU:∀ l:List DV,DV.wt.wtL l=(l.map DV.wt).sum
 | []=>rfl
 | d::l=>by rw [DV.wt.wtL,oU l]; rfl
theorem xF:∀ es:List (List DV),DV.wt.wtEs es=(es.map DV.wt.wtL).sum
 | []=>rfl
 | e::es=>by rw [DV.wt.wtEs,xF es]; rfl
theorem SF (a b:List DV):DV.wt.wtL (a++b)=DV.wt.wtL a+DV.wt.wtL b:=by
 rw [oU,oU,oU,List.map_append,List.sum_append]
section
variable {H:Type} {enc:TypeId×Value→H} {P:Program} {w:World} {base:Nat} {spare:Nat→Bool} {held:Bool}
theorem open_wt {B:DataW H→Nat}(hB0:1≤B .nil)(hBl:∀ l,1≤B (.lit l))(hBs:∀ b,B (.lit (.string b))=b.length+1)(hB1:∀ el sp,(el.map B).sum+1≤B (.slice el sp))(hB2:∀ ps,(ps.map B).sum≤B (.agg ps)) :
  ∀ (a:AT) {t:TypeId} {fuel:Nat} {cs:List Value} {x:DataW H×List MemPlace},a.fits P t=true→DataW.trod enc P w base spare held fuel t cs=some x→∃ ds,a.has ds∧Cl w cs ds∧DV.wt.wtL ds≤B x.1:=by
 intro a
 refine AT.rec (motive_1:=fun a=>∀ {t:TypeId} {fuel:Nat} {cs:List Value} {x:DataW H×List MemPlace},a.fits P t=true→DataW.trod enc P w base spare held fuel t cs=some x→∃ ds,a.has ds∧Cl w cs ds∧DV.wt.wtL ds≤B x.1)
  (motive_2:=fun l=>∀ {fs:List Field} {o fuel:Nat} {cs:List Value} {xs:List (DataW H×List MemPlace)},AT.fitsL P l fs o=true→cs.length=o+AT.cells.cellsL l→xs.length=fs.length →
   (∀ (i:Nat) f,fs[i]?=some f→DataW.trod enc P w base spare held fuel f.type ((cs.drop f.offset).take (P.cellsOf f.type))=xs[i]?)→∃ ds,AT.has.hasL l ds∧Cl w (cs.drop o) ds∧DV.wt.wtL ds≤(xs.map fun x=>B x.1).sum) ?_ ?_ ?_ ?_ ?_ ?_ ?_ a
 ·intro k t fuel cs x hf h
  simp only [AT.fits] at hf
  split at hf
  ·rename_i k' hu
   simp at hf; subst hf
   obtain ⟨n,rfl,rfl,hw⟩:=DataW.trod_int hu h
   exact ⟨_,⟨n,rfl,hw⟩,.one rfl (.int _ _),hBl _⟩
  ·cases hf
 ·intro t fuel cs x hf h
  simp only [AT.fits] at hf
  split at hf
  ·rename_i hu
   obtain ⟨s,rfl,rfl,hw⟩:=DataW.trod_string hu h
   refine ⟨_,⟨s.data.toList,rfl,by simpa using hw⟩,.one rfl (.str s),?_⟩
   rw [hBs]
   simp [DV.wt.wtL,DV.wt]
  ·cases hf
 ·intro t fuel cs x hf h
  simp only [AT.fits] at hf
  split at hf
  ·rename_i hu
   obtain ⟨b,rfl,rfl⟩:=DataW.trod_bool hu h
   exact ⟨_,⟨b,rfl⟩,.one rfl (.bool _),hBl _⟩
  ·cases hf
 ·intro e ih t fuel cs x hf h
  simp only [AT.fits] at hf
  split at hf
  ·rename_i t' hu
   simp only [Bool.and_eq_true,beq_iff_eq,decide_eq_true_eq] at hf
   obtain ⟨⟨hf,hc⟩,hpos⟩:=hf
   have hlen2:∃ n,∀ es,Cl w cs [.sl e.cells es]→es.length=n∧n≤maxLen:=by
    rcases DataW.trod_slice hu h with ⟨rfl,rfl⟩|⟨ad,len,cap,elems,rest,n,rfl,rfl,rfl,hb,hlc,hcap,hel,helem,_⟩
    ·refine ⟨0,fun es hcl=>?_⟩
     have:=(hcl.2 0 _ _ rfl rfl).2
     cases this with
     | sl A n c sz es b x vs hn _ _ _ _ _ _ _=>exact ⟨hn.symm,by simp⟩
    ·refine ⟨len,fun es hcl=>?_⟩
     have:=(hcl.2 0 _ _ rfl rfl).2
     cases this with
     | sl A n c sz es b x vs hn _ _ _ _ _ _ _=>exact ⟨hn.symm,by omega⟩
   obtain ⟨es,h1,h2,h3⟩:=BT (c:=e.cells) (p:=fun ds=>e.has ds) (wt:=DV.wt.wtL) (B:=B) hu hc hpos hB0 hB1 (fun {fuel cs x} h=>by
    obtain ⟨ds,k1,k2,k3⟩:=ih hf h
    exact ⟨ds,TY k1,k1,k2,k3⟩) h
   obtain ⟨n,hn⟩:=hlen2
   have:=hn es h1
   refine ⟨_,⟨es,rfl,by omega,h2⟩,h1,?_⟩
   simp only [DV.wt.wtL,DV.wt,xF]
   omega
  ·cases hf
 ·intro l ih t fuel cs x hf h
  simp only [AT.fits] at hf
  split at hf
  ·rename_i fs hu
   simp only [Bool.and_eq_true,beq_iff_eq] at hf
   obtain ⟨hf,hc⟩:=hf
   obtain ⟨xs,n,rfl,rfl,hcl,hxl,hx⟩:=DataW.trod_struct hu h
   obtain ⟨ds,h1,h2,h3⟩:=ih (cs:=cs) (fuel:=n) (xs:=xs) hf (by rw [hcl,hc]; omega) (by simpa using hxl) fun i f hfi=>hx i f (by simpa using hfi)
   refine ⟨ds,h1,by simpa using h2,Nat.le_trans h3 ?_⟩
   have:=hB2 (xs.map (·.1))
   rw [List.map_map] at this
   exact this
  ·cases hf
 ·intro fs o fuel cs xs hf hlen _ _
  refine ⟨[],rfl,?_,Nat.zero_le _⟩
  have:cs.drop o=[]:=List.drop_eq_nil_of_le (by simp [AT.cells.cellsL] at hlen; omega)
  rw [this]; exact .nil
 ·intro a l iha ihl fs o fuel cs xs hf hlen hxl hx
  cases fs with
  | nil=>simp [AT.fitsL] at hf
  | cons f fs=>
   cases xs with
   | nil=>simp at hxl
   | cons y xs=>
    simp only [AT.fitsL,Bool.and_eq_true,beq_iff_eq] at hf
    obtain ⟨⟨⟨h1,h2⟩,h3⟩,h4⟩:=hf
    simp only [AT.cells.cellsL] at hlen
    have hy:=hx 0 f rfl
    obtain ⟨ds,k1,k2,k3⟩:=iha h3 hy
    obtain ⟨ds',m1,m2,m3⟩:=ihl (cs:=cs) (xs:=xs) h4 (by omega) (by simpa using hxl) fun i g hg=>hx (i+1) g hg
    refine ⟨ds++ds',⟨ds,ds',rfl,k1,m1⟩,?_,?_⟩
    ·have e:cs.drop o=(cs.drop f.offset).take (P.cellsOf f.type)++cs.drop (o+a.cells):=by
      rw [h1,h2,← List.drop_drop]
      exact (List.take_append_drop _ _).symm
     rw [e]
     exact k2.app m2
    ·rw [SF,List.map_cons,List.sum_cons]
     omega
end
end Go.Ai

namespace Go.Proofs.Ut
open Go.Ai Classical Go.Shelf Go.RowKit
theorem xX {α:Type}{f:α→List DV}{p:α→Prop}:∀ es:List (List DV),(∀ e∈es,∃ x,e=f x∧p x)→∃ l:List α,es=l.map f∧∀ x∈l,p x
 | [],_=>⟨[],rfl,fun x h=>by simp at h⟩
 | e::es,h=>by
  obtain ⟨l,rfl,hp⟩:=xX es fun x hx=>h x (by simp [hx])
  obtain ⟨x,rfl,hx⟩:=h e (by simp)
  exact ⟨x::l,rfl,fun y hy=>by
   rcases List.mem_cons.1 hy with q|q
   ·subst q; exact hx
   ·exact hp y q⟩
theorem aEL (l:List (List UInt8)):gA l=DV.wt.wtEs (l.map sv):=by
 induction l with
 | nil=>rfl
 | cons s l ih=>
  have e:gA (s::l)=1+s.length+gA l:=by simp [gA]
  rw [e,List.map_cons,DV.wt.wtEs,ih]
  simp only [sv,DV.wt.wtL,DV.wt]
  omega
theorem tX:∀ l:List (List UInt8),l.length≤gA l∧∀ s∈l,s.length≤gA l
 | []=>⟨Nat.zero_le _,fun s h=>by simp at h⟩
 | x::l=>by
  have e:gA (x::l)=1+x.length+gA l:=by simp [gA]
  have ih:=tX l
  rw [e]
  refine ⟨by simp only [List.length_cons]; omega,fun s h=>?_⟩
  rcases List.mem_cons.1 h with rfl|h
  ·omega
  ·have:=ih.2 s h; omega
theorem NJ {ds:List DV}(h:(AT.sl .str).has ds)(hw:DV.wt.wtL ds≤1048576):∃ l:List (List UInt8),ds=[.sl 1 (l.map sv)]∧gA l≤1048576:=by
 obtain ⟨es,rfl,_,hes⟩:=h
 simp only [DV.wt.wtL,DV.wt] at hw
 obtain ⟨l,rfl,hl⟩:=xX (f:=sv) (p:=fun _=>True) es fun e he=>by
  obtain ⟨n,rfl,_⟩:=hes e he
  exact ⟨n,rfl,trivial⟩
 rw [← aEL] at hw
 exact ⟨l,rfl,by omega⟩
theorem cgroups_walk (W:World)(hT:Laid W){v1:Value}{ds1:List DV}(h1:(AT.sl .str).has ds1)(hc1:Ai.Cl W [v1] ds1)(hw1:DV.wt.wtL ds1≤1048576)(a2:Int)(_:(Lit.int IntKind.i64 a2).wf=true) :
  Calls Tryz.prog 8 #[v1,.int .i64 a2] W fun e W' => e=.returned (.bool true)∧Below W.heap.size W W' := by
 obtain ⟨l,rfl,hl⟩:=NJ h1 hw1
 have hq:=tX l
 exact HL (VH l a2 (by omega) (fun s hs=>by have:=hq.2 s hs; omega)) W hT [v1,.int .i64 a2] rfl fun i v d k1 k2=>by
  rcases i with _|_|i
  ·cases k1; cases k2; exact (hc1.2 0 v1 _ rfl rfl).2
  ·cases k1; cases k2; exact .int _ _
  ·simp at k1
theorem witness_row_sh {H:Type}{enc:TypeId×Value→H}{C:Checked}{os:Os}{f:FuncId}{fn:Func}{s:OpenSpec}{conds:List PathCond}{apart:Bool}{laid:List (String×DataW Unit)}(modest:Bool)(w0:World)(args:Array Value)(hos:w0.os=os)
  (hsh:(w0.forCall (fun _ _=>0) ⟨#[],args,[]⟩).Shaped C.prog)
  (hok:Input.okWideB C.prog (w0.forCall (fun _ _=>0) ⟨#[],args,[]⟩) f ⟨#[],args,[]⟩=true)
  (hrow:s.preRow enc C.prog fn conds apart laid (w0.forCall (fun _ _=>0) ⟨#[],args,[]⟩).memory args) :
  ∃ (w:World) (tape:Tape) (i:Input),w.os=os∧(w.forCall tape i).Shaped C.prog∧i.vars=[]∧Input.okWide C.prog (w.forCall tape i) .any w.heap.size f i ∧
   s.preRow enc C.prog fn conds apart laid (w.forCall tape i).memory i.args∧({ modest:=modest }:Assume).holds C.prog (lone (Frame.enter C.prog f i.args .normal) [] (w.forCall tape i)):=
 ⟨w0,fun _ _=>0,⟨#[],args,[]⟩,hos,hsh,(Input.okWide_of_okWideB (base:=0) hok).1,(Input.okWide_of_okWideB hok).2,hrow,by
  simp only [Assume.holds]
  exact ⟨by simp,by simp,fun _=>Modest.zero,by simp,by simp⟩⟩
end Go.Proofs.Ut
