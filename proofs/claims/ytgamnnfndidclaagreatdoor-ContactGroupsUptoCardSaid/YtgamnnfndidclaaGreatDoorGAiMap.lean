/- Operations, eighth part: a row of characters as text, a new row with room, its room, the least and the greatest. -/
import Derived.Test.YtgamnnfndidclaaGreatDoorGAiOps7
import Derived.Laws.Cover4
set_option linter.all false
namespace Go.Ai
open Go.Instr
set_option linter.unusedSimpArgs false
section
variable {E:Env} {C:Ctx} {a:Act} {w:World} {ok:Nat→Prop} {β:Loc} {st:St} {K:DV→St→Prop}

theorem xM (rs:List Int){x b:Nat}{vs:Nat→Value}(hc:∀ k,k<rs.length→w.cell? ⟨b,x+k,none⟩=some (vs k))(hr:∀ k d,(rs.map fun r=>DV.int .i32 r)[k]?=some d→Rep w ok noLoc (vs k) d) :
  ∀ k,k<rs.length→w.cell? ⟨b,x+k,none⟩=some (.int .i32 (rs.getD k 0)):=fun k hk=>by
 have:=hr k (.int .i32 rs[k]) (by simp [List.getElem?_eq_getElem hk])
 rw [hc k hk,this.int_inv,List.getD_eq_getElem?_getD,List.getElem?_eq_getElem hk]
 rfl

theorem aCK (a b:ByteArray):(a++b).data.toList=a.data.toList++b.data.toList:=by simp [ByteArray.append_eq,ByteArray.append]
theorem iH:∀ (rs:List Int)(s:ByteArray),(rs.foldl (fun r n=>r++Utf8.encode n) s).data.toList=s.data.toList++rs.flatMap fun r=>(Utf8.encode r).data.toList
 | [],s=>by simp
 | r::rs,s=>by
  rw [List.foldl_cons,iH rs,aCK,List.flatMap_cons,List.append_assoc]

theorem EO {src dst e:TypeId}(hsrc:E.P.underlying src=some (.slice e))(hdst:E.P.underlying dst=some .string)(he:E.P.underlying e=some (.int .i32)){rs:List Int}{b x c:Nat}
  (hc:∀ k,k<rs.length→w.cell? ⟨b,x+k,none⟩=some (.int .i32 (rs.getD k 0))) :
  (convert src dst (.slice (some ⟨b,x,none⟩) rs.length c)).run E.P w=.ok (.string (runesBytes rs)) w:=by
 have h:=run_convert_runes (P:=E.P) w src dst e ⟨b,x,none⟩ rs.length c rs (Nat.le_refl _) hsrc he hdst (fun j hj=>by rw [cN]; exact hc j hj)
 rwa [List.take_length] at h
theorem oD (rs:List Int){β:Loc}:Rep w ok β (.string (runesBytes rs)) (.str (rs.flatMap fun r=>(Utf8.encode r).data.toList)):=
 dK _ _ (by unfold runesBytes; rw [iH]; rfl)

theorem aCj {src dst e:TypeId}(hsrc:E.P.underlying src=some (.slice e))(hdst:E.P.underlying dst=some .string)(he:E.P.underlying e=some (.int .i32)){v:Value}{d:DV}
  (hs:SRep E C a w ok β st) (h:Rep w ok β v d) (hk:gG .r2s d K st):LV E C a K (convert src dst v) w:=by
 have hnil:∀ n c,(convert src dst (.slice none n c)).run E.P w=.ok (.string .empty) w:=fun n c=>run_convert_runes_nil (P:=E.P) w src dst e n c hsrc he hdst
 cases h with
 | sl A n c sz es b x vs hn hnc hsz hes hA hc h1 hh=>
  unfold gG at hk
  split at hk <;> first | exact hk.elim | skip
  all_goals rename_i h1 h2 <;> first | (cases h1; done) | skip
  all_goals first | (cases h2; done) | skip
  obtain ⟨rs,rfl,hk⟩:=hk
  cases h2
  have hlen:n=rs.length:=by simpa using hn
  subst hlen
  by_cases h0:rs.length=0
  ·obtain rfl:rs=[]:=List.eq_nil_of_length_eq_zero h0
   cases A with
   | none=>exact LV.same (hnil _ _) hs (dK _ _ rfl) hk
   | some A=>
    refine LV.same (v:=.string (runesBytes [])) ?_ hs (oD []) hk
    exact run_convert_runes (P:=E.P) w src dst e A 0 c [] (Nat.le_refl _) hsrc he hdst (fun j hj=>by simp at hj)
  ·obtain ⟨hA1,_⟩:=hA (by omega)
   subst hA1
   exact LV.same (EO hsrc hdst he (xM (ok:=ok) rs (vs:=vs) (fun k hk=>hc k (by omega)) (fun k d hd=>hh k d (by rw [fG]; exact hd)))) hs (oD rs) hk
 | nils sz=>exact LV.same (hnil 0 0) hs (dK _ _ rfl) hk
 | oslnil sz l off cap hcap hz=>
  unfold gG at hk
  split at hk <;> first | exact hk.elim | skip
  all_goals rename_i h1 h2 <;> first | (cases h1; done) | skip
  all_goals first | (cases h2; done) | skip
  cases h2
  rcases hk with ⟨_,hk⟩|⟨es,hl,ho,rs,hrs,hk⟩
  ·exact LV.same (hnil 0 0) hs (dK _ _ rfl) hk
  have h0:rs=[]:=by
   have:=congrArg List.length hrs
   simp at this
   exact List.eq_nil_of_length_eq_zero this.symm
  subst h0
  exact LV.same (hnil 0 0) hs (dK _ _ rfl) hk
 | osl sz l off n c b x y ty m hb hnc hsz hy hm hr cap hcap=>
  unfold gG at hk
  split at hk <;> first | exact hk.elim | skip
  all_goals rename_i h1 h2 <;> first | (cases h1; done) | skip
  all_goals first | (cases h2; done) | skip
  cases h2
  rcases hk with ⟨rfl,hk⟩|⟨es,hl,ho,rs,hrs,hk⟩
  ·refine LV.same (v:=.string (runesBytes [])) ?_ hs (oD []) hk
   exact run_convert_runes (P:=E.P) w src dst e _ 0 c [] (Nat.le_refl _) hsrc he hdst (fun j hj=>by simp at hj)
  have hlen:n=rs.length:=by
   have:=congrArg List.length hrs
   simp at this
   omega
  refine LV.same (v:=.string (runesBytes rs)) ?_ hs (oD rs) hk
  by_cases h0:n=0
  ·subst h0
   obtain rfl:rs=[]:=List.eq_nil_of_length_eq_zero hlen.symm
   exact run_convert_runes (P:=E.P) w src dst e _ 0 c [] (Nat.le_refl _) hsrc he hdst (fun j hj=>by simp at hj)
  ·obtain ⟨cs,e1,e2,e3⟩:=fH hs hb hl (by omega) ho hsz (hy (by omega))
   subst hlen
   refine EO hsrc hdst he (xM (ok:=ok) rs (vs:=fun k=>cs.getD k undef) (fun k hk=>?_) (fun k d hd=>?_))
   ·have hk' : k<cs.length:=by omega
    exact e2 k _ (by rw [List.getD_eq_getElem?_getD,List.getElem?_eq_getElem hk']; rfl)
   ·have hk:k<rs.length:=by
     rcases Nat.lt_or_ge k rs.length with hlt|hge
     ·exact hlt
     ·rw [List.getElem?_eq_none (by simpa using hge)] at hd; cases hd
    have hk' : k<cs.length:=by omega
    exact (e3 k _ d (by rw [List.getD_eq_getElem?_getD,List.getElem?_eq_getElem hk']; rfl) (by rw [hrs,fG]; exact hd)).2
 | _=>exact hk.elim

theorem cC (z:List DV):∀ (n k:Nat)(d:DV),(List.replicate n z).flatten[k]?=some d→z[k % z.length]?=some d
 | 0,k,d,h=>by simp at h
 | n+1,k,d,h=>by
  rw [List.replicate_succ,List.flatten_cons] at h
  rcases Nat.lt_or_ge k z.length with hlt|hge
  ·rw [List.getElem?_append_left hlt] at h
   rwa [Nat.mod_eq_of_lt hlt]
  ·rw [List.getElem?_append_right hge] at h
   have:=cC z n (k - z.length) d h
   rw [Nat.mod_eq_sub_mod hge]
   exact this

theorem AK {t el:TypeId}{i:TypeInfo}{z:Value}{zs:List DV}(hu:E.P.underlying t=some (.slice el))(hi:E.P.info? el=some i)(hz:i.zero=some z)(hzs:z.cells.size=i.size)(hpos:0<i.size)
  (hzl:z.cells.size=zs.length) (hz1:z.cells.all (·.oneCell')=true) (hzr:∀ (w:World) ok β (k:Nat) v d,z.cells[k]?=some v→zs[k]?=some d→Rep w ok β v d) {v u:Value} {x y:AX}
  (hs:SRep E C a w ok β st) (hv:Rep w ok β v (x.ev st.fr)) (hu2:Rep w ok β u (y.ev st.fr)) (hk:aop E (.mkslice i.size i.bytes zs x y) K st):LV E C a K (makeSlice t v u) w:=by
 simp only [aop] at hk
 generalize x.ev st.fr=d at hv hk
 generalize y.ev st.fr=e at hu2 hk
 split at hk
 ·rename_i n m
  obtain ⟨h0,h1,h2,h3,hk⟩:=hk
  cases hv; cases hu2
  have hN:n=(n.toNat:Int):=by omega
  have hM:m=(m.toNat:Int):=by omega
  generalize hn' : n.toNat=n' at *
  generalize hm' : m.toNat=m' at *
  subst hN; subst hM
  have wn:IntKind.i64.wrap (n' : Int)=n' := by simp [IntKind.wrap,IntKind.bits,IntKind.signed]; omega
  have wm:IntKind.i64.wrap (m' : Int)=m' := by simp [IntKind.wrap,IntKind.bits,IntKind.signed]; omega
  have hmz:m' * i.size=0↔m' = 0:=by
   constructor
   ·intro h
    rcases Nat.mul_eq_zero.1 h with h|h
    ·exact h
    ·omega
   ·intro h; rw [h,Nat.zero_mul]
  let zc:Array Value:=if m' * i.size=0 then #[] else z.cells
  let cells:Array Value:=(Array.range (m' * i.size)).map (zc[· % zc.size]!)
  have hget:∀ k v,cells[k]?=some v→z.cells[k % i.size]?=some v:=fun k v h=>by
   have hk:k<m' * i.size:=by
    rcases Nat.lt_or_ge k (m' * i.size) with h1|h1
    ·exact h1
    ·rw [Array.getElem?_eq_none (by simpa [cells] using h1)] at h; cases h
   have hne:¬ m' * i.size=0:=by omega
   have hlt:k % i.size<z.cells.size:=by rw [hzs]; exact Nat.mod_lt _ hpos
   simp only [cells,zc,if_neg hne] at h
   simp [hk,hzs] at h
   rw [getElem!_pos z.cells _ hlt] at h
   rw [Array.getElem?_eq_getElem hlt,h]
  have hsz:cells.size=m' * i.size:=by simp [cells]
  obtain ⟨β',n1,n2,n3,n4⟩:=hs.newarr el cells i.size (List.replicate m' zs) (fun e he=>by rw [List.eq_of_mem_replicate he]; omega) hpos (by rw [hsz,List.length_replicate]; exact Nat.le_refl _) (fun k v d hv hd=>by
   have h1:=hget k v hv
   have h2:=cC zs m' k d hd
   rw [← hzl,hzs] at h2
   refine ⟨?_,hzr _ _ _ _ v d h1 h2⟩
   rw [Array.all_eq_true'] at hz1
   exact hz1 v (Array.mem_of_getElem? h1))
  refine ⟨_,_,ok,β',_,_,?_,n1,n4 n' m' (some m') (by omega) (by rw [hsz]; exact Nat.le_refl _) (fun _ h=>by cases h; rfl),hk⟩
  have hroom:¬ m' * i.bytes>roomBytes:=by
   have:roomBytes=140737488355328:=rfl
   have h2' : ((m' * i.bytes:Nat):Int)≤1099511627776:=by rw [Int.natCast_mul]; exact h2
   omega
  have hbig:¬ (i.bytes:Int)*m' > 2 ^ 48:=by
   rw [Int.mul_comm]
   omega
  have hbig' : ¬ (281474976710656:Int)<(i.bytes:Int)*m' := by
   rw [Int.mul_comm]; omega
  have hneg:¬ (m' : Int)<0:=by omega
  have hneg2:¬ (n' : Int)<0:=by omega
  have hle:¬ (n' : Int)>m' := by omega
  have hle' : n' ≤ m' := by omega
  have hle2:¬ m' < n' := by omega
  have hbB:((m' : Int)<0||decide ((i.bytes:Int)*m' > 2 ^ 48))=false:=by simp [hbig']
  simp only [makeSlice,Sem.run_bind,run_underlying hu,Result.andThen_ok,asInt,asIntOf,Sem.run_pure,typeInfo,run_program,hi]
  rw [wm,wn]
  simp [hbig',hle2,askRoom,hroom,sizeOf,typeInfo,hi,zeroValue,hz,newRow]
  rw [if_neg (by omega)]
  by_cases hm0:m' * i.size=0
  ·rw [if_pos hm0]
   have e1:cells=Array.map (fun x=>(default:Value)) (Array.range (m' * i.size)):=by
    apply Array.ext
    ·simp [cells]
    ·intro k h1 h2
     rw [hsz] at h1; omega
   rw [← e1]
  ·rw [if_neg hm0]
   have e1:cells=Array.map (fun x=>z.cells[x % z.cells.size]!) (Array.range (m' * i.size)):=by
    simp only [cells,zc,if_neg hm0]
   rw [← e1]
 ·exact hk.elim

theorem ZH {T:Array TypeId}{t ty el:TypeId}{x:Value}{y:AX}(h0:T[0]?=some t)(hu:E.P.underlying t=some (.slice el))(hs:SRep E C a w ok β st)(hv:Rep w ok β x (y.ev st.fr))(hk:aop E (.cap y) K st) :
  LV E C a K (Builtin.cap_ T ty #[x]) w:=by
 simp only [aop] at hk
 generalize y.ev st.fr=d at hv hk
 have hrun:∀ A n c,(Builtin.cap_ T ty #[.slice A n c]).run E.P w=.ok (.int .i64 c) w:=fun A n c=>by
  simp [Builtin.cap_,h0,run_underlying hu,goInt]
 split at hk
 ·rename_i sz l off n c
  cases hv with
  | oslnil _ _ _ _ hcap hz=>have:=hcap _ rfl; subst this; exact LV.same (hrun _ _ _) hs (.int _ _) hk
  | osl _ _ _ _ c' _ _ _ _ _ _ _ _ _ _ _ _ hcap=>have:=hcap _ rfl; subst this; exact LV.same (hrun _ _ _) hs (.int _ _) hk
 ·cases hv; exact LV.same (hrun _ _ _) hs (.int _ _) hk
 ·exact hk.elim

theorem uX (f:Int→Int→Int)(g:Value→Value→Sem Value)(hg:∀ k x k' y,g (.int k x) (.int k' y)=pure (.int k (f x y))){Kd:DV→Prop} :
  ∀ (vs:List Value) (ds:List DV) (v:Value) (d:DV),vs.length=ds.length→(∀ (i:Nat) v d,vs[i]?=some v→ds[i]?=some d→Rep w ok β v d)→Rep w ok β v d→mmF f Kd d ds →
   ∃ u e,(vs.foldlM g v).run E.P w=.ok u w∧Rep w ok β u e∧Kd e
 | [],[],v,d,_,_,hv,hk=>⟨v,d,rfl,hv,hk⟩
 | [],_::_,_,_,h,_,_,_=>by simp at h
 | _::_,[],_,_,h,_,_,_=>by simp at h
 | v' :: vs,d' :: ds,v,d,hl,hr,hv,hk=>by
  have h1:=hr 0 v' d' rfl rfl
  cases d with
  | int k x=>
   cases d' with
   | int k' y=>
    cases hv; cases h1
    rw [List.foldlM_cons,hg]
    simp only [Sem.run_bind,Sem.run_pure,Result.andThen_ok]
    exact uX f g hg vs ds _ _ (by simpa using hl) (fun i v d h1 h2=>hr (i+1) v d (by simpa using h1) (by simpa using h2)) (.int _ _) hk
   | _=>simp [mmF] at hk
  | _=>simp [mmF] at hk

theorem aEp {T:Array TypeId}{ty:TypeId}{vs:List Value}{ds:List DV}(hs:SRep E C a w ok β st)(hl:vs.length=ds.length)(hr:∀ (i:Nat) v d,vs[i]?=some v→ds[i]?=some d→Rep w ok β v d)
  (hk:mm (fun x y=>if y>x then y else x) ds fun d=>K d st):LV E C a K (Builtin.max_ T ty vs.toArray) w:=by
 unfold mm at hk
 split at hk
 ·rename_i k x ds
  cases vs with
  | nil=>simp at hl
  | cons v vs=>
   obtain ⟨u,e,h1,h2,h3⟩:=uX (E:=E) (fun x y=>if y>x then y else x) Builtin.max2 (fun k x k' y=>rfl) vs ds v (.int k x) (by simpa using hl) (fun i v d h1 h2=>hr (i+1) v d (by simpa using h1) (by simpa using h2)) (hr 0 _ _ rfl rfl) hk
   exact LV.same (by simpa [Builtin.max_] using h1) hs h2 h3
 ·exact hk.elim
theorem aDE {T:Array TypeId}{ty:TypeId}{vs:List Value}{ds:List DV}(hs:SRep E C a w ok β st)(hl:vs.length=ds.length)(hr:∀ (i:Nat) v d,vs[i]?=some v→ds[i]?=some d→Rep w ok β v d)
  (hk:mm (fun x y=>if y<x then y else x) ds fun d=>K d st):LV E C a K (Builtin.min_ T ty vs.toArray) w:=by
 unfold mm at hk
 split at hk
 ·rename_i k x ds
  cases vs with
  | nil=>simp at hl
  | cons v vs=>
   obtain ⟨u,e,h1,h2,h3⟩:=uX (E:=E) (fun x y=>if y<x then y else x) Builtin.min2 (fun k x k' y=>rfl) vs ds v (.int k x) (by simpa using hl) (fun i v d h1 h2=>hr (i+1) v d (by simpa using h1) (by simpa using h2)) (hr 0 _ _ rfl rfl) hk
   exact LV.same (by simpa [Builtin.min_] using h1) hs h2 h3
 ·exact hk.elim
theorem BS {T:Array TypeId}{t0 t1 el ty:TypeId}{td1:TypeDesc}{i:TypeInfo}{z:Value}{zs:List DV}(h0:T[0]?=some t0)(hu0:E.P.underlying t0=some (.slice el))(h1:T[1]?=some t1)(hu1:E.P.underlying t1=some td1)
  (hn1:iQ td1=true) (hi:E.P.info? el=some i) (hz0:i.zero=some z) (hzs:z.cells.size=i.size) (hpos:0<i.size)
  (hzl:z.cells.size=zs.length) (hz1:z.cells.all (·.oneCell')=true) (hzr:∀ (w:World) ok β (k:Nat) v d,z.cells[k]?=some v→zs[k]?=some d→Rep w ok β v d) {v u:Value} {x y:AX}
  (hs:SRep E C a w ok β st) (hv:Rep w ok β v (x.ev st.fr)) (hu2:Rep w ok β u (y.ev st.fr)) (hk:aop E (.appendz i.size i.bytes zs x y) K st):LV E C a K (Builtin.append_ T ty #[v,u]) w:=by
 simp only [aop] at hk
 generalize x.ev st.fr=d at hv hk
 generalize y.ev st.fr=e at hu2 hk
 split at hk
 ·rename_i kk m
  obtain ⟨p0,p1,p2,hk⟩:=hk
  cases hv; cases hu2
  have hM:m=(m.toNat:Int):=by omega
  generalize hm' : m.toNat=m' at *
  subst hM
  have wm:IntKind.i64.wrap (m' : Int)=m' := by simp [IntKind.wrap,IntKind.bits,IntKind.signed]; omega
  have hbytes:m' * i.bytes≤1099511627776:=by
   have:((m' * i.bytes:Nat):Int)≤1099511627776:=by rw [Int.natCast_mul]; exact p1
   omega
  cases td1 <;> first | (simp [iQ] at hn1; done) | skip
  rename_i ik
  have hget:∀ (n:Nat) k v,(Builtin.zeroCells z.cells n)[k]?=some v→z.cells[k % i.size]?=some v:=fun n k v h=>by
   have hk:k<n*z.cells.size:=by
    rcases Nat.lt_or_ge k (n*z.cells.size) with h1|h1
    ·exact h1
    ·rw [Array.getElem?_eq_none (by simpa [Builtin.zeroCells] using h1)] at h; cases h
   have hlt:k % i.size<z.cells.size:=by rw [hzs]; exact Nat.mod_lt _ hpos
   rw [hzs] at hk
   simp only [Builtin.zeroCells] at h
   simp [hk,hzs] at h
   rw [getElem!_pos z.cells _ hlt] at h
   rw [Array.getElem?_eq_getElem hlt,h]
  by_cases hm0:m' = 0
  ·subst hm0
   refine ⟨_,w,ok,β,_,_,?_,hs.newnone _,.oslnil _ _ _ _ (fun _ h=>by cases h) hpos,hk⟩
   simp only [Builtin.append_,h0,h1]
   have w0:IntKind.i64.wrap 0=0:=by decide
   simp [run_underlying hu0,run_underlying hu1,sizeOf,typeInfo,hi,asInt,asIntOf,w0]
  ·have hnb:=rN (need:=m') (cap:=0) (by omega) hbytes
   have hnb3:¬ 281474976710656<Builtin.nextslicecap m' 0*i.bytes:=hnb
   let cap:=(Question.appendCap m' 0 el).cut (w.tape w.drawn (.appendCap m' 0 el))
   have hcap:m' ≤ cap:=by simp [cap,Question.cut]
   let cells:=Builtin.zeroCells z.cells m' ++ Builtin.zeroCells z.cells (cap - m')
   have hsz:cells.size=cap*i.size:=by
    simp only [cells,Array.size_append,cQ,hzs]
    rw [← Nat.add_mul]; congr 1; omega
   obtain ⟨β',n1,n2,n3,n4⟩:=(hs.drewN 1).newarr el cells i.size (List.replicate m' zs) (fun e he=>by rw [List.eq_of_mem_replicate he]; omega) hpos (by rw [hsz,List.length_replicate]; exact Nat.mul_le_mul_right _ hcap) (fun k v d hv hd=>by
    have hkl:k<m' * i.size:=by
     have h3:(List.replicate m' zs).flatten.length=m' * i.size:=by rw [aP (sz:=i.size) (fun e he=>by rw [List.eq_of_mem_replicate he]; omega),List.length_replicate]
     rcases Nat.lt_or_ge k (m' * i.size) with h4|h4
     ·exact h4
     ·rw [List.getElem?_eq_none (by omega)] at hd; cases hd
    have hv' : (Builtin.zeroCells z.cells m')[k]?=some v:=by
     simp only [cells] at hv
     rwa [Array.getElem?_append_left (by rw [cQ,hzs]; exact hkl)] at hv
    have h1:=hget m' k v hv'
    have h2:=cC zs m' k d hd
    rw [← hzl,hzs] at h2
    refine ⟨?_,hzr _ _ _ _ v d h1 h2⟩
    rw [Array.all_eq_true'] at hz1
    exact hz1 v (Array.mem_of_getElem? h1))
   refine ⟨_,_,ok,β',_,_,?_,n1,n4 m' cap none hcap (by rw [hsz]; exact Nat.le_refl _) (fun _ h=>by cases h),hk⟩
   have hb2:¬ (281474976710656:Int)<(m' : Int)*i.bytes:=by
    have:((m' * i.bytes:Nat):Int)=(m' : Int)*i.bytes:=Int.natCast_mul _ _
    omega
   have hneg:¬ (m' : Int)<0:=by omega
   have hn0:¬ m' ≤ 0:=by omega
   have hmx:¬ (9223372036854775807:Int)<(m' : Int):=by omega
   have hms:¬ m' * i.size=0:=by
    intro h
    rcases Nat.mul_eq_zero.1 h with h|h <;> omega
   simp only [Builtin.append_,h0,h1]
   simp [run_underlying hu0,run_underlying hu1,sizeOf,typeInfo,hi,asInt,asIntOf,wm,hb2,hneg,hm0,hms,hmx,hnb3,hn0,zeroValue,hz0,newRow,Question.forced,Builtin.firstCells]
   exact ⟨rfl,rfl⟩
 ·exact hk.elim
end
section
variable {E:Env} {C:Ctx} {a:Act} {w:World} {ok:Nat→Prop} {β:Loc} {st:St} {K:DV→St→Prop}
theorem PV.rep (p:PV):Rep w ok β p.val p.dv:=by
 cases p with
 | int k n=>exact .int k n
 | bool b=>exact .bool b
 | str s=>exact dK _ _ rfl
theorem aFw {a b:List UInt8}:((⟨a.toArray⟩:ByteArray) == ⟨b.toArray⟩)=decide (a=b):=by
 have h:((⟨a.toArray⟩:ByteArray) == ⟨b.toArray⟩)=(a.toArray == b.toArray):=rfl
 rw [h,Bool.eq_iff_iff]
 simp
theorem DH (s:ByteArray):(s == s)=true:=by
 have h:(s == s)=(s.data == s.data):=rfl
 rw [h]; simp
theorem lQ (s:List UInt8)(z:PV):∀ (es:List (List UInt8×PV))(m n:Nat),
  findNow .string (.string ⟨s.toArray⟩) ((es.zipIdx m).map wM) n=some (if eX s es=true then some (n+dX s es,(hB s z es).val) else none)
 | [],m,n=>rfl
 | p::es,m,n=>by
  rw [List.zipIdx_cons,List.map_cons]
  simp only [findNow,wM,sameNow,aFw]
  by_cases h:s=p.1
  ·simp [h,eX,dX,hB]
  ·have h' : ¬ p.1=s:=fun e=>h e.symm
   rw [decide_eq_false h]
   simp only [lQ s z es (m+1) (n+1),eX,dX,hB,if_neg h']
   congr 1
   split
   ·congr 2; omega
   ·rfl
theorem GK (es:List (List UInt8×PV)):(aZ es).toList=es.zipIdx.map wM:=by simp [aZ]
theorem mW (es:List (List UInt8×PV)):(aZ es).size=es.length:=by simp [aZ]
theorem dW (es:List (List UInt8×PV))(i:Nat):(aZ es)[i]?=es[i]?.map fun p=>wM (p,i):=by simp [aZ]; rfl
theorem sQ (es:List (List UInt8×PV))(p:List UInt8×PV):(aZ es).push ⟨.string ⟨p.1.toArray⟩,p.2.val,es.length⟩=aZ (es++[p]):=by
 simp [aZ,List.zipIdx_append,wM]
theorem pS {s:List UInt8}:∀ {es:List (List UInt8×PV)},eX s es=true→dX s es<es.length∧∃ v,es[dX s es]?=some (s,v)
 | [],h=>by simp [eX] at h
 | p::es,h=>by
  by_cases e:p.1=s
  ·simp only [dX,if_pos e,List.length_cons]
   exact ⟨by omega,p.2,by rw [← e]; rfl⟩
  ·simp only [eX,if_neg e] at h
   obtain ⟨h1,v,h2⟩:=pS h
   simp only [dX,if_neg e,List.length_cons]
   exact ⟨by omega,v,by simpa using h2⟩
theorem LG {s:List UInt8}:∀ {es:List (List UInt8×PV)},eX s es=false→dX s es=es.length
 | [],_=>rfl
 | p::es,h=>by
  by_cases e:p.1=s
  ·simp [eX,e] at h
  ·simp only [eX,if_neg e] at h
   simp only [dX,if_neg e,List.length_cons,LG h]
theorem BW {s:List UInt8}{z:PV}:∀ {es:List (List UInt8×PV)},eX s es=false→hB s z es=z
 | [],_=>rfl
 | p::es,h=>by
  by_cases e:p.1=s
  ·simp [eX,e] at h
  ·simp only [eX,if_neg e] at h
   simp only [hB,if_neg e,BW h]
theorem NM (es:List (List UInt8×PV))(i:Nat)(v:PV):(aZ es).modify i (fun e=>{ e with val:=v.val })=aZ (mL es i v):=by
 apply Array.ext_getElem?
 intro j
 rw [Array.getElem?_modify,dW,dW]
 unfold mL
 rw [List.getElem?_modify]
 by_cases e:i=j
 ·subst e
  simp only [if_true]
  cases es[i]? <;> rfl
 ·simp only [if_neg e]
  cases es[j]? <;> rfl
theorem QW (es:List (List UInt8×PV)){s:List UInt8}(h:eX s es=true):(aZ es).modify (dX s es) (fun e=>{ e with key:=.string ⟨s.toArray⟩ })=aZ es:=by
 apply Array.ext_getElem?
 intro j
 rw [Array.getElem?_modify,dW]
 obtain ⟨h1,v,h2⟩:=pS h
 by_cases e:dX s es=j
 ·subst e
  simp only [if_true,h2]; rfl
 ·simp only [if_neg e]
theorem HI (es:List (List UInt8×PV)){s:List UInt8}(h:eX s es=true)(v:PV):(aZ es).modify (dX s es) (fun e=>{ e with key:=.string ⟨s.toArray⟩,val:=v.val })=aZ (mL es (dX s es) v):=by
 apply Array.ext_getElem?
 intro j
 rw [Array.getElem?_modify,dW,dW]
 obtain ⟨h1,v',h2⟩:=pS h
 unfold mL
 rw [List.getElem?_modify]
 by_cases e:dX s es=j
 ·subst e
  simp only [if_true,h2]; rfl
 ·simp only [if_neg e]
  cases es[j]? <;> rfl
theorem gW {P:Program}{r:Nat}{es:Array MapEntry}{c:Nat}(h:w.heap[r]?=some (.map es c)):(getObj r).run P w=.ok (.map es c) w:=by simp [getObj,Sem.run,h]
theorem fJ {P:Program}{r:Nat}{es:Array MapEntry}{c:Nat}(o:Obj)(h:w.heap[r]?=some (.map es c)):(setObj r o).run P w=.ok () { w with heap:=w.heap.setIfInBounds r o }:=by simp [setObj,Sem.run,h]
theorem iO {P:Program}{kt:TypeId}(hk:P.underlying kt=some .string)(s:List UInt8)(z:PV)(es:List (List UInt8×PV)) :
  (findKey kt (.string ⟨s.toArray⟩) (aZ es).toList).run P w=.ok (if eX s es=true then some (dX s es,(hB s z es).val) else none) w:=by
 unfold findKey
 simp only [Sem.run_bind,run_underlying hk,Result.andThen_ok,GK,lQ s z es 0 0,Nat.zero_add]
 rfl
theorem gO {P:Program}{kt:TypeId}(hk:P.underlying kt=some .string)(b:Bool)(v:Value):(checkKey b 10000 kt v).run P w=.ok () w:=by
 unfold checkKey
 simp only [Sem.run_bind,run_underlying hk,Result.andThen_ok]
 cases v <;> rfl
theorem Rep.mp_inv {v:Value}{l:Nat}(h:Rep w ok β v (.mp l)):∃ b,v=.map (some b)∧β l=some (b,0):=by
 cases h with | mp l b h=>exact ⟨b,rfl,h⟩
theorem QE (t:TypeId)(hs:SRep E C a w ok β st)(hk:K (.mp st.h.length) (st.new (.mapo []))):LV E C a K (Instr.makeMap t none) w:=by
 obtain ⟨β',n1,n2,n3⟩:=hs.new (.map #[] 0) (.mapo []) (fun β' _ hn=>⟨_,hn,bY w _⟩)
 exact ⟨.map (some w.heap.size),_,ok,β',_,_,by simp [Instr.makeMap],n1,.mp _ _ n2,hk⟩
theorem TH {t kt e:TypeId}{z:PV}{zv:Value}(b:Bool)(ht:E.P.underlying t=some (.map kt e))(hkt:E.P.underlying kt=some .string)(hz:(E.P.info? e).bind (·.zero)=some zv)(hzv:zv=z.val){x k:Value}{l:Nat}{s:List UInt8}{es:List (List UInt8×PV)}
  (hs:SRep E C a w ok β st) (hx:Rep w ok β x (.mp l)) (hk:Rep w ok β k (.str s)) (hl:st.h[l]?=some (.mapo es)) (hK:K (sR b z es s) st):LV E C a K (Instr.lookup t x k b) w:=by
 obtain ⟨r,rfl,hb⟩:=hx.mp_inv
 obtain ⟨sb,rfl,rfl⟩:=hk.str_inv
 obtain ⟨r',g1,g2⟩:=hs.heap.obj l _ hl
 rw [hb] at g1
 injection g1 with g1; injection g1 with e1 _
 subst e1
 subst hzv
 have hsb:(Value.string sb)=.string ⟨sb.data.toList.toArray⟩:=by rw [kU]
 have hzero:(zeroValue e).run E.P w=.ok z.val w:=by
  cases hi:E.P.info? e with
  | none=>simp [hi] at hz
  | some i=>
   simp [hi] at hz
   simp [zeroValue,typeInfo,hi,hz]
 have hf:=iO (w:=w) (P:=E.P) hkt sb.data.toList z es
 rw [← hsb] at hf
 have hrun:(Instr.lookup t (.map (some r)) (.string sb) b).run E.P w=.ok (if b=true then .tuple #[(hB sb.data.toList z es).val,.bool (eX sb.data.toList es)] else (hB sb.data.toList z es).val) w:=by
  unfold Instr.lookup
  simp only [Sem.run_bind,run_underlying ht,Result.andThen_ok,gW g2,gO hkt,hf,Sem.run_pure]
  cases hh:eX sb.data.toList es with
  | true=>simp
  | false=>simp [hzero,BW (z:=z) hh]
 refine LV.same hrun hs ?_ hK
 cases b with
 | false=>exact PV.rep _
 | true=>
  refine .tup [_,_] [_,_] rfl fun i v d h1 h2=>?_
  match i,h1,h2 with
  | 0,h1,h2=>cases h1; cases h2; exact PV.rep _
  | 1,h1,h2=>cases h1; cases h2; exact .bool _
theorem mJ {l r:Nat}{es es' : List (List UInt8×PV)}(hs:SRep E C a w ok β st)(hb:β l=some (r,0))(hl:st.h[l]?=some (.mapo es))(g2:w.heap[r]?=some (.map (aZ es) es.length)) :
  SRep E C a { w with heap:=w.heap.setIfInBounds r (.map (aZ es') es'.length) } ok β (st.at l (.mapo es')):=by
 have hlt:r<w.heap.size:=by
  rcases Nat.lt_or_ge r w.heap.size with h|h
  ·exact h
  ·rw [Array.getElem?_eq_none h] at g2; cases g2
 have hw:({ w with heap:=w.heap.setIfInBounds r (.map (aZ es') es'.length) }:World).heap[r]?=some (.map (aZ es') es'.length):=by simp [Array.getElem?_setIfInBounds,hlt]
 refine hs.write l r 0 (.mapo es') (.mapo es) hb hl (fun cs h=>by cases h) rfl rfl rfl (by simp) (fun k hk=>?_) ?_ ⟨r,hb,hw⟩
 ·simp only [Array.getElem?_setIfInBounds]
  rw [if_neg (fun e=>hk e.symm)]
 ·simp [World.shape?,hw,g2]
theorem VL {t kt e:TypeId}{z:PV}{zv:Value}(ht:E.P.underlying t=some (.map kt e))(hkt:E.P.underlying kt=some .string)(hz:(E.P.info? e).bind (·.zero)=some zv)(hzv:zv=z.val){x k:Value}{l:Nat}{s:List UInt8}{es:List (List UInt8×PV)}
  (hs:SRep E C a w ok β st) (hx:Rep w ok β x (.mp l)) (hk:Rep w ok β k (.str s)) (hl:st.h[l]?=some (.mapo es)) (hK:K (.tup [(hB s z es).dv,.int .i64 (dX s es)]) (st.at l (.mapo (BQ es s z)))):LV E C a K (Instr.mapEntry t x k) w:=by
 obtain ⟨r,rfl,hb⟩:=hx.mp_inv
 obtain ⟨sb,rfl,rfl⟩:=hk.str_inv
 obtain ⟨r',g1,g2⟩:=hs.heap.obj l _ hl
 rw [hb] at g1
 injection g1 with g1; injection g1 with e1 _
 subst e1
 subst hzv
 have hsb:(Value.string sb)=.string ⟨sb.data.toList.toArray⟩:=by rw [kU]
 have hzero:(zeroValue e).run E.P w=.ok z.val w:=by
  cases hi:E.P.info? e with
  | none=>simp [hi] at hz
  | some i=>
   simp [hi] at hz
   simp [zeroValue,typeInfo,hi,hz]
 have hf:=iO (w:=w) (P:=E.P) hkt sb.data.toList z es
 rw [← hsb] at hf
 have hrun:(Instr.mapEntry t (.map (some r)) (.string sb)).run E.P w=.ok (.tuple #[(hB sb.data.toList z es).val,.int .i64 (dX sb.data.toList es)]) { w with heap:=w.heap.setIfInBounds r (.map (aZ (BQ es sb.data.toList z)) (BQ es sb.data.toList z).length) }:=by
  unfold Instr.mapEntry
  simp only [Sem.run_bind,run_underlying ht,Result.andThen_ok,gW g2,gO hkt,hf]
  cases hh:eX sb.data.toList es with
  | true=>
   obtain ⟨i1,v,i2⟩:=pS hh
   have hke:(((aZ es)[dX sb.data.toList es]?).map (·.key)).getD (.string sb)=.string sb:=by
    rw [dW,i2,hsb]; rfl
   have hbo:(((aZ es)[dX sb.data.toList es]?).map (·.born)).getD 0=dX sb.data.toList es:=by
    rw [dW,i2]; rfl
   have hst:(keyThatStays (.string sb) (.string sb)).run E.P w=.ok (.string sb) w:=by
    unfold keyThatStays
    simp [sameBits,DH]
   have hmod:=QW es hh
   rw [← hsb] at hmod
   have hbo' : (((aZ es)[dX sb.data.toList es]?).map fun x=>(x.born:Int)).getD 0=dX sb.data.toList es:=by
    rw [dW,i2]; rfl
   simp only [if_true,hke,Sem.run_bind,hst,Result.andThen_ok,fJ _ g2,hbo,hmod,BQ,hh]
   simp [goInt,hbo']
  | false=>
   have hp:=sQ es (sb.data.toList,z)
   rw [← hsb] at hp
   simp only [Bool.false_eq_true,if_false,Sem.run_bind,hzero,Result.andThen_ok,fJ _ g2,BQ,hh,BW (z:=z) hh,LG hh]
   simp only [hp]
   simp [goInt]
 refine ⟨_,_,ok,β,_,_,hrun,mJ hs hb hl g2,?_,hK⟩
 refine .tup [_,_] [_,_] rfl fun i v d h1 h2=>?_
 match i,h1,h2 with
 | 0,h1,h2=>cases h1; cases h2; exact PV.rep _
 | 1,h1,h2=>cases h1; cases h2; exact .int _ _
theorem PB {v:Value}{d:DV}{p:PV}(h:Rep w ok β v d)(hp:d.pv=some p):v=p.val:=by
 cases d <;> simp only [DV.pv] at hp <;> first | (cases hp; done) | skip
 all_goals cases hp
 ·exact h.int_inv
 ·cases h; rfl
 ·obtain ⟨s,rfl,rfl⟩:=h.str_inv
  simp only [PV.val,kU]
theorem uU (es:List (List UInt8×PV))(i:Nat)(h:i<es.length):(aZ es).findIdx? (fun e=>(e.born:Int) == (i:Int))=some i:=by
 rw [Array.findIdx?_eq_some_iff_getElem]
 refine ⟨by rw [mW]; exact h,?_,fun j hj=>?_⟩
 ·have:=dW es i
  rw [Array.getElem?_eq_getElem (by rw [mW]; exact h),List.getElem?_eq_getElem h] at this
  simp only [Option.map_some,Option.some.injEq] at this
  rw [this]; simp [wM]
 ·have hj' : j<es.length:=by omega
  have:=dW es j
  rw [Array.getElem?_eq_getElem (by rw [mW]; exact hj'),List.getElem?_eq_getElem hj'] at this
  simp only [Option.map_some,Option.some.injEq] at this
  rw [this]; simp [wM]; omega
theorem VX (t:TypeId){x i v:Value}{l:Nat}{k:IntKind}{n:Int}{d:DV}{p:PV}{es:List (List UInt8×PV)}(hs:SRep E C a w ok β st)(hx:Rep w ok β x (.mp l))(hi:Rep w ok β i (.int k n))(hv:Rep w ok β v d)(hp:d.pv=some p)
  (hl:st.h[l]?=some (.mapo es)) (h0:0≤n) (h1:n<es.length):∃ w',(Instr.entryStore t x i v).run E.P w=.ok () w' ∧ SRep E C a w' ok β (st.at l (.mapo (mL es n.toNat p))):=by
 obtain ⟨r,rfl,hb⟩:=hx.mp_inv
 obtain rfl:=hi.int_inv
 obtain rfl:=PB hv hp
 obtain ⟨r',g1,g2⟩:=hs.heap.obj l _ hl
 rw [hb] at g1
 injection g1 with g1; injection g1 with e1 _
 subst e1
 obtain ⟨m,rfl⟩:∃ m:Nat,n=m:=⟨n.toNat,by omega⟩
 have hlen:(mL es m p).length=es.length:=by simp [mL]
 have hw:=mJ (es' := mL es m p) hs hb hl g2
 rw [hlen] at hw
 refine ⟨_,?_,by simpa using hw⟩
 unfold Instr.entryStore
 simp only [Sem.run_bind,gW g2,Result.andThen_ok]
 have hf:=uU es m (by omega)
 simp only [asInt,asIntOf,Sem.run_bind,Sem.run_pure,Result.andThen_ok,hf,fJ _ g2,NM]
theorem DE {t kt e:TypeId}(ht:E.P.underlying t=some (.map kt e))(hkt:E.P.underlying kt=some .string){x k v:Value}{l:Nat}{s:List UInt8}{d:DV}{p:PV}{es:List (List UInt8×PV)}
  (hs:SRep E C a w ok β st) (hx:Rep w ok β x (.mp l)) (hk:Rep w ok β k (.str s)) (hv:Rep w ok β v d) (hp:d.pv=some p) (hl:st.h[l]?=some (.mapo es)) :
  ∃ w',(Instr.mapUpdate t x k v).run E.P w=.ok () w' ∧ SRep E C a w' ok β (st.at l (.mapo (CR es s p))):=by
 obtain ⟨r,rfl,hb⟩:=hx.mp_inv
 obtain ⟨sb,rfl,rfl⟩:=hk.str_inv
 obtain rfl:=PB hv hp
 obtain ⟨r',g1,g2⟩:=hs.heap.obj l _ hl
 rw [hb] at g1
 injection g1 with g1; injection g1 with e1 _
 subst e1
 have hsb:(Value.string sb)=.string ⟨sb.data.toList.toArray⟩:=by rw [kU]
 have hf:=iO (w:=w) (P:=E.P) hkt sb.data.toList p es
 rw [← hsb] at hf
 refine ⟨_,?_,mJ hs hb hl g2⟩
 unfold Instr.mapUpdate
 simp only [Sem.run_bind,run_underlying ht,Result.andThen_ok,gW g2,gO hkt,hf]
 cases hh:eX sb.data.toList es with
 | true=>
  obtain ⟨i1,v',i2⟩:=pS hh
  have hke:(((aZ es)[dX sb.data.toList es]?).map (·.key)).getD (.string sb)=.string sb:=by
   rw [dW,i2,hsb]; rfl
  have hst:(keyThatStays (.string sb) (.string sb)).run E.P w=.ok (.string sb) w:=by
   unfold keyThatStays
   simp [sameBits,DH]
  have hmod:=HI es hh p
  rw [← hsb] at hmod
  have hlen:(mL es (dX sb.data.toList es) p).length=es.length:=by simp [mL]
  simp only [if_true,hke,Sem.run_bind,hst,Result.andThen_ok,fJ _ g2,hmod,CR,hh,hlen]
 | false=>
  have hpu:=sQ es (sb.data.toList,p)
  rw [← hsb] at hpu
  simp only [Bool.false_eq_true,if_false,fJ _ g2,CR,hh,hpu,List.length_append,List.length_cons,List.length_nil,Nat.zero_add]
theorem NG {T:Array TypeId}{t0 el ty:TypeId}{i:TypeInfo}{z:Value}{zs:List DV}(h0:T[0]?=some t0)(hu0:E.P.underlying t0=some (.slice el))(hi:E.P.info? el=some i)(hz:i.zero=some z)(hzs:z.cells.size=i.size)(hpos:0<i.size)
  (hzl:z.cells.size=zs.length) (hz1:z.cells.all (·.oneCell')=true) (hzr:∀ (w:World) ok β (k:Nat) v d,z.cells[k]?=some v→zs[k]?=some d→Rep w ok β v d) {x:Value} {dx:DV}
  (hs:SRep E C a w ok β st) (hx:Rep w ok β x dx) (hk:vO i.size zs dx K st):LV E C a K (Builtin.clear_ T ty #[x]) w:=by
 have htup:Rep w ok β (.tuple #[]) (.tup []):=.tup [] [] rfl (fun i v d h _=>by simp at h)
 cases hx with
 | osl sz l off n c b x yy tt m hb hnc hsz hyy hmm hr cap0 hcap0=>
  obtain ⟨rfl,es,hl,hno,hk⟩:=hk
  by_cases hn:n=0
  ·subst hn
   have hrun:(Builtin.clear_ T ty #[.slice (some ⟨b,yy,none⟩) 0 c]).run E.P w=.ok (.tuple #[]) w:=by
    simp [Builtin.clear_,h0,run_underlying hu0]
   refine ⟨_,w,ok,β,_,_,hrun,hs.setArr hl ?_,htup,hk⟩
   have:=hs.heap.obj l _ hl
   simpa using this
  ·let cells:Array Value:=Builtin.zeroCells z.cells n
   have hget:∀ k v,cells[k]?=some v→z.cells[k % i.size]?=some v:=fun k v h=>by
    have hk:k<n*i.size:=by
     rcases Nat.lt_or_ge k (n*i.size) with h1|h1
     ·exact h1
     ·rw [Array.getElem?_eq_none (by simpa [cells,Builtin.zeroCells,hzs] using h1)] at h; cases h
    have hlt:k % i.size<z.cells.size:=by rw [hzs]; exact Nat.mod_lt _ hpos
    simp only [cells,Builtin.zeroCells] at h
    simp [hk,hzs] at h
    rw [getElem!_pos z.cells _ hlt] at h
    rw [Array.getElem?_eq_getElem hlt,h]
   have hcs:cells.toList.length=(List.replicate n zs).length*i.size:=by simp [cells,Builtin.zeroCells,hzs]
   obtain ⟨w',r,hs',hsh⟩:=jF (yy:=yy) (n:=0) (c:=n) (ys:=List.replicate n zs) (cs:=cells.toList) hs hl hb hpos (fun h=>hyy (by omega)) hno (by simp) (fun e he=>by rw [List.eq_of_mem_replicate he]; omega) hcs
    (fun k u e hu he=>by
     have h1:=hget k u (by simpa using hu)
     have h2:=cC zs n k e he
     rw [← hzl,hzs] at h2
     rw [Array.all_eq_true'] at hz1
     exact ⟨hz1 u (Array.mem_of_getElem? h1),hzr _ _ _ _ u e h1 h2⟩)
   rw [Nat.zero_mul] at r
   have r' : (storeCells ⟨b,yy,none⟩ (Builtin.zeroCells z.cells n).toList).run E.P w=.ok () w' := by simpa [cN,cells] using r
   have hrun:(Builtin.clear_ T ty #[.slice (some ⟨b,yy,none⟩) n c]).run E.P w=.ok (.tuple #[]) w' := by
    cases n with
    | zero=>exact absurd rfl hn
    | succ n=>simp [Builtin.clear_,h0,run_underlying hu0,zeroValue,typeInfo,hi,hz,r']
   exact ⟨_,w',ok,β,_,_,hrun,by simpa using hs',.tup [] [] rfl (fun i v d h _=>by simp at h),hk⟩
 | oslnil sz l off cap0 hcap0 hz0=>
  obtain ⟨rfl,es,hl,hno,hk⟩:=hk
  have hrun:(Builtin.clear_ T ty #[.slice none 0 0]).run E.P w=.ok (.tuple #[]) w:=by
   simp [Builtin.clear_,h0,run_underlying hu0]
  refine ⟨_,w,ok,β,_,_,hrun,hs.setArr hl ?_,htup,hk⟩
  have:=hs.heap.obj l _ hl
  simpa using this
 | nils n=>exact LV.same (by simp [Builtin.clear_,h0,run_underlying hu0]) hs htup hk
 | emp0 c sz=>exact LV.same (by simp [Builtin.clear_,h0,run_underlying hu0]) hs htup hk
 | emp1=>exact LV.same (by simp [Builtin.clear_,h0,run_underlying hu0]) hs htup hk
 | _=>exact hk.elim
end
end Go.Ai
