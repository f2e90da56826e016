/-
  Proved: laws on the way to 'PdriveHoldsProof' (texts DwOps2 DwOps3 DwCall DwPlan DwPlan2 DwLit DwPlan3 DwEnd); no condition.
-/
import Derived.Test.YtkemikknnokdhaaGreatM2
import Derived.Defers
import Derived.Tactics
import Derived.LoopN
import Derived.Orders
import Derived.RowKit3
import Derived.ChangeSame
set_option linter.unusedSimpArgs false
set_option linter.unusedVariables false
set_option maxHeartbeats 4000000
noncomputable section
namespace Go.Dw
section
variable {P:Program} {ρ:Val} {w0:Cx} {j:J} {H:Heap} {w:World} {N:Nat} {env:T AV} {a:Act} {o:Oper} {k:K} {Q:Exit→Act→World→Prop}
theorem zmo {t:TypeId} {by' sz:Nat} (h:zgJ P t=some (by',sz)):
  ∃ e inf z',P.underlying t=some (.slice e)∧P.info? e=some inf∧inf.bytes=by'∧inf.size=sz∧0<sz∧(∀w',(zeroValue e).run P w'= .ok z' w')∧z'.cells.size=sz:=by
 unfold zgJ at h
 split at h
 case h_2=>cases h
 rename_i e hu
 split at h
 case h_2=>cases h
 rename_i inf z hinf hz
 split at h
 case h_2=>cases h
 rename_i s hb hs
 cases h
 obtain ⟨z',h1,h2,_⟩:=za6 (ρ:=(Val.zero:Val)) (j:=fun _=>none) hz
 have:=(zcB h2).length
 rw [Array.length_toList,zam hb,hs] at this
 exact ⟨e,inf,z',hu,hinf,rfl,hs,by omega,h1,this⟩
theorem znp {t:TypeId} (h:zmf P t=true):(∃e,P.underlying t=some (.slice e))∨P.underlying t=some .string:=by
 unfold zmf at h
 split at h
 ·exact .inl ⟨_,‹_›⟩
 ·exact .inr ‹_›
 ·cases h
theorem zll {c:Call} {t u:TypeId} {l:List TypeId} (h:c.argTypes.toList=t::u::l):c.argTypes[0]? =some t∧c.argTypes[1]? =some u:=by
 refine ⟨zcd h,?_⟩
 rw [←Array.getElem?_toList,h];rfl
theorem zca {ats:Array TypeId} {ts tx e:TypeId} {ty:TypeId} {inf:TypeInfo} {base:Option Addr} {sl sc n:Nat} {x:Value} {xs:List Value} {w':World} (h0:ats[0]? =some ts) (h1:ats[1]? =some tx)
  (hu:P.underlying ts=some (.slice e)) (hx:zmf P tx=true) (hi:P.info? e=some inf) (hn:(Builtin.lenOf x).run P w= .ok n w) (hle:sl+n≤sc) (hf:(Builtin.firstCells inf.size n x).run P w= .ok xs.toArray w)
  (hst:match base with|none=>w'=w|some p=>(storeCells (p.add (sl*inf.size)) xs).run P w= .ok () w'):(Builtin.append_ ats ty #[.slice base sl sc,x]).run P w= .ok (.slice base (sl+n) sc) w':=by
 have hsz:szOf P e=some inf.size:=by simp [szOf,hi]
 rcases znp hx with ⟨e',hd⟩|hd
 all_goals
  unfold Builtin.append_
  simp only [h0,h1,List.getElem?_toArray,List.getElem?_cons_zero,List.getElem?_cons_succ,Sem.run_bind,run_underlying hu,Result.andThen_ok,run_sizeOf hsz,run_underlying hd,Sem.run_pure,Bool.false_eq_true,if_false,hn]
  rw [if_pos hle]
  cases base with
  | none=>
   simp only [Bool.not_false,if_true,Sem.run_bind,hf,Result.andThen_ok,Sem.run_pure]
   rw [hst]
  | some p=>
   simp only [Bool.not_false,if_true,Sem.run_bind,hf,Result.andThen_ok,List.toList_toArray,hst,Sem.run_pure]
theorem zez {ats:Array TypeId} {ts tx e:TypeId} {ty:TypeId} {inf:TypeInfo} {base:Option Addr} {sl sc n:Nat} {x z':Value} {old xs:List Value} (h0:ats[0]? =some ts) (h1:ats[1]? =some tx)
  (hu:P.underlying ts=some (.slice e)) (hx:zmf P tx=true) (hi:P.info? e=some inf) (hn:(Builtin.lenOf x).run P w= .ok n w) (hlt:sc<sl+n) (hb:(sl+n)*inf.bytes≤140737488355328) (hcap:sl+n<4611686018427387904)
  (hz: ∀w',(zeroValue e).run P w'= .ok z' w') (ho:(Builtin.firstCells inf.size sl (.slice base sl sc)).run P w.drew= .ok old.toArray w.drew) (hf:(Builtin.firstCells inf.size n x).run P w.drew= .ok xs.toArray w.drew):
  ∃ nc rest,sl+n≤nc∧rest.size=(nc-(sl+n))*z'.cells.size∧(Builtin.append_ ats ty #[.slice base sl sc,x]).run P w=
   .ok (.slice (some ⟨w.heap.size,0,none⟩) (sl+n) nc) { w.drew with heap:=w.drew.heap.push (.cells (old.toArray++xs.toArray++rest) e (0,0)) }:=by
 have hsz:szOf P e=some inf.size:=by simp [szOf,hi]
 refine ⟨Question.cut (.appendCap (sl+n) sc e) (w.tape w.drawn (.appendCap (sl+n) sc e)),Builtin.zeroCells z'.cells (Question.cut (.appendCap (sl+n) sc e) (w.tape w.drawn (.appendCap (sl+n) sc e))-(sl+n)),?_,?_,?_⟩
 ·show sl+n≤(sl+n)+_
  omega
 ·exact size_zeroCells _ _
 ·have hslice:=growslice_fits (need:=sl+n) (old:=sc) (bytes:=inf.bytes) hlt hb
  have ho:(Builtin.firstCells inf.size sl (.slice base sl sc)).run P { w with drawn:=w.drawn+1 }= .ok old.toArray { w with drawn:=w.drawn+1 }:=ho
  have hf:(Builtin.firstCells inf.size n x).run P { w with drawn:=w.drawn+1 }= .ok xs.toArray { w with drawn:=w.drawn+1 }:=hf
  rcases znp hx with ⟨e',hd⟩|hd
  all_goals
   unfold Builtin.append_
   simp only [h0,h1,List.getElem?_toArray,List.getElem?_cons_zero,List.getElem?_cons_succ,Sem.run_bind,run_underlying hu,Result.andThen_ok,run_sizeOf hsz,run_underlying hd,Sem.run_pure,Bool.false_eq_true,if_false,hn]
   rw [if_neg (by omega)]
   simp only [typeInfo,Sem.run_bind,run_program,Result.andThen_ok,hi,Sem.run_pure,false_or]
   rw [if_neg (by
    intro hh
    have:((sl+n:Nat):Int)>9223372036854775807:=hh.1
    omega)]
   simp only [Sem.run_bind,Sem.run_pure,Result.andThen_ok,run_program,hi]
   rw [if_neg (show¬(Builtin.nextslicecap (sl+n) sc*inf.bytes>2^48) by omega)]
   simp only [Sem.run_bind,run_choose,Question.forced,Bool.false_eq_true,if_false,Result.andThen_ok,run_askRoom,run_program,hi,Sem.run_pure]
   rw [ho]
   simp only [Result.andThen_ok,Bool.not_false,if_true,Sem.run_bind,hf,hz]
   rfl
def AppS (P:Program) (ρ:Val) (w0:Cx) (j:J) (H:Heap) (w:World) (ats:Array TypeId) (ty:TypeId) (us ux:Value) (v:AV) (H':Heap):Prop:=
 ∃ u w' j',(Builtin.append_ ats ty #[us,ux]).run P w= .ok u w'∧R ρ j' v u∧Inv ρ w0 j' H' w'∧St j H j' H'
theorem zuy {l:List AV} {xs:List Value} {rest:Array Value} {sz need nc nx:Nat} {e:TypeId} (hl:RL ρ j l xs) (hlen:l.length=need*sz) (hnc:need≤nc) (hrest:rest.size=(nc-need)*sz):
  NewR ρ j (.cells (Vec.ofList l) sz nx none false true) (.cells (xs.toArray++rest) e (0,0)) nc:=by
 have hx:=hl.length
 refine ⟨rfl,rfl,_,e,rfl,by rw [Vec.n_ofList];simp [hx],⟨?_,fun _=> ?_⟩,fun i hi=> ?_⟩
 ·simp only [Array.size_append,List.size_toArray,hx,hlen,hrest]
  rw [←Nat.add_mul]
  exact Nat.mul_le_mul_right _ (by omega)
 ·rw [Vec.n_ofList,hlen]
  exact Nat.mul_le_mul_right _ hnc
 ·rw [Vec.n_ofList] at hi
  rw [Vec.get_ofList l i hi]
  obtain ⟨x,h1,h2⟩:=hl.get i _ (List.getElem?_eq_getElem hi)
  exact ⟨x,by rw [Array.getElem?_append_left (by simp;omega)];simpa using h1,h2⟩
theorem zeC (hi:Inv ρ w0 j H w) {ats:Array TypeId} {ts tx e:TypeId} {ty:TypeId} {inf:TypeInfo} {base:Option Addr} {sl sc n:Nat} {ux z':Value} {old new l:List AV} {v:AV} {H':Heap} (h0:ats[0]? =some ts) (h1:ats[1]? =some tx)
  (hu:P.underlying ts=some (.slice e)) (hx:zmf P tx=true) (hinf:P.info? e=some inf) (hn:(Builtin.lenOf ux).run P w= .ok n w) (hlt:sc<sl+n) (hpos:0<inf.size)
  (hz: ∀w',(zeroValue e).run P w'= .ok z' w') (hzs:z'.cells.size=inf.size) (hl:l=old++new) (ho:old.length=sl*inf.size) (hne:new.length=n*inf.size)
  (hold: ∃xs:List Value,(Builtin.firstCells inf.size sl (.slice base sl sc)).run P w.drew= .ok xs.toArray w.drew∧RL ρ j old xs) (hnew: ∃xs:List Value,(Builtin.firstCells inf.size n ux).run P w.drew= .ok xs.toArray w.drew∧RL ρ j new xs)
  (h:zgM H inf.bytes inf.size (sl+n) l=some (v,H')):AppS P ρ w0 j H w ats ty (.slice base sl sc) ux v H':=by
 unfold zgM at h
 split at h
 case h_2=>cases h
 rename_i hb hc
 have hb:(sl+n)*inf.bytes≤35184372088832:=Nat.le_of_ble_eq_true hb
 have hc:(sl+n)*inf.size≤35184372088832:=Nat.le_of_ble_eq_true hc
 have hcap:sl+n≤35184372088832:=Nat.le_trans (Nat.le_mul_of_pos_right _ hpos) hc
 cases h
 obtain ⟨xo,ho1,ho2⟩:=hold
 obtain ⟨xn,hn1,hn2⟩:=hnew
 obtain ⟨nc,rest,h2,h3,h4⟩:=zez (ty:=ty) h0 h1 hu hx hinf hn hlt (by omega) (by omega) hz ho1 hn1
 have hlR:RL ρ j l (xo++xn):=by rw [hl];exact ho2.append hn2
 have hnewR:=zuy (rest:=rest) (nc:=nc) (need:=sl+n) (sz:=inf.size) (e:=e) (nx:=H.nx) hlR (by rw [hl,List.length_append,ho,hne,Nat.add_mul]) h2 (by rw [h3,hzs])
 obtain ⟨h5,h6⟩:=hi.drew.alloc hnewR (fun v e g cl sh hob=>by cases hob;exact .inl rfl)
 refine ⟨_,_,_,h4,⟨_,zaZ _ _ _,?_,?_⟩,?_,h6⟩
 ·exact ⟨by show 0+(sl+n)≤nc;omega,by show 0<nc;omega⟩
 ·show _=Value.slice (some ⟨w.heap.size,0,none⟩) (sl+n) (nc-0)
  simp
 ·have e1:(xo++xn).toArray++rest=xo.toArray++xn.toArray++rest:=by simp
  rw [←e1]
  exact h5
theorem zjv {v:Vec} {off n:Nat} {new:List AV} (h:off+n=v.n):(extended v off n new).n=n+new.length∧(∀i,i<n→(extended v off n new).get i=v.get (off+i))∧ ∀i (hi:i<new.length),(extended v off n new).get (n+i)=new[i]:=by
 unfold extended
 split
 ·rename_i h0
  have h0:=zam h0
  subst h0
  obtain ⟨t,m,d⟩:=v
  have hm:n=m:=by simpa using h
  subst hm
  refine ⟨by rw [Vec.n_put];rfl,fun i hi=> ?_,fun i hi=> ?_⟩
  ·rw [Vec.get_put,dif_neg (by omega)]
   simp only [Vec.get,Nat.zero_add]
  ·rw [Vec.get_put,dif_pos (by omega)]
   congr 1;omega
 ·have hlen:(v.list off n++new).length=n+new.length:=by rw [List.length_append,Vec.length_list]
  refine ⟨by rw [Vec.n_ofList,hlen],fun i hi=> ?_,fun i hi=> ?_⟩
  ·have hlt:i<(v.list off n++new).length:=by omega
   rw [Vec.get_ofList _ _ hlt]
   have e1:=Vec.getElem_list n v off i hi
   have e2:(v.list off n++new)[i]? =some (v.get (off+i)):=by rw [List.getElem?_append_left (by rw [Vec.length_list];exact hi)];exact e1
   rw [List.getElem?_eq_getElem hlt] at e2
   exact Option.some.inj e2
  ·have hlt:n+i<(v.list off n++new).length:=by omega
   rw [Vec.get_ofList _ _ hlt]
   have e2:(v.list off n++new)[n+i]? =some new[i]:=by
    rw [List.getElem?_append_right (by rw [Vec.length_list];omega),Vec.length_list,show n+i-n=i by omega]
    exact List.getElem?_eq_getElem hi
   rw [List.getElem?_eq_getElem hlt] at e2
   exact Option.some.inj e2
theorem zjK (hi:Inv ρ w0 j H w) {ats:Array TypeId} {ts tx e:TypeId} {ty:TypeId} {inf:TypeInfo} {b off len kk n:Nat} {L:Loc} {ux z':Value} {new:List AV} {v:AV} {H':Heap} (h0:ats[0]? =some ts) (h1:ats[1]? =some tx)
  (hu:P.underlying ts=some (.slice e)) (hx:zmf P tx=true) (hinf:P.info? e=some inf) (hn:(Builtin.lenOf ux).run P w= .ok n w) (hpos:0<inf.size)
  (hz: ∀w',(zeroValue e).run P w'= .ok z' w') (hzs:z'.cells.size=inf.size) (hne:new.length=n*inf.size) (hj:j b=some L) (hck:kk+len≤L.cap∧0<L.cap) (hnpos:0<n)
  (hnew: ∃xs:List Value,(Builtin.firstCells inf.size n ux).run P w= .ok xs.toArray w∧RL ρ j new xs) (hnew': ∃xs:List Value,(Builtin.firstCells inf.size n ux).run P w.drew= .ok xs.toArray w.drew∧RL ρ j new xs)
  (h:zmx H inf.bytes inf.size n new b off len kk=some (v,H')):AppS P ρ w0 j H w ats ty (.slice (some ⟨L.blk,L.off+off,none⟩) len (L.cap-kk)) ux v H':=by
 unfold zmx at h
 split at h
 case h_2=>cases h
 rename_i vr esz g sh hm
 split at h
 case h_2=>cases h
 rename_i hes hof hcells
 have hes:=zam hes
 have hof:off=kk*inf.size:=zam hof
 subst hes
 split at h
 ·rename_i hfull
  have hfull:off+len*inf.size=vr.n:=zam hfull
  split at h
  case h_2=>cases h
  rename_i hb hc
  have hb:(len+n)*inf.bytes≤35184372088832:=Nat.le_of_ble_eq_true hb
  have hc:(len+n)*inf.size≤35184372088832:=Nat.le_of_ble_eq_true hc
  have hcap:len+n≤35184372088832:=Nat.le_trans (Nat.le_mul_of_pos_right _ hpos) hc
  cases h
  obtain ⟨e1,e2,e3⟩:=zjv (new:=new) hfull
  have hHeq:(⟨H.m,H.nx,H.gw⟩:Heap)=H:=rfl
  by_cases hroom:len+n≤L.cap-kk
  ·
   obtain ⟨xs,hx1,hx2⟩:=hnew
   have hmul:off+len*inf.size+new.length≤L.cap*inf.size:=by
    rw [hof,hne,←Nat.add_mul,←Nat.add_mul]
    exact Nat.mul_le_mul_right _ (by omega)
   obtain ⟨w',g1,g2⟩:=hi.over (v':=extended vr off (len*inf.size) new) hj hm hof hfull (by omega) hmul hcells hx2 e1 e2 e3 P rfl
   refine ⟨_,w',_,zca (ty:=ty) h0 h1 hu hx hinf hn hroom hx1 (w':=w') ?_,⟨_,zaZ _ _ _,?_,?_⟩,g2,?_⟩
   ·simp only [addr_add]
    exact g1
   ·exact ⟨by show 0+(len+n)≤L.cap-kk;omega,by show 0<L.cap-kk;omega⟩
   ·simp [zjH]
   ·have hs:=(hi.closed hj hm (v':=extended vr off (len*inf.size) new)).2
    refine ⟨(zb9 hi.fresh),fun q Lq eq e0=> ?_,hs.keep,hs.nx⟩
    by_cases hq:q=H.nx
    ·omega
    ·rw [zbL _ _ hq,e0] at eq;cases eq
  ·
   obtain ⟨xs,hx1,hx2⟩:=hnew'
   have hal:H.row b=some vr:=by unfold Heap.row;rw [hm];rfl
   obtain ⟨xo,ho1,ho2⟩:=hi.drew.loadCells (P:=P) (off:=off) (k:=len*inf.size) hj hal (by omega)
   obtain ⟨nc,rest,h2,h3,h4⟩:=zez (ty:=ty) (base:=some ⟨L.blk,L.off+off,none⟩) (sl:=len) (sc:=L.cap-kk) h0 h1 hu hx hinf hn (by omega) (by omega) (by omega) hz ho1 hx1
   have hcl:=hi.drew.closed hj hm (v':=extended vr off (len*inf.size) new)
   have hn1:((H.upd b (.cells vr inf.size g (some (H.nx+1)) true true)).alloc (.cells (extended vr off (len*inf.size) new) inf.size g none true true)).m.get H.nx=some (.cells (extended vr off (len*inf.size) new) inf.size g none true true):=by
    rw [Heap.alloc_eq,Heap.upd_eq];exact T.get_set_same _ _ _
   have hxo:=ho2.length
   have hxs:=hx2.length
   rw [Vec.length_list] at hxo
   have hnewR:NewR ρ j (.cells (extended vr off (len*inf.size) new) inf.size g none true true) (.cells (xo.toArray++xs.toArray++rest) e (0,0)) nc:=by
    refine ⟨rfl,rfl,_,e,rfl,?_,⟨?_,fun _=> ?_⟩,fun i hii=> ?_⟩
    ·rw [e1];simp;omega
    ·simp only [Array.size_append,List.size_toArray,hxo,hxs,hne,h3,hzs]
     rw [←Nat.add_mul,←Nat.add_mul]
     exact Nat.mul_le_mul_right _ (by omega)
    ·rw [e1,hne,←Nat.add_mul]
     exact Nat.mul_le_mul_right _ h2
    ·rw [e1] at hii
     by_cases hlt:i<len*inf.size
     ·rw [e2 i hlt]
      obtain ⟨x,q1,q2⟩:=ho2.get i _ (Vec.getElem_list _ vr off i hlt)
      exact ⟨x,by rw [Array.append_assoc,Array.getElem?_append_left (by simp;omega)];simpa using q1,q2⟩
     ·have hi2:i-len*inf.size<new.length:=by omega
      have:=e3 (i-len*inf.size) hi2
      rw [show len*inf.size+(i-len*inf.size)=i by omega] at this
      rw [this]
      obtain ⟨x,q1,q2⟩:=hx2.get (i-len*inf.size) _ (List.getElem?_eq_getElem hi2)
      refine ⟨x,?_,q2⟩
      rw [Array.append_assoc,Array.getElem?_append_right (by simp;omega),Array.getElem?_append_left (by simp;omega)]
      simp only [List.size_toArray,hxo]
      simpa using q1
   obtain ⟨Lg,hLg⟩:=hi.grp b L vr inf.size g none sh hj hm
   have h5:=hcl.1.adopt hn1 hi.fresh hnewR (fun v e g2 cl sh hob=>by cases hob;exact .inr ⟨Lg,hLg⟩)
   refine ⟨_,_,_,h4,⟨_,zaZ _ _ _,?_,?_⟩,h5,?_⟩
   ·exact ⟨by show 0+(len+n)≤nc;omega,by show 0<nc;omega⟩
   ·show _=Value.slice (some ⟨w.heap.size,0,none⟩) (len+n) (nc-0)
    simp
   ·refine ⟨(zb9 hi.fresh),fun q Lq eq e0=> ?_,hcl.2.keep,hcl.2.nx⟩
    by_cases hq:q=H.nx
    ·omega
    ·rw [zbL _ _ hq,e0] at eq;cases eq
 ·split at h
  case h_2=>cases h
  rename_i hle
  have hle:off+(len+n)*inf.size≤vr.n:=Nat.le_of_ble_eq_true hle
  split at h
  case h_2=>cases h
  rename_i H2 hst
  cases h
  obtain ⟨xs,hx1,hx2⟩:=hnew
  obtain ⟨w',g1,g2,g3⟩:=hi.store hst hj hx2 P
  obtain ⟨ob,q1,q2⟩:=hi.obj b L hj
  rw [hm] at q1;cases q1
  obtain ⟨_,_,_,_,_,⟨_,q3⟩,_⟩:=q2.2.2 rfl
  have q3:=q3 hck.2
  have hroom:len+n≤L.cap-kk:=by
   have:(kk+(len+n))*inf.size≤L.cap*inf.size:=by rw [Nat.add_mul,←hof];omega
   have:=Nat.le_of_mul_le_mul_right this hpos
   omega
  refine ⟨_,w',j,zca (ty:=ty) h0 h1 hu hx hinf hn hroom hx1 (w':=w') ?_,⟨L,hj,⟨by show kk+(len+n)≤L.cap;omega,hck.2⟩,rfl⟩,g2,g3⟩
  simp only [addr_add,Nat.add_assoc]
  exact g1
theorem zjU: ∀ {n:Nat} {l m:List AV},takeN n l=some m→m.length=n
 | 0,l,m,h=>by unfold takeN at h;cases h;rfl
 | n+1,[],m,h=>by unfold takeN at h;cases h
 | n+1,a::l,m,h=>by
  unfold takeN at h
  split at h
  ·rename_i hm
   cases h
   simp [zjU hm]
  ·cases h
theorem ziM {sz n:Nat} {x:AV} {l:List AV} (h:cellsA H sz n x=some l):l.length=n*sz:=by
 cases x<;>simp only [cellsA] at h
 case nils=>
  cases n with
  | zero=>cases h;simp
  | succ n=>cases h
 case emp=>
  cases n with
  | zero=>cases h;simp
  | succ n=>cases h
 case str p=>
  split at h
  case h_2=>cases h
  rename_i e
  have e:=zam e
  rw [zjU h,e,Nat.mul_one]
 case sl b off len cap=>
  split at h
  ·cases h
  ·split at h
   ·cases h
   ·split at h
    ·cases h
     rw [Vec.length_list]
     rfl
    ·cases h
 all_goals cases h
def zro (w:World) (b o:Nat) (vals:List Value):Prop:= ∀i v,vals[i]? =some v→w.cell? ⟨b,o+i,none⟩=some v
def zs2 (P:Program) (ρ:Val) (w0:Cx) (t:TypeId) (s:AV) (n:Nat) (xs:List AV) (H:Heap) (k:K):Prop:=
 ∀ (j:J) (w:World) (us:Value) (bb o cap:Nat) (vals:List Value) (ty:TypeId),Inv ρ w0 j H w→R ρ j s us→zro w bb o vals→RL ρ j xs vals→
  ∃ u w',(Builtin.append_ #[t,t] ty #[us,.slice (some ⟨bb,o,none⟩) n cap]).run P w= .ok u w'∧Post ρ w0 j H k u w'
theorem zuU (hi:Inv ρ w0 j H w) {rec:Task→Ob} (happ: ∀t s n xs H k,Ob.den ρ (rec (.app t s n xs H k))→zs2 P ρ w0 t s n xs H k) {ts tx:TypeId} {rest:List TypeId} {s x:AV} {us ux:Value} (hs:R ρ j s us) (hx:R ρ j x ux) {ty:TypeId} (h:Ob.den ρ (appX P rec ts tx rest s x H k)):
  ∃ u w',(Builtin.append_ (ts::tx::rest).toArray ty #[us,ux]).run P w= .ok u w'∧Post ρ w0 j H k u w':=by
 unfold appX at h
 split at h
 case h_2=>exact h.elim
 rename_i sz b off len cap hb he
 split at h
 case h_2=>exact h.elim
 rename_i v hr
 split at h
 case h_2=>exact h.elim
 rename_i hle
 have hle:=Nat.le_of_ble_eq_true hle
 have hb:=zam hb
 subst hb
 obtain ⟨L,hj,_,rfl⟩:=hx
 have hc: ∀i,i<len*sz→ ∃x,w.cell? ⟨L.blk,L.off+off+i,none⟩=some x∧R ρ j (v.get (off+i)) x:=fun i hi'=>by
  have h1:Nat.add off (Nat.mul len sz)=off+len*sz:=rfl
  have:=hi.cell hj hr (off:=off+i) (by omega)
  rwa [←Nat.add_assoc] at this
 let f:Nat→Value:=fun i=>(w.cell? ⟨L.blk,L.off+off+i,none⟩).getD undef
 refine happ _ _ _ _ _ _ h j w us L.blk (L.off+off) _ ((List.range (len*sz)).map f) ty hi hs (fun i u hu=> ?_) (RL.of_get (by simp [Vec.length_list]) fun i a ha=> ?_)
 ·have hi':i<len*sz:=by
   have:=(List.getElem?_eq_some_iff.1 hu).1
   simpa using this
  simp [hi'] at hu
  obtain ⟨x,h1,_⟩:=hc i hi'
  rw [←hu]
  simp only [f,h1,Option.getD_some]
 ·have hi':i<len*sz:=by
   rcases Nat.lt_or_ge i (len*sz) with h'|h'
   ·exact h'
   ·rw [List.getElem?_eq_none (by rw [Vec.length_list];exact h')] at ha;cases ha
  have ha':(v.list off (len*sz))[i]? =some a:=ha
  rw [Vec.getElem_list (len*sz) v off i hi'] at ha'
  obtain ⟨x,h1,h2⟩:=hc i hi'
  refine ⟨x,by simp [hi',f,h1],?_⟩
  rw [←Option.some.inj ha'];exact h2
theorem zrf (hi:Inv ρ w0 j H w) (he:ER ρ j N env a) {rec:Task→Ob} (happ: ∀t s n xs H k,Ob.den ρ (rec (.app t s n xs H k))→zs2 P ρ w0 t s n xs H k) {c:Call} (ho:o.op= .call c) (hc:c.callee= .builtin .append) (h:Ob.den ρ (zjF P rec c.argTypes.toList c.args.toList env H k)):OpOk P ρ w0 j H w a o k Q:=by
 unfold zjF at h
 split at h
 case h_2=>exact h.elim
 rename_i ts tx rest s x hts hargs
 obtain ⟨h0,h1⟩:=zll hts
 obtain ⟨us,ux,hargs',hs,hx⟩:=args_two' he hargs
 cases hcp:zmw P H ts tx s x with
 | none=>
  rw [hcp] at h
  obtain ⟨u,w',g1,g2⟩:=zuU hi happ hs hx (ty:=o.type) h
  obtain ⟨v,H',j',g3,g4,g5,g6⟩:=g2
  exact .value (run_call_builtin' ho hc (fun _ _ _ _=>rfl) (by rw [hargs',show c.argTypes=(ts::tx::rest).toArray by rw [←hts]];exact g1)) ⟨v,H',j',g3,g4,g5,g6⟩
 | some q=>
  obtain ⟨v,H'⟩:=q
  rw [hcp] at h
  suffices hs:AppS P ρ w0 j H w c.argTypes o.type us ux v H' by
   obtain ⟨u,w',j',g1,g2,g3,g4⟩:=hs
   exact .value (run_call_builtin' ho hc (fun _ _ _ _=>rfl) (by rw [hargs'];exact g1)) ⟨v,H',j',g2,g3,g4,h⟩
  unfold zmw at hcp
  split at hcp
  case h_2=>cases hcp
  rename_i bytes sz hel hsrc
  obtain ⟨e,inf,z',hu,hinf,hby,hsz,hpos,hz,hzs⟩:=zmo hel
  subst hby hsz
  split at hcp
  ·cases hcp
  rename_i n hn
  split at hcp
  ·cases hcp
  rename_i new hnew
  obtain ⟨hlen,hkind⟩:=zek (P:=P) (w:=w) hx hn
  have hkind':(∃b n c,ux= .slice b n c)∨ ∃s,ux= .string s:=by
   rcases hkind with ⟨b,c,e⟩|⟨s,e,_⟩
   ·exact .inl ⟨b,_,c,e⟩
   ·exact .inr ⟨s,e⟩
  have hnl:=ziM hnew
  have hc1:=zb3 (P:=P) hi hx hnew
  have hc2:=zb3 (P:=P) hi.drew hx hnew
  split at hcp
  ·rename_i hz0
   split at hcp
   case h_2=>cases hcp
   rename_i hsl
   cases hcp
   have hfit: ∃b n c,us= .slice b n c∧n≤c:=by
    cases s<;>simp only [isSl] at hsl<;>try (cases hsl;done)
    case nils=>exact ⟨_,_,_,hs,Nat.le_refl _⟩
    case sl b off len cap=>
     obtain ⟨L,_,hck,hu⟩:=hs
     refine ⟨_,_,_,hu,?_⟩
     cases cap with
     | known c=>exact hck
     | upto k=>obtain ⟨h1,_⟩:=hck;show len≤L.cap-k;omega
    case emp=>obtain ⟨p,c,hu⟩:=hs;exact ⟨_,_,_,hu,Nat.zero_le _⟩
   obtain ⟨b,sl,sc,rfl,hle⟩:=hfit
   refine ⟨.slice b (sl+0) sc,w,j,zca (ty:=o.type) (xs:= []) h0 h1 hu hsrc hinf hlen (by omega) (zcg hkind') ?_,hs,hi,St.refl j H⟩
   cases b with
   | none=>rfl
   | some p=>rfl
  ·rename_i _ m
   unfold zvG at hcp
   split at hcp
   ·
    have hs:us= .slice none 0 0:=hs
    subst hs
    exact zeC (old:= []) (sl:=0) (sc:=0) hi h0 h1 hu hsrc hinf hlen (by omega) hpos hz hzs (l:=new) (new:=new) (by simp) (by simp) hnl ⟨[],by rfl,rfl⟩ hc2 (by rw [Nat.zero_add];exact hcp)
   ·rename_i b off len cap
    obtain ⟨L,hj,hck,rfl⟩:=hs
    split at hcp
    ·rename_i c'
     split at hcp
     ·rename_i hle
      have hle:len+(m+1)≤c':=Nat.le_of_ble_eq_true hle
      split at hcp
      case h_2=>cases hcp
      rename_i H2 hst
      cases hcp
      obtain ⟨xs,hx1,hx2⟩:=hc1
      obtain ⟨w',g1,g2,g3⟩:=hi.store hst hj hx2 P
      refine ⟨_,w',j,zca (ty:=o.type) h0 h1 hu hsrc hinf hlen hle hx1 (w':=w') ?_,⟨L,hj,hle,rfl⟩,g2,g3⟩
      simp only [addr_add,Nat.add_assoc]
      exact g1
     ·rename_i hle
      have hle: ¬len+(m+1)≤c':=fun hh=>by
       have:=Nat.ble_eq_true_of_le hh
       rw [show Nat.ble (Nat.add len (Nat.succ m)) c'=true from this] at hle;cases hle
      split at hcp
      case h_2=>cases hcp
      rename_i old hold
      have hs':R ρ j (.sl b off len (.known c')) (.slice (some ⟨L.blk,L.off+off,none⟩) len c'):=⟨L,hj,hck,rfl⟩
      exact zeC (old:=old) hi h0 h1 hu hsrc hinf hlen (by show c'<len+(m+1);omega) hpos hz hzs rfl (ziM hold) hnl (zb3 (P:=P) hi.drew hs' hold) hc2 hcp
    ·rename_i kk
     exact zjK hi h0 h1 hu hsrc hinf hlen hpos hz hzs hnl hj hck (Nat.succ_pos m) hc1 hc2 hcp
   ·cases hcp
end
end Go.Dw
namespace Go.Dw
section
variable {P:Program} {ρ:Val} {w0:Cx} {j:J} {H:Heap} {w:World} {N:Nat} {env:T AV} {a:Act} {o:Oper} {k:K} {Q:Exit→Act→World→Prop}
end
end Go.Dw
namespace Go.Dw
def Enters (P : Program) (f : FuncId) : Prop := ∃ fn c, P.funcs[f]? = some fn ∧ fn.body = some c ∧ fn.name ≠ "runtime.NumGoroutine"
def zn7 (P:Program) (ρ:Val) (w0:Cx) (f:FuncId) (args:List AV) (H:Heap) (k:K):Prop:=
 ∀ (j:J) (w:World) (vals:List Value),Inv ρ w0 j H w→RL ρ j args vals→Calls P f vals.toArray w (fun e w'=> ∃u,e= .returned u∧Post ρ w0 j H k u w')
def exOf:Ex→Exit
 | .normal=> .normal
 | .exit id=> .exit id
 | .ret=> .ret
def CodeQ (ρ:Val) (w0:Cx) (j:J) (H:Heap) (N:Nat) (k:KC) (ex:Exit) (a:Act) (w:World):Prop:=
 ∃ x env' H' j',ex=exOf x∧ER ρ j' N env' a∧Inv ρ w0 j' H' w∧St j H j' H'∧Ob.den ρ (k x env' H')
def OpsE (ρ:Val) (w0:Cx) (j:J) (H:Heap) (N:Nat) (k:T AV→Heap→Ob) (a:Act) (w:World):Prop:=
 ∃ env' H' j',ER ρ j' N env' a∧Inv ρ w0 j' H' w∧St j H j' H'∧Ob.den ρ (k env' H')
structure Good (P:Program) (ρ:Val) (w0:Cx) (n:Nat) (rec:Task→Ob):Prop where
 app: ∀t s n xs H k,Ob.den ρ (rec (.app t s n xs H k))→zs2 P ρ w0 t s n xs H k
 call: ∀f args H k,Ob.den ρ (rec (.call f args H k))→Enters P f∧zn7 P ρ w0 f args H k
 code: ∀c p N env H k,zbb P p=c→Ob.den ρ (rec (.code c p N env H k))→ ∀j a w,Inv ρ w0 j H w→ER ρ j N env a→c.wp P (CodeQ ρ w0 j H N k) a w
 loop: ∀c p N env H k,zbb P p= .loop c→Ob.den ρ (rec (.code (.loop c) (2::p) N env H k))→ ∀j a w,Inv ρ w0 j H w→ER ρ j N env a→Code.rounds P c (CodeQ ρ w0 j H N k) n a w
 ops: ∀all l N env H k,Ob.den ρ (rec (.ops all l N env H k))→ ∀j a w Q,Inv ρ w0 j H w→ER ρ j N env a→(∀a' w',OpsE ρ w0 j H N k a' w'→Q Exit.normal a' w')→wpList P all Q l a w
section
variable {P:Program} {ρ:Val} {w0:Cx} {j:J} {H:Heap} {w:World} {N:Nat} {env:T AV} {a:Act} {o:Oper} {k:K} {Q:Exit→Act→World→Prop} {rec:Task→Ob} {n:Nat}
theorem zaW (env:T AV) (t u:Nat) (v:AV):zau (env.set t v) u=if u=t then v else zau env u:=by
 unfold zau
 rw [T.get_set]
 by_cases h:u=t
 ·rw [if_pos h,if_pos h]
 ·rw [if_neg h,if_neg h]
theorem ER.same (he:ER ρ j N env a) {t:Nat} {v:AV} (ht:t<N) (hv:R ρ j v (a.tmps.getD t undef)):ER ρ j N (env.set t v) a:=by
 refine ⟨he.size,he.le,fun u hu=> ?_,?_⟩
 ·rw [zaW]
  split
  ·rename_i e;rw [e];exact .inr hv
  ·exact he.get u hu
 ·rw [zaW,if_neg (by have:=he.le;omega)]
  exact he.dfr
theorem ER.put (he:ER ρ j N env a) {d:Nat} {v:AV} {u:Value} (hd:d<N) (hv:R ρ j v u):ER ρ j N (env.set d v) (a.put (some d) u):=by
 have hsz:=he.size
 refine ⟨by simp [Act.put,he.size],he.le,fun t ht=> ?_,?_⟩
 ·rw [zaW]
  split
  ·rename_i e
   subst e
   simp only [Act.put,Array.getD_eq_getD_getElem?,Array.getElem?_setIfInBounds_self]
   rw [if_pos (by omega)]
   exact .inr hv
  ·rename_i e
   simp only [Act.put,Array.getD_eq_getD_getElem?,Array.getElem?_setIfInBounds_ne (Ne.symm e)]
   have:=he.get t ht
   rwa [Array.getD_eq_getD_getElem?] at this
 ·rw [zaW,if_neg (by have:=he.le;omega)]
  exact he.dfr
theorem zid (he:ER ρ j N env a) {dst:Option Tmp} {v:AV} {u:Value} {kk:T AV→Ob} (hv:R ρ j v u) (h:Ob.den ρ (putA dst N env v kk)):
  ∃ env',ER ρ j N env' (a.put dst u)∧Ob.den ρ (kk env'):=by
 unfold putA at h
 split at h
 ·exact ⟨env,he,h⟩
 ·rename_i d
  split at h
  ·rename_i hb
   rw [Nat.blt_eq] at hb
   exact ⟨_,he.put hb hv,h⟩
  ·exact h.elim
theorem zgV (he:ER ρ j N env a) {t:Nat} {b:SB} (h:env.get t=some (.bool b)):t≠zaS∧a.tmps[t]? =some (.bool (b.den ρ)):=by
 have hne:t≠zaS:=fun e=>by
  subst e
  have:=he.dfr
  unfold zau at this
  rw [h] at this
  cases hd:a.defers with
  | nil=>rw [hd] at this;cases this
  | cons d ds=>rw [hd] at this;obtain ⟨_,_,_,_,e,_⟩:=this;cases e
 refine ⟨hne,?_⟩
 have:=(he.get t hne).resolve_left (by unfold zau;rw [h];simp)
 unfold zau at this
 rw [h] at this
 simp only [R,Array.getD_eq_getD_getElem?] at this
 cases ht:a.tmps[t]? with
 | none=>rw [ht] at this;simp [undef] at this
 | some x=>rw [ht] at this;simp at this;rw [this]
def GOk (all:Array Oper) (env:T AV) (a:Act) (o:Oper):G→Prop
 | .yes=>Region.wanted o (yielded all a.tmps)=true
 | .no=>Region.wanted o (yielded all a.tmps)=false
 | .test t b _=>env.get t=some (.bool b)
 | .none=>True
theorem zhu (he:ER ρ j N env a) (all:Array Oper) (o:Oper):GOk all env a o (zb0 all env o):=by
 unfold zb0
 split
 ·rename_i hg;show Region.wanted o _=true;unfold Region.wanted;rw [hg]
 rename_i i want hg
 have hw:Region.wanted o (yielded all a.tmps)=(yielded all a.tmps i==some want):=by unfold Region.wanted;rw [hg]
 split
 ·rename_i hi;show Region.wanted o _=false;rw [hw];simp [yielded,hi]
 rename_i oj hi
 split
 ·rename_i hd;show Region.wanted o _=false;rw [hw];simp [yielded,hi,hd]
 rename_i t hd
 have undef':(∀b,a.tmps[t]? ≠some (.bool b))→Region.wanted o (yielded all a.tmps)=false:=by
  intro hb
  rw [hw]
  unfold yielded
  rw [hi]
  simp only [Option.bind_some,hd]
  cases hx:a.tmps[t]? with
  | none=>rfl
  | some v=>cases v<;>first|rfl|exact absurd hx (hb _)
 have val: ∀b,env.get t=some (.bool b)→Region.wanted o (yielded all a.tmps)=(some (b.den ρ)==some want):=fun b hb=>by
  have:=(zgV he hb).2
  rw [hw]
  unfold yielded
  rw [hi]
  simp only [Option.bind_some,hd,this]
 have nobn: ∀c w,zau env t= .nun c w→ ∀b,a.tmps[t]? ≠some (.bool b):=fun c w h0 b hb=>by
  by_cases hne:t=zaS
  ·rw [hne,Array.getElem?_eq_none (by rw [he.size];exact he.le)] at hb;cases hb
  ·have:=(he.get t hne).resolve_left (by rw [h0];simp)
   rw [h0,Array.getD_eq_getD_getElem?,hb] at this
   have h1:=this.1
   cases h1
 have nob:zau env t= .tup []→ ∀b,a.tmps[t]? ≠some (.bool b):=fun h0 b hb=>by
  by_cases hne:t=zaS
  ·rw [hne,Array.getElem?_eq_none (by rw [he.size];exact he.le)] at hb;cases hb
  ·have:=(he.get t hne).resolve_left (by rw [h0];simp)
   rw [h0,Array.getD_eq_getD_getElem?,hb] at this
   obtain ⟨m,e,_⟩:=this
   cases e
 split
 ·rename_i h0
  exact undef' (nob (by unfold zau;rw [h0];rfl))
 ·rename_i h0
  have:=val _ h0
  cases want
  ·show Region.wanted o _=false;rw [this];rfl
  ·show Region.wanted o _=true;rw [this];rfl
 ·rename_i h0
  have:=val _ h0
  cases want
  ·show Region.wanted o _=true;rw [this];rfl
  ·show Region.wanted o _=false;rw [this];rfl
 ·show env.get t=some _;assumption
 ·rename_i h0
  exact undef' (nob (by unfold zau;rw [h0]))
 ·rename_i c w h0
  exact undef' (nobn c w (by unfold zau;rw [h0]))
 ·trivial
theorem zar {f:FuncId} (h:Enters P f) (args:Array Value):(callFunc f args).run P w= .ok (.enter f args) w:=by
 obtain ⟨fn,c,h1,h2,h3⟩:=h
 simp [callFunc,h1,h2,h3]
theorem zq6 {g:FuncId} {args:List AV} {vals:List Value} (hi:Inv ρ w0 j H w) (hv:RL ρ j args vals) (hen:Enters P g) (hc:zn7 P ρ w0 g args H k) (hx:(execOp a.eval o).run P w=(callFunc g vals.toArray).run P w):OpOk P ρ w0 j H w a o k Q:=by
 unfold OpOk Oper.wp
 rw [hx,zar hen,Oper.upon_enter]
 refine Calls.mono (hc j w vals hi hv) fun e w' he=> ?_
 obtain ⟨u,rfl,hp⟩:=he
 exact ⟨u,rfl,hp⟩
theorem zsT (hg:Good P ρ w0 n rec) (hi:Inv ρ w0 j H w) (he:ER ρ j N env a) {c:Call} (ho:o.op= .call c) {f:Operand} (hc:c.callee= .value f) (h:Ob.den ρ (znO rec f c.args.toList env H k)):OpOk P ρ w0 j H w a o k Q:=by
 unfold znO at h
 split at h
 case h_2=>exact h.elim
 rename_i g first cap args hf hargs
 have hh:Ob.den ρ (rec (.call g (first++(args++cap)) H k)):=by
  split at h
  ·simpa using h
  ·exact h
 obtain ⟨l,m,hfv,hl,hm⟩:=zah he hf
 have ha:=zjJ he hargs
 obtain ⟨hen,hcall⟩:=hg.call _ _ _ _ hh
 refine zq6 hi (hl.append (ha.append hm)) hen hcall ?_
 simp only [execOp,ho,resolve,hc,Sem.run_bind,hfv,Deferred.ofValue,Sem.run_pure,Result.andThen_ok,invoke]
 congr 2
 apply Array.ext'
 simp
theorem zoi {t:TypeId} {name:String} {g:FuncId} {n:Nat} {v:Value} (h:zl2 P t name=some g):(method (n+1) t v name).run P w= .ok (g,v) w:=by
 unfold zl2 at h
 split at h
 ·cases h
 rename_i inf hinf
 split at h
 ·cases h
 rename_i m hm
 have hpath: ∀l,m.path.toList=l→l= []→m.path= #[]:=fun l e e'=>by apply Array.ext';rw [e,e']
 split at h
 ·rename_i f hp hf hu
  cases h
  unfold method
  simp only [typeInfo,Sem.run_bind,run_program,Result.andThen_ok,hinf,Sem.run_pure,hm,hp,follow,hf,receiverAt,run_underlying hu,Place.get]
 ·cases h
 ·rename_i f d hne hp hf hu
  cases h
  unfold method
  simp only [typeInfo,Sem.run_bind,run_program,Result.andThen_ok,hinf,Sem.run_pure,hm,hp,follow,hf,receiverAt,run_underlying hu,Place.get]
 ·cases h
theorem zsU (hg:Good P ρ w0 n rec) (hi:Inv ρ w0 j H w) (he:ER ρ j N env a) {c:Call} (ho:o.op= .call c) {r:Operand} {name:String} (hc:c.callee= .invoke r name) (h:Ob.den ρ (znP P rec r name c.args.toList env H k)):OpOk P ρ w0 j H w a o k Q:=by
 unfold znP at h
 split at h
 case h_2=>exact h.elim
 rename_i t v args hr hargs
 split at h
 case h_2=>exact h.elim
 rename_i g hmeth
 obtain ⟨y,hrv,hy⟩:=zah he hr
 have ha:=zjJ he hargs
 obtain ⟨hen,hcall⟩:=hg.call _ _ _ _ h
 refine zq6 hi (.cons hy ha) hen hcall ?_
 have hm: ∀n,(method (P.types.size+Made.depth) t y name).run P n= .ok (g,y) n:=fun n=>zoi (n:=P.types.size+99) hmeth
 simp only [execOp,ho,resolve,hc,Sem.run_bind,hrv,Sem.run_pure,Result.andThen_ok,invoke]
 have e0:(#[Value.iface t y]++c.args.map a.eval)[0]? =some (.iface t y):=by rw [Array.getElem?_append_left (by show 0<1;omega)];rfl
 have e1:(#[Value.iface t y]++c.args.map a.eval).extract 1 (#[Value.iface t y]++c.args.map a.eval).size=c.args.map a.eval:=by
  apply Array.ext';simp [List.take_of_length_le]
 rw [e0]
 simp only [callMethod,Sem.run_bind,run_program,Result.andThen_ok,hm,e1]
 congr 2
 apply Array.ext'
 simp
theorem zoQ (hg:Good P ρ w0 n rec) (hi:Inv ρ w0 j H w) (he:ER ρ j N env a) {c:Call} (ho:o.op= .call c) {b:Builtin} (hc:c.callee= .builtin b) (h:Ob.den ρ (zgK P rec b c env H k)):OpOk P ρ w0 j H w a o k Q:=by
 cases b<;>simp only [zgK] at h<;>first
  | exact zrf hi he hg.app ho hc h
  | exact zuL hi he ho hc h
  | exact zqO hi he ho hc h
  | exact h.elim
theorem znw (hg:Good P ρ w0 n rec) (hi:Inv ρ w0 j H w) (he:ER ρ j N env a) (h:Ob.den ρ (heavy P rec o.op env H k)):OpOk P ρ w0 j H w a o k Q:=by
 cases ho:o.op<;>rw [ho] at h<;>simp only [heavy] at h<;>try (exact h.elim)
 case insert=>exact zkF hi he (.inr ho) h
 case store=>exact zrz hi he ho h
 case mapUpdate=>exact zkF hi he (.inl ho) h
 case mapEntry=>exact zl6 hi he ho h
 case entryStore=>exact zjy hi he ho h
 case call c=>
  unfold zuK at h
  cases hc:c.callee<;>rw [hc] at h
  case value f=>exact zsT hg hi he ho hc h
  case invoke r name=>exact zsU hg hi he ho hc h
  case builtin b=>exact zoQ hg hi he ho hc h
def zuX (ρ:Val) (w0:Cx) (j:J) (H:Heap) (N:Nat) (dst:Option Tmp) (k:K3) (a':Act) (w':World):Prop:=
 ∃ env1 v a1 u H' j',a'=a1.put dst u∧ER ρ j' N env1 a1∧R ρ j' v u∧Inv ρ w0 j' H' w'∧St j H j' H'∧Ob.den ρ (k env1 v H')
theorem OpOk.post3 {k:K3} (he:ER ρ j N env a) (h:OpOk P ρ w0 j H w a o (k env) Q):o.wp P a w (zuX ρ w0 j H N o.dst k) Q:=by
 refine Oper.wp_mono (fun a' w' hp=> ?_) h
 obtain ⟨u,rfl,v,H',j',h1,h2,h3,h4⟩:=hp
 exact ⟨env,v,a,u,H',j',rfl,he.mono h3.sub,h1,h2,h3,h4⟩
theorem zsJ (hi:Inv ρ w0 j H w) (he:ER ρ j N env a) {k:K3} (h:Ob.den ρ (zmq rec o env H k)):o.wp P a w (zuX ρ w0 j H N o.dst k) Q:=by
 unfold zmq at h
 split at h
 case h_2=>exact h.elim
 rename_i c ho
 split at h
 case h_2=>exact h.elim
 rename_i f hc
 split at h
 case h_2=>exact h.elim
 rename_i g first cap args hf hargs
 obtain ⟨l,m,hfv,hl,hm⟩:=zah he hf
 have ha:=zjJ he hargs
 have hx:(execOp a.eval o).run P w= .ok (.defer { target:= .fn (.func g) m.toArray,args:=l.toArray++c.args.map a.eval }) w:=by
  simp only [execOp,ho,resolve,hc,Sem.run_bind,hfv,Deferred.ofValue,Sem.run_pure,Result.andThen_ok]
 unfold Oper.wp
 rw [hx,Oper.upon_defer]
 refine ⟨_,_,_,undef,H,j,rfl,⟨he.size,he.le,fun t ht=> ?_,?_⟩,zcp,hi,St.refl j H,h⟩
 ·rw [zaW,if_neg ht]
  exact he.get t ht
 ·rw [zaW,if_pos rfl]
  refine ⟨g,_,zau env zaS,m.toArray,rfl,rfl,?_,he.dfr⟩
  have:(l.toArray++c.args.map a.eval++m.toArray).toList=l++((c.args.map a.eval).toList++m):=by simp
  rw [this]
  exact hl.append (ha.append hm)
theorem zuF (hg:Good P ρ w0 n rec) (hi:Inv ρ w0 j H w) (he:ER ρ j N env a) {k:K3} (h:Ob.den ρ (doOp P rec o env H k)):o.wp P a w (zuX ρ w0 j H N o.dst k) Q:=by
 unfold doOp at h
 cases hc:zfN o.op<;>rw [hc] at h
 case light=>exact (zst hi he (k:=k env) h).post3 he
 case alloc=>exact (zsY hi he (k:=k env) h).post3 he
 case heavy=>exact (znw hg hi he (k:=k env) h).post3 he
 case defr=>exact zsJ hi he h
theorem OpsE.later {j':J} {H':Heap} {k:T AV→Heap→Ob} {a':Act} {w':World} (hs:St j H j' H') (h:OpsE ρ w0 j' H' N k a' w'):OpsE ρ w0 j H N k a' w':=by
 obtain ⟨env',H2,j2,h1,h2,h3,h4⟩:=h
 exact ⟨env',H2,j2,h1,h2,hs.trans h3,h4⟩
theorem zvq (hg:Good P ρ w0 n rec) {all:Array Oper} {l:List Oper} {k:T AV→Heap→Ob} (h:Ob.den ρ (zlB P rec all l N env H k)) (hi:Inv ρ w0 j H w) (he:ER ρ j N env a)
  (hQ: ∀a' w',OpsE ρ w0 j H N k a' w'→Q Exit.normal a' w'):wpList P all Q l a w:=by
 unfold zlB at h
 split at h
 ·exact hQ a w ⟨env,H,j,he,hi,St.refl j H,h⟩
 ·rename_i o rest
  have hgu:=zhu he all o
  unfold wpList
  split at h
  ·rename_i hy
   rw [hy] at hgu
   have hgu:Region.wanted o (yielded all a.tmps)=true:=hgu
   rw [if_pos hgu]
   refine .inl (Oper.wp_mono (fun a' w' hp=> ?_) (zuF hg hi he h))
   obtain ⟨env1,v,a1,u,H',j',rfl,h1,h2,h3,h4,h5⟩:=hp
   obtain ⟨env2,h6,h7⟩:=zid h1 h2 h5
   exact hg.ops _ _ _ _ _ _ h7 j' _ _ Q h3 h6 fun a' w' hh=>hQ _ _ (hh.later h4)
  ·rename_i hy
   rw [hy] at hgu
   have hgu:Region.wanted o (yielded all a.tmps)=false:=hgu
   rw [hgu,if_neg (by simp)]
   obtain ⟨env2,h6,h7⟩:=zid he zcp h
   exact hg.ops _ _ _ _ _ _ h7 j _ _ Q hi h6 hQ
  ·rename_i t b _ hy
   rw [hy] at hgu
   split at h
   case h_2=>exact h.elim
   rename_i hb
   rw [Nat.blt_eq] at hb
   have hgu:env.get t=some (.bool b):=hgu
   obtain ⟨hne,htm⟩:=zgV he hgu
   have hval:a.tmps.getD t undef= .bool (b.den ρ):=by rw [Array.getD_eq_getD_getElem?,htm];rfl
   cases hbv:b.den ρ with
   | true=>exact hg.ops _ (o::rest) _ _ _ _ (h.1 hbv) j _ _ Q hi (he.same hb (by rw [hval,hbv];rfl)) hQ
   | false=>exact hg.ops _ (o::rest) _ _ _ _ (h.2 hbv) j _ _ Q hi (he.same hb (by rw [hval,hbv];rfl)) hQ
  ·exact h.elim
theorem CodeQ.later {j':J} {H':Heap} {k:KC} {ex:Exit} {a':Act} {w':World} (hs:St j H j' H') (h:CodeQ ρ w0 j' H' N k ex a' w'):CodeQ ρ w0 j H N k ex a' w':=by
 obtain ⟨x,env',H2,j2,h0,h1,h2,h3,h4⟩:=h
 exact ⟨x,env',H2,j2,h0,h1,h2,hs.trans h3,h4⟩
theorem zru (hg:Good P ρ w0 n rec) {b:Code} {p:List Nat} (hb:zbb P p=b) {k:KC} {ex:Exit} {a':Act} {w':World} (h:CodeQ ρ w0 j H N (zrv rec b p N k) ex a' w'):Exit.then (b.wp P (CodeQ ρ w0 j H N k)) (CodeQ ρ w0 j H N k) ex a' w':=by
 obtain ⟨x,env',H2,j2,rfl,h1,h2,h3,h4⟩:=h
 cases x with
 | normal=>exact wp_mono (hg.code _ _ _ _ _ _ hb h4 j2 _ _ h2 h1) fun e a w hh=>hh.later h3
 | exit id=>exact ⟨.exit id,env',H2,j2,rfl,h1,h2,h3,h4⟩
 | ret=>exact ⟨.ret,env',H2,j2,rfl,h1,h2,h3,h4⟩
theorem zg3 {c:Code} {Q Q':Exit→Act→World→Prop} (hq: ∀e a w,Q e a w→Q' e a w): ∀(n:Nat) (a:Act) (w:World),Code.rounds P c Q n a w→Code.rounds P c Q' n a w
 | 0,_,_,h=>h
 | n+1,_,_,h=>wp_mono h fun e a w hh=>by
   cases e with
   | normal=>exact zg3 hq n a w hh
   | _=>exact hq _ _ _ hh
theorem zbn {p:List Nat} {i:Nat} {c:Code} (h:zbb P p=c) (hc:c≠ .skip):zbb P (i::p)=zae i c:=by
 cases p with
 | nil=>exact absurd h.symm hc
 | cons q l=>rw [←h];rfl
theorem zl8 {p:List Nat} {c:Code} (h:zbb P p= .loop c):zbb P (zej p)= .loop c:=by
 unfold zej
 split
 ·rename_i i q
  have h:zae 2 (zbb P (i::q))= .loop c:=h
  cases hx:zbb P (i::q)<;>rw [hx] at h<;>simp only [zae] at h<;>first|exact h|cases h
 ·exact h
def zi3 (ρ:Val) {α:Type}:List (SB×α)→Option α
 | [] => none
 | e::l=>match e.1 with
  | .lit true=>some e.2
  | b=>if b.den ρ=true then some e.2 else zi3 ρ l
theorem zhw {k:KC}: ∀ {l:LAns} {x:Ex} {env':T AV} {H':Heap},Ob.den ρ (zqF k l)→zi3 ρ l=some (x,env',H')→Ob.den ρ (k x env' H')
  | [], _,_,_,h,_=>h.elim
  | (b,x0,e0,H0)::l,x,env',H',h,hp=>by
    unfold zqF at h
    unfold zi3 at hp
    split at h
    · cases hp;exact h
    · rename_i hb
      split at hp
      · rename_i h1;exact absurd h1 hb
      · simp only at hp
        split at hp
        · rename_i ht;cases hp;exact h.1 ht
        · rename_i ht;exact zhw (h.2 (by simpa using ht)) hp
def zrp (P:Program) (ρ:Val) (w0:Cx) (aorc:AOrc):Prop:=
 ∀ t s n xs H q,aorc t s n xs H=some q→ ∀k,Ob.den ρ (k q.1 q.2)→zs2 P ρ w0 t s n xs H k
theorem zvt:zrp P ρ w0 noA:=fun _ _ _ _ _ _ h=>by cases h
def zn4 (P:Program) (ρ:Val) (w0:Cx) (lorc:LOrc):Prop:=
 (∀ p N env H,lorc (2::p) N env H=none)∧ ∀p N env H l c,zbb P p=c→lorc p N env H=some l→ ∀j a w,Inv ρ w0 j H w→ER ρ j N env a→
  c.wp P (fun ex a' w'=> ∃x env' H' j',zi3 ρ l=some (x,env',H')∧ex=exOf x∧ER ρ j' N env' a'∧Inv ρ w0 j' H' w'∧St j H j' H') a w
theorem zvs:zn4 P ρ w0 noL:=⟨fun _ _ _ _=>rfl,fun _ _ _ _ _ _ _ h=>by cases h⟩
theorem zqh (hg:Good P ρ w0 n rec) {c:Code} {p:List Nat} {k:KC} (hc:zbb P p= .loop c) (h:Ob.den ρ (rec (.code c (0::zej p) N env H (zrv rec (.loop c) (2::zej p) N k)))) (hi:Inv ρ w0 j H w) (he:ER ρ j N env a):Code.rounds P c (CodeQ ρ w0 j H N k) (n+1) a w:=by
 have hb:=zl8 hc
 refine wp_mono (hg.code _ _ _ _ _ _ (by rw [zbn hb (by simp)];rfl) h j a w hi he) fun ex a' w' hh=> ?_
 obtain ⟨x,env',H2,j2,rfl,h1,h2,h3,h4⟩:=hh
 cases x with
 | normal=>exact zg3 (fun e a w hh=>hh.later h3) n _ _ (hg.loop _ _ _ _ _ _ hb h4 j2 _ _ h2 h1)
 | exit id=>exact ⟨.exit id,env',H2,j2,rfl,h1,h2,h3,h4⟩
 | ret=>exact ⟨.ret,env',H2,j2,rfl,h1,h2,h3,h4⟩
def zn3 (P:Program) (ρ:Val) (w0:Cx) (rec:Task→Ob):Prop:=
 ∀ (id:Nat) (ops:Array Oper) (N:Nat) (env:T AV) (H:Heap) (k:KC) (j:J) (a:Act) (w:World),Ob.den ρ (zlH P id ops true rec [] N env H k)→Inv ρ w0 j H w→ER ρ j N env a→(Code.region id ops true).wp P (CodeQ ρ w0 j H N k) a w
theorem zuN {lorc:LOrc} (hlo:zn4 P ρ w0 lorc) (hg:Good P ρ w0 n rec) (hp:zn3 P ρ w0 rec) {c:Code} {p:List Nat} {k:KC} (hc:zbb P p=c) (h:Ob.den ρ (ziU P lorc rec c p N env H k)) (hi:Inv ρ w0 j H w) (he:ER ρ j N env a):c.wp P (CodeQ ρ w0 j H N k) a w:=by
 cases c<;>simp only [ziU] at h<;>try (exact h.elim)
 case skip=>exact wp_skip ⟨.normal,env,H,j,rfl,he,hi,St.refl j H,h⟩
 case region id ops draw=>
  cases draw with
  | false=>
   refine wp_region_list (hg.ops _ _ _ _ _ _ h j a w _ hi he fun a' w' hh=> ?_)
   obtain ⟨env',H',j',h1,h2,h3,h4⟩:=hh
   exact ⟨.normal,env',H',j',rfl,h1,h2,h3,h4⟩
  | true=>exact hp _ _ _ _ _ _ _ _ _ h hi he
 case seq x y=>
  unfold zvd at h
  split at h
  ·rename_i l hl
   refine wp_mono (hlo.2 _ _ _ _ _ _ hc hl j a w hi he) fun ex a' w' hh=> ?_
   obtain ⟨x,env',H',j',h1,h2,h3,h4,h5⟩:=hh
   exact ⟨x,env',H',j',h2,h3,h4,h5,zhw h h1⟩
  unfold sSeq at h
  exact wp_seq (wp_mono (hg.code _ _ _ _ _ _ (by rw [zbn hc (by simp)];rfl) h j a w hi he) fun ex a' w' hh=>zru hg (by rw [zbn hc (by simp)];rfl) hh)
 case cond c x y=>
  unfold zvf at h
  split at h
  case h_2=>exact h.elim
  rename_i s hs
  have hv:=zah he hs
  split at h
  ·exact wp_cond_true hv (hg.code _ _ _ _ _ _ (by rw [zbn hc (by simp)];rfl) h j a w hi he)
  ·exact wp_cond_false hv (hg.code _ _ _ _ _ _ (by rw [zbn hc (by simp)];rfl) h j a w hi he)
  ·split at h
   case h_2=>exact h.elim
   rename_i t
   split at h
   case h_2=>exact h.elim
   rename_i hb
   rw [Nat.blt_eq] at hb
   have hval:a.tmps.getD t undef= .bool (s.den ρ):=hv
   refine wp_cond_split hv (fun hbv=> ?_) (fun hbv=> ?_)
   ·exact hg.code _ _ _ _ _ _ (by rw [zbn hc (by simp)];rfl) (h.1 hbv) j a w hi (he.same hb (by rw [hval,hbv];rfl))
   ·exact hg.code _ _ _ _ _ _ (by rw [zbn hc (by simp)];rfl) (h.2 hbv) j a w hi (he.same hb (by rw [hval,hbv];rfl))
 case block id c=>
  refine wp_block (wp_mono (hg.code _ _ _ _ _ _ (by rw [zbn hc (by simp)];rfl) h j a w hi he) fun ex a' w' hh=> ?_)
  obtain ⟨x,env',H2,j2,rfl,h1,h2,h3,h4⟩:=hh
  cases x with
  | normal=>exact ⟨.normal,env',H2,j2,rfl,h1,h2,h3,h4⟩
  | exit id'=>
   unfold ztq at h4
   show if id'=id then _ else _
   simp only at h4
   split at h4
   ·rename_i hb
    rw [if_pos (zam hb)]
    exact ⟨.normal,env',H2,j2,rfl,h1,h2,h3,h4⟩
   ·rename_i hb
    rw [if_neg (fun e=>by subst e;rw [Nat.beq_refl] at hb;cases hb)]
    exact ⟨.exit id',env',H2,j2,rfl,h1,h2,h3,h4⟩
  | ret=>exact ⟨.ret,env',H2,j2,rfl,h1,h2,h3,h4⟩
 case loop c=>
  unfold zrH at h
  split at h
  ·rename_i l hl
   refine wp_mono (hlo.2 _ _ _ _ _ _ hc hl j a w hi he) fun ex a' w' hh=> ?_
   obtain ⟨x,env',H',j',h1,h2,h3,h4,h5⟩:=hh
   exact ⟨x,env',H',j',h2,h3,h4,h5,zhw h h1⟩
  ·exact wp_loop_rounds (n+1) (zqh hg hc h hi he)
 case exit id=>exact wp_exit ⟨.exit id,env,H,j,rfl,he,hi,St.refl j H,h⟩
 case label l=>exact wp_label ⟨.normal,env,H,j,rfl,he,hi,St.refl j H,h⟩
 case ret=>exact wp_ret ⟨.ret,env,H,j,rfl,he,hi,St.refl j H,h⟩
def zpy (tmps:Array Value):ResultVar→Sem Value
 | .tmp t=>pure (tmps.getD t undef)
 | .cell b t=>do loadVar t (←asAddr (tmps.getD b undef))
theorem zol (fn:Func) (tmps:Array Value):results fn tmps=(do let vs←fn.results.mapM (zpy tmps);pure (if h:vs.size=1 then vs[0] else .tuple vs)):=by
 unfold results
 congr 2
theorem zd8 (hi:Inv ρ w0 j H w) (he:ER ρ j N env a): ∀ {l:List ResultVar} {vs:List AV},zdf P H env l=some vs→
    ∃ us:List Value,(l.mapM (zpy a.tmps)).run P w= .ok us w∧RL ρ j vs us
  | [], vs,h=>by
    unfold zdf at h
    cases h
    exact ⟨[],by simp,rfl⟩
  | .tmp t::l,vs,h=>by
    unfold zdf at h
    split at h
    case h_2=>cases h
    rename_i v m hv hm
    cases h
    obtain ⟨us,h1,h2⟩:=zd8 hi he hm
    have h3:=zah he hv
    refine ⟨a.tmps.getD t undef::us,?_,.cons h3 h2⟩
    simp only [List.mapM_cons,zpy,Sem.run_bind,Sem.run_pure,Result.andThen_ok,h1]
  | .cell b t::l,vs,h=>by
    unfold zdf at h
    split at h
    case h_2=>cases h
    rename_i v m hv hm
    cases h
    obtain ⟨us,h1,h2⟩:=zd8 hi he hm
    obtain ⟨u, h3, h4⟩ := zeI (o := { dst := none, op := .load t (.tmp b), type := t, pos := "", after := #[], guard := none }) hi he hv
    have h5:(do loadVar t (←asAddr (a.tmps.getD b undef)):Sem Value).run P w= .ok u w:=by
      have h3:(Instr.loadAt t (a.tmps.getD b undef)).run P w= .ok u w:=by
        simp only [execOp,Sem.run_bind] at h3
        change ((Instr.loadAt t (a.tmps.getD b undef)).run P w).andThen _=_ at h3
        cases hr:(Instr.loadAt t (a.tmps.getD b undef)).run P w with
        | ok u' w'=>rw [hr] at h3;simp only [Result.andThen_ok,Sem.run_pure] at h3;cases h3;rfl
        | halt x w'=>rw [hr] at h3;cases h3
      generalize a.tmps.getD b undef=q at h3 ⊢
      unfold Instr.loadAt at h3
      cases q<;>first|(simp [Instr.sureAddr,stuck,Sem.run_bind,Sem.run,Result.andThen] at h3;done)|skip
      rename_i p
      cases p with
      | none=>simp [Instr.sureAddr,stuck,Sem.run_bind,Sem.run,Result.andThen] at h3
      | some p=>simpa [Instr.sureAddr,asAddr,Sem.run_bind] using h3
    refine ⟨u::us,?_,.cons h4 h2⟩
    have h5:(zpy a.tmps (.cell b t)).run P w= .ok u w:=h5
    simp only [List.mapM_cons,Sem.run_bind,h5,Sem.run_pure,Result.andThen_ok,h1]
theorem zpw (hi:Inv ρ w0 j H w) (he:ER ρ j N env a) {fn:Func} {v:AV} (h:zlN P fn H env=some v): ∃u,(results fn a.tmps).run P w= .ok u w∧R ρ j v u:=by
 unfold zlN at h
 have key: ∀us:List Value,(fn.results.toList.mapM (zpy a.tmps)).run P w= .ok us w→
   (results fn a.tmps).run P w= .ok (if h:us.length=1 then us[0] else .tuple us.toArray) w:=fun us hu=>by
  rw [zol,Array.mapM_eq_mapM_toList,map_eq_pure_bind]
  simp only [Sem.run_bind,hu,Result.andThen_ok,Sem.run_pure]
  simp
 split at h
 ·rename_i v' hv
  cases h
  obtain ⟨us,h1,h2⟩:=zd8 hi he hv
  obtain ⟨u,m,rfl,h3,h4⟩:=h2
  have e:m= []:=h4
  subst e
  exact ⟨u,by rw [key _ h1];rfl,h3⟩
 ·rename_i l hne hv
  cases h
  obtain ⟨us,h1,h2⟩:=zd8 hi he hv
  have hlen:=h2.length
  refine ⟨_,key _ h1,?_⟩
  rw [dif_neg (fun e=>by
   rw [hlen] at e
   match l,e with
   | [x],_=>exact hne x rfl)]
  exact ⟨us,rfl,h2⟩
 ·cases h
theorem zd1: ∀(l:List AV) (i:Nat) (env:T AV) (t:Nat),zau (zk3 l i env) t=if i≤t then (match l[t-i]? with|some v=>v|none=>zau env t) else zau env t
 | [], i,env,t=>by simp [zk3]
 | a::l,i,env,t=>by
  unfold zk3
  rw [zd1 l (Nat.succ i) (env.set i a) t,zaW]
  by_cases h1:i+1≤t
  ·rw [if_pos (show Nat.succ i≤t from h1),if_pos (show i≤t by omega),if_neg (show¬t=i by omega)]
   obtain ⟨d,hd⟩: ∃d,t-i=d+1:=⟨t-i-1,by omega⟩
   rw [hd,List.getElem?_cons_succ,show t-Nat.succ i=d by omega]
  ·rw [if_neg (show¬Nat.succ i≤t from h1)]
   by_cases h2:t=i
   ·subst h2;simp
   ·rw [if_neg h2,if_neg (show¬i≤t by omega)]
theorem zhB (t:Nat):zau .leaf t=zbp:=rfl
theorem znC {args:List AV} {vals:List Value} {m:Nat} (hv:RL ρ j args vals) (h1:args.length≤m) (h2:m≤zaS):ER ρ j m (zk3 args 0 .leaf) { tmps:=vals.toArray++Array.replicate (m-vals.toArray.size) undef,defers:= [] }:=by
 have hl:=hv.length
 refine ⟨by simp [hl];omega,h2,fun t ht=> ?_,?_⟩
 ·rw [zd1,if_pos (Nat.zero_le t),Nat.sub_zero,zhB]
  cases ha:args[t]? with
  | some v=>
   obtain ⟨u,h3,h4⟩:=hv.get t v ha
   have:t<vals.toArray.size:=by have:=(List.getElem?_eq_some_iff.1 h3).1;simpa using this
   rw [Array.getD_eq_getD_getElem?,Array.getElem?_append_left this,List.getElem?_toArray,h3]
   exact .inr h4
  | none=>
   have:vals.toArray.size≤t:=by have:=List.getElem?_eq_none_iff.1 ha;simp;omega
   rw [Array.getD_eq_getD_getElem?,Array.getElem?_append_right this,Array.getElem?_replicate]
   have e:(if t-vals.toArray.size<m-vals.toArray.size then some undef else none).getD undef=undef:=by split<;>rfl
   rw [e]
   exact .inr zcp
 ·show DR ρ j (zau (zk3 args 0 .leaf) zaS) []
  rw [zd1,if_pos (Nat.zero_le _),Nat.sub_zero,zhB,List.getElem?_eq_none (by omega)]
  rfl
theorem zli {f : FuncId} {fn : Func} {c : Code} (h : ziO P f = some (fn, c)) : P.funcs[f]? = some fn ∧ fn.body = some c ∧ fn.name ≠ "runtime.NumGoroutine" := by
  unfold ziO at h
  split at h
  · cases h
  rename_i fn' hf
  split at h
  · cases h
  rename_i c' hc
  split at h
  · cases h
  rename_i hn
  cases h
  exact ⟨hf,hc,hn⟩
theorem znR {f:FuncId} {fn:Func} {c:Code} (h:ziO P f=some (fn,c)):zbb P [f]=c:=by
 unfold zbb
 simp only [h]
theorem zjk (hi:Inv ρ w0 j H w) (he:ER ρ j N env a) {fn:Func} {k:K} (h:Ob.den ρ (leave P fn env k H)): ∃u v,(results fn a.tmps).run P w= .ok u w∧R ρ j v u∧Ob.den ρ (k v H):=by
 unfold leave at h
 split at h
 case h_2=>exact h.elim
 rename_i v hv
 obtain ⟨u,h1,h2⟩:=zpw hi he hv
 exact ⟨u,v,h1,h2,h⟩
theorem DR.none {v:AV} {ds:List Deferred} (h:DR ρ j v ds) (hv:v=zbp):ds= []:=by
 cases ds with
 | nil=>rfl
 | cons d ds=>obtain ⟨_,_,_,_,e,_⟩:=h;rw [hv] at e;cases e
theorem zla (hg:Good P ρ w0 n rec) {fn:Func} {tmps:Array Value} {R':Ending→World→Prop} {fin:Heap→Ob}: ∀(m:Nat) (d:AV) (ds:List Deferred) (j:J) (H:Heap) (w:World),
  Ob.den ρ (zcT P rec fin m d H)→DR ρ j d ds→Inv ρ w0 j H w→(∀j' H' w',Inv ρ w0 j' H' w'→St j H j' H'→Ob.den ρ (fin H')→ ∃v,(results fn tmps).run P w'= .ok v w'∧R' (.returned v) w')→Leaves P fn tmps R' ds .returning w
 | 0,d,ds,j,H,w,h,_,_,_=>h.elim
 | m+1,d,ds,j,H,w,h,hd,hi,hfin=>by
  unfold zcT at h
  cases ds with
  | nil=>
   have e:d= .tup []:=hd
   subst e
   exact hfin j H w hi (St.refl j H) h
  | cons d' ds=>
   obtain ⟨g,args,rest,cap,rfl,htar,hargs,hrest⟩:=hd
   simp only at h
   split at h
   ·exact h.elim
   rename_i fn' c hb
   obtain ⟨h1,h2,h3⟩:=zli hb
   split at h
   case h_2=>exact h.elim
   rename_i hsz
   rw [Bool.and_eq_true] at hsz
   have hs1:=Nat.le_of_ble_eq_true hsz.1
   have hs2:=Nat.le_of_ble_eq_true hsz.2
   have hwp:=hg.code _ _ _ _ _ _ (znR hb) h j { tmps:=(d'.args++cap).toList.toArray++Array.replicate (fn'.ntmps-(d'.args++cap).toList.toArray.size) undef,defers:= [] } w hi (znC hargs hs1 hs2)
   refine ⟨by simp,.func g,cap,g,(d'.args++cap).toList.toArray,htar,?_,?_⟩
   ·rw [htar]
    simp only [invoke]
    exact zar ⟨fn',c,h1,h2,h3⟩ _
   ·refine CallsD.mono (callsD_of_wp (u:= .returning) (R:=fun e w'=>match e with| .returned _=>Leaves P fn tmps R' ds .returning w'|_=>False) h1 h2 (wp_mono hwp fun ex a' w' hh=> ?_)) (fun e u' w' hh=> ?_)
    ·obtain ⟨x,env',H2,j2,rfl,g1,g2,g3,g4⟩:=hh
     have fine: ∀(_:Ob.den ρ (match env'.get zaS with|none=>leave P fn' env' (fun _ H'=>zcT P rec fin m rest H') H2|some _=> .bad 57 fn'.name)),
       a'.defers= []∧ ∃v,(results fn' a'.tmps).run P w'= .ok v w'∧Leaves P fn tmps R' ds .returning w':=by
      intro g4
      split at g4
      case h_2=>exact g4.elim
      rename_i hnone
      obtain ⟨u,v,q1,q2,q3⟩:=zjk g2 g1 g4
      refine ⟨g1.dfr.none (by unfold zau;rw [hnone]),u,q1,?_⟩
      exact zla hg m rest ds j2 H2 w' q3 (hrest.mono g3.sub) g2 fun j' H' w'' e1 e2 e3=>hfin j' H' w'' e1 (g3.trans e2) e3
     cases x with
     | normal=>exact fine g4
     | exit id=>exact g4.elim
     | ret=>exact fine g4
    ·obtain ⟨rfl,hh⟩:=hh
     cases e with
     | returned v=>exact hh
     | panicked c=>exact hh.elim
     | outgrown=>exact hh.elim
def zlw (P:Program) (ρ:Val) (w0:Cx) (orc:FuncId→List AV→Heap→Option (List (AV×Heap))):Prop:=
 ∀ f args H l,orc f args H=some l→Enters P f∧ ∀k,Ob.den ρ (zqG k l)→zn7 P ρ w0 f args H k
theorem zq5 (hg:Good P ρ w0 n rec) {orc:FuncId→List AV→Heap→Option (List (AV×Heap))} (hor:zlw P ρ w0 orc) {f:FuncId} {args:List AV} (h:Ob.den ρ (ziV P orc rec f args H k)):Enters P f∧zn7 P ρ w0 f args H k:=by
 unfold ziV at h
 split at h
 ·rename_i l hl
  exact ⟨(hor _ _ _ _ hl).1,(hor _ _ _ _ hl).2 k h⟩
 split at h
 ·exact h.elim
 rename_i fn c hb
 obtain ⟨h1,h2,h3⟩:=zli hb
 split at h
 case h_2=>exact h.elim
 rename_i hsz
 rw [Bool.and_eq_true] at hsz
 have hs1:=Nat.le_of_ble_eq_true hsz.1
 have hs2:=Nat.le_of_ble_eq_true hsz.2
 refine ⟨⟨fn,c,h1,h2,h3⟩,fun j w vals hi hv=> ?_⟩
 refine calls_of_wp_defers h1 h2 (wp_mono (hg.code _ _ _ _ _ _ (znR hb) h j _ w hi (znC hv hs1 hs2)) fun ex a' w' hh=> ?_)
 obtain ⟨x,env',H2,j2,rfl,g1,g2,g3,g4⟩:=hh
 have fine: ∀(_:Ob.den ρ (match env'.get zaS with|none=>leave P fn env' k H2|some d=>zcT P rec (leave P fn env' k) 8 d H2)),
   Leaves P fn a'.tmps (fun e w'=> ∃u,e= .returned u∧Post ρ w0 j H k u w') a'.defers .returning w':=by
  intro g4
  split at g4
  ·rename_i hnone
   obtain ⟨u,v,q1,q2,q3⟩:=zjk g2 g1 g4
   rw [g1.dfr.none (by unfold zau;rw [hnone])]
   exact ⟨u,q1,u,rfl,v,H2,j2,q2,g2,g3,q3⟩
  ·rename_i d hd
   refine zla hg 8 d a'.defers j2 H2 w' g4 (by have:=g1.dfr;unfold zau at this;rw [hd] at this;exact this) g2 fun j' H' w'' e1 e2 e3=> ?_
   obtain ⟨u,v,q1,q2,q3⟩:=zjk e1 (g1.mono e2.sub) e3
   exact ⟨u,q1,u,rfl,v,H',j',q2,e1,g3.trans e2,q3⟩
 cases x with
 | normal=>exact fine g4
 | exit id=>exact g4.elim
 | ret=>exact fine g4
theorem zjx {orc:FuncId→List AV→Heap→Option (List (AV×Heap))} {lorc:LOrc} {aorc:AOrc} (hor:zlw P ρ w0 orc) (hlo:zn4 P ρ w0 lorc) (hao:zrp P ρ w0 aorc) (hp: ∀n rec,Good P ρ w0 n rec→zn3 P ρ w0 rec): ∀n,Good P ρ w0 n (evL P orc lorc aorc n)
 | 0=>⟨fun _ _ _ _ _ _ h=>h.elim,fun _ _ _ _ h=>h.elim,fun _ _ _ _ _ _ _ h=>h.elim,fun _ _ _ _ _ _ _ h=>h.elim,fun _ _ _ _ _ _ h=>h.elim⟩
 | n+1=>by
  have ih:=zjx hor hlo hao hp n
  refine ⟨fun t s n xs H k h=> ?_,fun f args H k h=>zq5 ih hor h,fun c p N env H k hc h j a w hi he=>zuN hlo ih (hp n _ ih) hc h hi he,fun c p N env H k hc h j a w hi he=> ?_,fun all l N env H k h j a w Q hi he hQ=>zvq ih h hi he hQ⟩
  ·have h:Ob.den ρ (zlC aorc t s n xs H k):=h
   unfold zlC at h
   split at h
   ·rename_i q hq
    exact hao _ _ _ _ _ _ hq k h
   ·exact h.elim
  have h:Ob.den ρ (zrH lorc c (evL P orc lorc aorc n) (2::p) N env H k):=h
  unfold zrH at h
  rw [hlo.1] at h
  exact zqh ih (p:=2::p) (by rw [zbn hc (by simp)];rfl) h hi he
theorem zjw {orc:FuncId→List AV→Heap→Option (List (AV×Heap))} (hor:zlw P ρ w0 orc) (hp: ∀n rec,Good P ρ w0 n rec→zn3 P ρ w0 rec) (n:Nat):Good P ρ w0 n (ev P orc n):=zjx hor zvs zvt hp n
end
end Go.Dw
namespace Go.Dw
section
variable {P:Program} {ρ:Val} {w0:Cx} {j:J} {H:Heap} {w:World} {N:Nat} {env env':T AV} {a:Act} {o:Oper}
theorem zeg: ∀ {l:List Operand},(∀x∈l,opd env x=opd env' x)→opds env l=opds env' l
 | [], _=>rfl
 | x::l,h=>by
  unfold opds
  rw [h x (List.mem_cons_self ..),zeg fun y hy=>h y (List.mem_cons_of_mem _ hy)]
theorem zbl {x:Operand} (h:opd env x=opd env' x):natA env x=natA env' x:=by unfold natA;rw [h]
theorem zfG {x:Option Operand} {d:Nat} (h: ∀y,x=some y→opd env y=opd env' y):natO env x d=natO env' x d:=by
 cases x with
 | none=>rfl
 | some y=>exact zbl (h y rfl)
theorem zdi: ∀ {l:List (Nat×Operand)},(∀p∈l,opd env p.2=opd env' p.2)→partsOf env l=partsOf env' l
  | [], _=>rfl
  | (i,x)::l,h=>by
    unfold partsOf
    rw [h (i,x) (List.mem_cons_self ..),zdi fun y hy=>h y (List.mem_cons_of_mem _ hy)]
theorem zmd {c:Call} (h: ∀x∈c.operands,opd env x=opd env' x):zjm P c env H=zjm P c env' H:=by
 have ha: ∀x∈c.args.toList,opd env x=opd env' x:=fun x hx=>h x (by
  have:x∈c.args:=by simpa using hx
  unfold Call.operands
  split<;>simp [this])
 unfold zjm
 cases hc:c.callee<;>first|rfl|skip
 rename_i b
 cases b<;>first|rfl|skip
 all_goals simp only [lLen]
 all_goals (split<;>first|rfl|skip)
 all_goals (rename_i hx;first|rw [ha _ (by rw [hx];exact List.mem_cons_self ..),ha _ (by rw [hx];exact List.mem_cons_of_mem _ (List.mem_cons_self ..))]|rw [ha _ (by rw [hx];exact List.mem_cons_self ..)])
theorem zgi {len cap:Nat} {lo hi mx:Option Operand} (h1: ∀y,lo=some y→opd env y=opd env' y) (h2: ∀y,hi=some y→opd env y=opd env' y) (h3: ∀y,mx=some y→opd env y=opd env' y):
  bounds env len cap lo hi mx=bounds env' len cap lo hi mx:=by
 have e1:natO env lo 0=natO env' lo 0:=zfG h1
 unfold bounds
 cases mx<;>cases hi<;>simp only [e1]
 all_goals first
  | rfl
  | rw [zbl (h2 _ rfl),zbl (h3 _ rfl)]
  | rw [zbl (h3 _ rfl)]
  | rw [zfG h2]
theorem zj2 {t:TypeId} {v:AV} {lo hi mx:Option Operand} (h1: ∀y,lo=some y→opd env y=opd env' y) (h2: ∀y,hi=some y→opd env y=opd env' y) (h3: ∀y,mx=some y→opd env y=opd env' y):
  zh3 P env t v lo hi mx=zh3 P env' t v lo hi mx:=by
 have hb: ∀len cap,bounds env len cap lo hi mx=bounds env' len cap lo hi mx:=fun _ _=>zgi h1 h2 h3
 have hn: ∀len cap,bounds env len cap lo hi none=bounds env' len cap lo hi none:=fun _ _=>zgi h1 h2 (fun _ e=>by cases e)
 have hs: ∀s b off len cap,zgW env s b off len cap lo hi mx=zgW env' s b off len cap lo hi mx:=by
  intro s b off len cap
  unfold zgW
  have hS: ∀c,zfP env c lo hi=zfP env' c lo hi:=fun c=>by
   unfold zfP
   rw [zfG h1]
   cases natO env' lo 0<;>cases hi<;>try rfl
   rename_i y
   simp only
   rw [h2 y rfl]
  cases cap<;>simp only [hb,hn,hS]
 unfold zh3
 cases v<;>simp only [hb,hn,hs]
theorem zhk {op:Op} (h: ∀x∈op.operands,opd env x=opd env' x):light P op env H=light P op env' H:=by
 cases op<;>simp only [light]<;>first|rfl|skip
 all_goals simp only [Op.operands] at h
 case move x=>exact h x (by simp)
 case assign x=>exact h x (by simp)
 case pick c x y=>unfold zsv;rw [h c (by simp),h x (by simp),h y (by simp)]
 case load t x=>unfold zqm;rw [h x (by simp)]
 case extract x i=>unfold zgI;rw [h x (by simp)]
 case nilCheck x=>unfold zfh;rw [h x (by simp)]
 case fieldAddr t x f=>unfold zen;rw [h x (by simp)]
 case binOp op t x y t'=>unfold zkP;rw [h x (by simp),h y (by simp)]
 case unOp op t x=>unfold zsu;rw [h x (by simp)]
 case convert s d x=>unfold zfj;rw [h x (by simp)]
 case indexAddr t x i=>unfold zem zgH;rw [h x (by simp),zbl (h i (by simp)),h i (by simp)]
 case index t x i=>unfold znm;rw [h x (by simp),zbl (h i (by simp))]
 case field t x f=>unfold znn;rw [h x (by simp)]
 case sliceToArrayPointer t x=>unfold zjo;rw [h x (by simp)]
 case makeInterface t x=>unfold zel;rw [h x (by simp)]
 case typeAssert x t t' ok=>unfold zdm;rw [h x (by simp)]
 case lookup t x i ok=>unfold zhp;rw [h x (by simp),h i (by simp)]
 case build t parts=>unfold zqn znZ;rw [zdi fun p hp=>h p.2 (by simp;exact ⟨p.1,by simpa using hp⟩)]
 case makeFunc fn first cap=>
  unfold zfi
  rw [zeg (l:=first.toList) fun x hx=>h x (by simp;exact .inl (by simpa using hx)),zeg (l:=cap.toList) fun x hx=>h x (by simp;exact .inr (by simpa using hx))]
 case call c=>exact zmd h
 case slice t x lo hi mx=>
  unfold znl
  rw [h x (by simp)]
  have h1: ∀y,lo=some y→opd env y=opd env' y:=fun y e=>h y (by subst e;simp)
  have h2: ∀y,hi=some y→opd env y=opd env' y:=fun y e=>h y (by subst e;simp)
  have h3: ∀y,mx=some y→opd env y=opd env' y:=fun y e=>h y (by subst e;simp)
  split
  ·rw [zj2 h1 h2 h3]
  ·rfl
theorem zlo {op:Op} {nx:Nat} (h: ∀x∈op.operands,opd env x=opd env' x):zco P op env nx=zco P op env' nx:=by
 cases op<;>simp only [zco]<;>first|rfl|skip
 all_goals simp only [Op.operands] at h
 case box t x=>unfold aBox;rw [h x (by simp)]
 case buildSlice t len parts=>unfold zbT;rw [zdi fun p hp=>h p.2 (by simp;exact ⟨p.1,by simpa using hp⟩)]
 case makeMap t r=>
  unfold zet
  cases r with
  | none=>rfl
  | some r=>simp only;rw [zbl (h r (by simp))]
 case makeSlice t l c=>unfold zcf;rw [zbl (h l (by simp)),zbl (h c (by simp))]
theorem zmj {rec:Task→Ob} {op:Op} {k:K} (h: ∀x∈op.operands,opd env x=opd env' x):heavy P rec op env H k=heavy P rec op env' H k:=by
 cases op<;>simp only [heavy]<;>first|rfl|skip
 all_goals simp only [Op.operands] at h
 case insert t m x v=>unfold zfM;rw [h m (by simp),h x (by simp),h v (by simp)]
 case store t x v=>unfold znN;rw [h x (by simp),h v (by simp)]
 case mapUpdate t m x v=>unfold zfM;rw [h m (by simp),h x (by simp),h v (by simp)]
 case mapEntry t m x=>unfold zfp;rw [h m (by simp),h x (by simp)]
 case entryStore t m s v=>unfold zdx;rw [h m (by simp),h s (by simp),h v (by simp)]
 case call c=>
  have ha:opds env c.args.toList=opds env' c.args.toList:=zeg fun x hx=>h x (by
   have:x∈c.args:=by simpa using hx
   unfold Call.operands
   split<;>simp [this])
  unfold zuK
  cases hc:c.callee with
  | value f=>simp only;unfold znO;rw [h f (by simp [Call.operands,hc]),ha]
  | invoke r name=>simp only;unfold znP;rw [h r (by simp [Call.operands,hc]),ha]
  | builtin b=>simp only;unfold zgK;cases b<;>first|rfl|(simp only [zjF,zsK,zjE,ha])
structure Ext (H H':Heap):Prop where
 m: ∀n o,H.m.get n=some o→H'.m.get n=some o
 gw:H'.gw=H.gw
theorem Ext.refl (H:Heap):Ext H H:=⟨fun _ _ h=>h,rfl⟩
theorem Ext.row {H':Heap} (h:Ext H H') {n:Nat} {v:Vec} (hr:H.row n=some v):H'.row n=some v:=by
 unfold Heap.row at hr ⊢
 split at hr
 case h_2=>cases hr
 rename_i hm
 rw [h.m _ _ hm,h.gw]
 exact hr
theorem Ext.mapAt {H':Heap} (h:Ext H H') {n:Nat} {v:List ME×Nat} (hr:H.mapAt n=some v):H'.mapAt n=some v:=by
 unfold Heap.mapAt at hr ⊢
 split at hr
 case h_2=>cases hr
 rename_i hm
 rw [h.m _ _ hm]
 exact hr
theorem Ext.cellsA {H':Heap} (h:Ext H H') {sz n:Nat} {x:AV} {l:List AV} (hr:Dw.cellsA H sz n x=some l):Dw.cellsA H' sz n x=some l:=by
 cases x<;>simp only [Dw.cellsA] at hr ⊢ <;>try exact hr
 split at hr
 ·cases hr
 ·split at hr
  ·cases hr
  ·rename_i v hv
   rw [h.row hv]
   exact hr
theorem Ext.entriesA {H':Heap} (h:Ext H H') {m:AV} {l:List ME} (hr:Dw.entriesA H m=some l):Dw.entriesA H' m=some l:=by
 cases m<;>simp only [Dw.entriesA] at hr ⊢ <;>try exact hr
 split at hr
 ·rename_i es c hm
  rw [h.mapAt hm]
  exact hr
 ·cases hr
theorem zdr {eq eq':TypeId→AV→AV→Option SB} (h: ∀t a b c,eq t a b=some c→eq' t a b=some c): ∀(l:List Field) (xs ys:List AV) (r:SB),eqFields P eq l xs ys=some r→eqFields P eq' l xs ys=some r
  | [], _,_,_,hr=>hr
  | fd::l,xs,ys,r,hr=>by
    unfold eqFields at hr ⊢
    by_cases hn : fd.name = "_"
    · rw [if_pos hn] at hr ⊢
      exact zdr h l xs ys r hr
    · rw [if_neg hn] at hr ⊢
      cases ha:zgn P fd.type xs fd.offset with
      | none=>rw [ha] at hr;exact hr
      | some a=>
        cases hb:zgn P fd.type ys fd.offset with
        | none=>rw [ha,hb] at hr;exact hr
        | some b=>
          rw [ha,hb] at hr
          simp only at hr ⊢
          cases hc:eq fd.type a b with
          | none=>rw [hc] at hr;cases hr
          | some c=>
            rw [hc] at hr
            rw [h _ _ _ _ hc]
            cases hd:eqFields P eq l xs ys with
            | none=>rw [hd] at hr;cases hr
            | some d=>rw [hd] at hr;rw [zdr h l xs ys d hd];exact hr
theorem zga {eq eq':AV→AV→Option SB} (h: ∀a b c,eq a b=some c→eq' a b=some c) {e:TypeId} {s:Nat}: ∀(n i:Nat) (xs ys:List AV) (r:SB),zds P eq e s n i xs ys=some r→zds P eq' e s n i xs ys=some r
 | 0,_,_,_,_,hr=>hr
 | n+1,i,xs,ys,r,hr=>by
  unfold zds at hr ⊢
  cases ha:zgn P e xs (i*s) with
  | none=>rw [ha] at hr;exact hr
  | some a=>
   cases hb:zgn P e ys (i*s) with
   | none=>rw [ha,hb] at hr;exact hr
   | some b=>
    rw [ha,hb] at hr
    simp only at hr ⊢
    cases hc:eq a b with
    | none=>rw [hc] at hr;cases hr
    | some c=>
     rw [hc] at hr
     rw [h _ _ _ hc]
     cases hd:zds P eq e s n (i+1) xs ys with
     | none=>rw [hd] at hr;cases hr
     | some d=>rw [hd] at hr;rw [zga h n (i+1) xs ys d hd];exact hr
theorem Ext.apartA {H':Heap} (h:Ext H H') {n m:Nat} (hr:Dw.apartA H n m=true):Dw.apartA H' n m=true:=by
 unfold Dw.apartA at hr ⊢
 split at hr
 case h_2=>cases hr
 rename_i h1 h2
 rw [h.m _ _ h1,h.m _ _ h2]
 simp only at hr ⊢
 split at hr
 ·cases hr
 rename_i hg
 try rw [hg]
 split at hr
 case h_2=>cases hr
 rename_i h3 h4
 simp only [h.row h3,h.row h4]
theorem Ext.eqA {H':Heap} (h:Ext H H'): ∀(f:Nat) (t:TypeId) (x y:AV) (r:SB),Dw.eqA P H f t x y=some r→Dw.eqA P H' f t x y=some r
 | 0,_,_,_,_,hr=>hr
 | f+1,t,x,y,r,hr=>by
  unfold Dw.eqA at hr ⊢
  cases hd:P.underlying t with
  | none=>rw [hd] at hr;exact hr
  | some d=>
   rw [hd] at hr
   cases d<;>simp only at hr ⊢ <;>try exact hr
   case pointer e=>
    cases x<;>cases y<;>simp only at hr ⊢ <;>try exact hr
    split at hr
    case h_2=>cases hr
    rename_i hs
    try rw [hs]
    try simp only
    split at hr
    ·rename_i hn;first|exact hr|(rw [hn];exact hr)
    ·rename_i hn
     try rw [hn]
     split at hr
     case h_2=>cases hr
     rename_i hap
     simp only [h.apartA hap]
     exact hr
   case struct fs=>
    cases x<;>cases y<;>simp only at hr ⊢ <;>try exact hr
    split at hr
    ·cases hr
    rename_i hst
    try rw [hst]
    exact zdr (fun t a b c=>Ext.eqA h f t a b c) _ _ _ _ hr
   case array len e=>
    cases x<;>cases y<;>simp only at hr ⊢ <;>try exact hr
    split at hr
    case h_2=>cases hr
    rename_i s hs
    try rw [hs]
    exact zga (fun a b c=>Ext.eqA h f e a b c) _ _ _ _ _ hr
theorem Ext.binEq {H':Heap} (h:Ext H H') {op:BinOp} {t:TypeId} {x y v:AV} (hr:Dw.binEq P H op t x y=some v):Dw.binEq P H' op t x y=some v:=by
 cases op<;>simp only [Dw.binEq] at hr ⊢ <;>try exact hr
 all_goals
  split at hr
  case h_2=>cases hr
  rename_i b hb
  rw [h.eqA 8 t x y b hb]
  exact hr
theorem Ext.binA {H':Heap} (h:Ext H H') {c:Bool} {op:BinOp} {t:TypeId} {x y v:AV} (hr:Dw.binA P H c op t x y=some v):Dw.binA P H' c op t x y=some v:=by
  unfold Dw.binA at hr ⊢
  cases x<;>first
    | exact hr
    | exact h.binEq hr
    | (simp only at hr ⊢
       split at hr
       · cases hr
       · exact h.binEq hr)
    | (simp only at hr ⊢
       split at hr
       · exact h.binEq hr
       · cases hr)
theorem Ext.convStr {H':Heap} (h:Ext H H') {e:TypeId} {x v:AV} (hr:Dw.convStr P H e x=some v):Dw.convStr P H' e x=some v:=by
  unfold Dw.convStr at hr ⊢
  cases hd:P.underlying e with
  | none=>rw [hd] at hr;cases hr
  | some d=>
    rw [hd] at hr
    cases d<;>(try simp only at hr ⊢)<;>try (cases hr;done)
    rename_i kk
    cases kk<;>(try simp only at hr ⊢)<;>try (cases hr;done)
    cases x<;>(try simp only at hr ⊢)<;>first
      | exact hr
      | (split at hr
         · cases hr
         rename_i n hn
         try rw [hn]
         split at hr
         · cases hr
         rename_i l hl
         simp only [h.cellsA hl]
         exact hr)
theorem Ext.convA {H':Heap} (h:Ext H H') {s d:TypeId} {x v:AV} (hr:Dw.convA P H s d x=some v):Dw.convA P H' s d x=some v:=by
 unfold Dw.convA at hr ⊢
 cases hs:P.underlying s with
 | none=>rw [hs] at hr;cases hr
 | some ds=>
  rw [hs] at hr
  cases hd:P.underlying d with
  | none=>rw [hd] at hr;cases hr
  | some dd=>
   rw [hd] at hr
   cases dd<;>simp only at hr ⊢ <;>try exact hr
   cases ds<;>simp only at hr ⊢ <;>try exact hr
   exact h.convStr hr
theorem Ext.lookupX {H':Heap} (h:Ext H H') {kd:TypeDesc} {et:TypeId} {m kk v:AV} {ok:Bool} (hr:Dw.lookupX P H kd et m kk ok=some v):Dw.entriesA H' m=none∧Dw.lookupX P H' kd et m kk ok=some v:=by
 unfold Dw.lookupX at hr ⊢
 split at hr
 case h_2=>cases hr
 rename_i n
 split at hr
 case h_2=>cases hr
 rename_i kn log h1 h2
 have h3:=h.m _ _ (za9 h1)
 have h4:H'.mapxAt n=some (kn,log):=by unfold Heap.mapxAt;rw [h3]
 refine ⟨?_,?_⟩
 ·unfold Dw.entriesA Heap.mapAt
  simp only [h3]
 ·simp only [h4,h2]
  exact hr
theorem Ext.lookupA {H':Heap} (h:Ext H H') {t:TypeId} {m kk v:AV} {ok:Bool} (hr:Dw.lookupA P H t m kk ok=some v):Dw.lookupA P H' t m kk ok=some v:=by
 unfold Dw.lookupA at hr ⊢
 split at hr
 ·cases hr
 rename_i kd et hm
 try rw [hm]
 split at hr
 ·obtain ⟨e1,e2⟩:=h.lookupX hr
  rw [e1];exact e2
 rename_i es he
 simp only [h.entriesA he]
 exact hr
theorem Ext.lenOfA {H':Heap} (h:Ext H H') {d:Option TypeDesc} {x v:AV} (hr:Dw.lenOfA d H x=some v):Dw.lenOfA d H' x=some v:=by
 unfold Dw.lenOfA at hr ⊢
 cases d with
 | none=>exact hr
 | some d=>
  cases d<;>simp only at hr ⊢ <;>try exact hr
  cases x<;>simp only at hr ⊢ <;>try exact hr
  split at hr
  ·rename_i es c hm
   simp only [h.mapAt hm]
   exact hr
  ·cases hr
theorem zoA {op:Op} {H':Heap} {v:AV} (h:Ext H H') (hr:light P op env H=some v):light P op env H'=some v:=by
 cases op<;>simp only [light] at hr ⊢ <;>try exact hr
 case load t x=>
  unfold zqm at hr ⊢
  split at hr
  case h_2=>cases hr
  rename_i n off hx
  try rw [hx]
  split at hr
  case h_2=>cases hr
  rename_i vv hv
  simp only [h.row hv]
  exact hr
 case binOp op t x y t'=>
  unfold zkP at hr ⊢
  split at hr
  case h_2=>cases hr
  rename_i p q hp hq
  try rw [hp,hq]
  exact h.binA hr
 case convert s d x=>
  unfold zfj at hr ⊢
  split at hr
  case h_2=>cases hr
  rename_i p hp
  try rw [hp]
  exact h.convA hr
 case lookup t x i ok=>
  unfold zhp at hr ⊢
  split at hr
  case h_2=>cases hr
  rename_i p q hp hq
  try rw [hp,hq]
  exact h.lookupA hr
 case call c=>
  unfold zjm at hr ⊢
  cases hc:c.callee<;>rw [hc] at hr<;>try exact hr
  rename_i b
  cases b<;>try exact hr
  change lLen P _ _ env H=some v at hr
  change lLen P _ _ env H'=some v
  unfold lLen at hr ⊢
  split at hr
  case h_2=>cases hr
  rename_i h1 h2
  try rw [h1,h2]
  try simp only
  split at hr
  case h_2=>cases hr
  rename_i p hp
  try rw [hp]
  exact h.lenOfA hr
theorem zdv {ms:List Nat}: ∀ {l:List Edge} {x:Nat},(za0 ms l).testBit x=true→ ∃e∈l,Region.binds .any e=true∧(x=e.on∨(ms.getD e.on 0).testBit x=true)
 | [], x,h=>by simp [za0] at h
 | e::l,x,h=>by
  unfold za0 at h
  split at h
  ·rename_i hb
   rw [show Nat.lor (Nat.lor (2^e.on) (ms.getD e.on 0)) (za0 ms l)=((2^e.on)|||(ms.getD e.on 0))|||za0 ms l from rfl,Nat.testBit_or,Nat.testBit_or,Bool.or_eq_true,Bool.or_eq_true,Nat.testBit_two_pow,decide_eq_true_eq] at h
   rcases h with (h|h)|h
   ·exact ⟨e,List.mem_cons_self ..,hb,.inl h.symm⟩
   ·exact ⟨e,List.mem_cons_self ..,hb,.inr h⟩
   ·obtain ⟨e',h1,h2,h3⟩:=zdv h
    exact ⟨e',List.mem_cons_of_mem _ h1,h2,h3⟩
  ·obtain ⟨e',h1,h2,h3⟩:=zdv h
   exact ⟨e',List.mem_cons_of_mem _ h1,h2,h3⟩
theorem zci: ∀(l:List Oper) (ms:List Nat) (i:Nat),i<ms.length→(zbK l ms)[i]? =ms[i]?
 | [], ms,i,_=>rfl
 | o::l,ms,i,h=>by
  unfold zbK
  rw [zci l _ i (by simp;omega),List.getElem?_append_left h]
theorem zdj: ∀(l:List Oper) (ms:List Nat) (i x:Nat) (o:Oper),l[i]? =some o→((zbK l ms).getD (ms.length+i) 0).testBit x=true→
  ∃ e∈o.after.toList,Region.binds .any e=true∧(x=e.on∨(e.on<ms.length+i∧((zbK l ms).getD e.on 0).testBit x=true))
 | [], ms,i,x,o,h,_=>by simp at h
 | o'::l,ms,0,x,o,h,hx=>by
  simp at h;subst h
  unfold zbK at hx ⊢
  rw [List.getD_eq_getElem?_getD,zci l _ _ (by simp),List.getElem?_append_right (by simp)] at hx
  simp at hx
  obtain ⟨e,h1,h2,h3⟩:=zdv hx
  refine ⟨e,h1,h2,h3.imp id fun h3=> ?_⟩
  have hlt:e.on<ms.length:=by
   apply Classical.byContradiction
   intro hh
   rw [List.getD_eq_getElem?_getD,List.getElem?_eq_none (by omega)] at h3
   simp at h3
  refine ⟨by omega,?_⟩
  rw [List.getD_eq_getElem?_getD,zci l _ _ (by simp;omega),List.getElem?_append_left hlt,←List.getD_eq_getElem?_getD]
  exact h3
 | o'::l,ms,i+1,x,o,h,hx=>by
  unfold zbK at hx ⊢
  have:=zdj l (ms++ [za0 ms o'.after.toList]) i x o (by simpa using h) (by simpa [Nat.add_assoc,Nat.add_comm 1 i] using hx)
  simpa [Nat.add_assoc,Nat.add_comm 1 i] using this
def zlx (ops:Array Oper) (listed:Array Bool):Prop:=
 ∀ (i:Nat) (o:Oper),ops[i]? =some o→listed.getD i false=true→ ∀e∈o.after,Region.binds .any e=true→listed.getD e.on false=true
theorem zhg {ops:Array Oper} {listed:Array Bool} (hc:zlx ops listed): ∀(i:Nat) (o:Oper),ops[i]? =some o→(∀e∈o.after,Region.binds .any e=true→listed.getD e.on false=true)→
  ∀ x,((zdk ops.toList).getD i 0).testBit x=true→listed.getD x false=true:=by
 intro i
 induction i using Nat.strongRecOn with
 | _ i ih=>
  intro o ho hl x hx
  obtain ⟨e,h1,h2,h3⟩:=zdj ops.toList [] i x o (by simpa using ho) (by simpa [zdk] using hx)
  have he:=hl e (by simpa using h1) h2
  rcases h3 with h3|⟨h3,h4⟩
  ·rw [h3];exact he
  ·have hlt:e.on<i:=by simpa using h3
   have hi:i<ops.size:=(Array.getElem?_eq_some_iff.1 ho).1
   have ho':ops[e.on]? =some ops[e.on]:=Array.getElem?_eq_getElem (by omega)
   exact ih e.on hlt _ ho' (fun e' g1 g2=>hc e.on _ ho' he e' g1 g2) x h4
theorem zoM {ops:Array Oper} {listed:Array Bool} (hc:zlx ops listed) {i:Nat} (hr:i∈Region.ready .any ops listed):zlx ops (listed.setIfInBounds i true):=by
 obtain ⟨h1,o,h2,h3⟩:=mem_ready.1 hr
 intro i' o' ho' hl' e he hb
 by_cases hi:i=i'
 ·subst hi
  rw [h2] at ho';cases ho'
  exact getD_set_true (h3 e he hb)
 ·rw [getD_set_ne false hi] at hl'
  exact getD_set_true (hc i' o' ho' hl' e he hb)
def zcN (ops:Array Oper):Prop:= ∀(i:Nat) (o:Oper),ops[i]? =some o→ ∀e∈o.after,Region.binds .any e=true→e.on<i
theorem zoU {ops:Array Oper} {listed:Array Bool} (he:zcN ops) (hsz:listed.size=ops.size) (hr:Region.ready .any ops listed= []): ∀i,i<ops.size→listed.getD i false=true:=by
 intro i
 induction i using Nat.strongRecOn with
 | _ i ih=>
  intro hi
  cases hl:listed.getD i false with
  | true=>rfl
  | false=>
   exfalso
   have hl':listed.getD i true=false:=by
    rw [Array.getD_eq_getD_getElem?,Array.getElem?_eq_getElem (by omega)] at hl ⊢
    exact hl
   have:i∈Region.ready .any ops listed:=mem_ready.2 ⟨hl',ops[i],Array.getElem?_eq_getElem hi,fun e h1 h2=>by
    have hlt:=he i _ (Array.getElem?_eq_getElem hi) e h1 h2
    exact ih e.on hlt (by omega)⟩
   rw [hr] at this
   cases this
theorem zkC {hs:List Nat}: ∀ {l:List Oper} {ms:List Nat} {n:Nat} {p:PO},l.length=ms.length→(p∈posOf hs l ms n↔ ∃i,l[i]? =some p.o∧p.i=n+i∧ms[i]? =some p.m∧p.s=zbN p.m hs 0 0)
 | [], ms,n,p,_=>by simp [posOf]
 | o::l,[],n,p,h=>by simp at h
 | o::l,m::ms,n,p,h=>by
  unfold posOf
  rw [List.mem_cons,zkC (l:=l) (by simpa using h)]
  constructor
  ·rintro (rfl|⟨i,h1,h2,h3,h4⟩)
   ·exact ⟨0,rfl,rfl,rfl,rfl⟩
   ·exact ⟨i+1,by simpa using h1,by rw [h2];omega,by simpa using h3,h4⟩
  ·rintro ⟨i,h1,h2,h3,h4⟩
   cases i with
   | zero=>
    left
    obtain ⟨po,pi,pm,ps⟩:=p
    simp at h1 h2 h3 h4
    subst h1 h2 h3 h4
    rfl
   | succ i=>exact .inr ⟨i,by simpa using h1,by rw [h2];omega,by simpa using h3,h4⟩
theorem zeA: ∀(l:List Oper) (ms:List Nat),(zbK l ms).length=ms.length+l.length
 | [], ms=>rfl
 | o::l,ms=>by unfold zbK;rw [zeA l];simp;omega
theorem zbZ (l:List Oper):(zdk l).length=l.length:=by unfold zdk;rw [zeA];simp
theorem zgR {m:Nat}: ∀(hs:List Nat) (t acc:Nat),acc≤t→acc≤zbN m hs t acc
 | [], t,acc,_=>Nat.le_refl _
 | h::l,t,acc,ha=>by
  unfold zbN
  split
  ·exact Nat.le_trans (Nat.le_succ_of_le ha) (zgR l _ _ (Nat.le_refl _))
  ·exact zgR l _ _ (Nat.le_succ_of_le ha)
theorem zfv {m:Nat}: ∀(hs:List Nat) (t acc u h:Nat),acc≤t→hs[u]? =some h→m.testBit h=true→t+u+1≤zbN m hs t acc
 | [], t,acc,u,h,_,hh,_=>by simp at hh
 | x::l,t,acc,0,h,ha,hh,hm=>by
  simp at hh;subst hh
  unfold zbN
  rw [hm]
  exact zgR l _ _ (Nat.le_refl _)
 | x::l,t,acc,u+1,h,ha,hh,hm=>by
  unfold zbN
  split
  ·have:=zfv l (t+1) (t+1) u h (Nat.le_refl _) (by simpa using hh) hm
   show t+(u+1)+1≤zbN m l (t+1) (t+1)
   omega
  ·have:=zfv l (t+1) acc u h (by omega) (by simpa using hh) hm
   show t+(u+1)+1≤zbN m l (t+1) acc
   omega
theorem zeD {m:Nat}: ∀(hs:List Nat) (t acc:Nat),acc≤t→zbN m hs t acc=acc∨ ∃u h,hs[u]? =some h∧m.testBit h=true∧zbN m hs t acc=t+u+1
 | [], t,acc,_=> .inl rfl
 | x::l,t,acc,ha=>by
  unfold zbN
  split
  ·rename_i hm
   rcases zeD (m:=m) l (t+1) (t+1) (Nat.le_refl _) with h|⟨u,h,h1,h2,h3⟩
   ·exact .inr ⟨0,x,rfl,hm,h⟩
   ·exact .inr ⟨u+1,h,by simpa using h1,h2,by show zbN m l (t+1) (t+1)=_;omega⟩
  ·rcases zeD (m:=m) l (t+1) acc (by omega) with h|⟨u,h,h1,h2,h3⟩
   ·exact .inl h
   ·exact .inr ⟨u+1,h,by simpa using h1,h2,by show zbN m l (t+1) acc=_;omega⟩
end
end Go.Dw
namespace Go.Dw
def mkOf (ops:Array Oper) (i:Nat):Nat:=(zdk ops.toList).getD i 0
def hsOf (ops:Array Oper):List Nat:=zb7 ops.toList 0
def stOf (ops:Array Oper) (i:Nat):Nat:=zbN (mkOf ops i) (hsOf ops) 0 0
def zdb (ops:Array Oper):List PO:=posOf (hsOf ops) ops.toList (zdk ops.toList) 0
def hpOf (ops:Array Oper):List PO:=(zdb ops).filter fun p=>zaR p.o
structure PF (ops:Array Oper):Prop where
 edges:zcN ops
 chain: ∀u h h',(hsOf ops)[u]? =some h→(hsOf ops)[u+1]? =some h'→(mkOf ops h').testBit h=true
 reads: ∀(p q:Nat) (o oq:Oper) (t:Tmp),ops[p]? =some o→ops[q]? =some oq→oq.dst=some t→t∈looks ops o→(mkOf ops p).testBit q=true∨(mkOf ops q).testBit p=true
 dsts: ∀(p q:Nat) (o oq:Oper) (t:Tmp),p≠q→ops[p]? =some o→ops[q]? =some oq→o.dst=some t→oq.dst≠some t
 nodef: ∀(p:Nat) (o:Oper),ops[p]? =some o→zhs o=false
 rer: ∀(u h p q:Nat) (o oq:Oper) (t:Tmp),(hsOf ops)[u]? =some h→ops[p]? =some o→zhr o=true→stOf ops p≤u→(mkOf ops h).testBit p=false→
  ops[q]? =some oq→oq.dst=some t→t∈looks ops o→(mkOf ops p).testBit q=true∨u<stOf ops q
theorem zdp: ∀(l:List Oper) (n i:Nat),i∈zb7 l n↔ ∃k o,i=n+k∧l[k]? =some o∧zaR o=true
 | [], n,i=>by simp [zb7]
 | o::l,n,i=>by
  unfold zb7
  split
  ·rename_i h
   rw [List.mem_cons,zdp l (Nat.succ n) i]
   constructor
   ·rintro (rfl|⟨k,o',h1,h2,h3⟩)
    ·exact ⟨0,o,rfl,rfl,h⟩
    ·exact ⟨k+1,o',by omega,by simpa using h2,h3⟩
   ·rintro ⟨k,o',h1,h2,h3⟩
    cases k with
    | zero=>left;simpa using h1
    | succ k=>exact .inr ⟨k,o',by omega,by simpa using h2,h3⟩
  ·rename_i h
   rw [zdp l (Nat.succ n) i]
   constructor
   ·rintro ⟨k,o',h1,h2,h3⟩
    exact ⟨k+1,o',by omega,by simpa using h2,h3⟩
   ·rintro ⟨k,o',h1,h2,h3⟩
    cases k with
    | zero=>
     simp only [List.getElem?_cons_zero,Option.some.injEq] at h2
     subst h2
     rw [h] at h3;cases h3
    | succ k=>exact ⟨k,o',by omega,by simpa using h2,h3⟩
theorem zc6: ∀(l:List Oper) (n:Nat),(zb7 l n).Pairwise (· < ·)
 | [], n=>List.Pairwise.nil
 | o::l,n=>by
  unfold zb7
  split
  ·refine List.Pairwise.cons (fun i hi=> ?_) (zc6 l _)
   obtain ⟨k,_,h,_⟩:=(zdp l _ i).1 hi
   omega
  ·exact zc6 l _
theorem zfl {ops:Array Oper} {i:Nat}:(∃u:Nat,(hsOf ops)[u]? =some i)↔ ∃o,ops[i]? =some o∧zaR o=true:=by
 rw [←List.mem_iff_getElem?]
 unfold hsOf
 rw [zdp]
 constructor
 ·rintro ⟨k,o,h1,h2,h3⟩
  have e:i=k:=by omega
  subst e
  exact ⟨o,by simpa using h2,h3⟩
 ·rintro ⟨o,h2,h3⟩
  exact ⟨i,o,by omega,by simpa using h2,h3⟩
theorem zmi {ops:Array Oper} {u v x y:Nat} (h1:(hsOf ops)[u]? =some x) (h2:(hsOf ops)[v]? =some y) (h:x<y):u<v:=by
 apply Classical.byContradiction
 intro hn
 obtain ⟨hu,e1⟩:=List.getElem?_eq_some_iff.1 h1
 obtain ⟨hv,e2⟩:=List.getElem?_eq_some_iff.1 h2
 rcases Nat.lt_or_eq_of_le (Nat.le_of_not_lt hn) with hlt|heq
 ·have:=(List.pairwise_iff_getElem.1 (zc6 ops.toList 0)) v u hv hu hlt
  change (hsOf ops)[v]<(hsOf ops)[u] at this
  omega
 ·subst heq
  rw [h1] at h2
  cases h2
  exact Nat.lt_irrefl _ h
theorem znu {ops:Array Oper} {u v x:Nat} (h1:(hsOf ops)[u]? =some x) (h2:(hsOf ops)[v]? =some x):u=v:=by
 obtain ⟨hu,e1⟩:=List.getElem?_eq_some_iff.1 h1
 obtain ⟨hv,e2⟩:=List.getElem?_eq_some_iff.1 h2
 rcases Nat.lt_trichotomy u v with h|h|h
 ·have:=(List.pairwise_iff_getElem.1 (zc6 ops.toList 0)) u v hu hv h
  change (hsOf ops)[u]<(hsOf ops)[v] at this
  omega
 ·exact h
 ·have:=(List.pairwise_iff_getElem.1 (zc6 ops.toList 0)) v u hv hu h
  change (hsOf ops)[v]<(hsOf ops)[u] at this
  omega
theorem zfa {ops:Array Oper} {i x:Nat} (h:ops[i]? =none):(mkOf ops i).testBit x=false:=by
 unfold mkOf
 rw [List.getD_eq_getElem?_getD,List.getElem?_eq_none (by rw [zbZ];simpa using h)]
 simp
theorem zhf {ops:Array Oper} (he:zcN ops): ∀(i x:Nat),(mkOf ops i).testBit x=true→x<i:=by
 intro i
 induction i using Nat.strongRecOn with
 | _ i ih=>
  intro x hx
  cases ho:ops[i]? with
  | none=>rw [zfa ho] at hx;cases hx
  | some o=>
   obtain ⟨e,h1,h2,h3⟩:=zdj ops.toList [] i x o (by simpa using ho) (by simpa [mkOf,zdk] using hx)
   have hlt:=he i o ho e (by simpa using h1) h2
   rcases h3 with rfl|⟨h3,h4⟩
   ·exact hlt
   ·have:=ih e.on hlt x (by simpa [mkOf,zdk] using h4)
    omega
theorem zgc {ms:List Nat}: ∀ {l:List Edge} {x:Nat} {e:Edge},e∈l→Region.binds .any e=true→(x=e.on∨(ms.getD e.on 0).testBit x=true)→(za0 ms l).testBit x=true
 | [], x,e,h,_,_=>by cases h
 | e'::l,x,e,h,hb,hx=>by
  unfold za0
  rcases List.mem_cons.1 h with rfl|h
  ·rw [hb]
   show (((2^e.on)|||(ms.getD e.on 0))|||za0 ms l).testBit x=true
   rw [Nat.testBit_or,Nat.testBit_or,Nat.testBit_two_pow]
   rcases hx with rfl|hx
   ·simp
   ·rw [hx];simp
  ·have ih:=zgc h hb hx
   split
   ·show (((2^e'.on)|||(ms.getD e'.on 0))|||za0 ms l).testBit x=true
    rw [Nat.testBit_or,ih];simp
   ·exact ih
theorem zf7: ∀(l:List Oper) (ms:List Nat) (i x:Nat) (o:Oper),l[i]? =some o→ ∀e∈o.after.toList,Region.binds .any e=true→e.on<ms.length+i→
  (x=e.on∨((zbK l ms).getD e.on 0).testBit x=true)→((zbK l ms).getD (ms.length+i) 0).testBit x=true
 | [], ms,i,x,o,h,_,_,_,_,_=>by simp at h
 | o'::l,ms,0,x,o,h,e,he,hb,hlt,hx=>by
  simp at h;subst h
  unfold zbK at hx ⊢
  rw [List.getD_eq_getElem?_getD,zci l _ _ (by simp),List.getElem?_append_right (by simp)]
  simp only [Nat.add_zero,Nat.sub_self,List.getElem?_cons_zero,Option.getD_some]
  refine zgc he hb (hx.imp id fun hx=> ?_)
  rw [List.getD_eq_getElem?_getD,zci l _ _ (by simp;omega),List.getElem?_append_left (by omega),←List.getD_eq_getElem?_getD] at hx
  exact hx
 | o'::l,ms,i+1,x,o,h,e,he,hb,hlt,hx=>by
  unfold zbK at hx ⊢
  have:=zf7 l (ms++ [za0 ms o'.after.toList]) i x o (by simpa using h) e he hb (by simp;omega) hx
  simpa [Nat.add_assoc,Nat.add_comm 1 i] using this
theorem zqe {ops:Array Oper} (he:zcN ops) {i x:Nat} {o:Oper} (ho:ops[i]? =some o) {e:Edge} (h1:e∈o.after) (h2:Region.binds .any e=true) (hx:x=e.on∨(mkOf ops e.on).testBit x=true):
  (mkOf ops i).testBit x=true:=by
 have:=zf7 ops.toList [] i x o (by simpa using ho) e (by simpa using h1) h2 (by simpa using he i o ho e h1 h2) (by simpa [mkOf,zdk] using hx)
 simpa [mkOf,zdk] using this
theorem zov {ops:Array Oper} (he:zcN ops): ∀(i x y:Nat),(mkOf ops i).testBit x=true→(mkOf ops x).testBit y=true→(mkOf ops i).testBit y=true:=by
 intro i
 induction i using Nat.strongRecOn with
 | _ i ih=>
  intro x y hx hy
  cases ho:ops[i]? with
  | none=>rw [zfa ho] at hx;cases hx
  | some o=>
   obtain ⟨e,h1,h2,h3⟩:=zdj ops.toList [] i x o (by simpa using ho) (by simpa [mkOf,zdk] using hx)
   have hlt:=he i o ho e (by simpa using h1) h2
   refine zqe he ho (by simpa using h1) h2 (.inr ?_)
   rcases h3 with rfl|⟨h3,h4⟩
   ·exact hy
   ·exact ih e.on hlt x y (by simpa [mkOf,zdk] using h4) hy
theorem ziX {ops:Array Oper} {i u x:Nat} (hu:(hsOf ops)[u]? =some x) (hx:(mkOf ops i).testBit x=true):u+1≤stOf ops i:=by
 have:=zfv (m:=mkOf ops i) (hsOf ops) 0 0 u x (Nat.le_refl _) hu hx
 unfold stOf
 omega
theorem ziW {ops:Array Oper} (i:Nat):stOf ops i=0∨ ∃u x,(hsOf ops)[u]? =some x∧(mkOf ops i).testBit x=true∧stOf ops i=u+1:=by
 rcases zeD (m:=mkOf ops i) (hsOf ops) 0 0 (Nat.le_refl _) with h|⟨u,x,h1,h2,h3⟩
 ·exact .inl h
 ·exact .inr ⟨u,x,h1,h2,by unfold stOf;omega⟩
theorem zlE {ops:Array Oper} (he:zcN ops) {i x:Nat} (hx:(mkOf ops i).testBit x=true):stOf ops x≤stOf ops i:=by
 rcases ziW (ops:=ops) x with h|⟨u,y,h1,h2,h3⟩
 ·omega
 ·have:=ziX (i:=i) h1 (zov he i x y hx h2)
  omega
def DD (ops:Array Oper) (s n i:Nat):Prop:=
 ∃ o,ops[i]? =some o∧((zaR o=false∧(stOf ops i<s∨stOf ops i=s∧i<n))∨(zaR o=true∧ ∃u,u<s∧(hsOf ops)[u]? =some i))
theorem zkD {ops:Array Oper} (he:zcN ops) {i x:Nat} (hx:(mkOf ops i).testBit x=true): ∃o,ops[x]? =some o:=by
 have hlt:=zhf he i x hx
 cases ho:ops[i]? with
 | none=>rw [zfa ho] at hx;cases hx
 | some o=>
  have:=(Array.getElem?_eq_some_iff.1 ho).1
  exact ⟨ops[x],Array.getElem?_eq_getElem (by omega)⟩
theorem zrn {ops:Array Oper} (he:zcN ops) {s n i x:Nat} (h:DD ops s n i) (hx:(mkOf ops i).testBit x=true):DD ops s n x:=by
 obtain ⟨o,ho,h⟩:=h
 obtain ⟨ox,hox⟩:=zkD he hx
 have hlt:=zhf he i x hx
 refine ⟨ox,hox,?_⟩
 cases hh:zaR ox with
 | true=>
  obtain ⟨u,hu⟩:=zfl.2 ⟨ox,hox,hh⟩
  refine .inr ⟨rfl,u,?_,hu⟩
  rcases h with ⟨_,h⟩|⟨_,v,hv,h⟩
  ·have:=ziX (i:=i) hu hx
   omega
  ·have:=zmi hu h hlt
   omega
 | false=>
  refine .inl ⟨rfl,?_⟩
  rcases h with ⟨_,h⟩|⟨_,v,hv,h⟩
  ·have:=zlE he hx
   omega
  ·rcases ziW (ops:=ops) x with h0|⟨u,y,h1,h2,h3⟩
   ·omega
   ·have:=zhf he x y h2
    have:=zmi h1 h (by omega)
    omega
theorem zu3 {ops:Array Oper} (he:zcN ops) {s i x:Nat} (hs:stOf ops i=s) (hx:(mkOf ops i).testBit x=true):DD ops s i x:=by
 obtain ⟨ox,hox⟩:=zkD he hx
 have hlt:=zhf he i x hx
 refine ⟨ox,hox,?_⟩
 cases hh:zaR ox with
 | true=>
  obtain ⟨u,hu⟩:=zfl.2 ⟨ox,hox,hh⟩
  have:=ziX (i:=i) hu hx
  exact .inr ⟨rfl,u,by omega,hu⟩
 | false=>
  have:=zlE he hx
  exact .inl ⟨rfl,by omega⟩
theorem zu0 {ops:Array Oper} {s n:Nat} {o:Oper} (ho:ops[n]? =some o) (hv:zaR o=false) (hs:stOf ops n=s) (i:Nat):(DD ops s n i∨i=n)↔DD ops s (n+1) i:=by
 constructor
 ·rintro (⟨o',h1,h2⟩|rfl)
  ·refine ⟨o',h1,h2.imp (fun h=>⟨h.1,?_⟩) id⟩
   have:=h.2;omega
  ·exact ⟨o,ho,.inl ⟨hv,by omega⟩⟩
 ·rintro ⟨o',h1,h2|h2⟩
  ·by_cases hi:i=n
   ·exact .inr hi
   ·exact .inl ⟨o',h1,.inl ⟨h2.1,by have:=h2.2;omega⟩⟩
  ·exact .inl ⟨o',h1,.inr h2⟩
theorem zu1 {ops:Array Oper} {s n:Nat} {o:Oper} (ho:ops[n]? =some o) (h:zaR o=true∨stOf ops n≠s) (i:Nat):DD ops s n i↔DD ops s (n+1) i:=by
 constructor
 ·rintro ⟨o',h1,h2⟩
  refine ⟨o',h1,h2.imp (fun h=>⟨h.1,?_⟩) id⟩
  have:=h.2;omega
 ·rintro ⟨o',h1,h2|h2⟩
  ·refine ⟨o',h1,.inl ⟨h2.1,?_⟩⟩
   by_cases hi:i=n
   ·subst hi
    rw [ho] at h1;cases h1
    rcases h with h|h
    ·rw [h] at h2;cases h2.1
    ·have:=h2.2;omega
   ·have:=h2.2;omega
  ·exact ⟨o',h1,.inr h2⟩
theorem zu2 {ops:Array Oper} {s n:Nat} (hn:ops.size≤n) (i:Nat):DD ops s n i↔DD ops s ops.size i:=by
 constructor<;>rintro ⟨o',h1,h2⟩<;>have hlt:=(Array.getElem?_eq_some_iff.1 h1).1<;>
  exact ⟨o',h1,h2.imp (fun h=>⟨h.1,by have:=h.2;omega⟩) id⟩
theorem zs1 {ops:Array Oper} {s h:Nat} {o:Oper} (hu:(hsOf ops)[s]? =some h) (ho:ops[h]? =some o) (hv:zaR o=true) (i:Nat):(DD ops s ops.size i∨i=h)↔DD ops (s+1) 0 i:=by
 constructor
 ·rintro (⟨o',h1,h2⟩|rfl)
  ·refine ⟨o',h1,h2.imp (fun h=>⟨h.1,by have:=h.2;omega⟩) fun ⟨a,u,b,c⟩=>⟨a,u,by omega,c⟩⟩
  ·exact ⟨o,ho,.inr ⟨hv,s,by omega,hu⟩⟩
 ·rintro ⟨o',h1,h2|⟨h2,u,h3,h4⟩⟩
  ·have hlt:=(Array.getElem?_eq_some_iff.1 h1).1
   exact .inl ⟨o',h1,.inl ⟨h2.1,by have:=h2.2;omega⟩⟩
  ·by_cases hus:u=s
   ·subst hus;rw [hu] at h4;cases h4;exact .inr rfl
   ·exact .inl ⟨o',h1,.inr ⟨h2,u,by omega,h4⟩⟩
theorem zqd {ops:Array Oper} {p:PO}:p∈zdb ops↔ops[p.i]? =some p.o∧p.m=mkOf ops p.i∧p.s=stOf ops p.i:=by
 unfold zdb
 rw [zkC (by rw [zbZ])]
 constructor
 ·rintro ⟨i,h1,h2,h3,h4⟩
  have e:p.i=i:=by omega
  have hm:p.m=mkOf ops i:=by unfold mkOf;rw [List.getD_eq_getElem?_getD,h3];rfl
  rw [e]
  exact ⟨by simpa using h1,hm,by rw [h4,hm];rfl⟩
 ·rintro ⟨h1,h2,h3⟩
  have hlt:=(Array.getElem?_eq_some_iff.1 h1).1
  have hm:(zdk ops.toList)[p.i]? =some p.m:=by
   rw [h2];unfold mkOf
   rw [List.getD_eq_getElem?_getD,List.getElem?_eq_getElem (by rw [zbZ];simpa using hlt)];rfl
  exact ⟨p.i,by simpa using h1,by omega,hm,by rw [h3,h2];rfl⟩
theorem zd5 {ops:Array Oper} {i:Nat} {o:Oper} (h:ops[i]? =some o):(⟨o,i,mkOf ops i,stOf ops i⟩:PO)∈zdb ops:=zqd.2 ⟨h,rfl,rfl⟩
theorem ziL {ms:List Nat}: ∀ {l:List Nat} {u h h':Nat},chained ms l=true→l[u]? =some h→l[u+1]? =some h'→(ms.getD h' 0).testBit h=true
 | [], u,h,h',_,h1,_=>by simp at h1
 | x::l,u,h,h',hc,h1,h2=>by
  unfold chained at hc
  cases l with
  | nil=>simp at h2
  | cons y l=>
   simp only at hc
   split at hc
   ·rename_i hb
    cases u with
    | zero=>simp at h1 h2;subst h1 h2;exact hb
    | succ u=>exact ziL hc (by simpa using h1) (by simpa using h2)
   ·cases hc
theorem ziC: ∀ {l:List PO},zhE l=true→ ∀p∈l,∀e∈p.o.after,Region.binds .any e=true→e.on<p.i
 | [], _,p,hp,_,_,_=>by cases hp
 | q::l,h,p,hp,e,he,hb=>by
  unfold zhE at h
  split at h
  case h_2=>cases h
  rename_i hq
  rcases List.mem_cons.1 hp with rfl|hp
  ·have:=List.all_eq_true.1 hq e (by simpa using he)
   rw [hb] at this
   rw [Nat.blt_eq] at this;exact this
  ·exact ziC h p hp e he hb
theorem zqx {hs:List Nat}: ∀ {l:List Oper} {ms:List Nat} {n:Nat},l.length=ms.length→((posOf hs l ms n).filter fun p=>zaR p.o).map (·.i)=zb7 l n
 | [], ms,n,_=>by simp [posOf,zb7]
 | o::l,[],n,h=>by simp at h
 | o::l,m::ms,n,h=>by
  unfold posOf zb7
  rw [List.filter_cons]
  cases hv:zaR o with
  | true=>simp [hv,zqx (hs:=hs) (l:=l) (ms:=ms) (n:=n+1) (by simpa using h)]
  | false=>simp [hv,zqx (hs:=hs) (l:=l) (ms:=ms) (n:=n+1) (by simpa using h)]
theorem znv (ops:Array Oper):(hpOf ops).map (·.i)=hsOf ops:=zqx (by rw [zbZ])
theorem zqy {ops:Array Oper} {u:Nat} {p:PO} (h:(hpOf ops)[u]? =some p):(hsOf ops)[u]? =some p.i∧ops[p.i]? =some p.o∧p.m=mkOf ops p.i∧zaR p.o=true:=by
 have hm:=List.mem_of_getElem? h
 unfold hpOf at hm
 rw [List.mem_filter,zqd] at hm
 refine ⟨?_,hm.1.1,hm.1.2.1,hm.2⟩
 rw [←znv,List.getElem?_map,h];rfl
theorem zeL (ops:Array Oper):(hpOf ops).length=(hsOf ops).length:=by rw [←znv];simp
theorem zcw {s hm:Nat} {p:PO}: ∀ {l:List PO},p∈zct s hm l↔p∈l∧zhr p.o=true∧p.s≤s∧hm.testBit p.i=false
 | [] => by simp [zct]
 | q::l=>by
  unfold zct
  split
  ·rename_i h1 h2 h3
   rw [List.mem_cons,List.mem_cons,zcw]
   constructor
   ·rintro (rfl|h)
    ·exact ⟨.inl rfl,h1,Nat.le_of_ble_eq_true h2,h3⟩
    ·exact ⟨.inr h.1,h.2⟩
   ·rintro ⟨rfl|h,h'⟩
    ·exact .inl rfl
    ·exact .inr ⟨h,h'⟩
  ·rename_i hne
   rw [List.mem_cons,zcw]
   constructor
   ·rintro ⟨h,h'⟩;exact ⟨.inr h,h'⟩
   ·rintro ⟨rfl|h,h1,h2,h3⟩
    ·exact absurd h3 (hne h1 (by rw [Nat.ble_eq];exact h2))
    ·exact ⟨h,h1,h2,h3⟩
theorem zhe {o:Oper}: ∀ {l:List PO},o∈zhc l↔ ∃p∈l,p.o=o
 | [] => by simp [zhc]
 | q::l=>by
  unfold zhc
  rw [List.mem_cons,zhe]
  constructor
  ·rintro (rfl|⟨p,h,rfl⟩)
   ·exact ⟨q,List.mem_cons_self ..,rfl⟩
   ·exact ⟨p,List.mem_cons_of_mem _ h,rfl⟩
  ·rintro ⟨p,h,rfl⟩
   rcases List.mem_cons.1 h with rfl|h
   ·exact .inl rfl
   ·exact .inr ⟨p,h,rfl⟩
theorem zf6 {ops:Array Oper} {all:List PO}: ∀ {l:List PO} {s u:Nat} {p:PO},zdM ops all s l=true→l[u]? =some p→(zct (s+u) p.m all).all (zi5 ops all (s+u))=true
 | [], s,u,p,_,h=>by simp at h
 | q::l,s,u,p,h,hp=>by
  unfold zdM at h
  split at h
  case h_2=>cases h
  rename_i hq
  cases u with
  | zero=>simp at hp;subst hp;exact hq
  | succ u=>
   have:=zf6 (s:=s+1) (u:=u) (p:=p) h (by simpa using hp)
   rw [show s+(u+1)=s+1+u by omega]
   exact this
theorem ziR {l:List Nat} {t:Nat} (h:t∈l):l.any (Nat.beq t)=true:=List.any_eq_true.2 ⟨t,h,Nat.beq_refl t⟩
theorem zko {ops:Array Oper} {l:List zhQ} (h:zpT ops=some l):PF ops∧l=zcu (zdb ops) 0 (hpOf ops):=by
 unfold zpT at h
 simp only at h
 split at h
 case h_2=>cases h
 rename_i hc
 change (chained (zdk ops.toList) (hsOf ops)&&zhE (zdb ops)&&(zdb ops).all (zpB ops (zdb ops))&& !(ops.toList.any zhs)&&zdM ops (zdb ops) 0 (hpOf ops))=true at hc
 rw [Bool.and_eq_true,Bool.and_eq_true,Bool.and_eq_true,Bool.and_eq_true] at hc
 obtain ⟨⟨⟨⟨c1,c2⟩,c3⟩,c4⟩,c5⟩:=hc
 refine ⟨⟨fun i o ho e he hb=>ziC c2 _ (zd5 ho) e he hb,fun u h h' h1 h2=>ziL c1 h1 h2,fun p q o oq t hp hq hd ht=> ?_,fun p q o oq t hne hp hq hd hdq=> ?_,fun p o hp=> ?_,fun u h p q o oq t hu hp hl hs hb hq hd ht=> ?_⟩,(Option.some.inj h).symm⟩
 ·have:=List.all_eq_true.1 (List.all_eq_true.1 c3 _ (zd5 hp)) _ (zd5 hq)
  simp only [hd,ziR ht] at this
  cases hb:(mkOf ops p).testBit q with
  | true=>exact .inl rfl
  | false=>
   cases hb':(mkOf ops q).testBit p with
   | true=>exact .inr rfl
   | false=>simp [hb,hb'] at this
 ·have:=List.all_eq_true.1 (List.all_eq_true.1 c3 _ (zd5 hp)) _ (zd5 hq)
  simp only [hdq,hd] at this
  have e1:Nat.beq p q=false:=by cases e:Nat.beq p q with
   | false=>rfl
   | true=>exact absurd (Nat.eq_of_beq_eq_true e) hne
  split at this
  ·cases this
  ·simp [e1] at this
 ·have:=c4
  simp only [Bool.not_eq_true',List.any_eq_false] at this
  have:=this o (by have:=Array.mem_of_getElem? hp;simpa using this)
  simpa using this
 ·obtain ⟨hlt,_⟩:=List.getElem?_eq_some_iff.1 hu
  rw [←zeL] at hlt
  have hpo:(hpOf ops)[u]? =some (hpOf ops)[u]:=List.getElem?_eq_getElem hlt
  obtain ⟨g1,g2,g3,g4⟩:=zqy hpo
  rw [hu] at g1
  have e:h=(hpOf ops)[u].i:=Option.some.inj g1
  have hall:=zf6 c5 hpo
  rw [Nat.zero_add,g3,←e] at hall
  have:=List.all_eq_true.1 hall ⟨o,p,mkOf ops p,stOf ops p⟩ (zcw.2 ⟨zd5 hp,hl,hs,hb⟩)
  unfold zi5 at this
  have:=List.all_eq_true.1 this _ (zd5 hq)
  simp only [hd,ziR ht] at this
  cases hb:(mkOf ops p).testBit q with
  | true=>exact .inl rfl
  | false=>
   cases hb':Nat.blt u (stOf ops q) with
   | true=>rw [Nat.blt_eq] at hb';exact .inr hb'
   | false=>simp [hb,hb'] at this
theorem zgS {ops:Array Oper} (he:zcN ops) {v x:Nat} (hv:(hsOf ops)[v]? =some x):stOf ops x≤v:=by
 rcases ziW (ops:=ops) x with h|⟨u,y,h1,h2,h3⟩
 ·omega
 ·have:=zmi h1 hv (zhf he x y h2)
  omega
section
variable {P:Program} {ρ:Val} {w0:Cx} {j:J} {H:Heap} {w:World} {N:Nat} {env:T AV} {a:Act} {o:Oper} {ops:Array Oper} {Q:Exit→Act→World→Prop}
theorem count_set {listed:Array Bool} {i:Nat} (h:listed.getD i true=false):(listed.setIfInBounds i true).count false+1=listed.count false:=by
 have hlt:i<listed.size:=by
  apply Classical.byContradiction
  intro hn
  rw [Array.getD_eq_getD_getElem?,Array.getElem?_eq_none (by omega)] at h
  cases h
 have hf:listed[i]=false:=by
  rw [Array.getD_eq_getD_getElem?,Array.getElem?_eq_getElem hlt] at h
  exact h
 have hpos:0<listed.count false:=Array.count_pos_iff.2 (by rw [←hf];exact Array.getElem_mem hlt)
 rw [Array.setIfInBounds_def,dif_pos hlt,Array.count_set]
 simp [hf]
 omega
end
end Go.Dw
namespace Go.Dw
def GV (ρ:Val):G→Bool→Prop
 | .yes,g=>g=true
 | .no,g=>g=false
 | .test _ b want,g=>(b.den ρ==want)=g
 | .none,_=>False
def zmB (N:Nat) (env:T AV) (o:Oper) (v:AV):Prop:= ∀d,o.dst=some d→d<N∧env.get d=some v
section
variable {P:Program} {ρ:Val} {w0:Cx} {ops:Array Oper} {N:Nat} {env0:T AV} {H0:Heap} {j0:J}
variable {D listed:Nat→Prop} {envS env env':T AV} {j j':J} {H H':Heap} {w w':World} {a:Act} {nm nm':Nat→Option Nat} {rec:Task→Ob} {n:Nat} {Q:Exit→Act→World→Prop}
theorem zuh {x:Operand} (h: ∀t,x= .tmp t→env.get t=env'.get t):opd env x=opd env' x:=by
 cases x with
 | tmp t=>simp only [opd];rw [h t rfl]
 | _=>rfl
theorem zfB {o:Oper} (h: ∀t∈looks ops o,env.get t=env'.get t): ∀x∈o.op.operands,opd env x=opd env' x:=fun x hx=>zuh fun t e=>h t (by
 subst e
 unfold looks
 exact List.mem_append_left _ (List.mem_filterMap.2 ⟨.tmp t,by simpa using hx,rfl⟩))
theorem zdW {o:Oper} (h: ∀t∈looks ops o,env.get t=env'.get t):zb0 ops env o=zb0 ops env' o:=by
 unfold zb0
 cases hg:o.guard with
 | none=>rfl
 | some gw=>
  obtain ⟨i,want⟩:=gw
  simp only
  cases hi:ops[i]? with
  | none=>rfl
  | some oj=>
   simp only
   cases hd:oj.dst with
   | none=>rfl
   | some t=>
    simp only
    rw [h t (by unfold looks;refine List.mem_append_right _ ?_;simp [hg,hi,hd])]
theorem zkV (he:ER ρ j N env a) {o:Oper} {g:Bool} (h:GV ρ (zb0 ops env o) g):Region.wanted o (yielded ops a.tmps)=g:=by
 have hs:=zhu he ops o
 cases hG:zb0 ops env o with
 | yes=>rw [hG] at h hs;have h:g=true:=h;rw [h];exact hs
 | no=>rw [hG] at h hs;have h:g=false:=h;rw [h];exact hs
 | none=>rw [hG] at h;exact h.elim
 | test t b want=>
  rw [hG] at h hs
  have hb:=(zgV he hs).2
  have h:(b.den ρ==want)=g:=h
  unfold zb0 at hG
  split at hG
  ·cases hG
  rename_i i want' hg
  split at hG
  ·cases hG
  rename_i oj hi
  split at hG
  ·cases hG
  rename_i t' hd
  split at hG
  ·cases hG
  ·split at hG<;>cases hG
  ·split at hG<;>cases hG
  ·cases hG
   unfold Region.wanted
   rw [hg]
   simp only [yielded,hi,Option.bind_some,hd,hb]
   rw [←h]
   cases b.den ρ<;>cases want<;>rfl
  ·cases hG
  ·cases hG
  ·cases hG
def Told (ρ:Val) (l:List (SB×Bool)):Prop:= ∀c∈l,c.1.den ρ=c.2
theorem zcC {ρ:Val} {c:SB}: ∀ {l:List (SB×Bool)} {b:Bool},Told ρ l→zeT c l=some b→c.den ρ=b
 | [], _,_,h=>by cases h
 | p::l,b,ht,h=>by
  unfold zeT at h
  split at h
  ·rename_i he
   cases h
   rw [SB.eqv_eq he]
   exact ht p (by simp)
  ·exact zcC (fun c hc=>ht c (by simp [hc])) h
theorem zgQ {ρ:Val} {l:List (SB×Bool)} {c:SB} {b:Bool} (h:Told ρ l) (hc:c.den ρ=b):Told ρ ((c,b)::l):=fun x hx=>by
 rcases List.mem_cons.1 hx with rfl|hx
 ·exact hc
 ·exact h x hx
def zuY (ρ:Val) (z:AV):Prop:= ∀j,R ρ j z undef
theorem zvL {ρ:Val} {G:G} {a b:Bool} (h:GV ρ G a) (k:GV ρ G b):a=b:=by
 cases G with
 | yes=>exact Eq.trans (show a=true from h) (show b=true from k).symm
 | no=>exact Eq.trans (show a=false from h) (show b=false from k).symm
 | test t c want=>exact Eq.trans (show (c.den ρ==want)=a from h).symm k
 | none=>exact h.elim
theorem zkW {fs:List (SB×Bool)} (hf:Told ρ fs) {o:Oper}:(zfm fs ops env o= .yes→GV ρ (zb0 ops env o) true)∧(zfm fs ops env o= .no→GV ρ (zb0 ops env o) false∧zuY ρ (zuj ops env o))∧
  (∀ t b want,zfm fs ops env o= .test t b want→zb0 ops env o= .test t b want):=by
 unfold zfm zuj
 cases hG:zb0 ops env o with
 | yes=>exact ⟨fun _=>rfl,fun h=>by (simp at h),fun _ _ _ h=>by (simp at h)⟩
 | no=>exact ⟨fun h=>by (simp at h),fun _=>⟨rfl,fun j=>zcp⟩,fun _ _ _ h=>by (simp at h)⟩
 | none=>exact ⟨fun h=>by (simp at h),fun h=>by (simp at h),fun _ _ _ h=>by (simp at h)⟩
 | test t b want=>
  simp only
  split
  ·rename_i ht
   have hb:=zcC hf ht
   cases want with
   | true=>exact ⟨fun _=>by (show (b.den ρ==true)=true;rw [hb];rfl),fun h=>by (simp at h),fun _ _ _ h=>by (simp at h)⟩
   | false=>exact ⟨fun h=>by (simp at h),fun _=>⟨by (show (b.den ρ==false)=false;rw [hb];rfl),fun j=>(show undef=undef∧b.den ρ= !_ from ⟨rfl,hb⟩)⟩,fun _ _ _ h=>by (simp at h)⟩
  ·rename_i ht
   have hb:=zcC hf ht
   cases want with
   | true=>exact ⟨fun h=>by (simp at h),fun _=>⟨by (show (b.den ρ==true)=false;rw [hb];rfl),fun j=>(show undef=undef∧b.den ρ= !_ from ⟨rfl,hb⟩)⟩,fun _ _ _ h=>by (simp at h)⟩
   | false=>exact ⟨fun _=>by (show (b.den ρ==false)=true;rw [hb];rfl),fun h=>by (simp at h),fun _ _ _ h=>by (simp at h)⟩
  ·exact ⟨fun h=>by (simp at h),fun h=>by (simp at h),fun _ _ _ h=>h⟩
theorem zg7 {o:Oper} {k:T AV→Heap→Ob} {rest:List zhQ} {fs:List (SB×Bool)} (hf:Told ρ fs) (h:Ob.den ρ (zaE P rec ops N k (.run o::rest) fs env H)):
  ∃ g z fs',GV ρ (zb0 ops env o) g∧(g=false→zuY ρ z)∧Told ρ fs'∧Ob.den ρ (zkm P rec o N (zaE P rec ops N k rest fs') env H g z):=by
 obtain ⟨e1,e2,e3⟩:=zkW (ops:=ops) (env:=env) hf (o:=o)
 unfold zaE at h
 cases hG:zfm fs ops env o with
 | yes=>rw [hG] at h;exact ⟨true,_,fs,e1 hG,(fun hh=>by cases hh),hf,h⟩
 | no=>rw [hG] at h;exact ⟨false,_,fs,(e2 hG).1,fun _=>(e2 hG).2,hf,h⟩
 | none=>rw [hG] at h;exact h.elim
 | test t b want=>
  rw [hG] at h
  rw [e3 _ _ _ hG]
  obtain ⟨h1,h2⟩:=h
  cases hb:b.den ρ with
  | true=>exact ⟨want,.nun b want,_,by show (b.den ρ==want)=want;rw [hb];cases want<;>rfl,fun hw j=>(show undef=undef∧b.den ρ= !want from ⟨rfl,by rw [hb,hw];rfl⟩),zgQ hf hb,h1 hb⟩
  | false=>
   cases want with
   | true=>exact ⟨false,.nun b true,_,by show (b.den ρ==true)=false;rw [hb];rfl,fun _ j=>(show undef=undef∧b.den ρ= !true from ⟨rfl,by rw [hb];rfl⟩),zgQ hf hb,h2 hb⟩
   | false=>exact ⟨true,_,_,by show (b.den ρ==false)=true;rw [hb];rfl,(fun hh=>by cases hh),zgQ hf hb,h2 hb⟩
theorem zlW {os:List Oper} {k:T AV→Heap→Ob} {rest:List zhQ} {fs:List (SB×Bool)} (h:Ob.den ρ (zaE P rec ops N k (.chk os::rest) fs env H)):
  chkA P fs ops env H os=true∧Ob.den ρ (zaE P rec ops N k rest fs env H):=by
 unfold zaE at h
 split at h
 ·rename_i hc;exact ⟨hc,h⟩
 ·exact h.elim
theorem zgC {dst:Option Tmp} {v:AV} {kk:T AV→Ob} (h:Ob.den ρ (putA dst N env v kk)):
  ∃ env',Ob.den ρ (kk env')∧(∀d,dst=some d→d<N∧env'.get d=some v)∧(∀t,dst≠some t→env'.get t=env.get t):=by
 unfold putA at h
 split at h
 ·exact ⟨env,h,⟨fun d e=>(by cases e),fun _ _=>rfl⟩⟩
 ·rename_i d
  split at h
  ·rename_i hb
   rw [Nat.blt_eq] at hb
   refine ⟨_,h,fun d' e=> ?_,fun t ht=> ?_⟩
   ·cases e;exact ⟨hb,by rw [T.get_set,if_pos rfl]⟩
   ·rw [T.get_set,if_neg (fun e=>ht (by rw [e]))]
  ·exact h.elim
theorem zq2 {fs:List (SB×Bool)}: ∀ {os:List Oper},chkA P fs ops env H os=true→ ∀o∈os,zfm fs ops env o= .no∨(zfm fs ops env o= .yes∧ ∃v,light P o.op env H=some v∧ ∀d,o.dst=some d→env.get d=some v)
 | [], _,o,ho=>by cases ho
 | q::os,h,o,ho=>by
  unfold chkA at h
  have hrest:chkA P fs ops env H os=true:=by
   split at h
   ·exact h
   ·split at h
    ·split at h
     ·split at h
      ·exact h
      ·cases h
     ·cases h
    ·exact h
    ·cases h
   ·cases h
  rcases List.mem_cons.1 ho with rfl|ho
  ·split at h
   ·rename_i hg;exact .inl hg
   ·rename_i hg
    refine .inr ⟨hg,?_⟩
    split at h
    ·rename_i v d hl hd
     split at h
     ·rename_i u hu
      split at h
      ·rename_i hb
       refine ⟨v,hl,fun d' e=> ?_⟩
       rw [hd] at e;cases e
       rw [hu,AV.beq_eq hb]
      ·cases h
     ·cases h
    ·rename_i v hl hd
     exact ⟨v,hl,fun d' e=>by rw [hd] at e;cases e⟩
    ·cases h
   ·cases h
  ·exact zq2 hrest o ho
theorem ER.putS (he:ER ρ j N envS a) {o:Oper} {v:AV} {u:Value} (hR:R ρ j v u) (hd: ∀d,o.dst=some d→d<N):
  ∃ envS',ER ρ j N envS' (a.put o.dst u)∧(∀d,o.dst=some d→envS'.get d=some v)∧(∀t,o.dst≠some t→envS'.get t=envS.get t):=by
 cases hdst:o.dst with
 | none=>exact ⟨envS,he,⟨fun d e=>(by cases e),fun _ _=>rfl⟩⟩
 | some d=>
  refine ⟨envS.set d v,he.put (hd d hdst) hR,fun d' e=> ?_,fun t ht=> ?_⟩
  ·cases e;rw [T.get_set,if_pos rfl]
  ·rw [T.get_set,if_neg (fun e=>ht (by rw [e]))]
def Done (P:Program) (ρ:Val) (N:Nat) (H0:Heap) (env envR:T AV) (H:Heap) (j:J) (nm:Option Nat) (o:Oper) (g:Bool):Prop:=
 (g=true∧zfN o.op= .light∧ ∃v,light P o.op envR H=some v∧zmB N env o v)∨
 (g=true∧zfN o.op= .alloc∧ ∃v ob nx,nm=some nx∧zco P o.op envR nx=some (v,ob)∧H.m.get nx=some ob∧j nx=none∧H0.nx≤nx∧zmB N env o v)∨
 (g=false∧ ∃z,zuY ρ z∧zmB N env o z)
def zrl (ops:Array Oper) (env0 env envR:T AV) (i:Nat) (o:Oper):Prop:=
 ∀ t∈looks ops o,(∀q oq,(mkOf ops i).testBit q=true→ops[q]? =some oq→oq.dst=some t→envR.get t=env.get t)∧
  ((∀ q oq,(mkOf ops i).testBit q=true→ops[q]? =some oq→oq.dst≠some t)→envR.get t=env0.get t)
def zvI (P:Program) (ρ:Val) (ops:Array Oper) (N:Nat) (env0:T AV) (H0:Heap) (env:T AV) (H:Heap) (j:J) (nm:Option Nat) (i:Nat) (o:Oper):Prop:=
 ∃ envR g,GV ρ (zb0 ops envR o) g∧zrl ops env0 env envR i o∧Done P ρ N H0 env envR H j nm o g
theorem zln (op:Op) (env:T AV) (nx:Nat) (v:AV) (k:Nat):zco P op env nx≠some (v,.gs k):=fun h=>by
 cases op<;>simp only [zco,aNo] at h<;>try cases h
 case alloc=>unfold zls zbW at h;split at h<;>cases h
 case box=>unfold aBox zbW at h;split at h<;>cases h
 case buildSlice=>unfold zbT zbW at h;(repeat' split at h)<;>cases h
 case makeMap=>unfold zet at h;(repeat' split at h)<;>cases h
 case makeSlice=>unfold zcf at h;(repeat' split at h)<;>cases h
structure CI (P:Program) (ρ:Val) (w0:Cx) (ops:Array Oper) (N:Nat) (env0:T AV) (H0:Heap) (j0:J) (D listed:Nat→Prop) (envS env:T AV) (j:J) (H:Heap) (w:World) (nm:Nat→Option Nat):Prop where
 inv:Inv ρ w0 j H w
 st:St j0 H0 j H
 sub: ∀i,listed i→D i
 e0: ∀t,(∀i o,D i→ops[i]? =some o→o.dst≠some t)→env.get t=env0.get t
 s0: ∀t,(∀i o,listed i→ops[i]? =some o→o.dst≠some t)→envS.get t=env0.get t
 s1: ∀t i o,listed i→ops[i]? =some o→o.dst=some t→envS.get t=env.get t
 recd: ∀i o,D i→ ¬listed i→ops[i]? =some o→zvI P ρ ops N env0 H0 env H j (nm i) i o
 bnd: ∀i nx,nm i=some nx→nx<H.nx
 inj: ∀i i' nx,nm i=some nx→nm i'=some nx→i=i'
theorem CI.congr {D':Nat→Prop} (h: ∀i,D i↔D' i) (ci:CI P ρ w0 ops N env0 H0 j0 D listed envS env j H w nm):CI P ρ w0 ops N env0 H0 j0 D' listed envS env j H w nm:=by
 have e:D=D':=funext fun i=>propext (h i)
 rw [←e];exact ci
theorem CI.put (pf:PF ops) (ci:CI P ρ w0 ops N env0 H0 j0 D listed envS env j H w nm) {p:Nat} {o:Oper} (ho:ops[p]? =some o) (hp: ¬D p)
  (hcl: ∀i x,D i→(mkOf ops i).testBit x=true→D x) (hinv:Inv ρ w0 j H' w) (hst:St j0 H0 j H') (hext:Ext H H') (hnx:H.nx≤H'.nx)
  (henv: ∀t,o.dst≠some t→env'.get t=env.get t) (hnm: ∀i,i≠p→nm' i=nm i) (hbnd: ∀i nx,nm' i=some nx→nx<H'.nx) (hinj: ∀i i' nx,nm' i=some nx→nm' i'=some nx→i=i')
  (hrec:zrl ops env0 env' env p o→zvI P ρ ops N env0 H0 env' H' j (nm' p) p o) (hm: ∀x,(mkOf ops p).testBit x=true→D x):
  CI P ρ w0 ops N env0 H0 j0 (fun x=>D x∨x=p) listed envS env' j H' w nm':=by
 have hne: ∀i,D i→i≠p:=fun i hi e=>hp (e▸hi)
 have hkeep: ∀i oi t,D i→ops[i]? =some oi→oi.dst=some t→env'.get t=env.get t:=fun i oi t hi hoi hd=>
  henv t (pf.dsts i p oi o t (hne i hi) hoi ho hd)
 refine ⟨hinv,hst,fun i hi=> .inl (ci.sub i hi),fun t ht=> ?_,ci.s0,fun t i oi hi hoi hd=> ?_,fun i oi hi hl hoi=> ?_,hbnd,hinj⟩
 ·rw [henv t (ht p o (.inr rfl) ho)]
  exact ci.e0 t fun i oi hi hoi=>ht i oi (.inl hi) hoi
 ·rw [ci.s1 t i oi hi hoi hd,hkeep i oi t (ci.sub i hi) hoi hd]
 ·by_cases hip:i=p
  ·subst hip
   rw [ho] at hoi;cases hoi
   refine hrec fun t ht=>⟨fun q oq hq hoq hd=>(hkeep q oq t (hm q hq) hoq hd).symm,fun hno=>ci.e0 t fun q oq hq hoq hd=> ?_⟩
   rcases pf.reads i q o oq t ho hoq hd ht with h|h
   ·exact hno q oq h hoq hd
   ·exact hp (hcl q i hq h)
  ·have hDi:D i:=hi.resolve_right hip
   obtain ⟨envR,g,h1,h2,h3⟩:=ci.recd i oi hDi hl hoi
   have hdst: ∀v,zmB N env oi v→zmB N env' oi v:=fun v hv d hd=>⟨(hv d hd).1,by rw [hkeep i oi d hDi hoi hd];exact (hv d hd).2⟩
   refine ⟨envR,g,h1,fun t ht=>⟨fun q oq hq hoq hd=> ?_,(h2 t ht).2⟩,?_⟩
   ·rw [(h2 t ht).1 q oq hq hoq hd,hkeep q oq t (hcl i q hDi hq) hoq hd]
   ·rw [hnm i hip]
    rcases h3 with ⟨g1,g2,v,g3,g4⟩|⟨g1,g2,v,ob,nx,g3,g4,g5,g6,g7,g8⟩|⟨g1,g2⟩
    ·exact .inl ⟨g1,g2,v,zoA hext g3,hdst v g4⟩
    ·exact .inr (.inl ⟨g1,g2,v,ob,nx,g3,g4,hext.m _ _ g5,g6,g7,hdst v g8⟩)
    ·exact (.inr (.inr ⟨g1,g2.elim fun z hz=>⟨z,hz.1,hdst _ hz.2⟩⟩))
theorem zqK {o:Obj} (hi:Inv ρ w0 j H w):Ext H (H.alloc o):=by
 rw [Heap.alloc_eq]
 refine ⟨fun n o' h=> ?_,rfl⟩
 have:=hi.used n o' h
 show (H.m.set H.nx o).get n=_
 rw [T.get_set,if_neg (by omega)]
 exact h
theorem zqj {o:Oper} (h:zfN o.op= .light):zhr o=true:=by unfold zhr;rw [h]
theorem zqT {o:Oper} (h:zaR o=true) (hd:zhs o=false):zfN o.op= .heavy:=by
 unfold zaR at h;unfold zhs at hd
 cases hc:zfN o.op<;>rw [hc] at h hd<;>first|rfl|exact absurd hd Bool.noConfusion|exact absurd h Bool.noConfusion
theorem zqS {o:Oper} (h:zaR o=false):zfN o.op= .light∨zfN o.op= .alloc:=by
 unfold zaR at h
 cases hc:zfN o.op<;>rw [hc] at h<;>first|exact .inl rfl|exact .inr rfl|exact absurd h (by simp)
theorem zlm {op:Op} {nx:Nat} {v:AV} {ob:Obj} (h:zco P op env nx=some (v,ob)): ∀v' e g t sh ow,ob≠ .cells v' e g (some t) sh ow:=by
 intro v' e g t sh ow hob
 subst hob
 cases op<;>simp only [zco,aNo] at h<;>try (cases h;done)
 case alloc t'=>unfold zls zbW at h;split at h<;>cases h
 case box t' x=>unfold aBox zbW at h;split at h<;>cases h
 case buildSlice t' len parts=>
  unfold zbT zbW at h
  split at h
  ·split at h
   ·split at h
    ·split at h<;>cases h
    ·cases h
   ·cases h
  ·cases h
 case makeMap t' r=>
  unfold zet at h
  split at h
  ·cases h
  ·split at h<;>cases h
 case makeSlice t' l c=>
  unfold zcf at h
  split at h
  ·split at h
   ·split at h
    ·split at h<;>cases h
    ·cases h
   ·cases h
  ·cases h
theorem CI.cstep (pf:PF ops) (ci:CI P ρ w0 ops N env0 H0 j0 D listed envS env j H w nm) {p:Nat} {o:Oper} (ho:ops[p]? =some o) (hv:zaR o=false) (hp: ¬D p)
  (hcl: ∀i x,D i→(mkOf ops i).testBit x=true→D x) (hm: ∀x,(mkOf ops p).testBit x=true→D x) {k:T AV→Heap→Ob} {rest:List zhQ}
  {fs:List (SB×Bool)} (hf:Told ρ fs) (h:Ob.den ρ (zaE P rec ops N k (.run o::rest) fs env H)):
  ∃ env' H' nm' fs',CI P ρ w0 ops N env0 H0 j0 (fun x=>D x∨x=p) listed envS env' j H' w nm'∧Told ρ fs'∧Ob.den ρ (zaE P rec ops N k rest fs' env' H'):=by
 obtain ⟨g,z,fs',hg,hz,hf',hd⟩:=zg7 hf h
 cases g with
 | false=>
  obtain ⟨env',h1,h2,h3⟩:=zgC (kk:=fun env'=>zaE P rec ops N k rest fs' env' H) hd
  exact ⟨env',H,nm,fs',ci.put pf ho hp hcl ci.inv ci.st (Ext.refl H) (Nat.le_refl _) h3 (fun _ _=>rfl) ci.bnd ci.inj (fun hl=>⟨env,false,hg,hl,.inr (.inr ⟨rfl,z,hz rfl,h2⟩)⟩) hm,hf',h1⟩
 | true=>
  have hd:Ob.den ρ (doOp P rec o env H fun env v H=>putA o.dst N env v fun env'=>zaE P rec ops N k rest fs' env' H):=hd
  unfold doOp at hd
  rcases zqS hv with hc|hc
  ·rw [hc] at hd
   have hd:Ob.den ρ (okL o H (fun v H=>putA o.dst N env v fun env'=>zaE P rec ops N k rest fs' env' H) (light P o.op env H)):=hd
   cases hl:light P o.op env H with
   | none=>rw [hl] at hd;exact hd.elim
   | some v=>
    rw [hl] at hd
    obtain ⟨env',h1,h2,h3⟩:=zgC (kk:=fun env'=>zaE P rec ops N k rest fs' env' H) hd
    exact ⟨env',H,nm,fs',ci.put pf ho hp hcl ci.inv ci.st (Ext.refl H) (Nat.le_refl _) h3 (fun _ _=>rfl) ci.bnd ci.inj (fun hlk=>⟨env,true,hg,hlk,.inl ⟨rfl,hc,v,hl,h2⟩⟩) hm,hf',h1⟩
  ·rw [hc] at hd
   have hd:Ob.den ρ (okA o H (fun v H=>putA o.dst N env v fun env'=>zaE P rec ops N k rest fs' env' H) (zco P o.op env H.nx)):=hd
   cases hl:zco P o.op env H.nx with
   | none=>rw [hl] at hd;exact hd.elim
   | some q=>
    obtain ⟨v,ob⟩:=q
    rw [hl] at hd
    obtain ⟨env',h1,h2,h3⟩:=zgC (kk:=fun env'=>zaE P rec ops N k rest fs' env' (H.alloc ob)) hd
    have hnx:(H.alloc ob).nx=H.nx+1:=by rw [Heap.alloc_eq]
    have hinv:Inv ρ w0 j (H.alloc ob) w:=ci.inv.extend ob (fun v' e g t sh ow hob=>absurd hob (zlm hl v' e g t sh ow))
    refine ⟨env',H.alloc ob,fun i=>if i=p then some H.nx else nm i,fs',ci.put pf ho hp hcl hinv (ci.st.trans (St.extend ci.inv ob)) (zqK ci.inv) (by omega) h3 (fun i hi=>if_neg hi) (fun i nx hi=> ?_) (fun i i' nx h1 h2=> ?_) (fun hlk=>⟨env,true,hg,hlk,.inr (.inl ⟨rfl,hc,v,ob,H.nx,if_pos rfl,hl,?_,ci.inv.fresh,ci.st.nx,h2⟩)⟩) hm,hf',h1⟩
    ·by_cases hip:i=p
     ·rw [if_pos hip] at hi;cases hi;omega
     ·rw [if_neg hip] at hi;have:=ci.bnd i nx hi;omega
    ·by_cases hip:i=p<;>by_cases hip':i'=p
     ·rw [hip,hip']
     ·rw [if_pos hip] at h1;rw [if_neg hip'] at h2;cases h1;exact absurd (ci.bnd i' _ h2) (Nat.lt_irrefl _)
     ·rw [if_neg hip] at h1;rw [if_pos hip'] at h2;cases h2;exact absurd (ci.bnd i _ h1) (Nat.lt_irrefl _)
     ·rw [if_neg hip] at h1;rw [if_neg hip'] at h2;exact ci.inj i i' nx h1 h2
    ·rw [Heap.alloc_eq]
     show (H.m.set H.nx ob).get H.nx=_
     rw [T.get_set,if_pos rfl]
theorem zeU (pf:PF ops) {k:T AV→Heap→Ob} {rest:List zhQ} {s:Nat}: ∀(l:List Oper) (ms:List Nat) (n:Nat) (fs:List (SB×Bool)) (env:T AV) (H:Heap) (nm:Nat→Option Nat),Told ρ fs→l=ops.toList.drop n→ms=(zdk ops.toList).drop n→
  CI P ρ w0 ops N env0 H0 j0 (DD ops s n) listed envS env j H w nm→Ob.den ρ (zaE P rec ops N k (zg1 s (posOf (hsOf ops) l ms n)++rest) fs env H)→
  ∃ env' H' nm' fs',CI P ρ w0 ops N env0 H0 j0 (DD ops s ops.size) listed envS env' j H' w nm'∧Told ρ fs'∧Ob.den ρ (zaE P rec ops N k rest fs' env' H')
 | [], ms,n,fs,env,H,nm,hf,hl,hms,ci,h=>by
  have hn:ops.size≤n:=by have:=hl.symm;rw [List.drop_eq_nil_iff] at this;simpa using this
  have e:posOf (hsOf ops) [] ms n= []:=by simp [posOf]
  rw [e] at h
  exact ⟨env,H,nm,fs,ci.congr (zu2 hn),hf,h⟩
 | o::l,ms,n,fs,env,H,nm,hf,hl,hms,ci,h=>by
  have ho:ops[n]? =some o:=by
   have:=congrArg (·[0]?) hl
   simp only [List.getElem?_cons_zero,List.getElem?_drop,Nat.add_zero] at this
   simpa using this.symm
  have hlt:=(Array.getElem?_eq_some_iff.1 ho).1
  have hl':l=ops.toList.drop (n+1):=by
   have:=congrArg List.tail hl
   simpa using this
  cases hmse:ms with
  | nil=>
   rw [hmse] at hms
   have:=hms.symm
   rw [List.drop_eq_nil_iff,zbZ] at this
   simp at this;omega
  | cons m ms'=>
   rw [hmse] at hms h
   have hm:m=mkOf ops n:=by
    have:=congrArg (·[0]?) hms
    simp only [List.getElem?_cons_zero,List.getElem?_drop,Nat.add_zero] at this
    unfold mkOf
    rw [List.getD_eq_getElem?_getD,←this];rfl
   have hms':ms'=(zdk ops.toList).drop (n+1):=by
    have:=congrArg List.tail hms
    simpa using this
   unfold posOf at h
   unfold zg1 at h
   have hst:zbN m (hsOf ops) 0 0=stOf ops n:=by rw [hm];rfl
   simp only [hst] at h
   split at h
   ·rename_i hv hs
    have hs:=Nat.eq_of_beq_eq_true hs
    have hnD: ¬DD ops s n n:=by
     rintro ⟨o',h1,h2⟩
     rw [ho] at h1;cases h1
     rcases h2 with ⟨_,h2⟩|⟨h2,_⟩
     ·omega
     ·rw [hv] at h2;cases h2
    obtain ⟨env',H',nm',fs',h1,hf',h2⟩:=ci.cstep pf ho hv hnD (fun i x hi hx=>zrn pf.edges hi hx) (fun x hx=>zu3 pf.edges hs hx) hf h
    exact zeU pf l ms' (n+1) fs' env' H' nm' hf' hl' hms' (h1.congr (zu0 ho hv hs)) h2
   ·rename_i hne
    refine zeU pf l ms' (n+1) fs env H nm hf hl' hms' (ci.congr (zu1 ho ?_)) h
    cases hv:zaR o with
    | true=>exact .inl rfl
    | false=>exact .inr fun e=>hne hv (by rw [e];exact Nat.beq_refl s)
theorem CI.list (pf:PF ops) (ci:CI P ρ w0 ops N env0 H0 j0 D listed envS env j H w nm) {i:Nat} {o:Oper} {envS':T AV} (ho:ops[i]? =some o) (hD:D i)
  (hinv:Inv ρ w0 j' H w') (hst:St j0 H0 j' H) (hd: ∀d,o.dst=some d→envS'.get d=env.get d) (hn: ∀t,o.dst≠some t→envS'.get t=envS.get t)
  (hj: ∀i' nx,i'≠i→nm i'=some nx→j nx=none→j' nx=none):
  CI P ρ w0 ops N env0 H0 j0 D (fun x=>listed x∨x=i) envS' env j' H w' nm:=by
 refine ⟨hinv,hst,fun x hx=>hx.elim (ci.sub x) fun e=>e▸hD,ci.e0,fun t ht=> ?_,fun t x ox hx hox hdx=> ?_,fun x ox hx hl hox=> ?_,ci.bnd,ci.inj⟩
 ·rw [hn t (ht i o (.inr rfl) ho)]
  exact ci.s0 t fun x ox hx hox=>ht x ox (.inl hx) hox
 ·by_cases hxi:x=i
  ·subst hxi
   rw [ho] at hox;cases hox
   exact hd t hdx
  ·rw [hn t (pf.dsts x i ox o t hxi hox ho hdx)]
   exact ci.s1 t x ox (hx.resolve_right hxi) hox hdx
 ·have hxi:x≠i:=fun e=>hl (.inr e)
  obtain ⟨envR,g,h1,h2,h3⟩:=ci.recd x ox hx (fun h=>hl (.inl h)) hox
  refine ⟨envR,g,h1,h2,?_⟩
  rcases h3 with h3|⟨g1,g2,v,ob,nx,g3,g4,g5,g6,g7,g8⟩|h3
  ·exact .inl h3
  ·exact .inr (.inl ⟨g1,g2,v,ob,nx,g3,g4,g5,hj x nx hxi g3 g6,g7,g8⟩)
  ·exact .inr (.inr h3)
theorem CI.late (pf:PF ops) (ci:CI P ρ w0 ops N env0 H0 j0 D listed envS env j H w nm) (he:ER ρ j N envS a) {i:Nat} {o:Oper} (ho:ops[i]? =some o) (hD:D i) (hl: ¬listed i)
  (hm: ∀x,(mkOf ops i).testBit x=true→listed x) (hlc: ∀q x,listed q→(mkOf ops q).testBit x=true→listed x) {K:Act→World→Prop}
  (hK: ∀envS' j' a' w',CI P ρ w0 ops N env0 H0 j0 D (fun x=>listed x∨x=i) envS' env j' H w' nm→ER ρ j' N envS' a'→K a' w'):wpOp P ops Q i K a w:=by
 obtain ⟨envR,g,hg,hlook,hdone⟩:=ci.recd i o hD hl ho
 have hag: ∀t∈looks ops o,envS.get t=envR.get t:=fun t ht=>by
  by_cases hw: ∃q oq,(mkOf ops i).testBit q=true∧ops[q]? =some oq∧oq.dst=some t
  ·obtain ⟨q,oq,h1,h2,h3⟩:=hw
   rw [ci.s1 t q oq (hm q h1) h2 h3,(hlook t ht).1 q oq h1 h2 h3]
  ·rw [(hlook t ht).2 (fun q oq h1 h2 h3=>hw ⟨q,oq,h1,h2,h3⟩)]
   refine ci.s0 t fun q oq h1 h2 h3=> ?_
   rcases pf.reads i q o oq t ho h2 h3 ht with h4|h4
   ·exact hw ⟨q,oq,h4,h2,h3⟩
   ·exact hl (hlc q i h1 h4)
 rw [←zdW hag] at hg
 have hwant:=zkV he hg
 have hops:=zfB hag
 unfold wpOp
 simp only [ho]
 rw [hwant]
 rcases hdone with ⟨rfl,hc,v,hv,hd⟩|⟨rfl,hc,v,ob,nx,hnm,hv,hH,hj,hnx,hd⟩|⟨rfl,hd⟩
 ·rw [if_pos rfl]
  left
  rw [←zhk hops] at hv
  obtain ⟨u,h1,h2⟩:=zeI ci.inv he hv
  unfold Oper.wp
  rw [h1,Oper.upon_value]
  obtain ⟨envS',e1,e2,e3⟩:=he.putS h2 (fun d hh=>(hd d hh).1)
  exact hK envS' j _ _ (ci.list pf ho hD ci.inv ci.st (fun d hh=>by rw [e2 d hh,(hd d hh).2]) e3 (fun _ _ _ _ h=>h)) e1
 ·rw [if_pos rfl]
  left
  rw [←zlo hops] at hv
  obtain ⟨⟨u,obj,h1,h2,h3⟩,h4⟩:=zgj (P:=P) (w:=w) he hv
  unfold Oper.wp
  rw [h1,Oper.upon_value]
  have hinv:=ci.inv.adopt hH hj h2 (fun v e g cl sh hob=>by subst hob;exact .inl h4)
  have hst:St j0 H0 (jset j nx ⟨w.heap.size,0,0,none⟩) H:=by
   refine ⟨ci.st.sub.trans (zb9 hj),fun m L e e0=> ?_,ci.st.keep,ci.st.nx⟩
   by_cases hm:m=nx
   ·omega
   ·rw [zbL _ _ hm] at e;exact ci.st.fresh m L e e0
  obtain ⟨envS',e1,e2,e3⟩:=(he.mono (zb9 hj)).putS h3 (fun d hh=>(hd d hh).1)
  refine hK envS' _ _ _ (ci.list pf ho hD hinv hst (fun d hh=>by rw [e2 d hh,(hd d hh).2]) e3 (fun i' nx' hne hnm' hj'=> ?_)) e1
  rw [zbL _ _ (fun e=>hne (ci.inj i' i nx' hnm' (by rw [e];exact hnm)))]
  exact hj'
 ·rw [if_neg (by simp)]
  obtain ⟨z,hz,hd⟩:=hd
  obtain ⟨envS',e1,e2,e3⟩:=he.putS (o:=o) (hz j) (fun d hh=>(hd d hh).1)
  exact hK envS' j _ _ (ci.list pf ho hD ci.inv ci.st (fun d hh=>by rw [e2 d hh,(hd d hh).2]) e3 (fun _ _ _ _ h=>h)) e1
theorem CI.heavy (hgood:Good P ρ w0 n rec) (pf:PF ops) (ci:CI P ρ w0 ops N env0 H0 j0 D listed envS env j H w nm) (he:ER ρ j N envS a) {h u:Nat} {o:Oper} (ho:ops[h]? =some o) (hv:zaR o=true) (hD: ¬D h)
  (hcl: ∀i x,D i→(mkOf ops i).testBit x=true→D x) (hm: ∀x,(mkOf ops h).testBit x=true→listed x) (hu:(hsOf ops)[u]? =some h)
  (hDs: ∀i oi,D i→ops[i]? =some oi→stOf ops i≤u) {k:T AV→Heap→Ob} {rest:List zhQ}
  {fs:List (SB×Bool)} (hf:Told ρ fs) (hden:Ob.den ρ (zaE P rec ops N k (.run o:: .chk (zdN u (mkOf ops h) (zdb ops))::rest) fs env H)) {K:Act→World→Prop}
  (hK: ∀envS' env' j' H' a' w' fs',CI P ρ w0 ops N env0 H0 j0 (fun x=>D x∨x=h) (fun x=>listed x∨x=h) envS' env' j' H' w' nm→ER ρ j' N envS' a'→Told ρ fs'→Ob.den ρ (zaE P rec ops N k rest fs' env' H')→K a' w'):
  wpOp P ops Q h K a w:=by
 have hag: ∀t∈looks ops o,envS.get t=env.get t:=fun t ht=>by
  by_cases hw: ∃q oq,listed q∧ops[q]? =some oq∧oq.dst=some t
  ·obtain ⟨q,oq,h1,h2,h3⟩:=hw
   exact ci.s1 t q oq h1 h2 h3
  ·rw [ci.s0 t fun q oq h1 h2 h3=>hw ⟨q,oq,h1,h2,h3⟩,ci.e0 t fun q oq h1 h2 h3=> ?_]
   rcases pf.reads h q o oq t ho h2 h3 ht with h4|h4
   ·exact hw ⟨q,oq,hm q h4,h2,h3⟩
   ·exact hD (hcl q h h1 h4)
 obtain ⟨g,z,fs',hgv,hz,hf',hd⟩:=zg7 hf hden
 have hwant:=zkV he (by rw [zdW hag];exact hgv)
 have main: ∀(v:AV) (x:Value) (H':Heap) (j':J) (w':World),R ρ j' v x→Inv ρ w0 j' H' w'→St j H j' H'→
   Ob.den ρ (putA o.dst N env v fun env'=>zaE P rec ops N k (.chk (zdN u (mkOf ops h) (zdb ops))::rest) fs' env' H')→K (a.put o.dst x) w':=by
  intro v x H' j' w' hR hinv hst hput
  obtain ⟨env',h5,h6,h7⟩:=zgC hput
  obtain ⟨hchk,h8⟩:=zlW h5
  obtain ⟨envS',e1,e2,e3⟩:=(he.mono hst.sub).putS hR (fun d hh=>(h6 d hh).1)
  have hne: ∀i,D i→i≠h:=fun i hi e=>hD (e▸hi)
  have hkeep: ∀i oi t,D i→ops[i]? =some oi→oi.dst=some t→env'.get t=env.get t:=fun i oi t hi hoi hdd=>h7 t (pf.dsts i h oi o t (hne i hi) hoi ho hdd)
  have he0: ∀t,(∀i oi,(D i∨i=h)→ops[i]? =some oi→oi.dst≠some t)→env'.get t=env0.get t:=fun t ht=>by
   rw [h7 t (ht h o (.inr rfl) ho)]
   exact ci.e0 t fun i oi hi hoi=>ht i oi (.inl hi) hoi
  refine hK envS' env' j' H' _ w' fs' ⟨hinv,ci.st.trans hst,fun i hi=>hi.imp (ci.sub i) id,he0,fun t ht=> ?_,fun t i oi hi hoi hdd=> ?_,fun i oi hi hl hoi=> ?_,fun i nx hi=>Nat.lt_of_lt_of_le (ci.bnd i nx hi) hst.nx,ci.inj⟩ e1 hf' h8
  ·rw [e3 t (ht h o (.inr rfl) ho)]
   exact ci.s0 t fun i oi hi hoi=>ht i oi (.inl hi) hoi
  ·by_cases hih:i=h
   ·subst hih
    rw [ho] at hoi;cases hoi
    rw [e2 t hdd,(h6 t hdd).2]
   ·have hli:=hi.resolve_right hih
    rw [e3 t (pf.dsts i h oi o t hih hoi ho hdd),hkeep i oi t (ci.sub i hli) hoi hdd]
    exact ci.s1 t i oi hli hoi hdd
  ·have hih:i≠h:=fun e=>hl (.inr e)
   have hDi:D i:=hi.resolve_right hih
   have hli: ¬listed i:=fun e=>hl (.inl e)
   obtain ⟨envR,g',q1,q2,q3⟩:=ci.recd i oi hDi hli hoi
   have hdst: ∀v,zmB N env oi v→zmB N env' oi v:=fun v hv d hd=>⟨(hv d hd).1,by rw [hkeep i oi d hDi hoi hd];exact (hv d hd).2⟩
   have q2':zrl ops env0 env' envR i oi:=fun t ht=>⟨fun q oq hq hoq hdd=>by rw [(q2 t ht).1 q oq hq hoq hdd,hkeep q oq t (hcl i q hDi hq) hoq hdd],(q2 t ht).2⟩
   refine ⟨envR,g',q1,q2',?_⟩
   rcases q3 with ⟨rfl,g2,v',g3,g4⟩|⟨g1,g2,v',ob,nx,g3,g4,g5,g6,g7,g8⟩|⟨g1,g2⟩
   ·have hlight:=zqj g2
    have hbit:(mkOf ops h).testBit i=false:=by
     cases hb:(mkOf ops h).testBit i with
     | false=>rfl
     | true=>exact absurd (hm i hb) hli
    have hst':=hDs i oi hDi hoi
    have hag': ∀t∈looks ops oi,env'.get t=envR.get t:=fun t ht=>by
     by_cases hw: ∃(q:Nat) (oq:Oper),ops[q]? =some oq∧oq.dst=some t
     ·obtain ⟨q,oq,w1,w2⟩:=hw
      rcases pf.rer u h i q oi oq t hu hoi hlight hst' hbit w1 w2 ht with hq|hq
      ·exact ((q2' t ht).1 q oq hq w1 w2).symm
      ·have uniq: ∀q' oq',ops[q']? =some oq'→oq'.dst=some t→q'=q:=fun q' oq' x1 x2=>Classical.byContradiction fun hn=>pf.dsts q' q oq' oq t hn x1 w1 x2 w2
       rw [(q2' t ht).2 fun q' oq' x0 x1 x2=> ?_]
       ·refine he0 t fun q' oq' x0 x1 x2=> ?_
        have:=uniq q' oq' x1 x2
        subst this
        rcases x0 with x0|rfl
        ·have:=hDs q' oq' x0 x1;omega
        ·have:=zgS pf.edges hu;omega
       ·have:=uniq q' oq' x1 x2
        subst this
        have:=zlE pf.edges x0
        omega
     ·rw [(q2' t ht).2 fun q oq _ w1 w2=>hw ⟨q,oq,w1,w2⟩]
      exact he0 t fun q oq _ w1 w2=>hw ⟨q,oq,w1,w2⟩
    have hmem:oi∈zdN u (mkOf ops h) (zdb ops):=zhe.2 ⟨_,zcw.2 ⟨zd5 hoi,hlight,hst',hbit⟩,rfl⟩
    rw [←zdW hag'] at q1
    rcases zq2 hchk oi hmem with hno|⟨hyes,v1,c1,c2⟩
    ·have:=((zkW (ops:=ops) (env:=env') hf' (o:=oi)).2.1 hno).1
     exact absurd (zvL this q1) (by simp)
    ·exact .inl ⟨rfl,g2,v1,by rw [←zhk (zfB hag')];exact c1,fun d hh=>⟨(g4 d hh).1,c2 d hh⟩⟩
   ·have hlt:=ci.inv.used nx ob g5
    have hnx0:0<nx:=by
     rcases Nat.eq_zero_or_pos nx with h0|h0
     ·subst h0
      obtain ⟨kk,rfl⟩:=ci.inv.z0 _ g5
      exact absurd g4 (zln _ _ _ _ _)
     ·exact h0
    refine .inr (.inl ⟨g1,g2,v',ob,nx,g3,g4,by rw [(hst.keep nx hnx0 g6 hlt).1];exact g5,?_,g7,hdst v' g8⟩)
    cases hj':j' nx with
    | none=>rfl
    | some L=>have:=hst.fresh nx L hj' g6;omega
   ·exact (.inr (.inr ⟨g1,g2.elim fun z hz=>⟨z,hz.1,hdst _ hz.2⟩⟩))
 unfold wpOp
 simp only [ho]
 rw [hwant]
 cases g with
 | true=>
  rw [if_pos rfl]
  have hd:Ob.den ρ (doOp P rec o env H fun env v H=>putA o.dst N env v fun env'=>zaE P rec ops N k (.chk (zdN u (mkOf ops h) (zdb ops))::rest) fs' env' H):=hd
  unfold doOp at hd
  rw [zqT hv (pf.nodef h o ho)] at hd
  have hd:Ob.den ρ (Dw.heavy P rec o.op env H fun v H=>putA o.dst N env v fun env'=>zaE P rec ops N k (.chk (zdN u (mkOf ops h) (zdb ops))::rest) fs' env' H):=hd
  rw [←zmj (zfB hag)] at hd
  refine .inl (Oper.wp_mono (fun a' w' hp=> ?_) (znw (Q:=Q) hgood ci.inv he hd))
  obtain ⟨x,rfl,v,H',j',h1,h2,h3,h4⟩:=hp
  exact main v x H' j' w' h1 h2 h3 h4
 | false=>
  rw [if_neg (by simp)]
  exact main z undef H j w (hz rfl j) ci.inv (St.refl j H) hd
def zjV (ops:Array Oper) (s:Nat):List PO→List zhQ
 | [] => []
 | h::rest=> .run h.o:: .chk (zdN s h.m (zdb ops))::zcu (zdb ops) (Nat.succ s) rest
theorem zg8 (ops:Array Oper) (s:Nat) (l:List PO):zcu (zdb ops) s l=zg1 s (zdb ops)++zjV ops s l:=by
 cases l with
 | nil=>simp [zcu,zjV]
 | cons h l=>simp [zcu,zjV]
theorem zsa (hgood:Good P ρ w0 n rec) (pf:PF ops) {k:T AV→Heap→Ob} (hQ: ∀a' w',OpsE ρ w0 j0 H0 N k a' w'→Q Exit.normal a' w'):
  ∀ (fuel:Nat) (listed:Array Bool) (s:Nat) (fs:List (SB×Bool)) (envS env:T AV) (j:J) (H:Heap) (a:Act) (w:World) (nm:Nat→Option Nat),listed.size=ops.size→zlx ops listed→listed.count false≤fuel→
   (∀ u h,(hsOf ops)[u]? =some h→(listed.getD h false=true↔u<s))→CI P ρ w0 ops N env0 H0 j0 (DD ops s ops.size) (fun i=>listed.getD i false=true) envS env j H w nm→ER ρ j N envS a→
   Ob.den ρ (zaE P rec ops N k (zjV ops s ((hpOf ops).drop s)) fs env H)→Told ρ fs→wpAny P .any ops Q fuel listed a w:=by
 have fin: ∀(listed:Array Bool) (s:Nat) (fs:List (SB×Bool)) (envS env:T AV) (j:J) (H:Heap) (a:Act) (w:World) (nm:Nat→Option Nat),listed.size=ops.size→zlx ops listed→
   (∀ u h,(hsOf ops)[u]? =some h→(listed.getD h false=true↔u<s))→CI P ρ w0 ops N env0 H0 j0 (DD ops s ops.size) (fun i=>listed.getD i false=true) envS env j H w nm→ER ρ j N envS a→
   Ob.den ρ (zaE P rec ops N k (zjV ops s ((hpOf ops).drop s)) fs env H)→Region.ready .any ops listed= []→Q .normal a w:=by
  intro listed s fs envS env j H a w nm hsz hcl hh ci he hden hr
  have hall:=zoU pf.edges hsz hr
  have hdrop:(hpOf ops).drop s= []:=by
   rw [List.drop_eq_nil_iff,zeL]
   apply Classical.byContradiction
   intro hn
   have hx:(hsOf ops)[s]? =some (hsOf ops)[s]:=List.getElem?_eq_getElem (by omega)
   obtain ⟨o,ho,_⟩:=zfl.1 ⟨s,hx⟩
   have:=(hh s _ hx).1 (hall _ (Array.getElem?_eq_some_iff.1 ho).1)
   omega
  rw [hdrop] at hden
  refine hQ a w ⟨env,H,j,⟨he.size,he.le,fun t ht=> ?_,?_⟩,ci.inv,ci.st,hden⟩
  all_goals
   have heq: ∀t,envS.get t=env.get t:=fun t=>by
    by_cases hw: ∃(q:Nat) (oq:Oper),ops[q]? =some oq∧oq.dst=some t
    ·obtain ⟨q,oq,h1,h2⟩:=hw
     exact ci.s1 t q oq (hall q (Array.getElem?_eq_some_iff.1 h1).1) h1 h2
    ·rw [ci.s0 t fun q oq _ h1 h2=>hw ⟨q,oq,h1,h2⟩,ci.e0 t fun q oq _ h1 h2=>hw ⟨q,oq,h1,h2⟩]
  ·have:=he.get t ht
   unfold zau at this ⊢
   rw [heq t] at this
   exact this
  ·have:=he.dfr
   unfold zau at this ⊢
   rw [heq zaS] at this
   exact this
 intro fuel
 induction fuel with
 | zero=>
  intro listed s fs envS env j H a w nm hsz hcl hc hh ci he hden hf
  have hr:Region.ready .any ops listed= []:=by
   rw [List.eq_nil_iff_forall_not_mem]
   intro i hi
   have:=count_set (mem_ready.1 hi).1
   omega
  exact ⟨hr,fin listed s fs envS env j H a w nm hsz hcl hh ci he hden hr⟩
 | succ fuel ih=>
  intro listed s fs envS env j H a w nm hsz hcl hc hh ci he hden hf
  refine ⟨fin listed s fs envS env j H a w nm hsz hcl hh ci he hden,fun i hi=> ?_⟩
  obtain ⟨hun,o,ho,hedges⟩:=mem_ready.1 hi
  have hlt:=(Array.getElem?_eq_some_iff.1 ho).1
  have hun': ¬listed.getD i false=true:=by
   rw [Array.getD_eq_getD_getElem?,Array.getElem?_eq_getElem (by omega)] at hun ⊢
   simp only [Option.getD_some] at hun ⊢
   rw [hun];simp
  have hmask: ∀x,(mkOf ops i).testBit x=true→listed.getD x false=true:=fun x hx=>zhg hcl i o ho hedges x hx
  have hlc: ∀q x,listed.getD q false=true→(mkOf ops q).testBit x=true→listed.getD x false=true:=fun q x hq hx=>by
   cases hoq:ops[q]? with
   | none=>rw [zfa hoq] at hx;cases hx
   | some oq=>exact zhg hcl q oq hoq (fun e h1 h2=>hcl q oq hoq hq e h1 h2) x hx
  have hnew:(fun x=>listed.getD x false=true∨x=i)=fun x=>(listed.setIfInBounds i true).getD x false=true:=funext fun x=>propext (by
   by_cases hx:x=i
   ·subst hx
    constructor
    ·intro _;rw [Array.getD_eq_getD_getElem?,Array.getElem?_setIfInBounds_self,if_pos (by omega)];rfl
    ·intro _;exact .inr rfl
   ·rw [getD_set_ne false (Ne.symm hx)]
    exact ⟨fun h=>h.resolve_right hx,.inl⟩)
  have hsz':(listed.setIfInBounds i true).size=ops.size:=by simp [hsz]
  have hcl':=zoM hcl hi
  have hc':(listed.setIfInBounds i true).count false≤fuel:=by have:=count_set hun;omega
  cases hv:zaR o with
  | false=>
   have hD:DD ops s ops.size i:=by
    refine ⟨o,ho,.inl ⟨hv,?_⟩⟩
    rcases ziW (ops:=ops) i with h0|⟨u,x,h1,h2,h3⟩
    ·omega
    ·have:=(hh u x h1).1 (hmask x h2)
     omega
   refine ci.late pf he ho hD hun' hmask hlc fun envS' j' a' w' ci' he'=> ?_
   rw [hnew] at ci'
   refine ih _ s fs envS' env j' H a' w' nm hsz' hcl' hc' (fun u h hu=> ?_) ci' he' hden hf
   have hne:i≠h:=fun e=>by
    subst e
    obtain ⟨o',h1,h2⟩:=zfl.1 ⟨u,hu⟩
    rw [ho] at h1;cases h1
    rw [hv] at h2;cases h2
   rw [getD_set_ne false hne]
   exact hh u h hu
  | true=>
   obtain ⟨u,hu⟩:=zfl.2 ⟨o,ho,hv⟩
   have hus:u=s:=by
    have h1: ¬u<s:=fun h=>hun' ((hh u i hu).2 h)
    apply Classical.byContradiction
    intro hne
    obtain ⟨v,rfl⟩: ∃v,u=v+1:=⟨u-1,by omega⟩
    have hvlt:v<(hsOf ops).length:=by have:=(List.getElem?_eq_some_iff.1 hu).1;omega
    have hx:(hsOf ops)[v]? =some (hsOf ops)[v]:=List.getElem?_eq_getElem hvlt
    have:=(hh v _ hx).1 (hmask _ (pf.chain v _ i hx hu))
    omega
   subst hus
   have hulen:u<(hpOf ops).length:=by rw [zeL];exact (List.getElem?_eq_some_iff.1 hu).1
   have hp:(hpOf ops)[u]? =some (hpOf ops)[u]:=List.getElem?_eq_getElem hulen
   obtain ⟨p1,p2,p3,p4⟩:=zqy hp
   have hpi:(hpOf ops)[u].i=i:=by rw [hu] at p1;exact (Option.some.inj p1).symm
   have hpo:(hpOf ops)[u].o=o:=by rw [hpi,ho] at p2;exact (Option.some.inj p2).symm
   have hpm:(hpOf ops)[u].m=mkOf ops i:=by rw [p3,hpi]
   have hdrop:(hpOf ops).drop u=(hpOf ops)[u]::(hpOf ops).drop (u+1):=List.drop_eq_getElem_cons hulen
   rw [hdrop] at hden
   have hden:Ob.den ρ (zaE P rec ops N k (.run (hpOf ops)[u].o:: .chk (zdN u (hpOf ops)[u].m (zdb ops))::zcu (zdb ops) (u+1) ((hpOf ops).drop (u+1))) fs env H):=hden
   rw [hpo,hpm] at hden
   have hD: ¬DD ops u ops.size i:=by
    rintro ⟨o',h1,h2⟩
    rw [ho] at h1;cases h1
    rcases h2 with ⟨h2,_⟩|⟨_,v,h3,h4⟩
    ·rw [hv] at h2;cases h2
    ·have:=znu hu h4;omega
   refine ci.heavy hgood pf he ho hv hD (fun x y hx hy=>zrn pf.edges hx hy) hmask hu (fun x ox hx hox=> ?_) hf hden fun envS' env' j' H' a' w' fs' ci' he' hf' hden'=> ?_
   ·obtain ⟨o',h1,h2⟩:=hx
    rcases h2 with ⟨_,h2⟩|⟨_,v,h2,h3⟩
    ·omega
    ·have:=zgS pf.edges h3
     omega
   ·rw [hnew] at ci'
    rw [zg8] at hden'
    obtain ⟨env2,H2,nm2,fs2,ci2,hf2,hden2⟩:=zeU pf ops.toList (zdk ops.toList) 0 fs' env' H' nm hf' (by simp) (by simp) (ci'.congr (zs1 hu ho hv)) hden'
    refine ih _ (u+1) fs2 envS' env2 j' H2 a' w' nm2 hsz' hcl' hc' (fun v x hx=> ?_) ci2 he' hden2 hf2
    by_cases hxi:x=i
    ·subst hxi
     have:=znu hu hx
     subst this
     constructor
     ·intro _;omega
     ·intro _;rw [Array.getD_eq_getD_getElem?,Array.getElem?_setIfInBounds_self,if_pos (by omega)];rfl
    ·rw [getD_set_ne false (Ne.symm hxi),hh v x hx]
     have:v≠u:=fun e=>by subst e;rw [hu] at hx;exact hxi (Option.some.inj hx).symm
     omega
theorem zkn (hmo:P.follows .mixedOrders=true) (hgood:Good P ρ w0 n rec):zn3 P ρ w0 rec:=by
 intro id ops N env H k j a w h hi he
 unfold zlH at h
 simp only at h
 split at h
 case h_2=>exact h.elim
 rename_i l hl
 obtain ⟨pf,rfl⟩:=zko hl
 rw [zg8] at h
 refine wp_region_any hmo ?_
 have hfalse: ∀i,((Array.replicate ops.size false).getD i false=true)↔False:=fun i=>by
  rw [Array.getD_eq_getD_getElem?,Array.getElem?_replicate]
  split<;>simp
 have ci0:CI P ρ w0 ops N env H j (DD ops 0 0) (fun i=>(Array.replicate ops.size false).getD i false=true) env env j H w.drew (fun _=>none):=by
  refine ⟨hi.drew,St.refl j H,fun i h=>((hfalse i).1 h).elim,fun _ _=>rfl,fun _ _=>rfl,fun t i o h=>((hfalse i).1 h).elim,fun i o hD=> ?_,fun i nx h=>(by cases h),fun i i' nx h=>(by cases h)⟩
  obtain ⟨o',_,h2⟩:=hD
  rcases h2 with ⟨_,h2⟩|⟨_,u,h2,_⟩<;>omega
 obtain ⟨env2,H2,nm2,fs2,ci2,hf2,hden2⟩:=zeU pf ops.toList (zdk ops.toList) 0 [] env H (fun _=>none) (fun _ h=>by cases h) (by simp) (by simp) ci0 h
 refine zsa (k:=k .normal) (j0:=j) (H0:=H) hgood pf (fun a' w' hh=> ?_) ops.size _ 0 fs2 env env2 j H2 a w.drew nm2 (by simp) ?_ ?_ (fun u h hu=> ?_) ci2 he (by simpa using hden2) hf2
 ·obtain ⟨env',H',j',h1,h2,h3,h4⟩:=hh
  exact ⟨.normal,env',H',j',rfl,h1,h2,h3,h4⟩
 ·intro i o ho hl
  exact ((hfalse i).1 hl).elim
 ·exact Nat.le_trans (Array.count_le_size) (by simp)
 ·constructor
  ·intro h;exact ((hfalse _).1 h).elim
  ·intro h;omega
end
end Go.Dw
namespace Go.Dw
mutual
theorem Ob.den_of_good {ρ:Val}: ∀ {o:Ob},o.good=true→o.den ρ
 | .ok,_=>trivial
 | .bad _ _,h=>by cases h
 | .all l,h=>Ob.denL_of_good (l:=l) h
 | .ite c t e,h=>by
  unfold Ob.good at h
  split at h
  ·rename_i ht
   exact ⟨fun _=>Ob.den_of_good ht,fun _=>Ob.den_of_good h⟩
  ·cases h
theorem Ob.denL_of_good {ρ:Val}: ∀ {l:List Ob},Ob.goodL l=true→Ob.denL ρ l
 | [], _=>trivial
 | o::l,h=>by
  unfold Ob.goodL at h
  split at h
  ·rename_i ho
   exact ⟨Ob.den_of_good ho,Ob.denL_of_good h⟩
  ·cases h
end
theorem inv0 {ρ:Val} (w:World):Inv ρ (Cx.plain w) (fun _=>none) heap0 w:=
 ⟨Fr.refl (Cx.plain w),(fun _ _ h=>by cases h),(fun _ _ h=>by cases h),(fun n o h=>by rw [show heap0.m.get n=none from rfl] at h;cases h),(fun _ _ h=>by cases h),(fun _ _ _ _ _ h=>by cases h),
  (fun n v e g t sh ow h=>by rw [show heap0.m.get n=none from rfl] at h;cases h),(fun g x h=>by rw [show heap0.gw.get g=none from rfl] at h;cases h),(fun _ _ _ _ _ _ _ h=>by cases h),(fun _ _ h=>by cases h),(fun _ _ _ _ _ _ h=>by cases h),rfl,Nat.zero_lt_one,(fun o h=>by rw [show heap0.m.get 0=none from rfl] at h;cases h),trivial⟩
theorem znf {P:Program} {ρ:Val} {w0:Cx}:zlw P ρ w0 zot:=fun f args H l h=>by cases h
theorem zkS {ρ:Val} {j:J} {v:AV} {u:Value} {H:Heap} (hR:R ρ j v u) (h:Ob.den ρ (isTrue v H)):u= .bool true:=by
 unfold isTrue at h
 split at h
 ·exact hR
 ·exact h.elim
 ·rename_i b _ _
  have hR:u= .bool (b.den ρ):=hR
  cases hb:b.den ρ with
  | true=>rw [hR,hb]
  | false=>exact (h.2 hb).elim
 ·exact h.elim
theorem zoP {P:Program} (hmo:P.follows .mixedOrders=true) {orc:FuncId→List AV→Heap→Option (List (AV×Heap))} {ρ:Val} {w:World} (hor:zlw P ρ (Cx.plain w) orc) {n:Nat} {f:FuncId} {args:List AV} {vals:List Value} {H:Heap} {j:J}
  (hi:Inv ρ (Cx.plain w) j H w) (ha:RL ρ j args vals) (h:Ob.den ρ (ev P orc n (.call f args H isTrue))):Calls P f vals.toArray w fun e w'=>e= .returned (.bool true)∧RowKit.Below w.heap.size w w':=by
 have hg:=zjw (w0:=Cx.plain w) hor (fun n rec hg=>zkn hmo hg) n
 refine Calls.mono ((hg.call f args H isTrue h).2 j w vals hi ha) fun e w' he=> ?_
 obtain ⟨u,rfl,v,H',j',h1,h2,h3,h4⟩:=he
 rw [zkS h1 h4]
 exact ⟨rfl,h2.fr.below⟩
open Go.RowKit Go.WideShapes Go.ChangeShapes in
theorem post_of_below {H:Type} {enc:TypeId×Value→H} {P:Program} {f:Func} {s:ChangeSpec} {apart fresh handsOn again:Bool} {W W':World} {args:Array Value} {v:Value} {ds gs:List (DataW H)} {before pa pv:List MemPlace}
  (hW:DataW.Whole enc P f.params.toList s.vars apart W args.toList ds gs before)
  (hres: ∀(b:Nat) (sp:Nat→Bool) (hd:Bool),DataW.TrodAll enc P W' b sp hd f.resultTypes.toList (v.resultList f.resultTypes.size) (s.fn H (ds++gs)).results [])
  (hargs: ∀sp:Nat→Bool,(∀p∈before,sp p.block=true)→DataW.TrodAll enc P W' 0 sp true f.params.toList args.toList (s.fn H (ds++gs)).args pa)
  (hvars: ∀sp:Nat→Bool,(∀p∈before,sp p.block=true)→DataW.TrodVars enc P W' sp s.vars (s.fn H (ds++gs)).vars pv)
  (hps:before=pa++pv) (hb:Below W.heap.size W W')
  (hok: ∀(j:Nat) (t:TypeId) (r:Value),f.resultTypes[j]? =some t→(v.resultList f.resultTypes.size)[j]? =some r→Value.okWide P W' .any 0 t r):
  s.post enc P f apart fresh handsOn again W args v W':=by
 have hlt: ∀p∈before,p.block<W.heap.size:=fun p hp=>hW.lt p hp
 have hold: ∀p∈before,(fun b=>decide (b<W.heap.size)) p.block=true:=fun p hp=>by simpa using hlt p hp
 refine ⟨ds,gs,before,[],pa,pv,hW,hres _ _ _,hargs _ hold,hvars _ hold,World.keptBut_mono (fun p hp=>⟨hp,?_⟩) (hb.frame (· ∈before)),fun _=> ?_⟩
 ·rw [hps,List.mem_append] at hp
  exact Or.inr hp
 ·obtain ⟨_,_,_,_,_,hz,hn⟩:=hW
  refine ⟨hok,_,_,([]++pa)++pv,⟨[]++pa,pv,trodAll_append (hargs _ (fun _ _=>rfl)) (hres _ _ _),hvars _ (fun _ _=>rfl),rfl,?_,?_⟩,?_⟩
  ·intro b off hp
   have hin:MemPlace.cell b off∈before:=by rw [hps];simpa using hp
   rw [hb.frozen (hlt _ hin)]
   exact hz b off hin
  ·intro ha
   have:=hn ha
   rw [hps] at this
   simpa using this
  ·intro p hp _
   rw [hps]
   simpa using hp
end Go.Dw
end
