/-
  Proved: laws on the way to 'SdriveHoldsProof' (texts DwOps DwOps2 DwOps3 DwCall DwPlan); no condition.
-/
import Derived.Test.YtaichlekaoefpaaGreatM2
import Derived.Defers
import Derived.Tactics
import Derived.LoopN
import Derived.Orders
set_option linter.unusedSimpArgs false
set_option linter.unusedVariables false
set_option maxHeartbeats 4000000
noncomputable section
namespace Go.Dw
def Post (ρ:Val) (w0:Cx) (j:J) (H:Heap) (k:K) (u:Value) (w':World):Prop:=
 ∃ v H' j',R ρ j' v u∧Inv ρ w0 j' H' w'∧St j H j' H'∧Ob.den ρ (k v H')
def OpOk (P:Program) (ρ:Val) (w0:Cx) (j:J) (H:Heap) (w:World) (a:Act) (o:Oper) (k:K) (Q:Exit→Act→World→Prop):Prop:=
 o.wp P a w (fun a' w'=> ∃u,a'=a.put o.dst u∧Post ρ w0 j H k u w') Q
section
variable {P:Program} {ρ:Val} {w0:Cx} {j:J} {H:Heap} {w:World} {N:Nat} {env:T AV} {a:Act} {o:Oper} {k:K} {Q:Exit→Act→World→Prop}
theorem OpOk.value {u:Value} {w':World} (h:(execOp a.eval o).run P w= .ok (.value u) w') (hp:Post ρ w0 j H k u w'):OpOk P ρ w0 j H w a o k Q:=by
 unfold OpOk Oper.wp;rw [h];exact ⟨u,rfl,hp⟩
theorem OpOk.skip {w':World} (h:(execOp a.eval o).run P w= .ok .skip w') (hp:Post ρ w0 j H k undef w'):OpOk P ρ w0 j H w a o k Q:=by
 unfold OpOk Oper.wp;rw [h];exact ⟨undef,rfl,hp⟩
theorem ztb (hi:Inv ρ w0 j H w) (he:ER ρ j N env a) (h:Ob.den ρ (okL o H k (light P o.op env H))):OpOk P ρ w0 j H w a o k Q:=by
 cases hl:light P o.op env H with
 | none=>rw [hl] at h;exact h.elim
 | some v=>
  rw [hl] at h;obtain ⟨u,h1,h2⟩:=zew hi he hl;exact .value h1 ⟨v,H,j,h2,hi,St.refl j H,h⟩
theorem ztF (hi:Inv ρ w0 j H w) (he:ER ρ j N env a) (h:Ob.den ρ (okA o H k (zcu P o.op env H.nx))):OpOk P ρ w0 j H w a o k Q:=by
 cases hl:zcu P o.op env H.nx with
 | none=>rw [hl] at h;exact h.elim
 | some q=>
  obtain ⟨v,ob⟩:=q;rw [hl] at h;obtain ⟨⟨u,obj,h1,h2,h3⟩,h4⟩:=zf3 (P:=P) (w:=w) he hl;obtain ⟨h5,h6⟩:=hi.alloc (o:=ob) (ob:=obj) (c:=0) h2 (fun v e g cl sh hob=>by subst hob;exact .inl h4);exact .value h1 ⟨v,_,_,h3,h5,h6,h⟩
theorem zsb (hi:Inv ρ w0 j H w) (he:ER ρ j N env a) {t:TypeId} {xa xv:Operand} (ho:o.op= .store t xa xv) (h:Ob.den ρ (znQ P t xa xv env H k)):OpOk P ρ w0 j H w a o k Q:=by
 unfold znQ at h;split at h
 case h_2=>exact h.elim
 rename_i n off x hx hv;obtain ⟨L,hj,hu⟩:=zag he hx;have hr:=zcF (zag he hv);unfold ztT at h;split at h
 case h_2=>exact h.elim
 rename_i s hs;split at h
 case h_2=>exact h.elim
 rename_i hb;have hb:=zaj hb;cases hst:H.store n off x.cells with
 | none=>rw [hst] at h;exact h.elim
 | some H'=>
  rw [hst] at h;obtain ⟨w',h1,h2,h3⟩:=hi.store hst hj hr P;have hsz:(a.eval xv).cells.size=s:=by
   have:=hr.length;rw [Array.length_toList] at this;omega
  refine .skip (w':=w') ?_ ⟨zbq,H',j,zcv,h2,h3,h⟩;simp only [execOp,ho,hu,Instr.storeAt,Instr.sureAddr,storeVar,Sem.run_bind,Sem.run_pure,Result.andThen_ok,run_sizeOf hs];rw [if_neg (by omega),h1];rfl
theorem zlf {kd:TypeDesc} {q:AV} {u u':Value} (hk:isKey kd q=true) (h:R ρ j q u) (h':R ρ j q u'):u=u'∧Instr.sameBits 10000 u u=true:=by
 unfold isKey at hk;split at hk
 ·split at hk
  ·simp only [R] at h h';subst h h';exact ⟨rfl,by simp [Instr.sameBits]⟩
  ·cases hk
 ·split at hk
  ·obtain ⟨g,rfl⟩:=h;obtain ⟨_,rfl⟩:=h';exact ⟨rfl,by simp only [Instr.sameBits,bytes_beq g g,zdO]⟩
  ·cases hk
 ·cases hk
theorem zlG: ∀(l:List ME) (i:Nat),nthM l i=l[i]?
 | [], i=>by simp [nthM]
 | a::l,0=>rfl
 | a::l,i+1=>by show nthM l i=_;rw [zlG l i];simp
theorem zuj: ∀ {es:List ME} {xs:List MapEntry} {i:Nat} {e:ME} (f:MapEntry→MapEntry),RM ρ j es xs→(∀x,xs[i]? =some x→R ρ j e.key (f x).key∧R ρ j e.val (f x).val∧(f x).born=e.born)→RM ρ j (zjM es i e) (xs.modify i f)
 | [], xs,i,e,f,h,_=>by have e:xs= []:=h;subst e;simp [zjM,RM]
 | a::es,_,0,e,f,h,hf=>by
  obtain ⟨x,xs,rfl,h1,h2,h3,h4⟩:=h;obtain ⟨g1,g2,g3⟩:=hf x rfl;exact ⟨f x,xs,by simp [List.modify_cons],g1,g2,g3,h4⟩
 | a::es,_,i+1,e,f,h,hf=>by
  obtain ⟨x,xs,rfl,h1,h2,h3,h4⟩:=h;have ih:=zuj f h4 (i:=i) (e:=e) (fun y hy=>hf y (by simpa using hy));exact ⟨x,xs.modify i f,by simp [List.modify_cons],h1,h2,h3,ih⟩
theorem zmp: ∀ {es:List ME} {xs:List MapEntry} {e:ME} {x:MapEntry},RM ρ j es xs→R ρ j e.key x.key→R ρ j e.val x.val→x.born=e.born→RM ρ j (es++ [e]) (xs++ [x])
 | [], xs,e,x,h,h1,h2,h3=>by have e:xs= []:=h;subst e;exact ⟨x,[],rfl,h1,h2,h3,rfl⟩
 | a::es,_,e,x,h,h1,h2,h3=>by
  obtain ⟨y,xs,rfl,g1,g2,g3,g4⟩:=h;exact ⟨y,_,rfl,g1,g2,g3,zmp g4 h1 h2 h3⟩
theorem zrY: ∀ {es:List ME} {xs:List MapEntry} {i:Nat},RM ρ j es xs→RM ρ j (zfz es i) (xs.eraseIdx i)
 | [], xs,i,h=>by have e:xs= []:=h;subst e;simp [zfz,RM]
 | a::es,_,0,h=>by obtain ⟨x,xs,rfl,h1,h2,h3,h4⟩:=h;simpa [zfz] using h4
 | a::es,_,i+1,h=>by
  obtain ⟨x,xs,rfl,h1,h2,h3,h4⟩:=h;exact ⟨x,xs.eraseIdx i,by simp,h1,h2,h3,zrY h4⟩
theorem zmq: ∀ {es:List ME} {xs:List MapEntry} {i:Nat} {e:ME} {x:MapEntry},RM ρ j es xs→es[i]? =some e→xs[i]? =some x→x.born=e.born
 | [], _,i,e,x,_,h,_=>by simp at h
 | a::es,_,0,e,x,hr,h,h'=>by obtain ⟨y,ys,rfl,_,_,b3,_⟩:=hr;simp at h h';subst h h';exact b3
 | a::es,_,i+1,e,x,hr,h,h'=>by obtain ⟨y,ys,rfl,_,_,_,b4⟩:=hr;exact zmq b4 (by simpa using h) (by simpa using h')
theorem znr (D D':Int→Option Value) (m1:List (Int×Option Value)) (x:Int) (o:Option Value) (h: ∀n,D' n=mlog D m1 n) (n:Int):(if n=x then o else D' n)=mlog D ((x,o)::m1) n:=by
 unfold mlog;by_cases hn:n=x
 ·rw [if_pos hn,if_pos hn]
 ·rw [if_neg hn,if_neg hn,h]
theorem zjg {q:AV} (h:zoS q=true) {u:Value} (hq:R ρ j q u): ∃x,u= .int .i64 x:=by
 unfold zoS at h;split at h
 ·exact ⟨_,hq⟩
 ·cases h
theorem zhz {arr:Array MapEntry} {clock:Nat} (h:Born arr clock) (k v:Value):Born (arr.push { key:=k,val:=v,born:=clock }) (clock+1):=by
 refine ⟨fun e he=> ?_,?_⟩
 ·rw [Array.toList_push,List.mem_append] at he;rcases he with he|he
  ·exact Nat.lt_succ_of_lt (h.1 e he)
  ·rw [List.mem_singleton] at he;subst he;exact Nat.lt_succ_self _
 ·rw [Array.toList_push,List.map_append];refine List.nodup_append.2 ⟨h.2,by simp,fun a ha b hb=> ?_⟩;simp only [List.map_cons,List.map_nil,List.mem_singleton] at hb;subst hb;obtain ⟨x,hx,rfl⟩:=List.mem_map.1 ha;exact Nat.ne_of_lt (h.1 x hx)
theorem zhA {arr:Array MapEntry} {clock:Nat} (h:Born arr clock) (p:Nat) (f:MapEntry→MapEntry) (hf: ∀e,(f e).born=e.born):Born (arr.modify p f) clock:=by
 refine ⟨fun e he=> ?_,?_⟩
 ·rw [Array.toList_modify] at he;obtain ⟨i,hi⟩:=List.mem_iff_getElem?.1 he;rw [zc0] at hi;split at hi
  ·rw [Option.map_eq_some_iff] at hi;obtain ⟨y,hy,rfl⟩:=hi;rw [hf];exact h.1 y (List.mem_of_getElem? hy)
  ·exact h.1 e (List.mem_of_getElem? hi)
 ·have:(arr.modify p f).toList.map (·.born)=arr.toList.map (·.born):=by
   refine List.ext_getElem? fun i=> ?_;rw [Array.toList_modify,List.getElem?_map,List.getElem?_map,zc0];split
   ·cases arr.toList[i]? with
    | none=>rfl
    | some y=>simp [hf]
   ·rfl
  rw [this];exact h.2
theorem ziA {arr:Array MapEntry} {clock:Nat} (h:Born arr clock) (p:Nat):Born (arr.eraseIdxIfInBounds p) clock:=by
 have hs:(arr.eraseIdxIfInBounds p).toList.Sublist arr.toList:=by
  unfold Array.eraseIdxIfInBounds;split
  ·rw [Array.toList_eraseIdx];exact List.eraseIdx_sublist _ _
  ·exact List.Sublist.refl _
 exact ⟨fun e he=>h.1 e (hs.subset he),(hs.map _).nodup h.2⟩
theorem Inv.mapxG (hi:Inv ρ w0 j H w) {n:Nat} {L:Loc} {kn log kn' log':List (AV×Option AV)} (hj:j n=some L) (hmx:H.m.get n=some (.mapx kn log))
  {arr arr':Array MapEntry} {clock c':Nat} (hb:w.heap[L.blk]? =some (.map arr clock)) (hw:zb6 arr'∧Born arr' c'∧ ∀e∈kn',PendR ρ j arr' e) {m0':List (Int×Option Value)} (hk:RX ρ j (zcJ kn') m0') (h8': ∀x o,(x,o)∈m0'→zaU arr' x=o)
  (h9': ∀arr0 m1,RX ρ j log m1→(∀n,zaU arr n=mlog (zaU arr0) m1 n)→ ∃m1',RX ρ j log' m1'∧ ∀n,zaU arr' n=mlog (zaU arr0) m1' n) (P:Program):
  ∃ w',(Go.setObj L.blk (.map arr' c')).run P w= .ok () w'∧Inv ρ w0 j (H.upd n (.mapx kn' log')) w'∧St j H j (H.upd n (.mapx kn' log')):=by
 obtain ⟨ob,h1,h2⟩:=hi.obj n L hj;rw [hmx] at h1;cases h1;obtain ⟨g1,g2,g3,arr1,clock1,arr0,clock0,m0,m1,h3,h4,h5,h6,h7,h8,h9⟩:=h2;rw [hb] at h3;cases h3;obtain ⟨m1',q1,q2⟩:=h9' arr0 m1 h7 h9;exact ⟨_,run_setObj_map P hb rfl,hi.setObj hj hmx rfl rfl rfl fun w' e=>⟨g1,g2,g3,arr',c',arr0,clock0,m0',m1',e,h4,hw,hk,q1,h8',q2⟩⟩
theorem Inv.mapx (hi:Inv ρ w0 j H w) {n:Nat} {L:Loc} {kn log:List (AV×Option AV)} (hj:j n=some L) (hmx:H.m.get n=some (.mapx kn log)) {q:AV} {x:Int} (hq:R ρ j q (.int .i64 x)) {o:Option AV} {ov:Option Value} (ho:RO ρ j o ov)
  {arr arr':Array MapEntry} {clock c':Nat} (hb:w.heap[L.blk]? =some (.map arr clock)) (hw:zb6 arr') (hbn:Born arr' c') (hv: ∀m,zaU arr' m=if m=x then ov else zaU arr m) (P:Program):
  ∃ w',(Go.setObj L.blk (.map arr' c')).run P w= .ok () w'∧Inv ρ w0 j (H.upd n (.mapx [(q,o)] ((q,o)::log))) w'∧St j H j (H.upd n (.mapx [(q,o)] ((q,o)::log))):=by
 have hx:RX ρ j [(q,o)] [(x,ov)]:=⟨x,ov,[],rfl,hq,ho,rfl⟩;obtain ⟨e1,e2⟩:=zfm hx;exact hi.mapxG (log':=(q,o)::log) hj hmx hb ⟨hw,hbn,e2 _⟩ (by rw [e1];exact hx) (fun y o' hy=>by rw [List.mem_singleton] at hy;cases hy;rw [hv,if_pos rfl]) (fun arr0 m1 h7 h9=>⟨(x,ov)::m1,⟨x,ov,m1,rfl,hq,ho,h7⟩,fun m=>by rw [hv];exact znr _ _ _ _ _ h9 m⟩) P
theorem zlL (hi:Inv ρ w0 j H w) {t kt et:TypeId} {kd:TypeDesc} (hu:P.underlying t=some (.map kt et)) (hkt:P.underlying kt=some kd) (hkd:(∃k,kd= .int k)∨kd= .string) {n:Nat} {q x:AV} {um uq ux:Value} {H':Heap} (hm:R ρ j (.map n) um) (hq:R ρ j q uq) (hx:R ρ j x ux) (h:zlM H kd n q x=some H'):
  ∃ w',(Instr.mapUpdate t um uq ux).run P w= .ok () w'∧Inv ρ w0 j H' w'∧St j H j H':=by
 unfold zlM at h;split at h
 case h_2=>cases h
 rename_i kk;split at h
 case h_2=>cases h
 rename_i kn log hk hmx;cases h;obtain ⟨y,rfl⟩:=zjg hk hq;obtain ⟨L,hj,rfl⟩:=hm;obtain ⟨ob,h1,h2⟩:=hi.obj n L hj;rw [zbe hmx] at h1;cases h1;obtain ⟨g1,g2,g3,arr,clock,arr0,clock0,m0,m1,h3,h4,⟨h5,hbn,_⟩,h6,h7,h8,h9⟩:=h2;rcases zbc (kk:=kk) (n:=y) arr.toList 0 h5.keys with ⟨e1,e2⟩|⟨p,e,e1,e2,e3⟩
 ·obtain ⟨k1,k2⟩:=zli (v:=ux) (c:=clock) h5 e2;obtain ⟨w',f1,f2,f3⟩:=hi.mapx hj (zbe hmx) hq (o:=some x) (ov:=some ux) ⟨ux,rfl,hx⟩ h3 (c':=clock+1) k1 (zhz hbn _ _) k2 P;refine ⟨w',?_,f2,f3⟩;unfold Instr.mapUpdate;simp only [Sem.run_bind,run_underlying hu,Result.andThen_ok,run_getObj_map P h3,run_checkKey hkt hkd,run_findKey hkt e1];exact f1
 ·obtain ⟨k1,k2⟩:=zjC (v:=ux) h5 e2 e3;obtain ⟨w',f1,f2,f3⟩:=hi.mapx hj (zbe hmx) hq (o:=some x) (ov:=some ux) ⟨ux,rfl,hx⟩ h3 (c':=clock) k1 (zhA hbn _ _ fun _=>rfl) k2 P;refine ⟨w',?_,f2,f3⟩;rw [Nat.zero_add] at e1;unfold Instr.mapUpdate;simp only [Sem.run_bind,run_underlying hu,Result.andThen_ok,run_getObj_map P h3,run_checkKey hkt hkd,run_findKey hkt e1];have hks:(Instr.keyThatStays (((arr[p]?).map (·.key)).getD (.int .i64 y)) (.int .i64 y)).run P w= .ok (.int .i64 y) w:=by
   have:arr[p]? =some e:=by simpa using e2
   rw [this];simp only [Option.map_some,Option.getD_some,e3,Instr.keyThatStays,Instr.sameBits,Sem.run_pure];simp
  rw [hks];exact f1
theorem zoL (hi:Inv ρ w0 j H w) {t:TypeId} {m q x:AV} {um uq ux:Value} {H':Heap} (hm:R ρ j m um) (hq:R ρ j q uq) (hx:R ρ j x ux) (h:zi3 P H t m q x=some H'):
    ∃ w',(Instr.mapUpdate t um uq ux).run P w= .ok () w'∧Inv ρ w0 j H' w'∧St j H j H':=by
  unfold zi3 at h;split at h
  · cases h
  · rename_i kd et hmo;obtain ⟨kt,hu,hkt,hkd⟩:=ze0 hmo;split at h
    case h_2=>cases h
    rename_i n;split at h
    case h_2=>exact zlL hi hu hkt hkd hm hq hx h
    rename_i es clock hkey hma;obtain ⟨L,hj,rfl⟩:=hm;obtain ⟨arr,h1,h2⟩:=hi.mapAt hj hma;split at h
    · cases h
    · rename_i i v' hf;obtain ⟨r',h3,v2,rfl,_,_,e',x',h4,h5,_,_,h6⟩:=zbd hq h2 hf;split at h
      · cases h
      · rename_i e hn;rw [zlG] at hn;rw [Nat.sub_zero] at h4 h5;rw [h4] at hn;cases hn;split at h
        case h_2=>cases h
        rename_i hb;have hb:=AV.beq_eq hb;cases h;rw [hb] at h6;obtain ⟨hfun,hbits⟩:=zlf hkey h6 hq;have h5':arr[i]? =some x':=by simpa using h5
        obtain ⟨w',g1,g2,g3⟩:=hi.mapped (es':=zjM es i ⟨q,x,e'.born⟩) (c':=clock) (arr':=arr.modify i fun y=> { y with key:=uq,val:=ux }) hj hma
          (by
            rw [Array.toList_modify];exact zuj _ h2 (fun y hy=>⟨hq,hx,by
              rw [h5] at hy;cases hy;exact (zmq h2 h4 h5:x'.born=e'.born)⟩)) P
        refine ⟨w',?_,g2,g3⟩;unfold Instr.mapUpdate;simp only [Sem.run_bind,run_underlying hu,Result.andThen_ok,run_getObj_map P h1,run_checkKey hkt hkd,run_findKey hkt h3];have hks:(Instr.keyThatStays (((arr[i]?).map (·.key)).getD uq) uq).run P w= .ok uq w:=by
          rw [h5'];rw [hfun] at hbits;simp only [Option.map_some,Option.getD_some,Instr.keyThatStays,hfun,hbits,if_true,Sem.run_pure]
        rw [hks];exact g1
    · rename_i hf;cases h;obtain ⟨r',h3,rfl⟩:=zbd hq h2 hf;obtain ⟨w',g1,g2,g3⟩:=hi.mapped (es':=es++ [⟨q,x,clock⟩]) (c':=clock+1) (arr':=arr.push { key:=uq,val:=ux,born:=clock }) hj hma
        (by rw [Array.toList_push];exact zmp h2 hq hx rfl) P
      refine ⟨w',?_,g2,g3⟩;unfold Instr.mapUpdate;simp only [Sem.run_bind,run_underlying hu,Result.andThen_ok,run_getObj_map P h1,run_checkKey hkt hkd,run_findKey hkt h3];exact g1
theorem zkr (hi:Inv ρ w0 j H w) (he:ER ρ j N env a) {t:TypeId} {xm xk xv:Operand} (ho:o.op= .mapUpdate t xm xk xv∨o.op= .insert t xm xk xv) (h:Ob.den ρ (zfC P t xm xk xv env H k)):OpOk P ρ w0 j H w a o k Q:=by
 unfold zfC at h;split at h
 case h_2=>exact h.elim
 rename_i m q x hm hq hx;cases hs:zi3 P H t m q x with
 | none=>rw [hs] at h;exact h.elim
 | some H'=>
  rw [hs] at h;obtain ⟨w',h1,h2,h3⟩:=zoL hi (zag he hm) (zag he hq) (zag he hx) hs;refine .skip (w':=w') ?_ ⟨zbq,H',j,zcv,h2,h3,h⟩;rcases ho with ho|ho<;>simp only [execOp,ho,Sem.run_bind,h1,Result.andThen_ok,Sem.run_pure]
theorem zs2 {arr:Array MapEntry} {q:AV} {o:Option AV} (hq:zoS q=true):PendR ρ j arr (q,o):=by
 unfold PendR
 dsimp only
 split
 ·cases hq
 ·trivial
theorem zi4 (hi:Inv ρ w0 j H w) {t kt et:TypeId} {kd:TypeDesc} (hu:P.underlying t=some (.map kt et)) (hkt:P.underlying kt=some kd) {n:Nat} {q r:AV} {um uq:Value} {H':Heap} (hm:R ρ j (.map n) um) (hq:R ρ j q uq) (h:ze1 P H kd et n q=some (r,H')):
    ∃ u w' j',(Instr.mapEntry t um uq).run P w= .ok u w'∧R ρ j' r u∧Inv ρ w0 j' H' w'∧St j H j' H':=by
  unfold ze1 at h;split at h
  case h_2=>cases h
  rename_i kk;split at h
  case h_2=>cases h
  rename_i kn log hk hmx;split at h
  case h_2=>cases h
  rename_i z hf hz;cases h;obtain ⟨y,rfl⟩:=zjg hk hq;obtain ⟨L,hj,rfl⟩:=hm;obtain ⟨ob,h1,h2⟩:=hi.obj n L hj;rw [zbe hmx] at h1;cases h1;obtain ⟨g1,g2,g3,arr,clock,arr0,clock0,m0,m1,h3,h4,⟨h5,hbn,_⟩,h6,h7,h8,h9⟩:=h2;obtain ⟨z',hz1,hz2,_⟩:=zba (ρ:=ρ) (j:=j) hz;obtain ⟨x,o,f1,f2,f3⟩:=zez hq h6 hf;have f2:o=none:=f2;subst f2;have hyx:y=x:=by
    simp only [Instr.sameNow] at f3;split at f3
    · simpa using f3
    · cases f3
  subst hyx;have hv:=h8 y none f1;rcases zbc (kk:=kk) (n:=y) arr.toList 0 h5.keys with ⟨e1,e2⟩|⟨p,e,e1,e2,e3⟩
  · obtain ⟨k1,k2⟩:=zli (v:=z') (c:=clock) h5 e2;have hjn:j H.nx=none:=by
      cases hc:j H.nx with
      | none=>rfl
      | some L'=>exact absurd (hi.dom _ _ hc) (Nat.lt_irrefl _)
    have hnn:n<H.nx:=hi.dom n L hj;have hi1:=(hi.extend .opq (fun _ _ _ _ _ _ hh=>by cases hh)).hand (n:=H.nx) (by rw [Heap.alloc_eq];exact T.get_set_same _ _ _) hjn (goInt clock);have hsub:Sub j (jset j H.nx ⟨0,0,0,some (goInt clock)⟩):=zcd hjn;have hj1:=hsub n L hj;have hm1:(H.alloc .opq).m.get n=some (.mapx kn log):=by
      rw [Heap.alloc_eq];show (H.m.set H.nx .opq).get n=_;rw [T.get_set_ne _ _ (by omega)];exact zbe hmx
    have hq1:=hq.mono hsub;have hs1:R ρ (jset j H.nx ⟨0,0,0,some (goInt clock)⟩) (.opq H.nx none) (goInt clock):=⟨⟨_,za4 _ _ _,rfl⟩,rfl,fun _ hh=>by cases hh⟩;have hpn:PendR ρ (jset j H.nx ⟨0,0,0,some (goInt clock)⟩) (arr.push { key:= .int .i64 y,val:=z',born:=clock }) (q,some z):=zs2 hk;have hfi:(arr.push { key:= .int .i64 y,val:=z',born:=clock }).toList.findIdx? (fun e=>(e.born:Int)==((clock:Nat):Int))=some arr.size:=by
      rw [Array.toList_push,List.findIdx?_append];have:arr.toList.findIdx? (fun e=>(e.born:Int)==((clock:Nat):Int))=none:=by
        rw [List.findIdx?_eq_none_iff];intro e he;have:=hbn.1 e he;simp;omega
      rw [this];simp
    obtain ⟨w',f4,f5,f6⟩:=hi1.mapxG (kn':= [(q,some z),(.tup [.opq H.nx none,q],none)]) (log':=(q,some z)::log) hj1 hm1 h3 (c':=clock+1) (m0':= [(y,some z')])
      ⟨k1,zhz hbn _ _,fun e he=>by
        rcases List.mem_cons.1 he with rfl|he
        · exact hpn
        · rw [List.mem_singleton] at he;subst he;exact ⟨y,clock,arr.size,{ key:= .int .i64 y,val:=z',born:=clock },hs1,hq1,hfi,by rw [Array.toList_push];simp,rfl⟩⟩
      (by
        have ht:zvC q=false:=by cases q<;>first|rfl|cases hk
        rw [show zcJ [(q,some z),(.tup [.opq H.nx none,q],none)]= [(q,some z)] by simp only [zcJ];rw [ht];rfl];exact ⟨y,some z',[],rfl,hq1,⟨z',rfl,hz2.mono hsub⟩,rfl⟩)
      (fun x' o' hx'=>by rw [List.mem_singleton] at hx';cases hx';rw [k2,if_pos rfl])
      (fun arr0 m1 h7 h9=>⟨(y,some z')::m1,⟨y,some z',m1,rfl,hq1,⟨z',rfl,hz2.mono hsub⟩,h7⟩,fun m=>by rw [k2];exact znr _ _ _ _ _ h9 m⟩) P
    refine ⟨.tuple #[z',goInt clock],w',_,?_,⟨_,rfl,.two (hz2.mono hsub) hs1⟩,f5,⟨hsub,fun k L' h1 h2=> ?_,fun k hp h1 h2=> ?_,?_⟩⟩
    · simp only [Instr.mapEntry,Sem.run_bind,run_underlying hu,Result.andThen_ok,run_getObj_map P h3,run_checkKey hkt (.inl ⟨kk,rfl⟩),run_findKey hkt e1,hz1,f4,Sem.run_pure]
    · by_cases hk':k=H.nx
      · omega
      · rw [zbJ _ _ hk'] at h1;rw [h1] at h2;cases h2
    · have:=f6.keep k hp (by rw [zbJ _ _ (by omega)];exact h1) (by rw [Heap.alloc_eq];show k<H.nx+1;omega);rw [this.1,this.2,Heap.alloc_eq];exact ⟨T.get_set_ne _ _ (by omega),rfl⟩
    · have:=f6.nx;rw [Heap.alloc_eq] at this ⊢;exact Nat.le_of_succ_le this
  · rw [zbv h5 (List.mem_of_getElem? e2) e3] at hv;cases hv
theorem zfn {s k:AV}: ∀ {kn:List (AV×Option AV)},zkh s kn=some k→ ∃e∈kn,e.1= .tup [s,k]
 | [], h=>by cases h
 | e::l,h=>by
  unfold zkh at h;split at h
  ·rename_i s' k' he;split at h
   ·rename_i hb;cases h;exact ⟨e,by simp,by rw [he,AV.beq_eq hb]⟩
   ·obtain ⟨e',h1,h2⟩:=zfn h;exact ⟨e',by simp [h1],h2⟩
  ·obtain ⟨e',h1,h2⟩:=zfn h;exact ⟨e',by simp [h1],h2⟩
theorem zhp (hi:Inv ρ w0 j H w) {t:TypeId} {n q:Nat} {x:AV} {um us ux:Value} {H':Heap} (hm:R ρ j (.map n) um) (hs:R ρ j (.opq q none) us) (hx:R ρ j x ux) (h:zdu H n q x=some H'):
  ∃ w',(Instr.entryStore t um us ux).run P w= .ok () w'∧Inv ρ w0 j H' w'∧St j H j H':=by
 unfold zdu at h;split at h
 case h_2=>cases h
 rename_i kn log hmx;split at h
 case h_2=>cases h
 rename_i k hp;cases h;obtain ⟨L,hj,rfl⟩:=hm;obtain ⟨ob,h1,h2⟩:=hi.obj n L hj;rw [zbe hmx] at h1;cases h1;obtain ⟨g1,g2,g3,arr,clock,arr0,clock0,m0,m1,h3,h4,⟨h5,hbn,hpd⟩,h6,h7,h8,h9⟩:=h2;obtain ⟨e,he,hek⟩:=zfn hp;have hpe:=hpd e he;unfold PendR at hpe;rw [hek] at hpe;obtain ⟨y,b,p,ent,p1,p2,p3,p4,p5⟩:=hpe;have hus:us= .int .i64 b:=by
  obtain ⟨⟨L1,a1,a2⟩,_⟩:=hs;obtain ⟨⟨L2,b1,b2⟩,_⟩:=p1;rw [a1] at b1;cases b1;rw [a2] at b2;exact Option.some.inj b2
 subst hus;obtain ⟨k1,k2⟩:=zjC (v:=ux) h5 p4 p5;have hsame:(arr.modify p fun y=> { y with val:=ux })=arr.modify p fun e=> { e with key:= .int .i64 y,val:=ux }:=by
  apply Array.ext_getElem?;intro i;rw [Array.getElem?_modify,Array.getElem?_modify];by_cases hip:p=i
  ·subst hip;have:arr[p]? =some ent:=by simpa using p4
   rw [if_pos rfl,if_pos rfl,this];simp only [Option.map_some];rw [←p5]
  ·rw [if_neg hip,if_neg hip]
 obtain ⟨w',f1,f2,f3⟩:=hi.mapx hj (zbe hmx) p2 (o:=some x) (ov:=some ux) ⟨ux,rfl,hx⟩ h3 (c':=clock) k1 (zhA hbn _ _ fun _=>rfl) k2 P;refine ⟨w',?_,f2,f3⟩;have h3':arr.findIdx? (fun e=>(e.born:Int)==(b:Int))=some p:=by rw [←List.findIdx?_toArray,Array.toArray_toList] at p3;exact p3
 rw [←hsame] at f1;simp only [Instr.entryStore,Sem.run_bind,run_getObj_map P h3,Result.andThen_ok,asInt,asIntOf,Sem.run_pure];rw [h3'];simp only [f1]
theorem zlN (hi:Inv ρ w0 j H w) (he:ER ρ j N env a) {t:TypeId} {xm xk:Operand} (ho:o.op= .mapEntry t xm xk) (h:Ob.den ρ (zfa P t xm xk env H k)):OpOk P ρ w0 j H w a o k Q:=by
 unfold zfa at h;split at h
 case h_2=>exact h.elim
 rename_i m q hm0 hq0;have hm:=zag he hm0;have hq:=zag he hq0;unfold zks at h;split at h
 ·exact h.elim
 ·rename_i kd et hmo;obtain ⟨kt,hu,hkt,hkd⟩:=ze0 hmo;split at h
  case h_2=>exact h.elim
  rename_i n;split at h
  case h_2=>
   cases hmx:ze1 P H kd et n q with
   | none=>rw [hmx] at h;exact h.elim
   | some r=>
    rw [hmx] at h;obtain ⟨u,w',j',f1,f2,f3,f4⟩:=zi4 (P:=P) hi hu hkt hm hq hmx;exact .value (u:=u) (w':=w') (by simp only [execOp,ho,Sem.run_bind,f1,Result.andThen_ok,Sem.run_pure]) ⟨r.1,r.2,j',f2,f3,f4,h⟩
  rename_i es clock hkey hma;obtain ⟨L,hj,hum⟩:=hm;obtain ⟨arr,h1,h2⟩:=hi.mapAt hj hma;split at h
  ·exact h.elim
  ·rename_i i v' hf;obtain ⟨r',h3,v2,rfl,hv2,_,e',x',h4,h5,hev,hxv,h6⟩:=zbd hq h2 hf;split at h
   ·exact h.elim
   ·rename_i e hn;rw [zlG] at hn;rw [Nat.sub_zero] at h4 h5;rw [h4] at hn;cases hn;split at h
    case h_2=>exact h.elim
    rename_i hb;have hb:=AV.beq_eq hb;rw [hb] at h6;obtain ⟨hfun,hbits⟩:=zlf hkey h6 hq;rw [hfun] at hbits;have h5':arr[i]? =some x':=by simpa using h5
    have hsame:(arr.modify i fun y=> { y with key:=a.eval xk })=arr:=by
     apply Array.ext_getElem?;intro z;rw [Array.getElem?_modify];by_cases hz:i=z
     ·subst hz;rw [if_pos rfl,h5',Option.map_some];congr 1;rw [←hfun]
     ·rw [if_neg hz]
    have hset:w.heap.setIfInBounds L.blk (.map arr clock)=w.heap:=by
     apply Array.ext_getElem?;intro z;rw [Array.getElem?_setIfInBounds];by_cases hz:L.blk=z
     ·subst hz;have hlt:L.blk<w.heap.size:=by
       rcases Nat.lt_or_ge L.blk w.heap.size with h'|h'
       ·exact h'
       ·rw [Array.getElem?_eq_none h'] at h1;cases h1
      rw [if_pos rfl,if_pos hlt,h1]
     ·rw [if_neg hz]
    have hborn:x'.born=e'.born:=zmq h2 h4 h5;refine .value (u:= .tuple #[v2,goInt x'.born]) (w':=w) ?_ ⟨.tup [v',.int .i64 (.lit (.ofNat e'.born))],H,j,⟨_,rfl,.two hv2 (by rw [hborn];rfl)⟩,hi,St.refl j H,h⟩;have hks:(Instr.keyThatStays (((arr[i]?).map (·.key)).getD (a.eval xk)) (a.eval xk)).run P w= .ok (a.eval xk) w:=by
     rw [h5'];simp only [Option.map_some,Option.getD_some,Instr.keyThatStays,hfun,hbits,if_true,Sem.run_pure]
    simp only [execOp,ho,hum,Instr.mapEntry,Sem.run_bind,run_underlying hu,Result.andThen_ok,run_getObj_map P h1,run_checkKey hkt hkd,run_findKey hkt h3,hks,hsame,run_setObj_map P h1 rfl,hset,Sem.run_pure];rw [h5'];rfl
  ·rename_i hf;obtain ⟨r',h3,rfl⟩:=zbd hq h2 hf;split at h
   ·exact h.elim
   ·rename_i z hz;obtain ⟨z',hz1,hz2,_⟩:=zba (ρ:=ρ) (j:=j) hz;obtain ⟨w',g1,g2,g3⟩:=hi.mapped (es':=es++ [⟨q,z,clock⟩]) (c':=clock+1) (arr':=arr.push { key:=a.eval xk,val:=z',born:=clock }) hj hma
     (by rw [Array.toList_push];exact zmp h2 hq hz2 rfl) P
    refine .value (u:= .tuple #[z',goInt clock]) (w':=w') ?_ ⟨.tup [z,.int .i64 (.lit (.ofNat clock))],_,j,⟨_,rfl,.two hz2 rfl⟩,g2,g3,h⟩;simp only [execOp,ho,hum,Instr.mapEntry,Sem.run_bind,run_underlying hu,Result.andThen_ok,run_getObj_map P h1,run_checkKey hkt hkd,run_findKey hkt h3,hz1,g1,Sem.run_pure]
theorem zeN: ∀ {es l:List ME} {xs:List MapEntry} {b:Nat} {x:AV} {ux:Value},RM ρ j es xs→R ρ j x ux→ziQ b x es=some l→
  ∃ i,xs.findIdx? (fun e=>(e.born:Int)==(b:Int))=some i∧RM ρ j l (xs.modify i fun e=> { e with val:=ux })
 | [], _,_,_,_,_,_,_,h=>by cases h
 | e::es,l,_,b,x,ux,hr,hx,h=>by
  obtain ⟨y,ys,rfl,h1,h2,h3,h4⟩:=hr;unfold ziQ at h;split at h
  ·rename_i hb;have hb:=zaj hb;cases h;refine ⟨0,by simp [List.findIdx?_cons,h3,hb],?_⟩;rw [List.modify_cons];exact ⟨_,ys,rfl,h1,hx,h3,h4⟩
  ·rename_i hb;split at h
   ·rename_i m hm;cases h;obtain ⟨i,h5,h6⟩:=zeN h4 hx hm;have hne:e.born≠b:=fun hh=>by rw [hh,Nat.beq_refl] at hb;cases hb
    refine ⟨i+1,?_,?_⟩
    ·rw [List.findIdx?_cons,h5];have:((y.born:Int)==(b:Int))=false:=by simp;omega
     simp [this]
    ·rw [List.modify_cons];exact ⟨y,_,rfl,h1,h2,h3,by simpa using h6⟩
   ·cases h
theorem zjm (hi:Inv ρ w0 j H w) (he:ER ρ j N env a) {t:TypeId} {xm xs xv:Operand} (ho:o.op= .entryStore t xm xs xv) (h:Ob.den ρ (zdx t xm xs xv env H k)):OpOk P ρ w0 j H w a o k Q:=by
 unfold zdx at h;split at h
 case h_2=>exact h.elim
 rename_i m q x hm0 hq0 hx0;have hm:=zag he hm0;have hq:=zag he hq0;have hx:=zag he hx0;unfold zhq at h;split at h
 case h_3=>exact h.elim
 case h_2=>
  rename_i n q';cases hmx:zdu H n q' x with
  | none=>rw [hmx] at h;exact h.elim
  | some H'=>
   rw [hmx] at h;obtain ⟨w',f1,f2,f3⟩:=zhp (P:=P) (t:=t) hi hm hq hx hmx;exact .skip (w':=w') (by simp only [execOp,ho,Sem.run_bind,f1,Result.andThen_ok,Sem.run_pure]) ⟨zbq,H',j,zcv,f2,f3,h⟩
 rename_i n kk b;simp only [R,SE.den] at hq;obtain ⟨L,hj,hum⟩:=hm;split at h
 ·exact h.elim
 ·rename_i es clock hma;obtain ⟨arr,h1,h2⟩:=hi.mapAt hj hma;split at h
  case h_2=>exact h.elim
  rename_i l hl;obtain ⟨i,h3,h4⟩:=zeN h2 hx hl;obtain ⟨w',g1,g2,g3⟩:=hi.mapped (es':=l) (c':=clock) (arr':=arr.modify i fun e=> { e with val:=a.eval xv }) hj hma (by rw [Array.toList_modify];exact h4) P;have h3':arr.findIdx? (fun e=>(e.born:Int)==(b:Int))=some i:=by rw [←List.findIdx?_toArray,Array.toArray_toList] at h3;exact h3
  refine .skip (w':=w') ?_ ⟨zbq,_,j,zcv,g2,g3,h⟩;simp only [execOp,ho,hum,hq,Instr.entryStore,Sem.run_bind,run_getObj_map P h1,Result.andThen_ok,asInt,asIntOf,Sem.run_pure];have h3'':arr.findIdx? (fun e=>(e.born:Int)==Int.ofNat b)=some i:=h3';rw [h3''];simp only [g1,Result.andThen_ok]
theorem zmk (he:ER ρ j N env a) {c:Call} {vs:List AV} (h:opds env c.args.toList=some vs):RL ρ j vs (c.args.map a.eval).toList:=by
 rw [Array.toList_map];exact zd7 he h
theorem args_two' (he:ER ρ j N env a) {c:Call} {x y:AV} (h:opds env c.args.toList=some [x,y]): ∃u v,c.args.map a.eval= #[u,v]∧R ρ j x u∧R ρ j y v:=by
 obtain ⟨u,m,e1,h1,h2⟩:=zmk he h;obtain ⟨v,m',e2,h3,h4⟩:=h2;have e3:m'= []:=h4;subst e3 e2;exact ⟨u,v,Array.ext' (by rw [e1]),h1,h3⟩
theorem run_call_builtin' {c:Call} {b:Builtin} {u:Value} {w':World} (ho:o.op= .call c) (hc:c.callee= .builtin b) {f:Array TypeId→TypeId→Array Value→Sem Value}
  (hb: ∀ats ty cs args,builtin b ats ty cs args=(do pure (.value (←f ats ty args)))) (h:(f c.argTypes o.type (c.args.map a.eval)).run P w= .ok u w'):(execOp a.eval o).run P w= .ok (.value u) w':=by
 simp only [execOp,ho,resolve,hc,Sem.run_bind,Sem.run_pure,Result.andThen_ok,invoke,hb,h]
theorem ziP {r:Nat} {ob:Go.Obj} (h:w.heap[r]? =some ob):w.heap.setIfInBounds r ob=w.heap:=by
 apply Array.ext_getElem?;intro z;rw [Array.getElem?_setIfInBounds];by_cases hz:r=z
 ·subst hz;have hlt:r<w.heap.size:=by
   rcases Nat.lt_or_ge r w.heap.size with h'|h'
   ·exact h'
   ·rw [Array.getElem?_eq_none h'] at h;cases h
  rw [if_pos rfl,if_pos hlt,h]
 ·rw [if_neg hz]
theorem zrm (hi:Inv ρ w0 j H w) (he:ER ρ j N env a) {c:Call} (ho:o.op= .call c) (hc:c.callee= .builtin .delete) (h:Ob.den ρ (zjq P c.argTypes.toList c.args.toList env H k)):OpOk P ρ w0 j H w a o k Q:=by
  unfold zjq at h;split at h
  case h_2=>exact h.elim
  rename_i t rest m q hts hargs;have ht:=zci hts;obtain ⟨um,uq,hargs',hm,hq⟩:=args_two' he hargs;cases hd:zlO P H t m q with
  | none=>rw [hd] at h;exact h.elim
  | some H'=>
    rw [hd] at h
    suffices hs: ∃w',(Builtin.delete_ c.argTypes o.type #[um,uq]).run P w= .ok (.tuple #[]) w'∧Inv ρ w0 j H' w'∧St j H j H' by
      obtain ⟨w',h1,h2,h3⟩:=hs;exact .value (run_call_builtin' ho hc (fun _ _ _ _=>rfl) (by rw [hargs'];exact h1)) ⟨zbq,H',j,zcv,h2,h3,h⟩
    unfold zlO at hd;split at hd
    · cases hd
    · rename_i kd et hmo;obtain ⟨kt,hu,hkt,hkd⟩:=ze0 hmo;split at hd
      · cases hd
      · split at hd
        · cases hd;simp only [R] at hm;subst hm;refine ⟨w,?_,hi,St.refl j H⟩;unfold Builtin.delete_;simp only [ht,List.getElem?_toArray,List.getElem?_cons_zero,List.getElem?_cons_succ,Sem.run_bind,run_underlying hu,Result.andThen_ok,run_checkKey hkt hkd,Sem.run_pure]
        · rename_i n;split at hd
          · unfold zqK at hd;split at hd
            case h_2=>cases hd
            rename_i kk _;split at hd
            case h_2=>cases hd
            rename_i kn log hk hmx;cases hd;obtain ⟨y,rfl⟩:=zjg hk hq;obtain ⟨L,hj,rfl⟩:=hm;obtain ⟨ob,h1,h2⟩:=hi.obj n L hj;rw [zbe hmx] at h1;cases h1;obtain ⟨g1,g2,g3,arr,clock,arr0,clock0,m0,m1,h3,h4,⟨h5,hbn,_⟩,h6,h7,h8,h9⟩:=h2;rcases zbc (kk:=kk) (n:=y) arr.toList 0 h5.keys with ⟨e1,e2⟩|⟨p,e,e1,e2,e3⟩
            · obtain ⟨w',f1,f2,f3⟩:=hi.mapx hj (zbe hmx) hq (o:=none) (ov:=none) rfl h3 (c':=clock) h5 hbn (zga e2) P;rw [run_setObj_map P h3 rfl,ziP h3] at f1;cases f1;refine ⟨w,?_,f2,f3⟩;unfold Builtin.delete_;simp only [ht,List.getElem?_toArray,List.getElem?_cons_zero,List.getElem?_cons_succ,Sem.run_bind,run_underlying hu,Result.andThen_ok,run_getObj_map P h3,run_checkKey hkt hkd,run_findKey hkt e1,run_setObj_map P h3 rfl,ziP h3,Sem.run_pure]
            · obtain ⟨k1,k2⟩:=zmO h5 e2 e3;obtain ⟨w',f1,f2,f3⟩:=hi.mapx hj (zbe hmx) hq (o:=none) (ov:=none) rfl h3 (c':=clock) k1 (ziA hbn _) k2 P;rw [Nat.zero_add] at e1;refine ⟨w',?_,f2,f3⟩;unfold Builtin.delete_;simp only [ht,List.getElem?_toArray,List.getElem?_cons_zero,List.getElem?_cons_succ,Sem.run_bind,run_underlying hu,Result.andThen_ok,run_getObj_map P h3,run_checkKey hkt hkd,run_findKey hkt e1,f1,Sem.run_pure]
          · rename_i es clock hma;obtain ⟨L,hj,rfl⟩:=hm;obtain ⟨arr,h1,h2⟩:=hi.mapAt hj hma;split at hd
            · cases hd
            · rename_i i v' hf;cases hd;obtain ⟨r',h3,v2,rfl,_,_,_⟩:=zbd hq h2 hf;obtain ⟨w',g1,g2,g3⟩:=hi.mapped (es':=zfz es i) (c':=clock) (arr':=arr.eraseIdxIfInBounds i) hj hma
                (by
                  have:(arr.eraseIdxIfInBounds i).toList=arr.toList.eraseIdx i:=by
                    unfold Array.eraseIdxIfInBounds;split
                    · simp
                    · rw [List.eraseIdx_of_length_le];simp;omega
                  rw [this];exact zrY h2) P
              refine ⟨w',?_,g2,g3⟩;unfold Builtin.delete_;simp only [ht,List.getElem?_toArray,List.getElem?_cons_zero,List.getElem?_cons_succ,Sem.run_bind,run_underlying hu,Result.andThen_ok,run_getObj_map P h1,run_checkKey hkt hkd,run_findKey hkt h3,g1,Sem.run_pure]
            · rename_i hf;cases hd;obtain ⟨r',h3,rfl⟩:=zbd hq h2 hf;refine ⟨w,?_,hi,St.refl j H⟩;unfold Builtin.delete_;simp only [ht,List.getElem?_toArray,List.getElem?_cons_zero,List.getElem?_cons_succ,Sem.run_bind,run_underlying hu,Result.andThen_ok,run_getObj_map P h1,run_checkKey hkt hkd,run_findKey hkt h3,run_setObj_map P h1 rfl,ziP h1,Sem.run_pure]
        · cases hd
theorem zoR {x:AV} {u:Value} (hx:R ρ j x u) (h:isSl x=true): ∃b n c,u= .slice b n c:=by
 cases x<;>simp only [isSl] at h<;>try (cases h;done)
 case nils=>exact ⟨_,_,_,hx⟩
 case sl=>obtain ⟨L,_,_,hu⟩:=hx;exact ⟨_,_,_,hu⟩
 case emp=>obtain ⟨p,c,hu⟩:=hx;exact ⟨_,_,_,hu⟩
theorem zcn {sz:Nat} {u:Value} (h:(∃b n c,u= .slice b n c)∨ ∃s,u= .string s):(Builtin.firstCells sz 0 u).run P w= .ok #[] w:=by
 rcases h with ⟨b,n,c,rfl⟩|⟨s,rfl⟩
 ·cases b with
  | none=>rfl
  | some p=>simp [Builtin.firstCells,loadCells,loadCellsFrom]
 ·simp [Builtin.firstCells]
theorem zvU (hi:Inv ρ w0 j H w) (he:ER ρ j N env a) {c:Call} (ho:o.op= .call c) (hc:c.callee= .builtin .copy) (h:Ob.den ρ (zts P c.argTypes.toList c.args.toList env H k)):OpOk P ρ w0 j H w a o k Q:=by
 unfold zts at h;split at h
 case h_2=>exact h.elim
 rename_i t rest d s hts hargs;have ht:=zci hts;obtain ⟨ud,us,hargs',hd,hs⟩:=args_two' he hargs;cases hcp:zvV P H t d s with
 | none=>rw [hcp] at h;exact h.elim
 | some q=>
  obtain ⟨v,H'⟩:=q;rw [hcp] at h
  suffices hs: ∃u w',(Builtin.copy_ c.argTypes o.type #[ud,us]).run P w= .ok u w'∧R ρ j v u∧Inv ρ w0 j H' w'∧St j H j H' by
   obtain ⟨u,w',h1,h2,h3,h4⟩:=hs;exact .value (run_call_builtin' ho hc (fun _ _ _ _=>rfl) (by rw [hargs'];exact h1)) ⟨v,H',j,h2,h3,h4,h⟩
  unfold zvV at hcp;split at hcp
  case h_2=>cases hcp
  rename_i sz n m hsz hn hm;obtain ⟨e,hu,hs'⟩:=zc8 hsz;obtain ⟨hlen,hkind⟩:=zfx (P:=P) (w:=w) hs hm;have hmin:minN m n=Nat.min m n:=by
   unfold minN;cases hb:Nat.ble m n with
   | true=>have:=Nat.le_of_ble_eq_true hb;simp [Nat.min_def,this]
   | false=>
    have: ¬m≤n:=fun hh=>by rw [Nat.ble_eq_true_of_le hh] at hb;cases hb
    simp [Nat.min_def,this]
  rw [hmin] at hcp;have hkind':(∃b n c,us= .slice b n c)∨ ∃s,us= .string s:=by
   rcases hkind with ⟨b,c,e⟩|⟨s,e,_⟩
   ·exact .inl ⟨b,_,c,e⟩
   ·exact .inr ⟨s,e⟩
  unfold znS at hcp;split at hcp
  ·rename_i hz;split at hcp
   ·rename_i hsl;cases hcp;obtain ⟨b,nd,cd,rfl⟩:=zoR hd hsl;obtain ⟨_,hnd⟩:=zfx (P:=P) (w:=w) hd hn;have hnd:nd=n:=by
     rcases hnd with ⟨b',c',e⟩|⟨s',e,_⟩
     ·cases e;rfl
     ·cases e
    subst hnd;refine ⟨goInt 0,w,?_,rfl,hi,St.refl j H⟩;unfold Builtin.copy_;simp only [ht,List.getElem?_toArray,List.getElem?_cons_zero,List.getElem?_cons_succ,Sem.run_bind,run_underlying hu,Result.andThen_ok,hlen,run_sizeOf hs',hz,zcn hkind'];cases b<;>rfl
   ·cases hcp
  ·rename_i cc hz;split at hcp
   case h_2=>cases hcp
   rename_i l b off len cap hl;split at hcp
   case h_2=>cases hcp
   rename_i H2 hst;cases hcp;obtain ⟨L,hj,hck,rfl⟩:=hd;have hnn:len=n:=by simp only [lenA] at hn;exact Option.some.inj hn
   subst hnn;obtain ⟨xs,h1,h2⟩:=zcD (P:=P) hi hs hl;obtain ⟨w',h3,h4,h5⟩:=hi.store hst hj h2 P;refine ⟨goInt (Nat.succ cc),w',?_,rfl,h4,h5⟩;unfold Builtin.copy_;simp only [ht,List.getElem?_toArray,List.getElem?_cons_zero,List.getElem?_cons_succ,Sem.run_bind,run_underlying hu,Result.andThen_ok,hlen,run_sizeOf hs',hz];have h1:(Builtin.firstCells sz (cc+1) us).run P w= .ok xs.toArray w:=h1;rw [h1];simp only [Result.andThen_ok,Sem.run_bind,List.toList_toArray,h3,Sem.run_pure]
end
end Go.Dw
namespace Go.Dw
section
variable {P:Program} {ρ:Val} {w0:Cx} {j:J} {H:Heap} {w:World} {N:Nat} {env:T AV} {a:Act} {o:Oper} {k:K} {Q:Exit→Act→World→Prop}
theorem zma {t:TypeId} {by' sz:Nat} (h:zgt P t=some (by',sz)):
  ∃ e inf z',P.underlying t=some (.slice e)∧P.info? e=some inf∧inf.bytes=by'∧inf.size=sz∧0<sz∧(∀w',(zeroValue e).run P w'= .ok z' w')∧z'.cells.size=sz:=by
 unfold zgt at h;split at h
 case h_2=>cases h
 rename_i e hu;split at h
 case h_2=>cases h
 rename_i inf z hinf hz;split at h
 case h_2=>cases h
 rename_i s hb hs;cases h;obtain ⟨z',h1,h2,_⟩:=zba (ρ:=(Val.zero:Val)) (j:=fun _=>none) hz;have:=(zcF h2).length;rw [Array.length_toList,zaj hb,hs] at this;exact ⟨e,inf,z',hu,hinf,rfl,hs,by omega,h1,this⟩
theorem znx {t:TypeId} (h:zlZ P t=true):(∃e,P.underlying t=some (.slice e))∨P.underlying t=some .string:=by
 unfold zlZ at h;split at h
 ·exact .inl ⟨_,‹_›⟩
 ·exact .inr ‹_›
 ·cases h
theorem zk7 {c:Call} {t u:TypeId} {l:List TypeId} (h:c.argTypes.toList=t::u::l):c.argTypes[0]? =some t∧c.argTypes[1]? =some u:=by
 refine ⟨zci h,?_⟩;rw [←Array.getElem?_toList,h];rfl
theorem zcf {ats:Array TypeId} {ts tx e:TypeId} {ty:TypeId} {inf:TypeInfo} {base:Option Addr} {sl sc n:Nat} {x:Value} {xs:List Value} {w':World} (h0:ats[0]? =some ts) (h1:ats[1]? =some tx)
  (hu:P.underlying ts=some (.slice e)) (hx:zlZ P tx=true) (hi:P.info? e=some inf) (hn:(Builtin.lenOf x).run P w= .ok n w) (hle:sl+n≤sc) (hf:(Builtin.firstCells inf.size n x).run P w= .ok xs.toArray w)
  (hst:match base with|none=>w'=w|some p=>(storeCells (p.add (sl*inf.size)) xs).run P w= .ok () w'):(Builtin.append_ ats ty #[.slice base sl sc,x]).run P w= .ok (.slice base (sl+n) sc) w':=by
 have hsz:szOf P e=some inf.size:=by simp [szOf,hi]
 rcases znx hx with ⟨e',hd⟩|hd
 all_goals
  unfold Builtin.append_;simp only [h0,h1,List.getElem?_toArray,List.getElem?_cons_zero,List.getElem?_cons_succ,Sem.run_bind,run_underlying hu,Result.andThen_ok,run_sizeOf hsz,run_underlying hd,Sem.run_pure,Bool.false_eq_true,if_false,hn];rw [if_pos hle];cases base with
  | none=>
   simp only [Bool.not_false,if_true,Sem.run_bind,hf,Result.andThen_ok,Sem.run_pure];rw [hst]
  | some p=>
   simp only [Bool.not_false,if_true,Sem.run_bind,hf,Result.andThen_ok,List.toList_toArray,hst,Sem.run_pure]
theorem zeo {ats:Array TypeId} {ts tx e:TypeId} {ty:TypeId} {inf:TypeInfo} {base:Option Addr} {sl sc n:Nat} {x z':Value} {old xs:List Value} (h0:ats[0]? =some ts) (h1:ats[1]? =some tx)
  (hu:P.underlying ts=some (.slice e)) (hx:zlZ P tx=true) (hi:P.info? e=some inf) (hn:(Builtin.lenOf x).run P w= .ok n w) (hlt:sc<sl+n) (hb:(sl+n)*inf.bytes≤140737488355328) (hcap:sl+n<4611686018427387904)
  (hz: ∀w',(zeroValue e).run P w'= .ok z' w') (ho:(Builtin.firstCells inf.size sl (.slice base sl sc)).run P w.drew= .ok old.toArray w.drew) (hf:(Builtin.firstCells inf.size n x).run P w.drew= .ok xs.toArray w.drew):
  ∃ nc rest,sl+n≤nc∧rest.size=(nc-(sl+n))*z'.cells.size∧(Builtin.append_ ats ty #[.slice base sl sc,x]).run P w=
   .ok (.slice (some ⟨w.heap.size,0,none⟩) (sl+n) nc) { w.drew with heap:=w.drew.heap.push (.cells (old.toArray++xs.toArray++rest) e (0,0)) }:=by
 have hsz:szOf P e=some inf.size:=by simp [szOf,hi]
 refine ⟨Question.cut (.appendCap (sl+n) sc e) (w.tape w.drawn (.appendCap (sl+n) sc e)),Builtin.zeroCells z'.cells (Question.cut (.appendCap (sl+n) sc e) (w.tape w.drawn (.appendCap (sl+n) sc e))-(sl+n)),?_,?_,?_⟩
 ·show sl+n≤(sl+n)+_;omega
 ·exact size_zeroCells _ _
 ·have hslice:=growslice_fits (need:=sl+n) (old:=sc) (bytes:=inf.bytes) hlt hb;have ho:(Builtin.firstCells inf.size sl (.slice base sl sc)).run P { w with drawn:=w.drawn+1 }= .ok old.toArray { w with drawn:=w.drawn+1 }:=ho;have hf:(Builtin.firstCells inf.size n x).run P { w with drawn:=w.drawn+1 }= .ok xs.toArray { w with drawn:=w.drawn+1 }:=hf;rcases znx hx with ⟨e',hd⟩|hd
  all_goals
   unfold Builtin.append_;simp only [h0,h1,List.getElem?_toArray,List.getElem?_cons_zero,List.getElem?_cons_succ,Sem.run_bind,run_underlying hu,Result.andThen_ok,run_sizeOf hsz,run_underlying hd,Sem.run_pure,Bool.false_eq_true,if_false,hn];rw [if_neg (by omega)];simp only [typeInfo,Sem.run_bind,run_program,Result.andThen_ok,hi,Sem.run_pure,false_or];rw [if_neg (by
    intro hh;have:((sl+n:Nat):Int)>9223372036854775807:=hh.1;omega)]
   simp only [Sem.run_bind,Sem.run_pure,Result.andThen_ok,run_program,hi];rw [if_neg (show¬(Builtin.nextslicecap (sl+n) sc*inf.bytes>2^48) by omega)];simp only [Sem.run_bind,run_choose,Question.forced,Bool.false_eq_true,if_false,Result.andThen_ok,run_askRoom,run_program,hi,Sem.run_pure];rw [ho];simp only [Result.andThen_ok,Bool.not_false,if_true,Sem.run_bind,hf,hz];rfl
def AppS (P:Program) (ρ:Val) (w0:Cx) (j:J) (H:Heap) (w:World) (ats:Array TypeId) (ty:TypeId) (us ux:Value) (v:AV) (H':Heap):Prop:=
 ∃ u w' j',(Builtin.append_ ats ty #[us,ux]).run P w= .ok u w'∧R ρ j' v u∧Inv ρ w0 j' H' w'∧St j H j' H'
theorem zvH {l:List AV} {xs:List Value} {rest:Array Value} {sz need nc nx:Nat} {e:TypeId} (hl:RL ρ j l xs) (hlen:l.length=need*sz) (hnc:need≤nc) (hrest:rest.size=(nc-need)*sz):
  NewR ρ j (.cells (Vec.ofList l) sz nx none false true) (.cells (xs.toArray++rest) e (0,0)) nc:=by
 have hx:=hl.length;refine ⟨rfl,rfl,_,e,rfl,by rw [Vec.n_ofList];simp [hx],⟨?_,fun _=> ?_⟩,fun i hi=> ?_⟩
 ·simp only [Array.size_append,List.size_toArray,hx,hlen,hrest];rw [←Nat.add_mul];exact Nat.mul_le_mul_right _ (by omega)
 ·rw [Vec.n_ofList,hlen];exact Nat.mul_le_mul_right _ hnc
 ·rw [Vec.n_ofList] at hi;rw [Vec.get_ofList l i hi];obtain ⟨x,h1,h2⟩:=hl.get i _ (List.getElem?_eq_getElem hi);exact ⟨x,by rw [Array.getElem?_append_left (by simp;omega)];simpa using h1,h2⟩
theorem zeq (hi:Inv ρ w0 j H w) {ats:Array TypeId} {ts tx e:TypeId} {ty:TypeId} {inf:TypeInfo} {base:Option Addr} {sl sc n:Nat} {ux z':Value} {old new l:List AV} {v:AV} {H':Heap} (h0:ats[0]? =some ts) (h1:ats[1]? =some tx)
  (hu:P.underlying ts=some (.slice e)) (hx:zlZ P tx=true) (hinf:P.info? e=some inf) (hn:(Builtin.lenOf ux).run P w= .ok n w) (hlt:sc<sl+n) (hpos:0<inf.size)
  (hz: ∀w',(zeroValue e).run P w'= .ok z' w') (hzs:z'.cells.size=inf.size) (hl:l=old++new) (ho:old.length=sl*inf.size) (hne:new.length=n*inf.size)
  (hold: ∃xs:List Value,(Builtin.firstCells inf.size sl (.slice base sl sc)).run P w.drew= .ok xs.toArray w.drew∧RL ρ j old xs) (hnew: ∃xs:List Value,(Builtin.firstCells inf.size n ux).run P w.drew= .ok xs.toArray w.drew∧RL ρ j new xs)
  (h:zgw H inf.bytes inf.size (sl+n) l=some (v,H')):AppS P ρ w0 j H w ats ty (.slice base sl sc) ux v H':=by
 unfold zgw at h;split at h
 case h_2=>cases h
 rename_i hb hc;have hb:(sl+n)*inf.bytes≤35184372088832:=Nat.le_of_ble_eq_true hb;have hc:(sl+n)*inf.size≤35184372088832:=Nat.le_of_ble_eq_true hc;have hcap:sl+n≤35184372088832:=Nat.le_trans (Nat.le_mul_of_pos_right _ hpos) hc;cases h;obtain ⟨xo,ho1,ho2⟩:=hold;obtain ⟨xn,hn1,hn2⟩:=hnew;obtain ⟨nc,rest,h2,h3,h4⟩:=zeo (ty:=ty) h0 h1 hu hx hinf hn hlt (by omega) (by omega) hz ho1 hn1;have hlR:RL ρ j l (xo++xn):=by rw [hl];exact ho2.append hn2
 have hnewR:=zvH (rest:=rest) (nc:=nc) (need:=sl+n) (sz:=inf.size) (e:=e) (nx:=H.nx) hlR (by rw [hl,List.length_append,ho,hne,Nat.add_mul]) h2 (by rw [h3,hzs]);obtain ⟨h5,h6⟩:=hi.drew.alloc hnewR (fun v e g cl sh hob=>by cases hob;exact .inl rfl);refine ⟨_,_,_,h4,⟨_,za4 _ _ _,?_,?_⟩,?_,h6⟩
 ·exact ⟨by show 0+(sl+n)≤nc;omega,by show 0<nc;omega⟩
 ·show _=Value.slice (some ⟨w.heap.size,0,none⟩) (sl+n) (nc-0);simp
 ·have e1:(xo++xn).toArray++rest=xo.toArray++xn.toArray++rest:=by simp
  rw [←e1];exact h5
theorem zjk {v:Vec} {off n:Nat} {new:List AV} (h:off+n=v.n):(extended v off n new).n=n+new.length∧(∀i,i<n→(extended v off n new).get i=v.get (off+i))∧ ∀i (hi:i<new.length),(extended v off n new).get (n+i)=new[i]:=by
 unfold extended;split
 ·rename_i h0;have h0:=zaj h0;subst h0;obtain ⟨t,m,d⟩:=v;have hm:n=m:=by simpa using h
  subst hm;refine ⟨by rw [Vec.n_put];rfl,fun i hi=> ?_,fun i hi=> ?_⟩
  ·rw [Vec.get_put,dif_neg (by omega)];simp only [Vec.get,Nat.zero_add]
  ·rw [Vec.get_put,dif_pos (by omega)];congr 1;omega
 ·have hlen:(v.list off n++new).length=n+new.length:=by rw [List.length_append,Vec.length_list]
  refine ⟨by rw [Vec.n_ofList,hlen],fun i hi=> ?_,fun i hi=> ?_⟩
  ·have hlt:i<(v.list off n++new).length:=by omega
   rw [Vec.get_ofList _ _ hlt];have e1:=Vec.getElem_list n v off i hi;have e2:(v.list off n++new)[i]? =some (v.get (off+i)):=by rw [List.getElem?_append_left (by rw [Vec.length_list];exact hi)];exact e1
   rw [List.getElem?_eq_getElem hlt] at e2;exact Option.some.inj e2
  ·have hlt:n+i<(v.list off n++new).length:=by omega
   rw [Vec.get_ofList _ _ hlt];have e2:(v.list off n++new)[n+i]? =some new[i]:=by
    rw [List.getElem?_append_right (by rw [Vec.length_list];omega),Vec.length_list,show n+i-n=i by omega];exact List.getElem?_eq_getElem hi
   rw [List.getElem?_eq_getElem hlt] at e2;exact Option.some.inj e2
theorem zjv (hi:Inv ρ w0 j H w) {ats:Array TypeId} {ts tx e:TypeId} {ty:TypeId} {inf:TypeInfo} {b off len kk n:Nat} {L:Loc} {ux z':Value} {new:List AV} {v:AV} {H':Heap} (h0:ats[0]? =some ts) (h1:ats[1]? =some tx)
  (hu:P.underlying ts=some (.slice e)) (hx:zlZ P tx=true) (hinf:P.info? e=some inf) (hn:(Builtin.lenOf ux).run P w= .ok n w) (hpos:0<inf.size)
  (hz: ∀w',(zeroValue e).run P w'= .ok z' w') (hzs:z'.cells.size=inf.size) (hne:new.length=n*inf.size) (hj:j b=some L) (hck:kk+len≤L.cap∧0<L.cap) (hnpos:0<n)
  (hnew: ∃xs:List Value,(Builtin.firstCells inf.size n ux).run P w= .ok xs.toArray w∧RL ρ j new xs) (hnew': ∃xs:List Value,(Builtin.firstCells inf.size n ux).run P w.drew= .ok xs.toArray w.drew∧RL ρ j new xs)
  (h:zmm H inf.bytes inf.size n new b off len kk=some (v,H')):AppS P ρ w0 j H w ats ty (.slice (some ⟨L.blk,L.off+off,none⟩) len (L.cap-kk)) ux v H':=by
 unfold zmm at h;split at h
 case h_2=>cases h
 rename_i vr esz g sh hm;split at h
 case h_2=>cases h
 rename_i hes hof hcells;have hes:=zaj hes;have hof:off=kk*inf.size:=zaj hof;subst hes;split at h
 ·rename_i hfull;have hfull:off+len*inf.size=vr.n:=zaj hfull;split at h
  case h_2=>cases h
  rename_i hb hc;have hb:(len+n)*inf.bytes≤35184372088832:=Nat.le_of_ble_eq_true hb;have hc:(len+n)*inf.size≤35184372088832:=Nat.le_of_ble_eq_true hc;have hcap:len+n≤35184372088832:=Nat.le_trans (Nat.le_mul_of_pos_right _ hpos) hc;cases h;obtain ⟨e1,e2,e3⟩:=zjk (new:=new) hfull;have hHeq:(⟨H.m,H.nx,H.gw⟩:Heap)=H:=rfl;by_cases hroom:len+n≤L.cap-kk
  ·
   obtain ⟨xs,hx1,hx2⟩:=hnew;have hmul:off+len*inf.size+new.length≤L.cap*inf.size:=by
    rw [hof,hne,←Nat.add_mul,←Nat.add_mul];exact Nat.mul_le_mul_right _ (by omega)
   obtain ⟨w',g1,g2⟩:=hi.over (v':=extended vr off (len*inf.size) new) hj hm hof hfull (by omega) hmul hcells hx2 e1 e2 e3 P rfl;refine ⟨_,w',_,zcf (ty:=ty) h0 h1 hu hx hinf hn hroom hx1 (w':=w') ?_,⟨_,za4 _ _ _,?_,?_⟩,g2,?_⟩
   ·simp only [addr_add];exact g1
   ·exact ⟨by show 0+(len+n)≤L.cap-kk;omega,by show 0<L.cap-kk;omega⟩
   ·simp [zjt]
   ·have hs:=(hi.closed hj hm (v':=extended vr off (len*inf.size) new)).2;refine ⟨(zcd hi.fresh),fun q Lq eq e0=> ?_,hs.keep,hs.nx⟩;by_cases hq:q=H.nx
    ·omega
    ·rw [zbJ _ _ hq,e0] at eq;cases eq
  ·
   obtain ⟨xs,hx1,hx2⟩:=hnew';have hal:H.row b=some vr:=by unfold Heap.row;rw [hm];rfl
   obtain ⟨xo,ho1,ho2⟩:=hi.drew.loadCells (P:=P) (off:=off) (k:=len*inf.size) hj hal (by omega);obtain ⟨nc,rest,h2,h3,h4⟩:=zeo (ty:=ty) (base:=some ⟨L.blk,L.off+off,none⟩) (sl:=len) (sc:=L.cap-kk) h0 h1 hu hx hinf hn (by omega) (by omega) (by omega) hz ho1 hx1;have hcl:=hi.drew.closed hj hm (v':=extended vr off (len*inf.size) new);have hn1:((H.upd b (.cells vr inf.size g (some (H.nx+1)) true true)).alloc (.cells (extended vr off (len*inf.size) new) inf.size g none true true)).m.get H.nx=some (.cells (extended vr off (len*inf.size) new) inf.size g none true true):=by
    rw [Heap.alloc_eq,Heap.upd_eq];exact T.get_set_same _ _ _
   have hxo:=ho2.length;have hxs:=hx2.length;rw [Vec.length_list] at hxo;have hnewR:NewR ρ j (.cells (extended vr off (len*inf.size) new) inf.size g none true true) (.cells (xo.toArray++xs.toArray++rest) e (0,0)) nc:=by
    refine ⟨rfl,rfl,_,e,rfl,?_,⟨?_,fun _=> ?_⟩,fun i hii=> ?_⟩
    ·rw [e1];simp;omega
    ·simp only [Array.size_append,List.size_toArray,hxo,hxs,hne,h3,hzs];rw [←Nat.add_mul,←Nat.add_mul];exact Nat.mul_le_mul_right _ (by omega)
    ·rw [e1,hne,←Nat.add_mul];exact Nat.mul_le_mul_right _ h2
    ·rw [e1] at hii;by_cases hlt:i<len*inf.size
     ·rw [e2 i hlt];obtain ⟨x,q1,q2⟩:=ho2.get i _ (Vec.getElem_list _ vr off i hlt);exact ⟨x,by rw [Array.append_assoc,Array.getElem?_append_left (by simp;omega)];simpa using q1,q2⟩
     ·have hi2:i-len*inf.size<new.length:=by omega
      have:=e3 (i-len*inf.size) hi2;rw [show len*inf.size+(i-len*inf.size)=i by omega] at this;rw [this];obtain ⟨x,q1,q2⟩:=hx2.get (i-len*inf.size) _ (List.getElem?_eq_getElem hi2);refine ⟨x,?_,q2⟩;rw [Array.append_assoc,Array.getElem?_append_right (by simp;omega),Array.getElem?_append_left (by simp;omega)];simp only [List.size_toArray,hxo];simpa using q1
   obtain ⟨Lg,hLg⟩:=hi.grp b L vr inf.size g none sh hj hm;have h5:=hcl.1.adopt hn1 hi.fresh hnewR (fun v e g2 cl sh hob=>by cases hob;exact .inr ⟨Lg,hLg⟩);refine ⟨_,_,_,h4,⟨_,za4 _ _ _,?_,?_⟩,h5,?_⟩
   ·exact ⟨by show 0+(len+n)≤nc;omega,by show 0<nc;omega⟩
   ·show _=Value.slice (some ⟨w.heap.size,0,none⟩) (len+n) (nc-0);simp
   ·refine ⟨(zcd hi.fresh),fun q Lq eq e0=> ?_,hcl.2.keep,hcl.2.nx⟩;by_cases hq:q=H.nx
    ·omega
    ·rw [zbJ _ _ hq,e0] at eq;cases eq
 ·split at h
  case h_2=>cases h
  rename_i hle;have hle:off+(len+n)*inf.size≤vr.n:=Nat.le_of_ble_eq_true hle;split at h
  case h_2=>cases h
  rename_i H2 hst;cases h;obtain ⟨xs,hx1,hx2⟩:=hnew;obtain ⟨w',g1,g2,g3⟩:=hi.store hst hj hx2 P;obtain ⟨ob,q1,q2⟩:=hi.obj b L hj;rw [hm] at q1;cases q1;obtain ⟨_,_,_,_,_,⟨_,q3⟩,_⟩:=q2.2.2 rfl;have q3:=q3 hck.2;have hroom:len+n≤L.cap-kk:=by
   have:(kk+(len+n))*inf.size≤L.cap*inf.size:=by rw [Nat.add_mul,←hof];omega
   have:=Nat.le_of_mul_le_mul_right this hpos;omega
  refine ⟨_,w',j,zcf (ty:=ty) h0 h1 hu hx hinf hn hroom hx1 (w':=w') ?_,⟨L,hj,⟨by show kk+(len+n)≤L.cap;omega,hck.2⟩,rfl⟩,g2,g3⟩;simp only [addr_add,Nat.add_assoc];exact g1
theorem zjE: ∀ {n:Nat} {l m:List AV},takeN n l=some m→m.length=n
 | 0,l,m,h=>by unfold takeN at h;cases h;rfl
 | n+1,[],m,h=>by unfold takeN at h;cases h
 | n+1,a::l,m,h=>by
  unfold takeN at h;split at h
  ·rename_i hm;cases h;simp [zjE hm]
  ·cases h
theorem ziz {sz n:Nat} {x:AV} {l:List AV} (h:zhy H sz n x=some l):l.length=n*sz:=by
 cases x<;>simp only [zhy] at h
 case nils=>
  cases n with
  | zero=>cases h;simp
  | succ n=>cases h
 case emp=>
  cases n with
  | zero=>cases h;simp
  | succ n=>cases h
 case str p=>
  split at h
  case h_2=>cases h
  rename_i e;have e:=zaj e;rw [zjE h,e,Nat.mul_one]
 case sl b off len cap=>
  split at h
  ·cases h
  ·split at h
   ·cases h
   ·split at h
    ·cases h;rw [Vec.length_list];rfl
    ·cases h
 all_goals cases h
def zr3 (w:World) (b o:Nat) (vals:List Value):Prop:= ∀i v,vals[i]? =some v→w.cell? ⟨b,o+i,none⟩=some v
def ztI (P:Program) (ρ:Val) (w0:Cx) (t:TypeId) (s:AV) (n:Nat) (xs:List AV) (H:Heap) (k:K):Prop:=
 ∀ (j:J) (w:World) (us:Value) (bb o cap:Nat) (vals:List Value) (ty:TypeId),Inv ρ w0 j H w→R ρ j s us→zr3 w bb o vals→RL ρ j xs vals→
  ∃ u w',(Builtin.append_ #[t,t] ty #[us,.slice (some ⟨bb,o,none⟩) n cap]).run P w= .ok u w'∧Post ρ w0 j H k u w'
theorem zv5 (hi:Inv ρ w0 j H w) {rec:Task→Ob} (happ: ∀t s n xs H k,Ob.den ρ (rec (.app t s n xs H k))→ztI P ρ w0 t s n xs H k) {ts tx:TypeId} {rest:List TypeId} {s x:AV} {us ux:Value} (hs:R ρ j s us) (hx:R ρ j x ux) {ty:TypeId} (h:Ob.den ρ (appX P rec ts tx rest s x H k)):
  ∃ u w',(Builtin.append_ (ts::tx::rest).toArray ty #[us,ux]).run P w= .ok u w'∧Post ρ w0 j H k u w':=by
 unfold appX at h;split at h
 case h_2=>exact h.elim
 rename_i sz b off len cap hb he;split at h
 case h_2=>exact h.elim
 rename_i v hr;split at h
 case h_2=>exact h.elim
 rename_i hle;have hle:=Nat.le_of_ble_eq_true hle;have hb:=zaj hb;subst hb;obtain ⟨L,hj,_,rfl⟩:=hx;have hc: ∀i,i<len*sz→ ∃x,w.cell? ⟨L.blk,L.off+off+i,none⟩=some x∧R ρ j (v.get (off+i)) x:=fun i hi'=>by
  have h1:Nat.add off (Nat.mul len sz)=off+len*sz:=rfl;have:=hi.cell hj hr (off:=off+i) (by omega)
  rwa [←Nat.add_assoc] at this
 let f:Nat→Value:=fun i=>(w.cell? ⟨L.blk,L.off+off+i,none⟩).getD undef
 refine happ _ _ _ _ _ _ h j w us L.blk (L.off+off) _ ((List.range (len*sz)).map f) ty hi hs (fun i u hu=> ?_) (RL.of_get (by simp [Vec.length_list]) fun i a ha=> ?_)
 ·have hi':i<len*sz:=by
   have:=(List.getElem?_eq_some_iff.1 hu).1;simpa using this
  simp [hi'] at hu;obtain ⟨x,h1,_⟩:=hc i hi';rw [←hu];simp only [f,h1,Option.getD_some]
 ·have hi':i<len*sz:=by
   rcases Nat.lt_or_ge i (len*sz) with h'|h'
   ·exact h'
   ·rw [List.getElem?_eq_none (by rw [Vec.length_list];exact h')] at ha;cases ha
  have ha':(v.list off (len*sz))[i]? =some a:=ha;rw [Vec.getElem_list (len*sz) v off i hi'] at ha';obtain ⟨x,h1,h2⟩:=hc i hi';refine ⟨x,by simp [hi',f,h1],?_⟩;rw [←Option.some.inj ha'];exact h2
theorem zrQ (hi:Inv ρ w0 j H w) (he:ER ρ j N env a) {rec:Task→Ob} (happ: ∀t s n xs H k,Ob.den ρ (rec (.app t s n xs H k))→ztI P ρ w0 t s n xs H k) {c:Call} (ho:o.op= .call c) (hc:c.callee= .builtin .append) (h:Ob.den ρ (zjr P rec c.argTypes.toList c.args.toList env H k)):OpOk P ρ w0 j H w a o k Q:=by
 unfold zjr at h;split at h
 case h_2=>exact h.elim
 rename_i ts tx rest s x hts hargs;obtain ⟨h0,h1⟩:=zk7 hts;obtain ⟨us,ux,hargs',hs,hx⟩:=args_two' he hargs;cases hcp:zml P H ts tx s x with
 | none=>
  rw [hcp] at h;obtain ⟨u,w',g1,g2⟩:=zv5 hi happ hs hx (ty:=o.type) h;obtain ⟨v,H',j',g3,g4,g5,g6⟩:=g2;exact .value (run_call_builtin' ho hc (fun _ _ _ _=>rfl) (by rw [hargs',show c.argTypes=(ts::tx::rest).toArray by rw [←hts]];exact g1)) ⟨v,H',j',g3,g4,g5,g6⟩
 | some q=>
  obtain ⟨v,H'⟩:=q;rw [hcp] at h
  suffices hs:AppS P ρ w0 j H w c.argTypes o.type us ux v H' by
   obtain ⟨u,w',j',g1,g2,g3,g4⟩:=hs;exact .value (run_call_builtin' ho hc (fun _ _ _ _=>rfl) (by rw [hargs'];exact g1)) ⟨v,H',j',g2,g3,g4,h⟩
  unfold zml at hcp;split at hcp
  case h_2=>cases hcp
  rename_i bytes sz hel hsrc;obtain ⟨e,inf,z',hu,hinf,hby,hsz,hpos,hz,hzs⟩:=zma hel;subst hby hsz;split at hcp
  ·cases hcp
  rename_i n hn;split at hcp
  ·cases hcp
  rename_i new hnew;obtain ⟨hlen,hkind⟩:=zfx (P:=P) (w:=w) hx hn;have hkind':(∃b n c,ux= .slice b n c)∨ ∃s,ux= .string s:=by
   rcases hkind with ⟨b,c,e⟩|⟨s,e,_⟩
   ·exact .inl ⟨b,_,c,e⟩
   ·exact .inr ⟨s,e⟩
  have hnl:=ziz hnew;have hc1:=zcD (P:=P) hi hx hnew;have hc2:=zcD (P:=P) hi.drew hx hnew;split at hcp
  ·rename_i hz0;split at hcp
   case h_2=>cases hcp
   rename_i hsl;cases hcp;have hfit: ∃b n c,us= .slice b n c∧n≤c:=by
    cases s<;>simp only [isSl] at hsl<;>try (cases hsl;done)
    case nils=>exact ⟨_,_,_,hs,Nat.le_refl _⟩
    case sl b off len cap=>
     obtain ⟨L,_,hck,hu⟩:=hs;refine ⟨_,_,_,hu,?_⟩;cases cap with
     | known c=>exact hck
     | upto k=>obtain ⟨h1,_⟩:=hck;show len≤L.cap-k;omega
    case emp=>obtain ⟨p,c,hu⟩:=hs;exact ⟨_,_,_,hu,Nat.zero_le _⟩
   obtain ⟨b,sl,sc,rfl,hle⟩:=hfit;refine ⟨.slice b (sl+0) sc,w,j,zcf (ty:=o.type) (xs:= []) h0 h1 hu hsrc hinf hlen (by omega) (zcn hkind') ?_,hs,hi,St.refl j H⟩;cases b with
   | none=>rfl
   | some p=>rfl
  ·rename_i _ m;unfold zxa at hcp;split at hcp
   ·
    have hs:us= .slice none 0 0:=hs;subst hs;exact zeq (old:= []) (sl:=0) (sc:=0) hi h0 h1 hu hsrc hinf hlen (by omega) hpos hz hzs (l:=new) (new:=new) (by simp) (by simp) hnl ⟨[],by rfl,rfl⟩ hc2 (by rw [Nat.zero_add];exact hcp)
   ·rename_i b off len cap;obtain ⟨L,hj,hck,rfl⟩:=hs;split at hcp
    ·rename_i c';split at hcp
     ·rename_i hle;have hle:len+(m+1)≤c':=Nat.le_of_ble_eq_true hle;split at hcp
      case h_2=>cases hcp
      rename_i H2 hst;cases hcp;obtain ⟨xs,hx1,hx2⟩:=hc1;obtain ⟨w',g1,g2,g3⟩:=hi.store hst hj hx2 P;refine ⟨_,w',j,zcf (ty:=o.type) h0 h1 hu hsrc hinf hlen hle hx1 (w':=w') ?_,⟨L,hj,hle,rfl⟩,g2,g3⟩;simp only [addr_add,Nat.add_assoc];exact g1
     ·rename_i hle;have hle: ¬len+(m+1)≤c':=fun hh=>by
       have:=Nat.ble_eq_true_of_le hh;rw [show Nat.ble (Nat.add len (Nat.succ m)) c'=true from this] at hle;cases hle
      split at hcp
      case h_2=>cases hcp
      rename_i old hold;have hs':R ρ j (.sl b off len (.known c')) (.slice (some ⟨L.blk,L.off+off,none⟩) len c'):=⟨L,hj,hck,rfl⟩;exact zeq (old:=old) hi h0 h1 hu hsrc hinf hlen (by show c'<len+(m+1);omega) hpos hz hzs rfl (ziz hold) hnl (zcD (P:=P) hi.drew hs' hold) hc2 hcp
    ·rename_i kk;exact zjv hi h0 h1 hu hsrc hinf hlen hpos hz hzs hnl hj hck (Nat.succ_pos m) hc1 hc2 hcp
   ·cases hcp
end
end Go.Dw
namespace Go.Dw
section
variable {P:Program} {ρ:Val} {w0:Cx} {j:J} {H:Heap} {w:World} {N:Nat} {env:T AV} {a:Act} {o:Oper} {k:K} {Q:Exit→Act→World→Prop}
end
end Go.Dw
namespace Go.Dw
def Enters (P : Program) (f : FuncId) : Prop := ∃ fn c, P.funcs[f]? = some fn ∧ fn.body = some c ∧ fn.name ≠ "runtime.NumGoroutine"
def zoc (P:Program) (ρ:Val) (w0:Cx) (f:FuncId) (args:List AV) (H:Heap) (k:K):Prop:=
 ∀ (j:J) (w:World) (vals:List Value),Inv ρ w0 j H w→RL ρ j args vals→Calls P f vals.toArray w (fun e w'=> ∃u,e= .returned u∧Post ρ w0 j H k u w')
def exOf:Ex→Exit
 | .normal=> .normal
 | .exit id=> .exit id
 | .ret=> .ret
def CodeQ (ρ:Val) (w0:Cx) (j:J) (H:Heap) (N:Nat) (k:KC) (ex:Exit) (a:Act) (w:World):Prop:=
 ∃ x env' H' j',ex=exOf x∧ER ρ j' N env' a∧Inv ρ w0 j' H' w∧St j H j' H'∧Ob.den ρ (k x env' H')
def OpsE (ρ:Val) (w0:Cx) (j:J) (H:Heap) (N:Nat) (k:T AV→Heap→Ob) (a:Act) (w:World):Prop:=
 ∃ env' H' j',ER ρ j' N env' a∧Inv ρ w0 j' H' w∧St j H j' H'∧Ob.den ρ (k env' H')
structure Good (P:Program) (ρ:Val) (w0:Cx) (n:Nat) (rec:Task→Ob):Prop where
 app: ∀t s n xs H k,Ob.den ρ (rec (.app t s n xs H k))→ztI P ρ w0 t s n xs H k
 call: ∀f args H k,Ob.den ρ (rec (.call f args H k))→Enters P f∧zoc P ρ w0 f args H k
 code: ∀c p N env H k,zbf P p=c→Ob.den ρ (rec (.code c p N env H k))→ ∀j a w,Inv ρ w0 j H w→ER ρ j N env a→c.wp P (CodeQ ρ w0 j H N k) a w
 loop: ∀c p N env H k,zbf P p= .loop c→Ob.den ρ (rec (.code (.loop c) (2::p) N env H k))→ ∀j a w,Inv ρ w0 j H w→ER ρ j N env a→Code.rounds P c (CodeQ ρ w0 j H N k) n a w
 ops: ∀all l N env H k,Ob.den ρ (rec (.ops all l N env H k))→ ∀j a w Q,Inv ρ w0 j H w→ER ρ j N env a→(∀a' w',OpsE ρ w0 j H N k a' w'→Q Exit.normal a' w')→wpList P all Q l a w
section
variable {P:Program} {ρ:Val} {w0:Cx} {j:J} {H:Heap} {w:World} {N:Nat} {env:T AV} {a:Act} {o:Oper} {k:K} {Q:Exit→Act→World→Prop} {rec:Task→Ob} {n:Nat}
theorem za2 (env:T AV) (t u:Nat) (v:AV):zaD (env.set t v) u=if u=t then v else zaD env u:=by
 unfold zaD;rw [T.get_set];by_cases h:u=t
 ·rw [if_pos h,if_pos h]
 ·rw [if_neg h,if_neg h]
theorem ER.same (he:ER ρ j N env a) {t:Nat} {v:AV} (ht:t<N) (hv:R ρ j v (a.tmps.getD t undef)):ER ρ j N (env.set t v) a:=by
 refine ⟨he.size,he.le,fun u hu=> ?_,?_⟩
 ·rw [za2];split
  ·rename_i e;rw [e];exact .inr hv
  ·exact he.get u hu
 ·rw [za2,if_neg (by have:=he.le;omega)];exact he.dfr
theorem ER.put (he:ER ρ j N env a) {d:Nat} {v:AV} {u:Value} (hd:d<N) (hv:R ρ j v u):ER ρ j N (env.set d v) (a.put (some d) u):=by
 have hsz:=he.size;refine ⟨by simp [Act.put,he.size],he.le,fun t ht=> ?_,?_⟩
 ·rw [za2];split
  ·rename_i e;subst e;simp only [Act.put,Array.getD_eq_getD_getElem?,Array.getElem?_setIfInBounds_self];rw [if_pos (by omega)];exact .inr hv
  ·rename_i e;simp only [Act.put,Array.getD_eq_getD_getElem?,Array.getElem?_setIfInBounds_ne (Ne.symm e)];have:=he.get t ht
   rwa [Array.getD_eq_getD_getElem?] at this
 ·rw [za2,if_neg (by have:=he.le;omega)];exact he.dfr
theorem zh7 (he:ER ρ j N env a) {dst:Option Tmp} {v:AV} {u:Value} {kk:T AV→Ob} (hv:R ρ j v u) (h:Ob.den ρ (putA dst N env v kk)):
  ∃ env',ER ρ j N env' (a.put dst u)∧Ob.den ρ (kk env'):=by
 unfold putA at h;split at h
 ·exact ⟨env,he,h⟩
 ·rename_i d;split at h
  ·rename_i hb;rw [Nat.blt_eq] at hb;exact ⟨_,he.put hb hv,h⟩
  ·exact h.elim
theorem zgF (he:ER ρ j N env a) {t:Nat} {b:SB} (h:env.get t=some (.bool b)):t≠zaZ∧a.tmps[t]? =some (.bool (b.den ρ)):=by
 have hne:t≠zaZ:=fun e=>by
  subst e;have:=he.dfr;unfold zaD at this;rw [h] at this;cases hd:a.defers with
  | nil=>rw [hd] at this;cases this
  | cons d ds=>rw [hd] at this;obtain ⟨_,_,_,_,e,_⟩:=this;cases e
 refine ⟨hne,?_⟩;have:=(he.get t hne).resolve_left (by unfold zaD;rw [h];simp);unfold zaD at this;rw [h] at this;simp only [R,Array.getD_eq_getD_getElem?] at this;cases ht:a.tmps[t]? with
 | none=>rw [ht] at this;simp [undef] at this
 | some x=>rw [ht] at this;simp at this;rw [this]
def GOk (all:Array Oper) (env:T AV) (a:Act) (o:Oper):G→Prop
 | .yes=>Region.wanted o (yielded all a.tmps)=true
 | .no=>Region.wanted o (yielded all a.tmps)=false
 | .test t b _=>env.get t=some (.bool b)
 | .none=>True
theorem zhi (he:ER ρ j N env a) (all:Array Oper) (o:Oper):GOk all env a o (zb4 all env o):=by
 unfold zb4;split
 ·rename_i hg;show Region.wanted o _=true;unfold Region.wanted;rw [hg]
 rename_i i want hg;have hw:Region.wanted o (yielded all a.tmps)=(yielded all a.tmps i==some want):=by unfold Region.wanted;rw [hg]
 split
 ·rename_i hi;show Region.wanted o _=false;rw [hw];simp [yielded,hi]
 rename_i oj hi;split
 ·rename_i hd;show Region.wanted o _=false;rw [hw];simp [yielded,hi,hd]
 rename_i t hd;have undef':(∀b,a.tmps[t]? ≠some (.bool b))→Region.wanted o (yielded all a.tmps)=false:=by
  intro hb;rw [hw];unfold yielded;rw [hi];simp only [Option.bind_some,hd];cases hx:a.tmps[t]? with
  | none=>rfl
  | some v=>cases v<;>first|rfl|exact absurd hx (hb _)
 have val: ∀b,env.get t=some (.bool b)→Region.wanted o (yielded all a.tmps)=(some (b.den ρ)==some want):=fun b hb=>by
  have:=(zgF he hb).2;rw [hw];unfold yielded;rw [hi];simp only [Option.bind_some,hd,this]
 have nobn: ∀c w,zaD env t= .nun c w→ ∀b,a.tmps[t]? ≠some (.bool b):=fun c w h0 b hb=>by
  by_cases hne:t=zaZ
  ·rw [hne,Array.getElem?_eq_none (by rw [he.size];exact he.le)] at hb;cases hb
  ·have:=(he.get t hne).resolve_left (by rw [h0];simp);rw [h0,Array.getD_eq_getD_getElem?,hb] at this;have h1:=this.1;cases h1
 have nob:zaD env t= .tup []→ ∀b,a.tmps[t]? ≠some (.bool b):=fun h0 b hb=>by
  by_cases hne:t=zaZ
  ·rw [hne,Array.getElem?_eq_none (by rw [he.size];exact he.le)] at hb;cases hb
  ·have:=(he.get t hne).resolve_left (by rw [h0];simp);rw [h0,Array.getD_eq_getD_getElem?,hb] at this;obtain ⟨m,e,_⟩:=this;cases e
 split
 ·rename_i h0;exact undef' (nob (by unfold zaD;rw [h0];rfl))
 ·rename_i h0;have:=val _ h0;cases want
  ·show Region.wanted o _=false;rw [this];rfl
  ·show Region.wanted o _=true;rw [this];rfl
 ·rename_i h0;have:=val _ h0;cases want
  ·show Region.wanted o _=true;rw [this];rfl
  ·show Region.wanted o _=false;rw [this];rfl
 ·show env.get t=some _;assumption
 ·rename_i h0;exact undef' (nob (by unfold zaD;rw [h0]))
 ·rename_i c w h0;exact undef' (nobn c w (by unfold zaD;rw [h0]))
 ·trivial
theorem zal {f:FuncId} (h:Enters P f) (args:Array Value):(callFunc f args).run P w= .ok (.enter f args) w:=by
 obtain ⟨fn,c,h1,h2,h3⟩:=h;simp [callFunc,h1,h2,h3]
theorem zv4 {g:FuncId} {args:List AV} {vals:List Value} (hi:Inv ρ w0 j H w) (hv:RL ρ j args vals) (hen:Enters P g) (hc:zoc P ρ w0 g args H k) (hx:(execOp a.eval o).run P w=(callFunc g vals.toArray).run P w):OpOk P ρ w0 j H w a o k Q:=by
 unfold OpOk Oper.wp;rw [hx,zal hen,Oper.upon_enter];refine Calls.mono (hc j w vals hi hv) fun e w' he=> ?_;obtain ⟨u,rfl,hp⟩:=he;exact ⟨u,rfl,hp⟩
theorem ztB (hg:Good P ρ w0 n rec) (hi:Inv ρ w0 j H w) (he:ER ρ j N env a) {c:Call} (ho:o.op= .call c) {f:Operand} (hc:c.callee= .value f) (h:Ob.den ρ (znR rec f c.args.toList env H k)):OpOk P ρ w0 j H w a o k Q:=by
 unfold znR at h;split at h
 case h_2=>exact h.elim
 rename_i g first cap args hf hargs
 have hh:Ob.den ρ (rec (.call g (first++(args++cap)) H k)):=by
  split at h
  ·simpa using h
  ·exact h
 obtain ⟨l,m,hfv,hl,hm⟩:=zag he hf;have ha:=zmk he hargs;obtain ⟨hen,hcall⟩:=hg.call _ _ _ _ hh;refine zv4 hi (hl.append (ha.append hm)) hen hcall ?_;simp only [execOp,ho,resolve,hc,Sem.run_bind,hfv,Deferred.ofValue,Sem.run_pure,Result.andThen_ok,invoke];congr 2;apply Array.ext';simp
theorem zo4 (hg:Good P ρ w0 n rec) (hi:Inv ρ w0 j H w) (he:ER ρ j N env a) {c:Call} (ho:o.op= .call c) {b:Builtin} (hc:c.callee= .builtin b) (h:Ob.den ρ (zgu P rec b c env H k)):OpOk P ρ w0 j H w a o k Q:=by
 cases b<;>simp only [zgu] at h<;>first
  | exact zrQ hi he hg.app ho hc h
  | exact zvU hi he ho hc h
  | exact zrm hi he ho hc h
  | exact h.elim
theorem znC (hg:Good P ρ w0 n rec) (hi:Inv ρ w0 j H w) (he:ER ρ j N env a) (h:Ob.den ρ (heavy P rec o.op env H k)):OpOk P ρ w0 j H w a o k Q:=by
 cases ho:o.op<;>rw [ho] at h<;>simp only [heavy] at h<;>try (exact h.elim)
 case insert=>exact zkr hi he (.inr ho) h
 case store=>exact zsb hi he ho h
 case mapUpdate=>exact zkr hi he (.inl ho) h
 case mapEntry=>exact zlN hi he ho h
 case entryStore=>exact zjm hi he ho h
 case call c=>
  unfold zvT at h;cases hc:c.callee<;>rw [hc] at h
  case value f=>exact ztB hg hi he ho hc h
  case invoke r name=>exact h.elim
  case builtin b=>exact zo4 hg hi he ho hc h
def zv9 (ρ:Val) (w0:Cx) (j:J) (H:Heap) (N:Nat) (dst:Option Tmp) (k:K3) (a':Act) (w':World):Prop:=
 ∃ env1 v a1 u H' j',a'=a1.put dst u∧ER ρ j' N env1 a1∧R ρ j' v u∧Inv ρ w0 j' H' w'∧St j H j' H'∧Ob.den ρ (k env1 v H')
theorem OpOk.post3 {k:K3} (he:ER ρ j N env a) (h:OpOk P ρ w0 j H w a o (k env) Q):o.wp P a w (zv9 ρ w0 j H N o.dst k) Q:=by
 refine Oper.wp_mono (fun a' w' hp=> ?_) h;obtain ⟨u,rfl,v,H',j',h1,h2,h3,h4⟩:=hp;exact ⟨env,v,a,u,H',j',rfl,he.mono h3.sub,h1,h2,h3,h4⟩
theorem ztr (hi:Inv ρ w0 j H w) (he:ER ρ j N env a) {k:K3} (h:Ob.den ρ (zmd rec o env H k)):o.wp P a w (zv9 ρ w0 j H N o.dst k) Q:=by
 unfold zmd at h;split at h
 case h_2=>exact h.elim
 rename_i c ho;split at h
 case h_2=>exact h.elim
 rename_i f hc;split at h
 case h_2=>exact h.elim
 rename_i g first cap args hf hargs
 obtain ⟨l,m,hfv,hl,hm⟩:=zag he hf;have ha:=zmk he hargs;have hx:(execOp a.eval o).run P w= .ok (.defer { target:= .fn (.func g) m.toArray,args:=l.toArray++c.args.map a.eval }) w:=by
  simp only [execOp,ho,resolve,hc,Sem.run_bind,hfv,Deferred.ofValue,Sem.run_pure,Result.andThen_ok]
 unfold Oper.wp;rw [hx,Oper.upon_defer];refine ⟨_,_,_,undef,H,j,rfl,⟨he.size,he.le,fun t ht=> ?_,?_⟩,zcv,hi,St.refl j H,h⟩
 ·rw [za2,if_neg ht];exact he.get t ht
 ·rw [za2,if_pos rfl];refine ⟨g,_,zaD env zaZ,m.toArray,rfl,rfl,?_,he.dfr⟩;have:(l.toArray++c.args.map a.eval++m.toArray).toList=l++((c.args.map a.eval).toList++m):=by simp
  rw [this];exact hl.append (ha.append hm)
theorem zvN (hg:Good P ρ w0 n rec) (hi:Inv ρ w0 j H w) (he:ER ρ j N env a) {k:K3} (h:Ob.den ρ (doOp P rec o env H k)):o.wp P a w (zv9 ρ w0 j H N o.dst k) Q:=by
 unfold doOp at h;cases hc:zfD o.op<;>rw [hc] at h
 case light=>exact (ztb hi he (k:=k env) h).post3 he
 case alloc=>exact (ztF hi he (k:=k env) h).post3 he
 case heavy=>exact (znC hg hi he (k:=k env) h).post3 he
 case defr=>exact ztr hi he h
theorem OpsE.later {j':J} {H':Heap} {k:T AV→Heap→Ob} {a':Act} {w':World} (hs:St j H j' H') (h:OpsE ρ w0 j' H' N k a' w'):OpsE ρ w0 j H N k a' w':=by
 obtain ⟨env',H2,j2,h1,h2,h3,h4⟩:=h;exact ⟨env',H2,j2,h1,h2,hs.trans h3,h4⟩
theorem zwP (hg:Good P ρ w0 n rec) {all:Array Oper} {l:List Oper} {k:T AV→Heap→Ob} (h:Ob.den ρ (zln P rec all l N env H k)) (hi:Inv ρ w0 j H w) (he:ER ρ j N env a)
  (hQ: ∀a' w',OpsE ρ w0 j H N k a' w'→Q Exit.normal a' w'):wpList P all Q l a w:=by
 unfold zln at h;split at h
 ·exact hQ a w ⟨env,H,j,he,hi,St.refl j H,h⟩
 ·rename_i o rest;have hgu:=zhi he all o;unfold wpList;split at h
  ·rename_i hy;rw [hy] at hgu;have hgu:Region.wanted o (yielded all a.tmps)=true:=hgu;rw [if_pos hgu];refine .inl (Oper.wp_mono (fun a' w' hp=> ?_) (zvN hg hi he h));obtain ⟨env1,v,a1,u,H',j',rfl,h1,h2,h3,h4,h5⟩:=hp;obtain ⟨env2,h6,h7⟩:=zh7 h1 h2 h5;exact hg.ops _ _ _ _ _ _ h7 j' _ _ Q h3 h6 fun a' w' hh=>hQ _ _ (hh.later h4)
  ·rename_i hy;rw [hy] at hgu;have hgu:Region.wanted o (yielded all a.tmps)=false:=hgu;rw [hgu,if_neg (by simp)];obtain ⟨env2,h6,h7⟩:=zh7 he zcv h;exact hg.ops _ _ _ _ _ _ h7 j _ _ Q hi h6 hQ
  ·rename_i t b _ hy;rw [hy] at hgu;split at h
   case h_2=>exact h.elim
   rename_i hb;rw [Nat.blt_eq] at hb;have hgu:env.get t=some (.bool b):=hgu;obtain ⟨hne,htm⟩:=zgF he hgu;have hval:a.tmps.getD t undef= .bool (b.den ρ):=by rw [Array.getD_eq_getD_getElem?,htm];rfl
   cases hbv:b.den ρ with
   | true=>exact hg.ops _ (o::rest) _ _ _ _ (h.1 hbv) j _ _ Q hi (he.same hb (by rw [hval,hbv];rfl)) hQ
   | false=>exact hg.ops _ (o::rest) _ _ _ _ (h.2 hbv) j _ _ Q hi (he.same hb (by rw [hval,hbv];rfl)) hQ
  ·exact h.elim
theorem CodeQ.later {j':J} {H':Heap} {k:KC} {ex:Exit} {a':Act} {w':World} (hs:St j H j' H') (h:CodeQ ρ w0 j' H' N k ex a' w'):CodeQ ρ w0 j H N k ex a' w':=by
 obtain ⟨x,env',H2,j2,h0,h1,h2,h3,h4⟩:=h;exact ⟨x,env',H2,j2,h0,h1,h2,hs.trans h3,h4⟩
theorem zr7 (hg:Good P ρ w0 n rec) {b:Code} {p:List Nat} (hb:zbf P p=b) {k:KC} {ex:Exit} {a':Act} {w':World} (h:CodeQ ρ w0 j H N (zr8 rec b p N k) ex a' w'):Exit.then (b.wp P (CodeQ ρ w0 j H N k)) (CodeQ ρ w0 j H N k) ex a' w':=by
 obtain ⟨x,env',H2,j2,rfl,h1,h2,h3,h4⟩:=h;cases x with
 | normal=>exact wp_mono (hg.code _ _ _ _ _ _ hb h4 j2 _ _ h2 h1) fun e a w hh=>hh.later h3
 | exit id=>exact ⟨.exit id,env',H2,j2,rfl,h1,h2,h3,h4⟩
 | ret=>exact ⟨.ret,env',H2,j2,rfl,h1,h2,h3,h4⟩
theorem zgO {c:Code} {Q Q':Exit→Act→World→Prop} (hq: ∀e a w,Q e a w→Q' e a w): ∀(n:Nat) (a:Act) (w:World),Code.rounds P c Q n a w→Code.rounds P c Q' n a w
 | 0,_,_,h=>h
 | n+1,_,_,h=>wp_mono h fun e a w hh=>by
   cases e with
   | normal=>exact zgO hq n a w hh
   | _=>exact hq _ _ _ hh
theorem zbm {p:List Nat} {i:Nat} {c:Code} (h:zbf P p=c) (hc:c≠ .skip):zbf P (i::p)=zad i c:=by
 cases p with
 | nil=>exact absurd h.symm hc
 | cons q l=>rw [←h];rfl
theorem zlP {p:List Nat} {c:Code} (h:zbf P p= .loop c):zbf P (zeb p)= .loop c:=by
 unfold zeb;split
 ·rename_i i q;have h:zad 2 (zbf P (i::q))= .loop c:=h;cases hx:zbf P (i::q)<;>rw [hx] at h<;>simp only [zad] at h<;>first|exact h|cases h
 ·exact h
def ziX (ρ:Val) {α:Type}:List (SB×α)→Option α
 | [] => none
 | e::l=>match e.1 with
  | .lit true=>some e.2
  | b=>if b.den ρ=true then some e.2 else ziX ρ l
theorem zhk {k:KC}: ∀ {l:LAns} {x:Ex} {env':T AV} {H':Heap},Ob.den ρ (zrc k l)→ziX ρ l=some (x,env',H')→Ob.den ρ (k x env' H')
  | [], _,_,_,h,_=>h.elim
  | (b,x0,e0,H0)::l,x,env',H',h,hp=>by
    unfold zrc at h;unfold ziX at hp;split at h
    · cases hp;exact h
    · rename_i hb;split at hp
      · rename_i h1;exact absurd h1 hb
      · simp only at hp;split at hp
        · rename_i ht;cases hp;exact h.1 ht
        · rename_i ht;exact zhk (h.2 (by simpa using ht)) hp
def zr4 (P:Program) (ρ:Val) (w0:Cx) (aorc:AOrc):Prop:=
 ∀ t s n xs H q,aorc t s n xs H=some q→ ∀k,Ob.den ρ (k q.1 q.2)→ztI P ρ w0 t s n xs H k
theorem zwS:zr4 P ρ w0 noA:=fun _ _ _ _ _ _ h=>by cases h
def zn9 (P:Program) (ρ:Val) (w0:Cx) (lorc:LOrc):Prop:=
 (∀ p N env H,lorc (2::p) N env H=none)∧ ∀p N env H l c,zbf P p=c→lorc p N env H=some l→ ∀j a w,Inv ρ w0 j H w→ER ρ j N env a→
  c.wp P (fun ex a' w'=> ∃x env' H' j',ziX ρ l=some (x,env',H')∧ex=exOf x∧ER ρ j' N env' a'∧Inv ρ w0 j' H' w'∧St j H j' H') a w
theorem zwR:zn9 P ρ w0 noL:=⟨fun _ _ _ _=>rfl,fun _ _ _ _ _ _ _ h=>by cases h⟩
theorem zqM (hg:Good P ρ w0 n rec) {c:Code} {p:List Nat} {k:KC} (hc:zbf P p= .loop c) (h:Ob.den ρ (rec (.code c (0::zeb p) N env H (zr8 rec (.loop c) (2::zeb p) N k)))) (hi:Inv ρ w0 j H w) (he:ER ρ j N env a):Code.rounds P c (CodeQ ρ w0 j H N k) (n+1) a w:=by
 have hb:=zlP hc;refine wp_mono (hg.code _ _ _ _ _ _ (by rw [zbm hb (by simp)];rfl) h j a w hi he) fun ex a' w' hh=> ?_;obtain ⟨x,env',H2,j2,rfl,h1,h2,h3,h4⟩:=hh;cases x with
 | normal=>exact zgO (fun e a w hh=>hh.later h3) n _ _ (hg.loop _ _ _ _ _ _ hb h4 j2 _ _ h2 h1)
 | exit id=>exact ⟨.exit id,env',H2,j2,rfl,h1,h2,h3,h4⟩
 | ret=>exact ⟨.ret,env',H2,j2,rfl,h1,h2,h3,h4⟩
def zn8 (P:Program) (ρ:Val) (w0:Cx) (rec:Task→Ob):Prop:=
 ∀ (id:Nat) (ops:Array Oper) (N:Nat) (env:T AV) (H:Heap) (k:KC) (j:J) (a:Act) (w:World),Ob.den ρ (zlw P id ops true rec [] N env H k)→Inv ρ w0 j H w→ER ρ j N env a→(Code.region id ops true).wp P (CodeQ ρ w0 j H N k) a w
theorem zvW {lorc:LOrc} (hlo:zn9 P ρ w0 lorc) (hg:Good P ρ w0 n rec) (hp:zn8 P ρ w0 rec) {c:Code} {p:List Nat} {k:KC} (hc:zbf P p=c) (h:Ob.den ρ (ziK P lorc rec c p N env H k)) (hi:Inv ρ w0 j H w) (he:ER ρ j N env a):c.wp P (CodeQ ρ w0 j H N k) a w:=by
 cases c<;>simp only [ziK] at h<;>try (exact h.elim)
 case skip=>exact wp_skip ⟨.normal,env,H,j,rfl,he,hi,St.refl j H,h⟩
 case region id ops draw=>
  cases draw with
  | false=>
   refine wp_region_list (hg.ops _ _ _ _ _ _ h j a w _ hi he fun a' w' hh=> ?_);obtain ⟨env',H',j',h1,h2,h3,h4⟩:=hh;exact ⟨.normal,env',H',j',rfl,h1,h2,h3,h4⟩
  | true=>exact hp _ _ _ _ _ _ _ _ _ h hi he
 case seq x y=>
  unfold zwF at h;split at h
  ·rename_i l hl;refine wp_mono (hlo.2 _ _ _ _ _ _ hc hl j a w hi he) fun ex a' w' hh=> ?_;obtain ⟨x,env',H',j',h1,h2,h3,h4,h5⟩:=hh;exact ⟨x,env',H',j',h2,h3,h4,h5,zhk h h1⟩
  unfold sSeq at h;exact wp_seq (wp_mono (hg.code _ _ _ _ _ _ (by rw [zbm hc (by simp)];rfl) h j a w hi he) fun ex a' w' hh=>zr7 hg (by rw [zbm hc (by simp)];rfl) hh)
 case cond c x y=>
  unfold zwH at h;split at h
  case h_2=>exact h.elim
  rename_i s hs;have hv:=zag he hs;split at h
  ·exact wp_cond_true hv (hg.code _ _ _ _ _ _ (by rw [zbm hc (by simp)];rfl) h j a w hi he)
  ·exact wp_cond_false hv (hg.code _ _ _ _ _ _ (by rw [zbm hc (by simp)];rfl) h j a w hi he)
  ·split at h
   case h_2=>exact h.elim
   rename_i t;split at h
   case h_2=>exact h.elim
   rename_i hb;rw [Nat.blt_eq] at hb;have hval:a.tmps.getD t undef= .bool (s.den ρ):=hv;refine wp_cond_split hv (fun hbv=> ?_) (fun hbv=> ?_)
   ·exact hg.code _ _ _ _ _ _ (by rw [zbm hc (by simp)];rfl) (h.1 hbv) j a w hi (he.same hb (by rw [hval,hbv];rfl))
   ·exact hg.code _ _ _ _ _ _ (by rw [zbm hc (by simp)];rfl) (h.2 hbv) j a w hi (he.same hb (by rw [hval,hbv];rfl))
 case block id c=>
  refine wp_block (wp_mono (hg.code _ _ _ _ _ _ (by rw [zbm hc (by simp)];rfl) h j a w hi he) fun ex a' w' hh=> ?_);obtain ⟨x,env',H2,j2,rfl,h1,h2,h3,h4⟩:=hh;cases x with
  | normal=>exact ⟨.normal,env',H2,j2,rfl,h1,h2,h3,h4⟩
  | exit id'=>
   unfold zug at h4;show if id'=id then _ else _
   simp only at h4;split at h4
   ·rename_i hb;rw [if_pos (zaj hb)];exact ⟨.normal,env',H2,j2,rfl,h1,h2,h3,h4⟩
   ·rename_i hb;rw [if_neg (fun e=>by subst e;rw [Nat.beq_refl] at hb;cases hb)];exact ⟨.exit id',env',H2,j2,rfl,h1,h2,h3,h4⟩
  | ret=>exact ⟨.ret,env',H2,j2,rfl,h1,h2,h3,h4⟩
 case loop c=>
  unfold zso at h;split at h
  ·rename_i l hl;refine wp_mono (hlo.2 _ _ _ _ _ _ hc hl j a w hi he) fun ex a' w' hh=> ?_;obtain ⟨x,env',H',j',h1,h2,h3,h4,h5⟩:=hh;exact ⟨x,env',H',j',h2,h3,h4,h5,zhk h h1⟩
  ·exact wp_loop_rounds (n+1) (zqM hg hc h hi he)
 case exit id=>exact wp_exit ⟨.exit id,env,H,j,rfl,he,hi,St.refl j H,h⟩
 case label l=>exact wp_label ⟨.normal,env,H,j,rfl,he,hi,St.refl j H,h⟩
 case ret=>exact wp_ret ⟨.ret,env,H,j,rfl,he,hi,St.refl j H,h⟩
def zqb (tmps:Array Value):ResultVar→Sem Value
 | .tmp t=>pure (tmps.getD t undef)
 | .cell b t=>do loadVar t (←asAddr (tmps.getD b undef))
theorem zoB (fn:Func) (tmps:Array Value):results fn tmps=(do let vs←fn.results.mapM (zqb tmps);pure (if h:vs.size=1 then vs[0] else .tuple vs)):=by
 unfold results;congr 2
theorem zd2 (hi:Inv ρ w0 j H w) (he:ER ρ j N env a): ∀ {l:List ResultVar} {vs:List AV},zdi P H env l=some vs→
    ∃ us:List Value,(l.mapM (zqb a.tmps)).run P w= .ok us w∧RL ρ j vs us
  | [], vs,h=>by
    unfold zdi at h;cases h;exact ⟨[],by simp,rfl⟩
  | .tmp t::l,vs,h=>by
    unfold zdi at h;split at h
    case h_2=>cases h
    rename_i v m hv hm;cases h;obtain ⟨us,h1,h2⟩:=zd2 hi he hm;have h3:=zag he hv;refine ⟨a.tmps.getD t undef::us,?_,.cons h3 h2⟩;simp only [List.mapM_cons,zqb,Sem.run_bind,Sem.run_pure,Result.andThen_ok,h1]
  | .cell b t::l,vs,h=>by
    unfold zdi at h;split at h
    case h_2=>cases h
    rename_i v m hv hm;cases h;obtain ⟨us,h1,h2⟩:=zd2 hi he hm;obtain ⟨u, h3, h4⟩ := zew (o := { dst := none, op := .load t (.tmp b), type := t, pos := "", after := #[], guard := none }) hi he hv
    have h5:(do loadVar t (←asAddr (a.tmps.getD b undef)):Sem Value).run P w= .ok u w:=by
      have h3:(Instr.loadAt t (a.tmps.getD b undef)).run P w= .ok u w:=by
        simp only [execOp,Sem.run_bind] at h3;change ((Instr.loadAt t (a.tmps.getD b undef)).run P w).andThen _=_ at h3;cases hr:(Instr.loadAt t (a.tmps.getD b undef)).run P w with
        | ok u' w'=>rw [hr] at h3;simp only [Result.andThen_ok,Sem.run_pure] at h3;cases h3;rfl
        | halt x w'=>rw [hr] at h3;cases h3
      generalize a.tmps.getD b undef=q at h3 ⊢;unfold Instr.loadAt at h3;cases q<;>first|(simp [Instr.sureAddr,stuck,Sem.run_bind,Sem.run,Result.andThen] at h3;done)|skip
      rename_i p;cases p with
      | none=>simp [Instr.sureAddr,stuck,Sem.run_bind,Sem.run,Result.andThen] at h3
      | some p=>simpa [Instr.sureAddr,asAddr,Sem.run_bind] using h3
    refine ⟨u::us,?_,.cons h4 h2⟩;have h5:(zqb a.tmps (.cell b t)).run P w= .ok u w:=h5;simp only [List.mapM_cons,Sem.run_bind,h5,Sem.run_pure,Result.andThen_ok,h1]
theorem zqa (hi:Inv ρ w0 j H w) (he:ER ρ j N env a) {fn:Func} {v:AV} (h:zlB P fn H env=some v): ∃u,(results fn a.tmps).run P w= .ok u w∧R ρ j v u:=by
 unfold zlB at h;have key: ∀us:List Value,(fn.results.toList.mapM (zqb a.tmps)).run P w= .ok us w→
   (results fn a.tmps).run P w= .ok (if h:us.length=1 then us[0] else .tuple us.toArray) w:=fun us hu=>by
  rw [zoB,Array.mapM_eq_mapM_toList,map_eq_pure_bind];simp only [Sem.run_bind,hu,Result.andThen_ok,Sem.run_pure];simp
 split at h
 ·rename_i v' hv;cases h;obtain ⟨us,h1,h2⟩:=zd2 hi he hv;obtain ⟨u,m,rfl,h3,h4⟩:=h2;have e:m= []:=h4;subst e;exact ⟨u,by rw [key _ h1];rfl,h3⟩
 ·rename_i l hne hv;cases h;obtain ⟨us,h1,h2⟩:=zd2 hi he hv;have hlen:=h2.length;refine ⟨_,key _ h1,?_⟩;rw [dif_neg (fun e=>by
   rw [hlen] at e
   match l,e with
   | [x],_=>exact hne x rfl)]
  exact ⟨us,rfl,h2⟩
 ·cases h
theorem zdW: ∀(l:List AV) (i:Nat) (env:T AV) (t:Nat),zaD (zkR l i env) t=if i≤t then (match l[t-i]? with|some v=>v|none=>zaD env t) else zaD env t
 | [], i,env,t=>by simp [zkR]
 | a::l,i,env,t=>by
  unfold zkR;rw [zdW l (Nat.succ i) (env.set i a) t,za2];by_cases h1:i+1≤t
  ·rw [if_pos (show Nat.succ i≤t from h1),if_pos (show i≤t by omega),if_neg (show¬t=i by omega)];obtain ⟨d,hd⟩: ∃d,t-i=d+1:=⟨t-i-1,by omega⟩;rw [hd,List.getElem?_cons_succ,show t-Nat.succ i=d by omega]
  ·rw [if_neg (show¬Nat.succ i≤t from h1)];by_cases h2:t=i
   ·subst h2;simp
   ·rw [if_neg h2,if_neg (show¬i≤t by omega)]
theorem zho (t:Nat):zaD .leaf t=zbq:=rfl
theorem znH {args:List AV} {vals:List Value} {m:Nat} (hv:RL ρ j args vals) (h1:args.length≤m) (h2:m≤zaZ):ER ρ j m (zkR args 0 .leaf) { tmps:=vals.toArray++Array.replicate (m-vals.toArray.size) undef,defers:= [] }:=by
 have hl:=hv.length;refine ⟨by simp [hl];omega,h2,fun t ht=> ?_,?_⟩
 ·rw [zdW,if_pos (Nat.zero_le t),Nat.sub_zero,zho];cases ha:args[t]? with
  | some v=>
   obtain ⟨u,h3,h4⟩:=hv.get t v ha;have:t<vals.toArray.size:=by have:=(List.getElem?_eq_some_iff.1 h3).1;simpa using this
   rw [Array.getD_eq_getD_getElem?,Array.getElem?_append_left this,List.getElem?_toArray,h3];exact .inr h4
  | none=>
   have:vals.toArray.size≤t:=by have:=List.getElem?_eq_none_iff.1 ha;simp;omega
   rw [Array.getD_eq_getD_getElem?,Array.getElem?_append_right this,Array.getElem?_replicate];have e:(if t-vals.toArray.size<m-vals.toArray.size then some undef else none).getD undef=undef:=by split<;>rfl
   rw [e];exact .inr zcv
 ·show DR ρ j (zaD (zkR args 0 .leaf) zaZ) [];rw [zdW,if_pos (Nat.zero_le _),Nat.sub_zero,zho,List.getElem?_eq_none (by omega)];rfl
theorem zk3 {f : FuncId} {fn : Func} {c : Code} (h : ziB P f = some (fn, c)) : P.funcs[f]? = some fn ∧ fn.body = some c ∧ fn.name ≠ "runtime.NumGoroutine" := by
  unfold ziB at h;split at h
  · cases h
  rename_i fn' hf;split at h
  · cases h
  rename_i c' hc;split at h
  · cases h
  rename_i hn;cases h;exact ⟨hf,hc,hn⟩
theorem znT {f:FuncId} {fn:Func} {c:Code} (h:ziB P f=some (fn,c)):zbf P [f]=c:=by
 unfold zbf;simp only [h]
theorem zja (hi:Inv ρ w0 j H w) (he:ER ρ j N env a) {fn:Func} {k:K} (h:Ob.den ρ (leave P fn env k H)): ∃u v,(results fn a.tmps).run P w= .ok u w∧R ρ j v u∧Ob.den ρ (k v H):=by
 unfold leave at h;split at h
 case h_2=>exact h.elim
 rename_i v hv;obtain ⟨u,h1,h2⟩:=zqa hi he hv;exact ⟨u,v,h1,h2,h⟩
theorem DR.none {v:AV} {ds:List Deferred} (h:DR ρ j v ds) (hv:v=zbq):ds= []:=by
 cases ds with
 | nil=>rfl
 | cons d ds=>obtain ⟨_,_,_,_,e,_⟩:=h;rw [hv] at e;cases e
theorem zkU (hg:Good P ρ w0 n rec) {fn:Func} {tmps:Array Value} {R':Ending→World→Prop} {fin:Heap→Ob}: ∀(m:Nat) (d:AV) (ds:List Deferred) (j:J) (H:Heap) (w:World),
  Ob.den ρ (zcW P rec fin m d H)→DR ρ j d ds→Inv ρ w0 j H w→(∀j' H' w',Inv ρ w0 j' H' w'→St j H j' H'→Ob.den ρ (fin H')→ ∃v,(results fn tmps).run P w'= .ok v w'∧R' (.returned v) w')→Leaves P fn tmps R' ds .returning w
 | 0,d,ds,j,H,w,h,_,_,_=>h.elim
 | m+1,d,ds,j,H,w,h,hd,hi,hfin=>by
  unfold zcW at h;cases ds with
  | nil=>
   have e:d= .tup []:=hd;subst e;exact hfin j H w hi (St.refl j H) h
  | cons d' ds=>
   obtain ⟨g,args,rest,cap,rfl,htar,hargs,hrest⟩:=hd;simp only at h;split at h
   ·exact h.elim
   rename_i fn' c hb;obtain ⟨h1,h2,h3⟩:=zk3 hb;split at h
   case h_2=>exact h.elim
   rename_i hsz;rw [Bool.and_eq_true] at hsz;have hs1:=Nat.le_of_ble_eq_true hsz.1;have hs2:=Nat.le_of_ble_eq_true hsz.2;have hwp:=hg.code _ _ _ _ _ _ (znT hb) h j { tmps:=(d'.args++cap).toList.toArray++Array.replicate (fn'.ntmps-(d'.args++cap).toList.toArray.size) undef,defers:= [] } w hi (znH hargs hs1 hs2);refine ⟨by simp,.func g,cap,g,(d'.args++cap).toList.toArray,htar,?_,?_⟩
   ·rw [htar];simp only [invoke];exact zal ⟨fn',c,h1,h2,h3⟩ _
   ·refine CallsD.mono (callsD_of_wp (u:= .returning) (R:=fun e w'=>match e with| .returned _=>Leaves P fn tmps R' ds .returning w'|_=>False) h1 h2 (wp_mono hwp fun ex a' w' hh=> ?_)) (fun e u' w' hh=> ?_)
    ·obtain ⟨x,env',H2,j2,rfl,g1,g2,g3,g4⟩:=hh;have fine: ∀(_:Ob.den ρ (match env'.get zaZ with|none=>leave P fn' env' (fun _ H'=>zcW P rec fin m rest H') H2|some _=> .bad 57 fn'.name)),
       a'.defers= []∧ ∃v,(results fn' a'.tmps).run P w'= .ok v w'∧Leaves P fn tmps R' ds .returning w':=by
      intro g4;split at g4
      case h_2=>exact g4.elim
      rename_i hnone;obtain ⟨u,v,q1,q2,q3⟩:=zja g2 g1 g4;refine ⟨g1.dfr.none (by unfold zaD;rw [hnone]),u,q1,?_⟩;exact zkU hg m rest ds j2 H2 w' q3 (hrest.mono g3.sub) g2 fun j' H' w'' e1 e2 e3=>hfin j' H' w'' e1 (g3.trans e2) e3
     cases x with
     | normal=>exact fine g4
     | exit id=>exact g4.elim
     | ret=>exact fine g4
    ·obtain ⟨rfl,hh⟩:=hh;cases e with
     | returned v=>exact hh
     | panicked c=>exact hh.elim
     | outgrown=>exact hh.elim
def zpb (P:Program) (ρ:Val) (w0:Cx) (orc:FuncId→List AV→Heap→Option (List (AV×Heap))):Prop:=
 ∀ f args H l,orc f args H=some l→Enters P f∧ ∀k,Ob.den ρ (zrd k l)→zoc P ρ w0 f args H k
theorem zrF (hg:Good P ρ w0 n rec) {orc:FuncId→List AV→Heap→Option (List (AV×Heap))} (hor:zpb P ρ w0 orc) {f:FuncId} {args:List AV} (h:Ob.den ρ (ziL P orc rec f args H k)):Enters P f∧zoc P ρ w0 f args H k:=by
 unfold ziL at h;split at h
 ·rename_i l hl;exact ⟨(hor _ _ _ _ hl).1,(hor _ _ _ _ hl).2 k h⟩
 split at h
 ·exact h.elim
 rename_i fn c hb;obtain ⟨h1,h2,h3⟩:=zk3 hb;split at h
 case h_2=>exact h.elim
 rename_i hsz;rw [Bool.and_eq_true] at hsz;have hs1:=Nat.le_of_ble_eq_true hsz.1;have hs2:=Nat.le_of_ble_eq_true hsz.2;refine ⟨⟨fn,c,h1,h2,h3⟩,fun j w vals hi hv=> ?_⟩;refine calls_of_wp_defers h1 h2 (wp_mono (hg.code _ _ _ _ _ _ (znT hb) h j _ w hi (znH hv hs1 hs2)) fun ex a' w' hh=> ?_);obtain ⟨x,env',H2,j2,rfl,g1,g2,g3,g4⟩:=hh;have fine: ∀(_:Ob.den ρ (match env'.get zaZ with|none=>leave P fn env' k H2|some d=>zcW P rec (leave P fn env' k) 8 d H2)),
   Leaves P fn a'.tmps (fun e w'=> ∃u,e= .returned u∧Post ρ w0 j H k u w') a'.defers .returning w':=by
  intro g4;split at g4
  ·rename_i hnone;obtain ⟨u,v,q1,q2,q3⟩:=zja g2 g1 g4;rw [g1.dfr.none (by unfold zaD;rw [hnone])];exact ⟨u,q1,u,rfl,v,H2,j2,q2,g2,g3,q3⟩
  ·rename_i d hd;refine zkU hg 8 d a'.defers j2 H2 w' g4 (by have:=g1.dfr;unfold zaD at this;rw [hd] at this;exact this) g2 fun j' H' w'' e1 e2 e3=> ?_;obtain ⟨u,v,q1,q2,q3⟩:=zja e1 (g1.mono e2.sub) e3;exact ⟨u,q1,u,rfl,v,H',j',q2,e1,g3.trans e2,q3⟩
 cases x with
 | normal=>exact fine g4
 | exit id=>exact g4.elim
 | ret=>exact fine g4
theorem zjl {orc:FuncId→List AV→Heap→Option (List (AV×Heap))} {lorc:LOrc} {aorc:AOrc} (hor:zpb P ρ w0 orc) (hlo:zn9 P ρ w0 lorc) (hao:zr4 P ρ w0 aorc) (hp: ∀n rec,Good P ρ w0 n rec→zn8 P ρ w0 rec): ∀n,Good P ρ w0 n (evL P orc lorc aorc n)
 | 0=>⟨fun _ _ _ _ _ _ h=>h.elim,fun _ _ _ _ h=>h.elim,fun _ _ _ _ _ _ _ h=>h.elim,fun _ _ _ _ _ _ _ h=>h.elim,fun _ _ _ _ _ _ h=>h.elim⟩
 | n+1=>by
  have ih:=zjl hor hlo hao hp n;refine ⟨fun t s n xs H k h=> ?_,fun f args H k h=>zrF ih hor h,fun c p N env H k hc h j a w hi he=>zvW hlo ih (hp n _ ih) hc h hi he,fun c p N env H k hc h j a w hi he=> ?_,fun all l N env H k h j a w Q hi he hQ=>zwP ih h hi he hQ⟩
  ·have h:Ob.den ρ (zlo aorc t s n xs H k):=h;unfold zlo at h;split at h
   ·rename_i q hq;exact hao _ _ _ _ _ _ hq k h
   ·exact h.elim
  have h:Ob.den ρ (zso lorc c (evL P orc lorc aorc n) (2::p) N env H k):=h;unfold zso at h;rw [hlo.1] at h;exact zqM ih (p:=2::p) (by rw [zbm hc (by simp)];rfl) h hi he
theorem zrk {orc:FuncId→List AV→Heap→Option (List (AV×Heap))} (hor:zpb P ρ w0 orc) (hp: ∀n rec,Good P ρ w0 n rec→zn8 P ρ w0 rec) (n:Nat):Good P ρ w0 n (ev P orc n):=zjl hor zwR zwS hp n
end
end Go.Dw
namespace Go.Dw
section
variable {P:Program} {ρ:Val} {w0:Cx} {j:J} {H:Heap} {w:World} {N:Nat} {env env':T AV} {a:Act} {o:Oper}
theorem zd8: ∀ {l:List Operand},(∀x∈l,opd env x=opd env' x)→opds env l=opds env' l
 | [], _=>rfl
 | x::l,h=>by
  unfold opds;rw [h x (List.mem_cons_self ..),zd8 fun y hy=>h y (List.mem_cons_of_mem _ hy)]
theorem zbl {x:Operand} (h:opd env x=opd env' x):natA env x=natA env' x:=by unfold natA;rw [h]
theorem zft {x:Option Operand} {d:Nat} (h: ∀y,x=some y→opd env y=opd env' y):natO env x d=natO env' x d:=by
 cases x with
 | none=>rfl
 | some y=>exact zbl (h y rfl)
theorem zdk: ∀ {l:List (Nat×Operand)},(∀p∈l,opd env p.2=opd env' p.2)→partsOf env l=partsOf env' l
  | [], _=>rfl
  | (i,x)::l,h=>by
    unfold partsOf;rw [h (i,x) (List.mem_cons_self ..),zdk fun y hy=>h y (List.mem_cons_of_mem _ hy)]
theorem zlW {c:Call} (h: ∀x∈c.operands,opd env x=opd env' x):zjc P c env H=zjc P c env' H:=by
 have ha: ∀x∈c.args.toList,opd env x=opd env' x:=fun x hx=>h x (by
  have:x∈c.args:=by simpa using hx
  unfold Call.operands;split<;>simp [this])
 unfold zjc;cases hc:c.callee<;>first|rfl|skip
 rename_i b;cases b<;>first|rfl|skip
 all_goals simp only [lLen]
 all_goals (split<;>first|rfl|skip)
 all_goals (rename_i hx;first|rw [ha _ (by rw [hx];exact List.mem_cons_self ..),ha _ (by rw [hx];exact List.mem_cons_of_mem _ (List.mem_cons_self ..))]|rw [ha _ (by rw [hx];exact List.mem_cons_self ..)])
theorem zf2 {len cap:Nat} {lo hi mx:Option Operand} (h1: ∀y,lo=some y→opd env y=opd env' y) (h2: ∀y,hi=some y→opd env y=opd env' y) (h3: ∀y,mx=some y→opd env y=opd env' y):
  bounds env len cap lo hi mx=bounds env' len cap lo hi mx:=by
 have e1:natO env lo 0=natO env' lo 0:=zft h1;unfold bounds;cases mx<;>cases hi<;>simp only [e1]
 all_goals first
  | rfl
  | rw [zbl (h2 _ rfl),zbl (h3 _ rfl)]
  | rw [zbl (h3 _ rfl)]
  | rw [zft h2]
theorem zjK {t:TypeId} {v:AV} {lo hi mx:Option Operand} (h1: ∀y,lo=some y→opd env y=opd env' y) (h2: ∀y,hi=some y→opd env y=opd env' y) (h3: ∀y,mx=some y→opd env y=opd env' y):
  zhT P env t v lo hi mx=zhT P env' t v lo hi mx:=by
 have hb: ∀len cap,bounds env len cap lo hi mx=bounds env' len cap lo hi mx:=fun _ _=>zf2 h1 h2 h3;have hn: ∀len cap,bounds env len cap lo hi none=bounds env' len cap lo hi none:=fun _ _=>zf2 h1 h2 (fun _ e=>by cases e);have hs: ∀s b off len cap,zgG env s b off len cap lo hi mx=zgG env' s b off len cap lo hi mx:=by
  intro s b off len cap;unfold zgG;have hS: ∀c,zfJ env c lo hi=zfJ env' c lo hi:=fun c=>by
   unfold zfJ;rw [zft h1];cases natO env' lo 0<;>cases hi<;>try rfl
   rename_i y;simp only;rw [h2 y rfl]
  cases cap<;>simp only [hb,hn,hS]
 unfold zhT;cases v<;>simp only [hb,hn,hs]
theorem zha {op:Op} (h: ∀x∈op.operands,opd env x=opd env' x):light P op env H=light P op env' H:=by
 cases op<;>simp only [light]<;>first|rfl|skip
 all_goals simp only [Op.operands] at h
 case move x=>exact h x (by simp)
 case assign x=>exact h x (by simp)
 case pick c x y=>unfold ztd;rw [h c (by simp),h x (by simp),h y (by simp)]
 case load t x=>unfold zqR;rw [h x (by simp)]
 case extract x i=>unfold zgr;rw [h x (by simp)]
 case nilCheck x=>unfold ze3;rw [h x (by simp)]
 case fieldAddr t x f=>unfold zed;rw [h x (by simp)]
 case binOp op t x y t'=>unfold zkC;rw [h x (by simp),h y (by simp)]
 case unOp op t x=>unfold ztc;rw [h x (by simp)]
 case convert s d x=>unfold zgs;rw [h x (by simp)]
 case indexAddr t x i=>unfold zec zgq;rw [h x (by simp),zbl (h i (by simp)),h i (by simp)]
 case index t x i=>unfold znv;rw [h x (by simp),zbl (h i (by simp))]
 case field t x f=>unfold znw;rw [h x (by simp)]
 case sliceToArrayPointer t x=>unfold zje;rw [h x (by simp)]
 case lookup t x i ok=>unfold zhe;rw [h x (by simp),h i (by simp)]
 case build t parts=>unfold zqS zn3;rw [zdk fun p hp=>h p.2 (by simp;exact ⟨p.1,by simpa using hp⟩)]
 case makeFunc fn first cap=>
  unfold ze4;rw [zd8 (l:=first.toList) fun x hx=>h x (by simp;exact .inl (by simpa using hx)),zd8 (l:=cap.toList) fun x hx=>h x (by simp;exact .inr (by simpa using hx))]
 case call c=>exact zlW h
 case slice t x lo hi mx=>
  unfold znu;rw [h x (by simp)];have h1: ∀y,lo=some y→opd env y=opd env' y:=fun y e=>h y (by subst e;simp);have h2: ∀y,hi=some y→opd env y=opd env' y:=fun y e=>h y (by subst e;simp);have h3: ∀y,mx=some y→opd env y=opd env' y:=fun y e=>h y (by subst e;simp);split
  ·rw [zjK h1 h2 h3]
  ·rfl
theorem zla {op:Op} {nx:Nat} (h: ∀x∈op.operands,opd env x=opd env' x):zcu P op env nx=zcu P op env' nx:=by
 cases op<;>simp only [zcu]<;>first|rfl|skip
 all_goals simp only [Op.operands] at h
 case box t x=>unfold aBox;rw [h x (by simp)]
 case buildSlice t len parts=>unfold zbW;rw [zdk fun p hp=>h p.2 (by simp;exact ⟨p.1,by simpa using hp⟩)]
 case makeMap t r=>
  unfold zei;cases r with
  | none=>rfl
  | some r=>simp only;rw [zbl (h r (by simp))]
 case makeSlice t l c=>unfold zck;rw [zbl (h l (by simp)),zbl (h c (by simp))]
theorem zl3 {rec:Task→Ob} {op:Op} {k:K} (h: ∀x∈op.operands,opd env x=opd env' x):heavy P rec op env H k=heavy P rec op env' H k:=by
 cases op<;>simp only [heavy]<;>first|rfl|skip
 all_goals simp only [Op.operands] at h
 case insert t m x v=>unfold zfC;rw [h m (by simp),h x (by simp),h v (by simp)]
 case store t x v=>unfold znQ;rw [h x (by simp),h v (by simp)]
 case mapUpdate t m x v=>unfold zfC;rw [h m (by simp),h x (by simp),h v (by simp)]
 case mapEntry t m x=>unfold zfa;rw [h m (by simp),h x (by simp)]
 case entryStore t m s v=>unfold zdx;rw [h m (by simp),h s (by simp),h v (by simp)]
 case call c=>
  have ha:opds env c.args.toList=opds env' c.args.toList:=zd8 fun x hx=>h x (by
   have:x∈c.args:=by simpa using hx
   unfold Call.operands;split<;>simp [this])
  unfold zvT;cases hc:c.callee with
  | value f=>simp only;unfold znR;rw [h f (by simp [Call.operands,hc]),ha]
  | invoke r name=>rfl
  | builtin b=>simp only;unfold zgu;cases b<;>first|rfl|(simp only [zjr,zts,zjq,ha])
structure Ext (H H':Heap):Prop where
 m: ∀n o,H.m.get n=some o→H'.m.get n=some o
 gw:H'.gw=H.gw
theorem Ext.refl (H:Heap):Ext H H:=⟨fun _ _ h=>h,rfl⟩
theorem Ext.row {H':Heap} (h:Ext H H') {n:Nat} {v:Vec} (hr:H.row n=some v):H'.row n=some v:=by
 unfold Heap.row at hr ⊢;split at hr
 case h_2=>cases hr
 rename_i hm;rw [h.m _ _ hm,h.gw];exact hr
theorem Ext.mapAt {H':Heap} (h:Ext H H') {n:Nat} {v:List ME×Nat} (hr:H.mapAt n=some v):H'.mapAt n=some v:=by
 unfold Heap.mapAt at hr ⊢;split at hr
 case h_2=>cases hr
 rename_i hm;rw [h.m _ _ hm];exact hr
theorem Ext.entriesA {H':Heap} (h:Ext H H') {m:AV} {l:List ME} (hr:Dw.entriesA H m=some l):Dw.entriesA H' m=some l:=by
 cases m<;>simp only [Dw.entriesA] at hr ⊢ <;>try exact hr
 split at hr
 ·rename_i es c hm;rw [h.mapAt hm];exact hr
 ·cases hr
theorem zds {eq eq':TypeId→AV→AV→Option SB} (h: ∀t a b c,eq t a b=some c→eq' t a b=some c): ∀(l:List Field) (xs ys:List AV) (r:SB),eqFields P eq l xs ys=some r→eqFields P eq' l xs ys=some r
  | [], _,_,_,hr=>hr
  | fd::l,xs,ys,r,hr=>by
    unfold eqFields at hr ⊢;by_cases hn : fd.name = "_"
    · rw [if_pos hn] at hr ⊢;exact zds h l xs ys r hr
    · rw [if_neg hn] at hr ⊢;cases ha:zf8 P fd.type xs fd.offset with
      | none=>rw [ha] at hr;exact hr
      | some a=>
        cases hb:zf8 P fd.type ys fd.offset with
        | none=>rw [ha,hb] at hr;exact hr
        | some b=>
          rw [ha,hb] at hr;simp only at hr ⊢;cases hc:eq fd.type a b with
          | none=>rw [hc] at hr;cases hr
          | some c=>
            rw [hc] at hr;rw [h _ _ _ _ hc];cases hd:eqFields P eq l xs ys with
            | none=>rw [hd] at hr;cases hr
            | some d=>rw [hd] at hr;rw [zds h l xs ys d hd];exact hr
theorem zfX {eq eq':AV→AV→Option SB} (h: ∀a b c,eq a b=some c→eq' a b=some c) {e:TypeId} {s:Nat}: ∀(n i:Nat) (xs ys:List AV) (r:SB),zdt P eq e s n i xs ys=some r→zdt P eq' e s n i xs ys=some r
 | 0,_,_,_,_,hr=>hr
 | n+1,i,xs,ys,r,hr=>by
  unfold zdt at hr ⊢;cases ha:zf8 P e xs (i*s) with
  | none=>rw [ha] at hr;exact hr
  | some a=>
   cases hb:zf8 P e ys (i*s) with
   | none=>rw [ha,hb] at hr;exact hr
   | some b=>
    rw [ha,hb] at hr;simp only at hr ⊢;cases hc:eq a b with
    | none=>rw [hc] at hr;cases hr
    | some c=>
     rw [hc] at hr;rw [h _ _ _ hc];cases hd:zdt P eq e s n (i+1) xs ys with
     | none=>rw [hd] at hr;cases hr
     | some d=>rw [hd] at hr;rw [zfX h n (i+1) xs ys d hd];exact hr
theorem Ext.apartA {H':Heap} (h:Ext H H') {n m:Nat} (hr:Dw.apartA H n m=true):Dw.apartA H' n m=true:=by
 unfold Dw.apartA at hr ⊢;split at hr
 case h_2=>cases hr
 rename_i h1 h2;rw [h.m _ _ h1,h.m _ _ h2];simp only at hr ⊢;split at hr
 ·cases hr
 rename_i hg
 try rw [hg]
 split at hr
 case h_2=>cases hr
 rename_i h3 h4;simp only [h.row h3,h.row h4]
theorem Ext.eqA {H':Heap} (h:Ext H H'): ∀(f:Nat) (t:TypeId) (x y:AV) (r:SB),Dw.eqA P H f t x y=some r→Dw.eqA P H' f t x y=some r
 | 0,_,_,_,_,hr=>hr
 | f+1,t,x,y,r,hr=>by
  unfold Dw.eqA at hr ⊢;cases hd:P.underlying t with
  | none=>rw [hd] at hr;exact hr
  | some d=>
   rw [hd] at hr;cases d<;>simp only at hr ⊢ <;>try exact hr
   case pointer e=>
    cases x<;>cases y<;>simp only at hr ⊢ <;>try exact hr
    split at hr
    case h_2=>cases hr
    rename_i hs
    try rw [hs]
    try simp only
    split at hr
    ·rename_i hn;first|exact hr|(rw [hn];exact hr)
    ·rename_i hn
     try rw [hn]
     split at hr
     case h_2=>cases hr
     rename_i hap;simp only [h.apartA hap];exact hr
   case struct fs=>
    cases x<;>cases y<;>simp only at hr ⊢ <;>try exact hr
    split at hr
    ·cases hr
    rename_i hst
    try rw [hst]
    exact zds (fun t a b c=>Ext.eqA h f t a b c) _ _ _ _ hr
   case array len e=>
    cases x<;>cases y<;>simp only at hr ⊢ <;>try exact hr
    split at hr
    case h_2=>cases hr
    rename_i s hs
    try rw [hs]
    exact zfX (fun a b c=>Ext.eqA h f e a b c) _ _ _ _ _ hr
theorem Ext.binEq {H':Heap} (h:Ext H H') {op:BinOp} {t:TypeId} {x y v:AV} (hr:Dw.binEq P H op t x y=some v):Dw.binEq P H' op t x y=some v:=by
 cases op<;>simp only [Dw.binEq] at hr ⊢ <;>try exact hr
 all_goals
  split at hr
  case h_2=>cases hr
  rename_i b hb;rw [h.eqA 8 t x y b hb];exact hr
theorem Ext.binA {H':Heap} (h:Ext H H') {c:Bool} {op:BinOp} {t:TypeId} {x y v:AV} (hr:Dw.binA P H c op t x y=some v):Dw.binA P H' c op t x y=some v:=by
  unfold Dw.binA at hr ⊢;cases x<;>first
    | exact hr
    | exact h.binEq hr
    | (simp only at hr ⊢;split at hr
       · cases hr
       · exact h.binEq hr)
    | (simp only at hr ⊢;split at hr
       · exact h.binEq hr
       · cases hr)
theorem Ext.lookupX {H':Heap} (h:Ext H H') {kd:TypeDesc} {et:TypeId} {m kk v:AV} {ok:Bool} (hr:Dw.lookupX P H kd et m kk ok=some v):Dw.entriesA H' m=none∧Dw.lookupX P H' kd et m kk ok=some v:=by
 unfold Dw.lookupX at hr ⊢;split at hr
 case h_2=>cases hr
 rename_i n;split at hr
 case h_2=>cases hr
 rename_i kn log h1 h2;have h3:=h.m _ _ (zbe h1);have h4:H'.mapxAt n=some (kn,log):=by unfold Heap.mapxAt;rw [h3]
 refine ⟨?_,?_⟩
 ·unfold Dw.entriesA Heap.mapAt;simp only [h3]
 ·simp only [h4,h2];exact hr
theorem Ext.lookupA {H':Heap} (h:Ext H H') {t:TypeId} {m kk v:AV} {ok:Bool} (hr:Dw.lookupA P H t m kk ok=some v):Dw.lookupA P H' t m kk ok=some v:=by
 unfold Dw.lookupA at hr ⊢;split at hr
 ·cases hr
 rename_i kd et hm
 try rw [hm]
 split at hr
 ·obtain ⟨e1,e2⟩:=h.lookupX hr;rw [e1];exact e2
 rename_i es he;simp only [h.entriesA he];exact hr
theorem Ext.lenOfA {H':Heap} (h:Ext H H') {d:Option TypeDesc} {x v:AV} (hr:Dw.lenOfA d H x=some v):Dw.lenOfA d H' x=some v:=by
 unfold Dw.lenOfA at hr ⊢;cases d with
 | none=>exact hr
 | some d=>
  cases d<;>simp only at hr ⊢ <;>try exact hr
  cases x<;>simp only at hr ⊢ <;>try exact hr
  split at hr
  ·rename_i es c hm;simp only [h.mapAt hm];exact hr
  ·cases hr
theorem zoN {op:Op} {H':Heap} {v:AV} (h:Ext H H') (hr:light P op env H=some v):light P op env H'=some v:=by
 cases op<;>simp only [light] at hr ⊢ <;>try exact hr
 case load t x=>
  unfold zqR at hr ⊢;split at hr
  case h_2=>cases hr
  rename_i n off hx
  try rw [hx]
  split at hr
  case h_2=>cases hr
  rename_i vv hv;simp only [h.row hv];exact hr
 case binOp op t x y t'=>
  unfold zkC at hr ⊢;split at hr
  case h_2=>cases hr
  rename_i p q hp hq
  try rw [hp,hq]
  exact h.binA hr
 case lookup t x i ok=>
  unfold zhe at hr ⊢;split at hr
  case h_2=>cases hr
  rename_i p q hp hq
  try rw [hp,hq]
  exact h.lookupA hr
 case call c=>
  unfold zjc at hr ⊢;cases hc:c.callee<;>rw [hc] at hr<;>try exact hr
  rename_i b;cases b<;>try exact hr
  change lLen P _ _ env H=some v at hr;change lLen P _ _ env H'=some v;unfold lLen at hr ⊢;split at hr
  case h_2=>cases hr
  rename_i h1 h2
  try rw [h1,h2]
  try simp only
  split at hr
  case h_2=>cases hr
  rename_i p hp
  try rw [hp]
  exact h.lenOfA hr
theorem zdw {ms:List Nat}: ∀ {l:List Edge} {x:Nat},(za5 ms l).testBit x=true→ ∃e∈l,Region.binds .any e=true∧(x=e.on∨(ms.getD e.on 0).testBit x=true)
 | [], x,h=>by simp [za5] at h
 | e::l,x,h=>by
  unfold za5 at h;split at h
  ·rename_i hb;rw [show Nat.lor (Nat.lor (2^e.on) (ms.getD e.on 0)) (za5 ms l)=((2^e.on)|||(ms.getD e.on 0))|||za5 ms l from rfl,Nat.testBit_or,Nat.testBit_or,Bool.or_eq_true,Bool.or_eq_true,Nat.testBit_two_pow,decide_eq_true_eq] at h;rcases h with (h|h)|h
   ·exact ⟨e,List.mem_cons_self ..,hb,.inl h.symm⟩
   ·exact ⟨e,List.mem_cons_self ..,hb,.inr h⟩
   ·obtain ⟨e',h1,h2,h3⟩:=zdw h;exact ⟨e',List.mem_cons_of_mem _ h1,h2,h3⟩
  ·obtain ⟨e',h1,h2,h3⟩:=zdw h;exact ⟨e',List.mem_cons_of_mem _ h1,h2,h3⟩
theorem zco: ∀(l:List Oper) (ms:List Nat) (i:Nat),i<ms.length→(zbI l ms)[i]? =ms[i]?
 | [], ms,i,_=>rfl
 | o::l,ms,i,h=>by
  unfold zbI;rw [zco l _ i (by simp;omega),List.getElem?_append_left h]
theorem zdl: ∀(l:List Oper) (ms:List Nat) (i x:Nat) (o:Oper),l[i]? =some o→((zbI l ms).getD (ms.length+i) 0).testBit x=true→
  ∃ e∈o.after.toList,Region.binds .any e=true∧(x=e.on∨(e.on<ms.length+i∧((zbI l ms).getD e.on 0).testBit x=true))
 | [], ms,i,x,o,h,_=>by simp at h
 | o'::l,ms,0,x,o,h,hx=>by
  simp at h;subst h;unfold zbI at hx ⊢;rw [List.getD_eq_getElem?_getD,zco l _ _ (by simp),List.getElem?_append_right (by simp)] at hx;simp at hx;obtain ⟨e,h1,h2,h3⟩:=zdw hx;refine ⟨e,h1,h2,h3.imp id fun h3=> ?_⟩;have hlt:e.on<ms.length:=by
   apply Classical.byContradiction;intro hh;rw [List.getD_eq_getElem?_getD,List.getElem?_eq_none (by omega)] at h3;simp at h3
  refine ⟨by omega,?_⟩;rw [List.getD_eq_getElem?_getD,zco l _ _ (by simp;omega),List.getElem?_append_left hlt,←List.getD_eq_getElem?_getD];exact h3
 | o'::l,ms,i+1,x,o,h,hx=>by
  unfold zbI at hx ⊢;have:=zdl l (ms++ [za5 ms o'.after.toList]) i x o (by simpa using h) (by simpa [Nat.add_assoc,Nat.add_comm 1 i] using hx);simpa [Nat.add_assoc,Nat.add_comm 1 i] using this
def zlg (ops:Array Oper) (listed:Array Bool):Prop:=
 ∀ (i:Nat) (o:Oper),ops[i]? =some o→listed.getD i false=true→ ∀e∈o.after,Region.binds .any e=true→listed.getD e.on false=true
theorem zg4 {ops:Array Oper} {listed:Array Bool} (hc:zlg ops listed): ∀(i:Nat) (o:Oper),ops[i]? =some o→(∀e∈o.after,Region.binds .any e=true→listed.getD e.on false=true)→
  ∀ x,((zdm ops.toList).getD i 0).testBit x=true→listed.getD x false=true:=by
 intro i
 induction i using Nat.strongRecOn with
 | _ i ih=>
  intro o ho hl x hx;obtain ⟨e,h1,h2,h3⟩:=zdl ops.toList [] i x o (by simpa using ho) (by simpa [zdm] using hx);have he:=hl e (by simpa using h1) h2;rcases h3 with h3|⟨h3,h4⟩
  ·rw [h3];exact he
  ·have hlt:e.on<i:=by simpa using h3
   have hi:i<ops.size:=(Array.getElem?_eq_some_iff.1 ho).1;have ho':ops[e.on]? =some ops[e.on]:=Array.getElem?_eq_getElem (by omega);exact ih e.on hlt _ ho' (fun e' g1 g2=>hc e.on _ ho' he e' g1 g2) x h4
theorem zo2 {ops:Array Oper} {listed:Array Bool} (hc:zlg ops listed) {i:Nat} (hr:i∈Region.ready .any ops listed):zlg ops (listed.setIfInBounds i true):=by
 obtain ⟨h1,o,h2,h3⟩:=mem_ready.1 hr;intro i' o' ho' hl' e he hb;by_cases hi:i=i'
 ·subst hi;rw [h2] at ho';cases ho';exact getD_set_true (h3 e he hb)
 ·rw [getD_set_ne false hi] at hl';exact getD_set_true (hc i' o' ho' hl' e he hb)
def zcP (ops:Array Oper):Prop:= ∀(i:Nat) (o:Oper),ops[i]? =some o→ ∀e∈o.after,Region.binds .any e=true→e.on<i
theorem zo8 {ops:Array Oper} {listed:Array Bool} (he:zcP ops) (hsz:listed.size=ops.size) (hr:Region.ready .any ops listed= []): ∀i,i<ops.size→listed.getD i false=true:=by
 intro i
 induction i using Nat.strongRecOn with
 | _ i ih=>
  intro hi;cases hl:listed.getD i false with
  | true=>rfl
  | false=>
   exfalso;have hl':listed.getD i true=false:=by
    rw [Array.getD_eq_getD_getElem?,Array.getElem?_eq_getElem (by omega)] at hl ⊢;exact hl
   have:i∈Region.ready .any ops listed:=mem_ready.2 ⟨hl',ops[i],Array.getElem?_eq_getElem hi,fun e h1 h2=>by
    have hlt:=he i _ (Array.getElem?_eq_getElem hi) e h1 h2;exact ih e.on hlt (by omega)⟩
   rw [hr] at this;cases this
theorem zko {hs:List Nat}: ∀ {l:List Oper} {ms:List Nat} {n:Nat} {p:PO},l.length=ms.length→(p∈posOf hs l ms n↔ ∃i,l[i]? =some p.o∧p.i=n+i∧ms[i]? =some p.m∧p.s=zbO p.m hs 0 0)
 | [], ms,n,p,_=>by simp [posOf]
 | o::l,[],n,p,h=>by simp at h
 | o::l,m::ms,n,p,h=>by
  unfold posOf;rw [List.mem_cons,zko (l:=l) (by simpa using h)];constructor
  ·rintro (rfl|⟨i,h1,h2,h3,h4⟩)
   ·exact ⟨0,rfl,rfl,rfl,rfl⟩
   ·exact ⟨i+1,by simpa using h1,by rw [h2];omega,by simpa using h3,h4⟩
  ·rintro ⟨i,h1,h2,h3,h4⟩;cases i with
   | zero=>
    left;obtain ⟨po,pi,pm,ps⟩:=p;simp at h1 h2 h3 h4;subst h1 h2 h3 h4;rfl
   | succ i=>exact .inr ⟨i,by simpa using h1,by rw [h2];omega,by simpa using h3,h4⟩
theorem zep: ∀(l:List Oper) (ms:List Nat),(zbI l ms).length=ms.length+l.length
 | [], ms=>rfl
 | o::l,ms=>by unfold zbI;rw [zep l];simp;omega
theorem zb3 (l:List Oper):(zdm l).length=l.length:=by unfold zdm;rw [zep];simp
theorem zgB {m:Nat}: ∀(hs:List Nat) (t acc:Nat),acc≤t→acc≤zbO m hs t acc
 | [], t,acc,_=>Nat.le_refl _
 | h::l,t,acc,ha=>by
  unfold zbO;split
  ·exact Nat.le_trans (Nat.le_succ_of_le ha) (zgB l _ _ (Nat.le_refl _))
  ·exact zgB l _ _ (Nat.le_succ_of_le ha)
theorem zfh {m:Nat}: ∀(hs:List Nat) (t acc u h:Nat),acc≤t→hs[u]? =some h→m.testBit h=true→t+u+1≤zbO m hs t acc
 | [], t,acc,u,h,_,hh,_=>by simp at hh
 | x::l,t,acc,0,h,ha,hh,hm=>by
  simp at hh;subst hh;unfold zbO;rw [hm];exact zgB l _ _ (Nat.le_refl _)
 | x::l,t,acc,u+1,h,ha,hh,hm=>by
  unfold zbO;split
  ·have:=zfh l (t+1) (t+1) u h (Nat.le_refl _) (by simpa using hh) hm;show t+(u+1)+1≤zbO m l (t+1) (t+1);omega
  ·have:=zfh l (t+1) acc u h (by omega) (by simpa using hh) hm;show t+(u+1)+1≤zbO m l (t+1) acc;omega
theorem zes {m:Nat}: ∀(hs:List Nat) (t acc:Nat),acc≤t→zbO m hs t acc=acc∨ ∃u h,hs[u]? =some h∧m.testBit h=true∧zbO m hs t acc=t+u+1
 | [], t,acc,_=> .inl rfl
 | x::l,t,acc,ha=>by
  unfold zbO;split
  ·rename_i hm;rcases zes (m:=m) l (t+1) (t+1) (Nat.le_refl _) with h|⟨u,h,h1,h2,h3⟩
   ·exact .inr ⟨0,x,rfl,hm,h⟩
   ·exact .inr ⟨u+1,h,by simpa using h1,h2,by show zbO m l (t+1) (t+1)=_;omega⟩
  ·rcases zes (m:=m) l (t+1) acc (by omega) with h|⟨u,h,h1,h2,h3⟩
   ·exact .inl h
   ·exact .inr ⟨u+1,h,by simpa using h1,h2,by show zbO m l (t+1) acc=_;omega⟩
end
end Go.Dw
end
