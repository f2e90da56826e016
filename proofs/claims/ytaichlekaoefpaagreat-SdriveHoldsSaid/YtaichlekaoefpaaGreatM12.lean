/-
  Proved: laws on the way to 'SdriveHoldsProof' (texts UaD UaE YcG YcH YcI Enter SdriveHoldsFacts); no condition.
-/
import Derived.Test.YtaichlekaoefpaaGreatM11
import Derived.Test.YtaichlekaoefpaaGreatRows
import Derived.KernelRfl
import Derived.WalkKit
import Derived.ProofKit
import Derived.OpenShut
set_option linter.unusedSimpArgs false
set_option linter.unusedVariables false
set_option maxHeartbeats 4000000
noncomputable section
namespace Go.Proofs
open Go.Dw Go.RowKit Go.Maps Go.Sort Go.Deep
def Tryz.tabT (N:Nat) (g:Nat→Int) (A Ln:Int) (s:WS):WS:=
 if (entN N A Ln).2=0 then za0 N g zfg ((entN N A Ln).1.toNat+1) A (entN N A Ln).1 0 [] { s with e:=0 } else { s with e:=(entN N A Ln).2 }
theorem Tryz.zuM (t:Bool) (T:Int→Int→WS→WS):tabR true t T=zfg:=by
 funext A L F s;unfold tabR zfg;rw [if_pos (.inl rfl)]
theorem Tryz.zr9 (N:Nat) (g:Nat→Int) (t:Bool):tabR false t (tabT N g)=zeJ N g t:=by
 funext A L F s;unfold tabR zeJ tabT;simp only [Bool.false_eq_true,false_or]
set_option maxRecDepth 100000 in
theorem Tryz.zoy {w0 w:World} {X b2 P L Bs B N:Nat} {g:Nat→Int} {v0 v:Value} {s:WS} {A1 L1:Int} (h:RdW w0 w X b2 P L Bs B N g v0 v s.segs s.n 0) (he:s.e=0) (hN:N≤1048576) (ha:0≤A1∧A1<18446744073709551616) (hL:0≤L1∧L1<4294967296) (hn:0≤s.n∧s.n≤80000) (hl:s.segs.length≤80000):
    Calls prog 129 #[.pointer (some ⟨X,0,none⟩),.int .u64 A1,.int .u32 L1] w fun en w'=>en= .returned (.tuple #[])∧ ∃v',RdW w0 w' X b2 P L Bs B N g v0 v' (tabT N g A1 L1 s).segs (tabT N g A1 L1 s).n (tabT N g A1 L1 s).e:=by
  have hents:=zqc X P L Bs B N v s.n 0 A1 L1 g w h.cl h.rm hN ha hL;obtain ⟨segs,n,e⟩:=s;have he:e=0:=he;subst he;unfold tabT;by_cases hz:(entN N A1 L1).2=0
  · rw [if_pos hz];have hcnt:=znI (N:=N) (A:=A1) hL.1;rw [decide_eq_true hz,show entE 0 (entN N A1 L1).2=0 from by unfold entE;rw [if_pos hz]] at hents;generalize (entN N A1 L1).1=c at hents hcnt ⊢;have hch:=fun w1 (h1:RdW w0 w1 X b2 P L Bs B N g v0 v segs n 0)=>zh5 (s:=⟨segs,n,0⟩) (c:=c) (k:=0) (inner:=true) (table:=true) (T:=fun _ _ s=>s) h1 rfl hN ha ⟨hcnt.1,by omega⟩ ⟨by decide,by decide⟩ ⟨hn.1,by have:=hn.2;show n+c≤90000;have:n≤80000:=this;omega⟩ (by have:segs.length≤80000:=hl;show segs.length+c.toNat≤90000;omega) (fun q=>by cases q);rw [zuM] at hch;clear hz hcnt;go_enter func129,ntmps129;go_wp2_with (first
      | (go_at_call 172;refine hents.mono ?_;rintro en w1 ⟨rfl,hc1,hm1⟩;have h1:=h.stopped hc1 hm1)
      | (go_at_call 87;refine (hch _ h1).mono ?_;rintro en w2 ⟨rfl,v2,R,rfl,h2⟩)
      | go_in)
    go_end0;exact ⟨rfl,v2,h2⟩
  · rw [if_neg hz];rw [decide_eq_false hz,show entE 0 (entN N A1 L1).2=(entN N A1 L1).2 from by unfold entE stE;rw [if_neg hz];rfl] at hents;generalize (entN N A1 L1).2=err at hents hz ⊢;generalize (entN N A1 L1).1=c at hents;go_enter func129,ntmps129;go_wp2_with (first
      | (go_at_call 172;refine hents.mono ?_;rintro en w1 ⟨rfl,hc1,hm1⟩;have h1:=h.stopped hc1 hm1)
      | go_in)
    go_end0;exact ⟨rfl,v,h1⟩
set_option maxRecDepth 100000 in
theorem Tryz.zlz {r:Rg} (h:RgOk r) (P:Nat) (w:World):
    Calls prog 86 #[.pointer (some ⟨P,0,none⟩),r.val,.bool false] w fun e w'=>e= .returned (.int .i64 0)∧Below w.heap.size w w':=by
  have hck:=fun w'=>zcY r h w';clear h;unfold Rg.val at hck ⊢;generalize r.n=n at*;generalize r.d=d at*;generalize r.v=v at*;generalize r.c=c at*;have kc:=Cl.new w #[.bool false,.int .i64 n,.int .u64 d,.int .u64 v,.int .u64 c] 31;have hb:=(Below.refl w.heap.size w).alloc (Nat.le_refl _) (.cells #[.bool false,.int .i64 n,.int .u64 d,.int .u64 v,.int .u64 c] 31);go_enter func86,ntmps86;go_wp2_with (first
    | (go_at_call 45;refine (hck _).mono ?_;rintro en w1 ⟨rfl,hb1⟩;have k1:=kc.below hb1 kc.lt;have c0:=k1.cell 0 _ rfl)
    | go_in)
  go_ret;exact ⟨rfl,hb.trans (hb1.mono (by simp))⟩
set_option maxRecDepth 100000 in
theorem Tryz.zjW {w:World} {P L Bs B N:Nat} {g:Nat→Int} {r:Rg} {head:Int} {table:Bool} (st:RMm w P L Bs B N g) (hN:N≤1048576) (hr:RgOk r) (hh:0≤head∧head<65536):
    Calls prog 41 #[.pointer (some ⟨P,0,none⟩),r.val,.int .i64 head,.bool table] w fun en w'=> ∃u e,en= .returned (.tuple #[u,.int .i64 e])∧e=(zda N g r head table).2∧(e=0→OwnSeg w' w.heap.size u (zda N g r head table).1)∧(e≠0→u= .slice none 0 0)∧Below w.heap.size w w':=by
  have hg:=st.byte;have hbn:=hr.bnd;have hrf:=fun w'=>zlz hr P w';have hlen:=zol (N:=N) (head:=head) (table:=table) hg hr;have hgood:=zlq (N:=N) (r:=r) (head:=head) (table:=table) hg;have hd0:=hr.d0;have hdE:=hr.dE;have hS1:(zda N g r head table).2=if (zbi N g r head table).e=0 then zg8 N (zbi N g r head table).segs else (zbi N g r head table).e:=by
    unfold zda;split
    · split
      · rename_i q;exact q.symm
      · rfl
    · rfl
  have hS2:(zda N g r head table).2=0→(zda N g r head table).1=(zbi N g r head table).segs:=by
    unfold zda;split
    · split
      · exact fun _=>rfl
      · rename_i q;exact fun q2=>absurd q2 q
    · rename_i q;exact fun q2=>absurd q2 q
  have hch:=fun w1 v1 X b2 w0 (h1:RdW w0 w1 X b2 P L Bs B N g v1 v1 [] 0 0)=>zh5 (s:=⟨[],0,0⟩) (A:=r.d) (c:=r.n) (k:=head) (inner:=false) (table:=table) (T:=tabT N g) h1 rfl hN ⟨by omega,by omega⟩ ⟨by omega,by omega⟩ hh ⟨by show (0:Int)≤0;decide,by show (0:Int)+r.n≤90000;omega⟩ (by show 0+r.n.toNat≤90000;omega) (fun _ w2 v2 s2 A2 L2 q1 q2 q3 q4 q5 q6=>zoy q1 q2 hN q3 q4 ⟨q5.1,by have:=q5.2;have:s2.n≤(0:Int)+r.n+1:=this;omega⟩ (by have:s2.segs.length≤0+r.n.toNat:=q6;omega));rw [zr9] at hch;have hend: ∀w0 w1 X b2 v0 v1 n1,RdW w0 w1 X b2 P L Bs B N g v0 v1 (zbi N g r head table).segs n1 (zbi N g r head table).e→Calls prog 88 #[.pointer (some ⟨X,0,none⟩)] w1 fun en w'=> ∃u e1,en= .returned (.tuple #[u,.int .i64 e1])∧EqT e1 (if (zbi N g r head table).e=0 then zg8 N (zbi N g r head table).segs else (zbi N g r head table).e)∧(e1=0→u=v1)∧(e1≠0→u= .slice none 0 0)∧RdW w0 w' X b2 P L Bs B N g v0 v1 (zbi N g r head table).segs n1 e1:=fun w0 w1 X b2 v0 v1 n1 h1=>
    (zsK h1 hN (fun _=>hgood.1) (Nat.le_trans hlen (by decide))).mono fun en w' ⟨e1,q1,q2,q3⟩=>⟨_,e1,q2,⟨q1⟩,fun q=>if_pos q,fun q=>if_neg q,q3⟩
  have hsp:zbi N g r head table=za0 N g (zeJ N g table) (r.n.toNat+1) r.d r.n head [] ⟨[],0,0⟩:=rfl;rw [←hsp] at hch;generalize zbi N g r head table=R0 at*;generalize zda N g r head table=S0 at*;clear hsp hr hgood hlen hdE hd0 hbn;unfold Rg.val at hrf ⊢;have kbox:=Cl.new w #[.bool false,.int .i64 r.n,.int .u64 r.d,.int .u64 r.v,.int .u64 r.c] 31;have hb0:=(Below.refl w.heap.size w).alloc (Nat.le_refl _) (.cells #[.bool false,.int .i64 r.n,.int .u64 r.d,.int .u64 r.v,.int .u64 r.c] 31);generalize r.n=n at*;generalize r.d=d at*;generalize r.v=v at*;generalize r.c=c at*;go_enter func41,ntmps41;go_wp2_with (first
    | (go_at_call 86;refine (hrf _).mono ?_;rintro en w1 ⟨rfl,hb1⟩;have hb01:=hb0.trans (hb1.mono hb0.size);have hbX:=(Below.refl w1.heap.size w1).alloc (Nat.le_refl _) (.cells #[.pointer (some ⟨P,0,none⟩),.slice none 0 0,.int .i64 0,.int .i64 0] 155);have k1:=(kbox.below hb1 kbox.lt).alloc (.cells #[.pointer (some ⟨P,0,none⟩),.slice none 0 0,.int .i64 0,.int .i64 0] 155);have c1:=k1.cell 1 _ rfl;have c2:=k1.cell 2 _ rfl;have kX:=Cl.new w1 #[.pointer (some ⟨P,0,none⟩),.slice none 0 0,.int .i64 0,.int .i64 0] 155;have st1:=(st.below hb01).below hbX;have hP:=(st.below hb01).pl;have hL:=(st.below hb01).ll;have hBs:=(st.below hb01).sl;have hB:=(st.below hb01).bl;have hR:RdW (w1.alloc (.cells #[.pointer (some ⟨P,0,none⟩),.slice none 0 0,.int .i64 0,.int .i64 0] 155)) (w1.alloc (.cells #[.pointer (some ⟨P,0,none⟩),.slice none 0 0,.int .i64 0,.int .i64 0] 155)) w1.heap.size (w1.heap.size+1) P L Bs B N g (.slice none 0 0) (.slice none 0 0) [] 0 0:=⟨kX,OwnSeg.nil _ _,st1,⟨by omega,by omega,by omega,by omega,by omega⟩,⟨by omega,by omega,by omega,by omega⟩,by simp,Dw.Mv.refl _ _,fun _ q=> .inl q⟩)
    | (go_at_call 87;refine (hch _ _ _ _ _ hR).mono ?_;rintro en w2 ⟨rfl,v2,R,rfl,h2⟩)
    | (go_at_call 88;refine (hend _ _ _ _ _ _ _ h2).mono ?_;rintro en w3 ⟨u3,e3,rfl,he3,hu1,hu2,h3⟩)
    | go_in)
  go_ret2;have hsz:=hb01.size;refine ⟨u3,e3,rfl,he3.eq.trans hS1.symm,fun q=> ?_,hu2,?_⟩
  · rw [hu1 q,hS2 (by rw [hS1,←he3.eq,q])];exact h3.own.mono (by omega)
  · have hbw:=hb01.trans (hbX.mono hb01.size);exact ⟨h3.mv.os.trans hbw.os,h3.mv.tape.trans hbw.tape,h3.mv.output.trans hbw.output,Nat.le_trans hbw.size h3.mv.size,fun b hb=>(h3.mv.block b (Nat.lt_of_lt_of_le hb hbw.size) fun q=>by
      rcases q with q|q
      · omega
      · cases q).trans (hbw.block b hb)⟩
theorem Tryz.zfw {P0:Program} {w:World} {ops:Array Oper} {rest:List Oper} {o:Oper} {a:Act} {Q:Exit→Act→World→Prop} (hgd:o.guard=none) (s x:Operand) (t:TypeId)
  (ho:o.op= .call { callee:= .builtin .append,args:= #[s,x],argTypes:= #[t,t] })
  (base:Nat) (e t0:TypeId) (i:TypeInfo) (z:Value) (size bytes:Nat) (ht:P0.underlying t=some (.slice e)) (hi:P0.info? e=some i) (hz:i.zero=some z)
  (hsize:i.size=size) (hby:i.bytes=bytes) (hzs:z.cells.size=size) (hsz:0<size)
  (v:Value) (n:Nat) (xs:List Value) (hs:a.eval s=v) (hown:w.ownsRow base t0 size v n xs)
  (ad:Addr) (m c:Nat) (news:List Value) (hx:a.eval x= .slice (some ad) m c) (hl:news.length=m*size) (hnews: ∀j u,news[j]? =some u→w.cell? (ad.add j)=some u) (h1: ∀u∈news,u.oneCell'=true)
  (h63:n+m≤maxLen) (hbytes:(n+m)*bytes≤140737488355328) (hbase:base≤w.heap.size)
  (h: ∀v' w' t',w'.ownsRow base t' size v' (n+m) (xs++news)→w.grownBy w' v.ownBlock→(v'.ownBlock=v.ownBlock∨v'.ownBlock=some w.heap.size)→wpList P0 ops Q rest (a.put o.dst v') w'):
  wpList P0 ops Q (o::rest) a w:=by
 refine wpList_plain hgd fun K hK=> ?_;obtain ⟨v',w',t',hr,h2,h3,h4⟩:=zfK (P0:=P0) w base t o.type e t0 i z size bytes ht hi hz hsize hby hzs hsz v n xs hown ad m c news hl hnews h1 h63 hbytes hbase;unfold Oper.wp execOp;simp only [ho,resolve,invoke,builtin,Sem.run_bind,Sem.run_pure,Result.andThen_ok,List.map_toArray,List.map_cons,List.map_nil,hs,hx,hr];exact hK _ _ (h v' w' t' h2 h3 h4)
set_option maxRecDepth 100000 in
theorem Tryz.zw1 {W0 w:World} {n:Nat} {ev tb:Bool} {d:Hs} {r:Rg} {aa:Option Addr} {ca:Nat} {acts:List Tn} {ov:Value} {tk:Int} {j:Nat} {s:SD} {g:Nat→Int} {tm:Array Value} (hf:Hs0 n d r (.slice aa acts.length ca) ov s.sn tk s.F.length j tm) (hw:HsW W0 ev tb d r w s g ov s.L) (hs:HsS s tb tk j) (hA:TnsV W0 (.slice aa acts.length ca) acts) (hj:j<acts.length) (h60:acts.length≤60) (hbk:acts[j].bk=false) (hsl100:acts[j].sl.length≤100) (hrk:SgOk r) (hrn:EqI r.n n) (hyes:(zbG 60000 s tk acts[j].sl).1=0):
    (zbf prog [0,0,1,0,1,1,1,1,1,1,1,1,1,1,1,4]).wp prog (zoa W0 n ev tb d r (.slice aa acts.length ca) j) ⟨tm,[]⟩ w:=by
  obtain ⟨jf,hjf⟩:=zhj (t:=tm) hf.sz hf.t0 hf.t2 hf.t4 hf.t8 hf.t9 hf.t10 hf.t12 hf.t15 hf.t18 hf.t19 hf.t20 hf.t21 hf.t22;rw [hjf];clear hjf hf;obtain ⟨R,o,hra,hrow⟩: ∃R o,aa=some ⟨R,o,none⟩∧ ∀(i:Nat) (hi:i<acts.length),W0.rangeAt R (o+4*i) acts[i].cells:=by
    obtain ⟨aa',c',e,h⟩:=hA.val;cases e;rcases h with q|⟨R,o,q1,q2⟩
    · rw [q] at hj;simp at hj
    · exact ⟨R,o,q1,q2⟩
  have hco:=hA.ok acts[j] (List.getElem_mem hj);have hcw:=hrow j hj;have hRl:R<W0.heap.size:=World.block_lt_of_cell? W0 _ (hcw 0 _ rfl);have hcr:=zae hcw (hw.old.block R hRl);obtain ⟨c,hc⟩: ∃c,c=acts[j]:=⟨_,rfl⟩;rw [←hc] at hco hcr hbk hsl100 hyes;rw [Nat.mul_comm 4 j] at hcr;obtain ⟨sa,cs,hsv,hsok,hsr⟩:=hco.sv;have hv0: ∀ {w'},Below W0.heap.size W0 w'→SegV (fun b=>W0.heap.size≤b) w' (.slice sa c.sl.length cs) c.sl:=fun {w'} hb=>SegV.setK (A:=fun _=>False) (w:=W0) ⟨sa,cs,rfl,hsok,hsr⟩ (fun b hb' q=>absurd q (by omega)) (fun b hb' _=>hb.block b hb');have a0:=hcr 0 _ rfl;have a1:=hcr 1 _ rfl;have a2:=hcr 2 _ rfl;have a3:=hcr 3 _ rfl;rw [hsv] at a1;rw [hbk] at a0;simp only [Nat.add_zero] at a0;have hj':(j:Int)<acts.length:=by omega
  have ej:=zmu j (by omega);clear hc hcr hcw hrow hA hsr hco hsv hbk;subst hra;have hbA:=(Below.refl w.heap.size w).alloc (Nat.le_refl _) (Obj.cells #[.bool false,.slice sa c.sl.length cs,.int .i64 c.n,.int .u32 c.v] 90);have hwA:=hw.below hbA;have kT:=Cl.new w #[.bool false,.slice sa c.sl.length cs,.int .i64 c.n,.int .u32 c.v] 90;have pT:=kT.cell 1 _ rfl;have l10:d.X10≤w.heap.size:=by have:=hw.x10.lt;omega
  have hks:=zkD (hv0 hwA.old) (by omega);have hY:=zmU hyes;have hof:=fun {w1:World} {u:Value} (hb1:Below (w.alloc (Obj.cells #[.bool false,.slice sa c.sl.length cs,.int .i64 c.n,.int .u32 c.v] 90)).heap.size (w.alloc (Obj.cells #[.bool false,.slice sa c.sl.length cs,.int .i64 c.n,.int .u32 c.v] 90)) w1) (hu:OwnSeg w1 (w.alloc (Obj.cells #[.bool false,.slice sa c.sl.length cs,.int .i64 c.n,.int .u32 c.v] 90)).heap.size u c.sl)=>(by
    have q:=hwA.below hb1;have hlt:=hwA.dr.f.lt;exact (zqy q.dr (OwnSeg.segV hu hsok (A:=hsA d ov) (fun b q1 q=>by have:=hlt b q;omega)) (by omega) hyes).mono fun en w2 hh=>⟨hh.1,q.turn hh.2.1 (hh.2.2.mono fun b z=>z.elim .inl fun z=> .inr (.inl z)),hh.2.2.mono fun b z=>z.elim .inl fun z=> .inr (.inl z)⟩:Calls prog 13 #[.pointer (some ⟨d.S,0,none⟩),.int .i64 tk,u] w1 fun en w2=>en= .returned (.int .i64 0)∧HsW W0 ev tb d r w2 (zbG 60000 s tk c.sl).2 g ov s.L∧Dw.Mv (sdK d.S d.M d.B) w1 w2)
  obtain ⟨s1,hs1⟩: ∃s1,s1=(zbG 60000 s tk c.sl).2:=⟨_,rfl⟩;rw [←hs1] at hY hof;have hDI1:SDI s1:=by rw [hs1];exact hs.di.off
  have hpb:=hw.dr.pb;have hbn:=hrk.ok.bnd;have hn16:=hrk.n16;have hnb:=hrn.eq;have hlp:c.sl.length≠0:=fun e=>hY.ne (List.length_eq_zero_iff.1 e);have hnp:=zlH s c.sl hlp;have hown:=hY.len;obtain ⟨need,hnd⟩: ∃need,need=s.need c.sl:=⟨_,rfl⟩;rw [←hnd] at hnp hown;have hneed:need=if tb=true∧1<c.sl.length then 1 else c.sl.length:=by
    rw [hnd];unfold SD.need SD.tab;rw [hs.tb];simp
  have hall:=hpb.all;rw [List.length_append] at hall;have hLl:s.L.length≤16:=by
    have h1:(s.L.map SO.head).length≤(s.L.flatMap (·.ids)).length:=(zc6 hpb.ne).length_le;rw [List.length_map] at h1;omega
  have hF1:s1.ph=1∧s1.br=false∧s1.c=⟨s.F.take need,tk⟩∧s1.F=s.F.drop need∧s1.L=s.L++ [⟨s.F.take need,tk⟩]∧s1.av=s.av∧s1.sn=s.sn∧s1.tb=s.tb:=by
    rw [hY.eq,hnd];exact ⟨rfl,hY.br,rfl,rfl,rfl,rfl,rfl,rfl⟩
  obtain ⟨k1,k2,k3,k4,k5,k6,k7,k8⟩:=hF1;obtain ⟨kk,hfin⟩:=zlt (r:=r) (s1:=s1) (g:=g) k1 k2;obtain ⟨s3,hs3⟩: ∃s3:SD,s3= { s1 with av:=(s1.av+1)%65536,kk:=kk,ph:=0,dn:=true }:=⟨_,rfl⟩;rw [←hs3] at hfin;obtain ⟨g3,hg3⟩: ∃g3,g3=zhD r s1 g:=⟨_,rfl⟩;rw [←hg3] at hfin;obtain ⟨eo,heq⟩: ∃eo:SO,eo=⟨s.F.take need,tk⟩:=⟨_,rfl⟩;rw [←heq] at k3 k5;obtain ⟨hd,hhd⟩: ∃hd,hd=eo.head:=⟨_,rfl⟩;have heo:HidP (zak (outM [eo])= [.int .i64 hd,.int .i64 tk,.int .i64 need]):=⟨by
    have h1:eo.tk=tk:=by rw [heq]
    have h2:(eo.ids.length:Int)=need:=by
      rw [heq];show (((s.F.take need).length:Nat):Int)=need;rw [List.length_take];omega
    rw [hhd,←h1,←h2];rfl⟩
  have hav:=hpb.av;obtain ⟨av1,hav1⟩: ∃av1,av1=(s.av+1)%65536:=⟨_,rfl⟩;have hM3:HidP (((s3.F.length:Int)=(s.F.length:Int)-need∧s3.L=s.L++ [eo]∧s3.sn=s.sn)∧HsS s3 tb (tk+1) (j+1)):=by
    refine ⟨⟨?_,by rw [hs3];exact k5,by rw [hs3];exact k7⟩,?_⟩
    · rw [hs3];show ((s1.F.length:Nat):Int)=_;rw [k4,List.length_drop];omega
    · refine ⟨by rw [hs3],by rw [hs3];exact k2,by rw [hs3];exact k8.trans hs.tb,by rw [hs3];exact ⟨fun q=>absurd rfl q⟩,fun x hx=> ?_,by have:=hs.tk0;omega,?_⟩
      · have e:s3.L=s.L++ [eo]:=by rw [hs3];exact k5
        rw [e] at hx;rcases List.mem_append.1 hx with hx|hx
        · have:=hs.tks x hx;omega
        · rw [List.mem_singleton] at hx;rw [hx,heq];show tk<tk+1;omega
      · rw [hs3];show (s1.av+1)%65536=(tk+1)%65536;rw [k6,hs.av];omega
  have hread:=fun (g':Nat→Int) (hg': ∀q,q<60000→g' q=g3 q)=>zon (g':=g') hrk.ok hn16 ⟨by have:=hrk.d;have:=hrk.v;omega,by have:=hrk.c;omega⟩ hpb (by decide) hY hsok (fun q hq=>by rw [hg' q hq,hg3];unfold zhD;rw [k6]);rw [k3,←hhd,hs.tb,←hav1,hnb] at hread;have hsnm:0≤s.av%(n:Int)∧s.av%(n:Int)<r.n:=by
    rw [←hnb];exact ⟨Int.emod_nonneg _ (by omega),Int.emod_lt_of_pos _ (by omega)⟩
  have e1:IntKind.wrap .i64 s.av=s.av:=zaS (by omega) (by omega);have e2:s.av.tmod n=s.av%n:=Int.tmod_eq_emod_of_nonneg hav.1;have e3:IntKind.wrap .i64 (s.av%n)=s.av%n:=zaS (by omega) (by omega);have hn0: ¬(n:Int)=0:=by omega
  have hn0': ¬n=0:=by omega
  have hn0b:((n:Int)==0)=false:=by simpa using hn0'
  have hn0c:(n==0)=false:=by simpa using hn0'
  have e4:IntKind.wrap .u16 av1=av1:=by unfold IntKind.wrap;simp [IntKind.signed,IntKind.bits];omega
  have e5:IntKind.wrap .u16 (av1-1)=s.av:=by unfold IntKind.wrap;simp [IntKind.signed,IntKind.bits];omega
  have htk0:=hs.tk0;have e6:IntKind.wrap .i64 (tk+1)=tk+1:=zaS (by omega) (by omega);have e7:IntKind.wrap .u16 (tk+1)=av1:=by
    have:=hs.av;unfold IntKind.wrap;simp [IntKind.signed,IntKind.bits];omega
  have e9:IntKind.wrap .i64 ((s.F.length:Int)-need)=(s.F.length:Int)-need:=zaS (by omega) (by omega);have hown': ¬(need:Int)>s.F.length:=by omega
  have hwh:=fun w'=>zsz r hrk.ok (s.av%n) hsnm w';have hvv:=hrk.v;have hcc:=hrk.c;have hc0:=hrk.ok.c0;rw [←e2] at hwh hread e3;obtain ⟨a,ha,ha2⟩: ∃a:Nat,r.v+4+2*s.av.tmod n=a∧a+2≤60000:=by
    rw [e2];exact ⟨(r.v+4+2*(s.av%n)).toNat,by omega,by omega⟩
  rw [ha] at hwh hread;obtain ⟨ci,hci,hci2⟩: ∃ci:Nat,r.v+2=ci∧ci+2≤60000:=⟨(r.v+2).toNat,by omega,by omega⟩;rw [hci] at hread;simp only [Int.toNat_natCast] at hread;have hread3:=hread g3 fun _ _=>rfl;have e8:IntKind.wrap .i64 hd=hd:=zaS (by have:=hread3.2.2.2.1;omega) (by have:=hread3.2.2.2.2;omega);have hhb:0≤hd∧hd<65536:=by have:=hread3.2.2.2;omega
  have hfns:=fun {w':World} (q:HsW W0 ev tb d r w' s1 g ov s.L)=>((zhl q.dr hDI1 (by decide) hfin).mono fun en w2 hh=>⟨hh.1,q.turn hh.2.1 hh.2.2,hh.2.2⟩:Calls prog 38 #[.pointer (some ⟨d.S,0,none⟩)] w' fun en w2=>en= .returned (.int .i64 6)∧HsW W0 ev tb d r w2 s3 g3 ov s.L∧Dw.Mv (sdK d.S d.M d.B) w' w2);have hsp:=fun {w':World} (q:HsW W0 ev tb d r w' s3 g3 ov s.L)=>(by
    have q1:=ziO q.dr;rw [hM3.out.1.1] at q1;exact q1:Calls prog 30 #[.pointer (some ⟨d.S,0,none⟩)] w' fun en w2=>en= .returned (.int .i64 ((s.F.length:Int)-need))∧w2=w')
  have hld1:=fun {w':World} (q:HsW W0 ev tb d r w' s3 g3 ov s.L)=>(by
    have q1:=zlQ d.P d.L d.Bs d.B 60000 ci 2 g3 w' q.dr.f.mem (by decide) (.inr (.inl rfl)) hci2;rw [hread3.1,←hci] at q1;exact q1:Calls prog 39 #[.pointer (some ⟨d.P,0,none⟩),.int .u64 (r.v+2),.int .i64 2] w' fun en w2=>en= .returned (.tuple #[.int .u64 av1,.int .i64 0])∧Below w'.heap.size w' w2)
  have hld2:=fun {w':World} (q:HsW W0 ev tb d r w' s3 g3 ov s.L)=>(by
    have q1:=zlQ d.P d.L d.Bs d.B 60000 a 2 g3 w' q.dr.f.mem (by decide) (.inr (.inl rfl)) ha2;rw [hread3.2.1] at q1;exact q1:Calls prog 39 #[.pointer (some ⟨d.P,0,none⟩),.int .u64 a,.int .i64 2] w' fun en w2=>en= .returned (.tuple #[.int .u64 hd,.int .i64 0])∧Below w'.heap.size w' w2)
  have hcase:(tb=false∧need=c.sl.length)∨(tb=true∧(c.sl.length:Int)>1∧need=1)∨(tb=true∧ ¬(c.sl.length:Int)>1∧need=c.sl.length):=by
    rw [hneed];cases tb with
    | false=>exact .inl ⟨rfl,if_neg (by simp)⟩
    | true=>
      by_cases q:1<c.sl.length
      · exact .inr (.inl ⟨rfl,by omega,if_pos ⟨rfl,q⟩⟩)
      · exact .inr (.inr ⟨rfl,by omega,if_neg fun z=>q z.2⟩)
  clear hneed;have hxl:((List.range 60000).map g3).length=60000:=by rw [List.length_map,List.length_range]
  obtain ⟨xs,hxs⟩: ∃xs,xs=(List.range 60000).map g3:=⟨_,rfl⟩;rw [←hxs] at hxl;have hg4: ∀q,q<60000→putL (fun _=>0) 0 xs q=g3 q:=fun q hq=>by
    rw [zgR,if_pos (by rw [hxl];omega),hxs,Nat.sub_zero,List.getD_eq_getElem?_getD,List.getElem?_map,List.getElem?_range hq];rfl
  have hread4:=hread _ hg4;have hrow:row g3 0 60000=xs.map (Value.int .u8):=by
    rw [hxs];unfold row;rw [List.map_map];exact List.map_congr_left fun q _=>by simp
  have hbx:(∀j,0≤g3 j∧g3 j<256)→ ∀x∈xs,0≤x∧x<256:=fun h x hx=>by
    rw [hxs] at hx;obtain ⟨q,_,rfl⟩:=List.mem_map.1 hx;exact h q
  obtain ⟨g4,hg4'⟩: ∃g4,g4=putL (fun _=>0) 0 xs:=⟨_,rfl⟩;rw [←hg4'] at hread4;clear hxs hread hg4;have hnew:=fun R (w:World) (c:Cl w R [.int .u64 0,.int .u64 60000])=>zp8 (w:=w) (R:=R) (c.cell 0 _ rfl) (c.cell 1 _ rfl);have himg:=fun {w':World} (q:HsW W0 ev tb d r w' s3 g3 ov s.L)=>(by
    refine (zq4 d.P d.L d.Bs d.B 60000 g3 w' q.dr.f.mem (by decide) (by decide)).mono ?_;rintro e w2 ⟨v,rfl,hv,hb⟩;rw [hrow] at hv;have hv:OwnR 5 1 w2 w'.heap.size v 60000 (xs.map (Value.int .u8)):=hv;obtain ⟨sa,c,rfl,hr⟩:=OwnR.row hv;rcases hr with hr|⟨G,rfl,ho,hG⟩
    · have:=congrArg List.length hr;rw [List.length_map,hxl] at this;exact absurd this (by decide)
    · exact ⟨G,c,rfl,hG,(OwnR.lt hv G ho).2,hb⟩:Calls prog 35 #[.pointer (some ⟨d.P,0,none⟩)] w' fun e w2=> ∃G c,e= .returned (.slice (some ⟨G,0,none⟩) 60000 c)∧w2.rangeAt G 0 (xs.map (Value.int .u8))∧G<w2.heap.size∧Below w'.heap.size w' w2)
  have hwrt:=fun {P2 L2 Bs2 B2 G c:Nat} {w':World} (st:RMm w' P2 L2 Bs2 B2 60000 (fun _=>0)) (hb: ∀x∈xs,0≤x∧x<256) (hr:w'.rangeAt G 0 (xs.map (Value.int .u8))) (hG:G<w'.heap.size)=>(by
    have q:=zpX P2 L2 Bs2 B2 60000 0 G 0 c xs (fun _=>0) w' st (by decide) (by rw [hxl];decide) (by rw [hxl];decide) hb hr hG;rw [hxl,←hg4'] at q;exact q:Calls prog 40 #[.pointer (some ⟨P2,0,none⟩),.int .u64 0,.slice (some ⟨G,0,none⟩) 60000 c] w' fun e w2=>e= .returned (.int .i64 0)∧RMm w2 P2 L2 Bs2 B2 60000 g4∧Mv (· =B2) w' w2)
  have hspl:=fun {P2 L2 Bs2 B2:Nat} {w':World} (st:RMm w' P2 L2 Bs2 B2 60000 g4)=>(by
    have q:=zjW (table:=tb) (head:=hd) st (by decide) hrk.ok hhb;refine q.mono ?_;rintro en w2 ⟨u,e,rfl,q1,q2,_,hb⟩;rw [hread4.2.2.1] at q1 q2;have q1:e=0:=q1;subst q1;exact ⟨u,rfl,q2 rfl,hb⟩:Calls prog 41 #[.pointer (some ⟨P2,0,none⟩),r.val,.int .i64 hd,.bool tb] w' fun en w2=> ∃v,en= .returned (.tuple #[v,.int .i64 0])∧OwnSeg w2 w'.heap.size v c.sl∧Below w'.heap.size w' w2)
  have hssg:=fun {w':World} {v:Value} {b:Nat} (hb:Below W0.heap.size W0 w') (hv:OwnSeg w' b v c.sl)=>(by
    have q:=zpT (OwnSeg.segV hv hsok (A:=fun _=>False) (fun _ _ h=>h)) (hv0 hb) (by omega) (by omega);rw [decide_eq_true rfl] at q;exact q:Calls prog 42 #[v,.slice sa c.sl.length cs] w' fun e w2=>e= .returned (.bool true)∧Below w'.heap.size w' w2)
  unfold Rg.val at hwh hspl;rw [hnb] at hwh hspl;obtain ⟨t12,hO⟩:=hw.row;rw [←zbY s.L] at hO;obtain ⟨sov,cov,hov,_⟩:=OwnR.row hO;rw [zbY] at hov;subst hov;obtain ⟨i0,hi0,j1,j2,j3⟩:=info_parts zt6;have hU:prog.underlying 93=some (.slice 95):=by kernel_rfl
  replace hnb:HidP _:=⟨hnb⟩;clear hY hs1 hDI1 hfin hs3 hg3 k1 k2 k3 k4 k5 k6 k7 k8 hpb hnd hwA ha hlp hread4 hread3 hrow hg4' hxl hs hO hyes hrk hrn hnp hown hj hbn hn16 hall hav hav1 hsnm e2 hvv hcc hc0 ha2 hci hci2 hhb hhd heq htk0;obtain ⟨rfl,rfl⟩|⟨rfl,h1',rfl⟩|⟨rfl,h1',rfl⟩:=hcase
  · refine zaK (c':=(zad 0 (zad 0 (zad 1 (zad 0 (zad 1 (zad 1 (zad 1 (zad 1 (zad 1 (zad 1 (zad 1 (zad 1 (zad 1 (zad 1 (zad 1 (match (f4).body with|some c=>c|none=> .skip))))))))))))))))) (by kernel_rfl) ?_
    dsimp only [f4,zad]
    go_wp2_with (first
      | (go_at_call 14;refine hks.mono ?_;rintro en w1 ⟨u,rfl,hu,hb1⟩)
      | (go_at_call 13;refine (hof hb1 hu).mono ?_;rintro en w2 ⟨rfl,hw2,hm2⟩;have kT2:=(kT.below hb1 kT.lt).kept ((hw.below (hbA.trans (hb1.mono hbA.size))).kept hm2 _ (kT.below hb1 kT.lt).lt (.inr l10));have p2:=kT2.cell 1 _ rfl;have p4:=hw2.x4.cell 1 _ rfl)
      | (go_at_call 38;refine (hfns hw2).mono ?_;rintro en w3 ⟨rfl,hw3,hm3⟩;have kT3:=kT2.kept (hw2.kept hm3 _ kT2.lt (.inr l10)))
      | (go_at_call 39;refine (hld1 hw3).mono ?_;rintro en w4 ⟨rfl,hb4⟩;have hw4:=hw3.below hb4;have kT4:=kT3.below hb4 kT3.lt;have x10:=hw4.x10)
      | go_in)
    unfold zfP at x10;rw [hnb.out] at x10;have x0:=x10.cell 0 _ rfl;have x1:=x10.cell 1 _ rfl;have x2:=x10.cell 2 _ rfl;have x3:=x10.cell 3 _ rfl;have x4:=x10.cell 4 _ rfl;have x10d:=x10.kept (w':=w4.drew) rfl;have hw4d:=hw4.below (Below.refl w4.heap.size w4).drew;have kT4d:=kT4.kept (w':=w4.drew) rfl;have y0:=x10d.cell 0 _ rfl;have y1:=x10d.cell 1 _ rfl;have y2:=x10d.cell 2 _ rfl;have y3:=x10d.cell 3 _ rfl;have y4:=x10d.cell 4 _ rfl
    try clear h1'
    clear hks hof hfns hld1 hw kT hbA hu hb1 hw2 hm2 kT2 p2 p4 hm3 hw3 kT3 hb4 hw4 kT4 pT;go_region_held3 (fun w'=>w'.cell? ⟨d.X10,0,none⟩=some (.bool false)∧w'.cell? ⟨d.X10,1,none⟩=some (.int .i64 n)∧w'.cell? ⟨d.X10,2,none⟩=some (.int .u64 r.d)∧w'.cell? ⟨d.X10,3,none⟩=some (.int .u64 r.v)∧w'.cell? ⟨d.X10,4,none⟩=some (.int .u64 r.c)) (go_keep)
      ((first
        | (go_at_call 21;refine (hwh _).mono ?_;rintro en w5 ⟨rfl,hb5⟩;have x105:=x10d.below hb5 x10d.lt;have z0:=x105.cell 0 _ rfl;have z1:=x105.cell 1 _ rfl;have z2:=x105.cell 2 _ rfl;have z3:=x105.cell 3 _ rfl;have z4:=x105.cell 4 _ rfl)))
    have hw5:=hw4d.below hb5;have kT5:=kT4d.below hb5 kT4d.lt;clear x0 x1 x2 x3 x4 y0 y1 y2 y3 y4 z0 z1 z2 z3 z4 x10 x10d x105 hw4d kT4d hb5;go_wp2_with (first
      | (go_at_call 39;refine (hld2 hw5).mono ?_;rintro en w6 ⟨rfl,hb6⟩;have hw6:=hw5.below hb6;have kT6:=kT5.below hb6 kT5.lt)
      | (go_at_call 10;refine (hnew w6.heap.size _ (Cl.new2 rfl)).mono ?_;rintro en w7 ⟨P2,L2,Bs2,B2,rfl,hg2,hb7,hP2,hL2,hBs2,hB2⟩;have hb67:=((Below.refl w6.heap.size w6).alloc (Nat.le_refl _) _).trans (hb7.mono (by simp));have hw7:=hw6.below hb67;have lB2:w6.heap.size≤B2:=(by simp at hB2;omega))
      | (go_at_call 35;refine (himg hw7).mono ?_;rintro en w8 ⟨G,cG,rfl,hG,hGl,hb8⟩;have hw8:=hw7.below hb8;have hb68:=hb67.trans (hb8.mono hb67.size);have hg28:=hg2.below hb8)
      | (go_at_call 40;refine (hwrt hg28 (hbx hw8.dr.f.mem.byte) hG hGl).mono ?_;rintro en w9 ⟨rfl,hg9,hm9⟩;have hb69:=hb68.trans (hm9.below (base:=w6.heap.size) (fun k hk=>by rw [hk];exact lB2) hb68.size);have hw9:=hw6.below hb69;have kT9:=kT6.below hb69 kT6.lt;have x10:=hw9.x10;unfold zfP at x10;rw [hnb.out] at x10;have x0:=x10.cell 0 _ rfl;have x1:=x10.cell 1 _ rfl;have x2:=x10.cell 2 _ rfl;have x3:=x10.cell 3 _ rfl;have x4:=x10.cell 4 _ rfl;have q4:=hw9.x4.cell 1 _ rfl)
      | (go_at_call 41;refine (hspl hg9).mono ?_;rintro en w10 ⟨v,rfl,hv,hb10⟩;obtain ⟨sv,cv,hve,hj8⟩:=hv.slice;clear hj8;subst hve;have hwR:=hw9.below hb10;have kTR:=kT9.below hb10 kT9.lt;have tR:=kTR.cell 1 _ rfl;clear hld2 hw5 kT5 hb6 hw6 kT6 hnew himg hwrt hspl hg2 hb7 hP2 hL2 hBs2 hB2 hb67 hw7 lB2 hG hGl hb8 hw8 hb68 hg28 hg9 hm9 hb69 hw9 kT9 x10 x0 x1 x2 x3 x4 q4)
      | (go_at_call 42;refine (hssg hwR.old hv).mono ?_;rintro en w11 ⟨rfl,hb11⟩;have hw11:=hwR.below hb11;clear hwR kTR tR)
      | (go_at_call 30;refine (hsp hw11).mono ?_;rintro en w12 ⟨rfl,hw12⟩;have hw12:=hw12.symm;subst hw12;obtain ⟨tA,hrow⟩:=hw11.row;have hbN:=(Below.refl w11.heap.size w11).alloc (Nat.le_refl _) (Obj.cells #[.int .i64 hd,.int .i64 tk,.int .i64 c.sl.length] 95);have hrowN:=OwnR.kept hrow fun b e=>hbN.block b (OwnR.lt hrow b e).2;have kN:=Cl.new w11 #[.int .i64 hd,.int .i64 tk,.int .i64 c.sl.length] 95;have hX10:d.X10+1≤w11.heap.size:=hw11.x10.lt)
      | (at_builtin;go_loud (refine zfw rfl _ _ 93 rfl (d.X10+1) 95 tA i0 _ 3 24 hU hi0 j1 j2 j3 rfl (by decide) (.slice sov s.L.length cov) s.L.length (zak (outM s.L)) rfl hrowN ⟨w11.heap.size,0,none⟩ 1 1 [.int .i64 hd,.int .i64 tk,.int .i64 c.sl.length] rfl rfl (fun j u hu=>by rw [Dw.addr_add,Nat.zero_add];exact kN.cell j u hu) (fun u hu=>by simp only [List.mem_cons,List.not_mem_nil,or_false] at hu;rcases hu with rfl|rfl|rfl<;>rfl) (by unfold maxLen;omega) (by omega) (Nat.le_trans hX10 hbN.size) ?_);intro v' wa t' n1 n3 n4;go_frame)
      | go_in)
    have hg:=n3.size;have hwF:=hw11.setO (M':=s.L++ [eo]) ⟨n3.os,n3.tape,n3.output,by simp at hg ⊢;omega,fun b hb hn=>(n3.block b (by simp at hb ⊢;omega) fun e=>hn e.symm).trans (hbN.block b hb)⟩ (by
      rw [List.length_append,zgn,zbD,show zak (outM [eo])= [.int .i64 hd,.int .i64 tk,.int .i64 c.sl.length] from heo.out];exact n1) (fun b e=>by
        rcases n4 with q|q
        · rw [q] at e;exact .inl e
        · rw [q] at e;simp at e;first|omega|(simp;omega))
    obtain ⟨⟨m5,m6,m7⟩,hS⟩:=hM3.out;rw [←m6] at hwF;obtain ⟨sa9,ca9,hve9,hj9⟩:=OwnR.row n1;refine ⟨rfl,s3,g3,v',tk+1,⟨rfl,rfl,rfl,rfl,rfl,rfl,rfl,rfl,rfl,rfl,congrArg (Value.int .u16) m7.symm,rfl,congrArg (Value.int .i64) m5.symm,rfl⟩,hwF,hS⟩
  · replace e9:IntKind.wrap .i64 ((s.F.length:Int)-1)=(s.F.length:Int)-1:=e9;replace hown': ¬(1:Int)>s.F.length:=hown';replace hsp: ∀ {w':World} (q:HsW W0 ev true d r w' s3 g3 (.slice sov s.L.length cov) s.L),Calls prog 30 #[.pointer (some ⟨d.S,0,none⟩)] w' fun en w2=>en= .returned (.int .i64 ((s.F.length:Int)-1))∧w2=w':=hsp;refine zaK (c':=(zad 0 (zad 0 (zad 1 (zad 0 (zad 1 (zad 1 (zad 1 (zad 1 (zad 1 (zad 1 (zad 1 (zad 1 (zad 1 (zad 1 (zad 1 (match (f4).body with|some c=>c|none=> .skip))))))))))))))))) (by kernel_rfl) ?_
    dsimp only [f4,zad]
    go_wp2_with (first
      | (go_at_call 14;refine hks.mono ?_;rintro en w1 ⟨u,rfl,hu,hb1⟩)
      | (go_at_call 13;refine (hof hb1 hu).mono ?_;rintro en w2 ⟨rfl,hw2,hm2⟩;have kT2:=(kT.below hb1 kT.lt).kept ((hw.below (hbA.trans (hb1.mono hbA.size))).kept hm2 _ (kT.below hb1 kT.lt).lt (.inr l10));have p2:=kT2.cell 1 _ rfl;have p4:=hw2.x4.cell 1 _ rfl)
      | (go_at_call 38;refine (hfns hw2).mono ?_;rintro en w3 ⟨rfl,hw3,hm3⟩;have kT3:=kT2.kept (hw2.kept hm3 _ kT2.lt (.inr l10)))
      | (go_at_call 39;refine (hld1 hw3).mono ?_;rintro en w4 ⟨rfl,hb4⟩;have hw4:=hw3.below hb4;have kT4:=kT3.below hb4 kT3.lt;have x10:=hw4.x10)
      | go_in)
    unfold zfP at x10;rw [hnb.out] at x10;have x0:=x10.cell 0 _ rfl;have x1:=x10.cell 1 _ rfl;have x2:=x10.cell 2 _ rfl;have x3:=x10.cell 3 _ rfl;have x4:=x10.cell 4 _ rfl;have x10d:=x10.kept (w':=w4.drew) rfl;have hw4d:=hw4.below (Below.refl w4.heap.size w4).drew;have kT4d:=kT4.kept (w':=w4.drew) rfl;have y0:=x10d.cell 0 _ rfl;have y1:=x10d.cell 1 _ rfl;have y2:=x10d.cell 2 _ rfl;have y3:=x10d.cell 3 _ rfl;have y4:=x10d.cell 4 _ rfl
    try clear h1'
    clear hks hof hfns hld1 hw kT hbA hu hb1 hw2 hm2 kT2 p2 p4 hm3 hw3 kT3 hb4 hw4 kT4 pT;go_region_held3 (fun w'=>w'.cell? ⟨d.X10,0,none⟩=some (.bool false)∧w'.cell? ⟨d.X10,1,none⟩=some (.int .i64 n)∧w'.cell? ⟨d.X10,2,none⟩=some (.int .u64 r.d)∧w'.cell? ⟨d.X10,3,none⟩=some (.int .u64 r.v)∧w'.cell? ⟨d.X10,4,none⟩=some (.int .u64 r.c)) (go_keep)
      ((first
        | (go_at_call 21;refine (hwh _).mono ?_;rintro en w5 ⟨rfl,hb5⟩;have x105:=x10d.below hb5 x10d.lt;have z0:=x105.cell 0 _ rfl;have z1:=x105.cell 1 _ rfl;have z2:=x105.cell 2 _ rfl;have z3:=x105.cell 3 _ rfl;have z4:=x105.cell 4 _ rfl)))
    have hw5:=hw4d.below hb5;have kT5:=kT4d.below hb5 kT4d.lt;clear x0 x1 x2 x3 x4 y0 y1 y2 y3 y4 z0 z1 z2 z3 z4 x10 x10d x105 hw4d kT4d hb5;go_wp2_with (first
      | (go_at_call 39;refine (hld2 hw5).mono ?_;rintro en w6 ⟨rfl,hb6⟩;have hw6:=hw5.below hb6;have kT6:=kT5.below hb6 kT5.lt)
      | (go_at_call 10;refine (hnew w6.heap.size _ (Cl.new2 rfl)).mono ?_;rintro en w7 ⟨P2,L2,Bs2,B2,rfl,hg2,hb7,hP2,hL2,hBs2,hB2⟩;have hb67:=((Below.refl w6.heap.size w6).alloc (Nat.le_refl _) _).trans (hb7.mono (by simp));have hw7:=hw6.below hb67;have lB2:w6.heap.size≤B2:=(by simp at hB2;omega))
      | (go_at_call 35;refine (himg hw7).mono ?_;rintro en w8 ⟨G,cG,rfl,hG,hGl,hb8⟩;have hw8:=hw7.below hb8;have hb68:=hb67.trans (hb8.mono hb67.size);have hg28:=hg2.below hb8)
      | (go_at_call 40;refine (hwrt hg28 (hbx hw8.dr.f.mem.byte) hG hGl).mono ?_;rintro en w9 ⟨rfl,hg9,hm9⟩;have hb69:=hb68.trans (hm9.below (base:=w6.heap.size) (fun k hk=>by rw [hk];exact lB2) hb68.size);have hw9:=hw6.below hb69;have kT9:=kT6.below hb69 kT6.lt;have x10:=hw9.x10;unfold zfP at x10;rw [hnb.out] at x10;have x0:=x10.cell 0 _ rfl;have x1:=x10.cell 1 _ rfl;have x2:=x10.cell 2 _ rfl;have x3:=x10.cell 3 _ rfl;have x4:=x10.cell 4 _ rfl;have q4:=hw9.x4.cell 1 _ rfl)
      | (go_at_call 41;refine (hspl hg9).mono ?_;rintro en w10 ⟨v,rfl,hv,hb10⟩;obtain ⟨sv,cv,hve,hj8⟩:=hv.slice;clear hj8;subst hve;have hwR:=hw9.below hb10;have kTR:=kT9.below hb10 kT9.lt;have tR:=kTR.cell 1 _ rfl;clear hld2 hw5 kT5 hb6 hw6 kT6 hnew himg hwrt hspl hg2 hb7 hP2 hL2 hBs2 hB2 hb67 hw7 lB2 hG hGl hb8 hw8 hb68 hg28 hg9 hm9 hb69 hw9 kT9 x10 x0 x1 x2 x3 x4 q4)
      | (go_at_call 42;refine (hssg hwR.old hv).mono ?_;rintro en w11 ⟨rfl,hb11⟩;have hw11:=hwR.below hb11;clear hwR kTR tR)
      | (go_at_call 30;refine (hsp hw11).mono ?_;rintro en w12 ⟨rfl,hw12⟩;have hw12:=hw12.symm;subst hw12;obtain ⟨tA,hrow⟩:=hw11.row;have hbN:=(Below.refl w11.heap.size w11).alloc (Nat.le_refl _) (Obj.cells #[.int .i64 hd,.int .i64 tk,.int .i64 1] 95);have hrowN:=OwnR.kept hrow fun b e=>hbN.block b (OwnR.lt hrow b e).2;have kN:=Cl.new w11 #[.int .i64 hd,.int .i64 tk,.int .i64 1] 95;have hX10:d.X10+1≤w11.heap.size:=hw11.x10.lt)
      | (at_builtin;go_loud (refine zfw rfl _ _ 93 rfl (d.X10+1) 95 tA i0 _ 3 24 hU hi0 j1 j2 j3 rfl (by decide) (.slice sov s.L.length cov) s.L.length (zak (outM s.L)) rfl hrowN ⟨w11.heap.size,0,none⟩ 1 1 [.int .i64 hd,.int .i64 tk,.int .i64 1] rfl rfl (fun j u hu=>by rw [Dw.addr_add,Nat.zero_add];exact kN.cell j u hu) (fun u hu=>by simp only [List.mem_cons,List.not_mem_nil,or_false] at hu;rcases hu with rfl|rfl|rfl<;>rfl) (by unfold maxLen;omega) (by omega) (Nat.le_trans hX10 hbN.size) ?_);intro v' wa t' n1 n3 n4;go_frame)
      | go_in)
    have hg:=n3.size;have hwF:=hw11.setO (M':=s.L++ [eo]) ⟨n3.os,n3.tape,n3.output,by simp at hg ⊢;omega,fun b hb hn=>(n3.block b (by simp at hb ⊢;omega) fun e=>hn e.symm).trans (hbN.block b hb)⟩ (by
      rw [List.length_append,zgn,zbD,show zak (outM [eo])= [.int .i64 hd,.int .i64 tk,.int .i64 1] from heo.out];exact n1) (fun b e=>by
        rcases n4 with q|q
        · rw [q] at e;exact .inl e
        · rw [q] at e;simp at e;first|omega|(simp;omega))
    obtain ⟨⟨m5,m6,m7⟩,hS⟩:=hM3.out;rw [←m6] at hwF;obtain ⟨sa9,ca9,hve9,hj9⟩:=OwnR.row n1;refine ⟨rfl,s3,g3,v',tk+1,⟨rfl,rfl,rfl,rfl,rfl,rfl,rfl,rfl,rfl,rfl,congrArg (Value.int .u16) m7.symm,rfl,congrArg (Value.int .i64) m5.symm,rfl⟩,hwF,hS⟩
  · refine zaK (c':=(zad 0 (zad 0 (zad 1 (zad 0 (zad 1 (zad 1 (zad 1 (zad 1 (zad 1 (zad 1 (zad 1 (zad 1 (zad 1 (zad 1 (zad 1 (match (f4).body with|some c=>c|none=> .skip))))))))))))))))) (by kernel_rfl) ?_
    dsimp only [f4,zad]
    go_wp2_with (first
      | (go_at_call 14;refine hks.mono ?_;rintro en w1 ⟨u,rfl,hu,hb1⟩)
      | (go_at_call 13;refine (hof hb1 hu).mono ?_;rintro en w2 ⟨rfl,hw2,hm2⟩;have kT2:=(kT.below hb1 kT.lt).kept ((hw.below (hbA.trans (hb1.mono hbA.size))).kept hm2 _ (kT.below hb1 kT.lt).lt (.inr l10));have p2:=kT2.cell 1 _ rfl;have p4:=hw2.x4.cell 1 _ rfl)
      | (go_at_call 38;refine (hfns hw2).mono ?_;rintro en w3 ⟨rfl,hw3,hm3⟩;have kT3:=kT2.kept (hw2.kept hm3 _ kT2.lt (.inr l10)))
      | (go_at_call 39;refine (hld1 hw3).mono ?_;rintro en w4 ⟨rfl,hb4⟩;have hw4:=hw3.below hb4;have kT4:=kT3.below hb4 kT3.lt;have x10:=hw4.x10)
      | go_in)
    unfold zfP at x10;rw [hnb.out] at x10;have x0:=x10.cell 0 _ rfl;have x1:=x10.cell 1 _ rfl;have x2:=x10.cell 2 _ rfl;have x3:=x10.cell 3 _ rfl;have x4:=x10.cell 4 _ rfl;have x10d:=x10.kept (w':=w4.drew) rfl;have hw4d:=hw4.below (Below.refl w4.heap.size w4).drew;have kT4d:=kT4.kept (w':=w4.drew) rfl;have y0:=x10d.cell 0 _ rfl;have y1:=x10d.cell 1 _ rfl;have y2:=x10d.cell 2 _ rfl;have y3:=x10d.cell 3 _ rfl;have y4:=x10d.cell 4 _ rfl
    try clear h1'
    clear hks hof hfns hld1 hw kT hbA hu hb1 hw2 hm2 kT2 p2 p4 hm3 hw3 kT3 hb4 hw4 kT4 pT;go_region_held3 (fun w'=>w'.cell? ⟨d.X10,0,none⟩=some (.bool false)∧w'.cell? ⟨d.X10,1,none⟩=some (.int .i64 n)∧w'.cell? ⟨d.X10,2,none⟩=some (.int .u64 r.d)∧w'.cell? ⟨d.X10,3,none⟩=some (.int .u64 r.v)∧w'.cell? ⟨d.X10,4,none⟩=some (.int .u64 r.c)) (go_keep)
      ((first
        | (go_at_call 21;refine (hwh _).mono ?_;rintro en w5 ⟨rfl,hb5⟩;have x105:=x10d.below hb5 x10d.lt;have z0:=x105.cell 0 _ rfl;have z1:=x105.cell 1 _ rfl;have z2:=x105.cell 2 _ rfl;have z3:=x105.cell 3 _ rfl;have z4:=x105.cell 4 _ rfl)))
    have hw5:=hw4d.below hb5;have kT5:=kT4d.below hb5 kT4d.lt;clear x0 x1 x2 x3 x4 y0 y1 y2 y3 y4 z0 z1 z2 z3 z4 x10 x10d x105 hw4d kT4d hb5;go_wp2_with (first
      | (go_at_call 39;refine (hld2 hw5).mono ?_;rintro en w6 ⟨rfl,hb6⟩;have hw6:=hw5.below hb6;have kT6:=kT5.below hb6 kT5.lt)
      | (go_at_call 10;refine (hnew w6.heap.size _ (Cl.new2 rfl)).mono ?_;rintro en w7 ⟨P2,L2,Bs2,B2,rfl,hg2,hb7,hP2,hL2,hBs2,hB2⟩;have hb67:=((Below.refl w6.heap.size w6).alloc (Nat.le_refl _) _).trans (hb7.mono (by simp));have hw7:=hw6.below hb67;have lB2:w6.heap.size≤B2:=(by simp at hB2;omega))
      | (go_at_call 35;refine (himg hw7).mono ?_;rintro en w8 ⟨G,cG,rfl,hG,hGl,hb8⟩;have hw8:=hw7.below hb8;have hb68:=hb67.trans (hb8.mono hb67.size);have hg28:=hg2.below hb8)
      | (go_at_call 40;refine (hwrt hg28 (hbx hw8.dr.f.mem.byte) hG hGl).mono ?_;rintro en w9 ⟨rfl,hg9,hm9⟩;have hb69:=hb68.trans (hm9.below (base:=w6.heap.size) (fun k hk=>by rw [hk];exact lB2) hb68.size);have hw9:=hw6.below hb69;have kT9:=kT6.below hb69 kT6.lt;have x10:=hw9.x10;unfold zfP at x10;rw [hnb.out] at x10;have x0:=x10.cell 0 _ rfl;have x1:=x10.cell 1 _ rfl;have x2:=x10.cell 2 _ rfl;have x3:=x10.cell 3 _ rfl;have x4:=x10.cell 4 _ rfl;have q4:=hw9.x4.cell 1 _ rfl)
      | (go_at_call 41;refine (hspl hg9).mono ?_;rintro en w10 ⟨v,rfl,hv,hb10⟩;obtain ⟨sv,cv,hve,hj8⟩:=hv.slice;clear hj8;subst hve;have hwR:=hw9.below hb10;have kTR:=kT9.below hb10 kT9.lt;have tR:=kTR.cell 1 _ rfl;clear hld2 hw5 kT5 hb6 hw6 kT6 hnew himg hwrt hspl hg2 hb7 hP2 hL2 hBs2 hB2 hb67 hw7 lB2 hG hGl hb8 hw8 hb68 hg28 hg9 hm9 hb69 hw9 kT9 x10 x0 x1 x2 x3 x4 q4)
      | (go_at_call 42;refine (hssg hwR.old hv).mono ?_;rintro en w11 ⟨rfl,hb11⟩;have hw11:=hwR.below hb11;clear hwR kTR tR)
      | (go_at_call 30;refine (hsp hw11).mono ?_;rintro en w12 ⟨rfl,hw12⟩;have hw12:=hw12.symm;subst hw12;obtain ⟨tA,hrow⟩:=hw11.row;have hbN:=(Below.refl w11.heap.size w11).alloc (Nat.le_refl _) (Obj.cells #[.int .i64 hd,.int .i64 tk,.int .i64 c.sl.length] 95);have hrowN:=OwnR.kept hrow fun b e=>hbN.block b (OwnR.lt hrow b e).2;have kN:=Cl.new w11 #[.int .i64 hd,.int .i64 tk,.int .i64 c.sl.length] 95;have hX10:d.X10+1≤w11.heap.size:=hw11.x10.lt)
      | (at_builtin;go_loud (refine zfw rfl _ _ 93 rfl (d.X10+1) 95 tA i0 _ 3 24 hU hi0 j1 j2 j3 rfl (by decide) (.slice sov s.L.length cov) s.L.length (zak (outM s.L)) rfl hrowN ⟨w11.heap.size,0,none⟩ 1 1 [.int .i64 hd,.int .i64 tk,.int .i64 c.sl.length] rfl rfl (fun j u hu=>by rw [Dw.addr_add,Nat.zero_add];exact kN.cell j u hu) (fun u hu=>by simp only [List.mem_cons,List.not_mem_nil,or_false] at hu;rcases hu with rfl|rfl|rfl<;>rfl) (by unfold maxLen;omega) (by omega) (Nat.le_trans hX10 hbN.size) ?_);intro v' wa t' n1 n3 n4;go_frame)
      | go_in)
    have hg:=n3.size;have hwF:=hw11.setO (M':=s.L++ [eo]) ⟨n3.os,n3.tape,n3.output,by simp at hg ⊢;omega,fun b hb hn=>(n3.block b (by simp at hb ⊢;omega) fun e=>hn e.symm).trans (hbN.block b hb)⟩ (by
      rw [List.length_append,zgn,zbD,show zak (outM [eo])= [.int .i64 hd,.int .i64 tk,.int .i64 c.sl.length] from heo.out];exact n1) (fun b e=>by
        rcases n4 with q|q
        · rw [q] at e;exact .inl e
        · rw [q] at e;simp at e;first|omega|(simp;omega))
    obtain ⟨⟨m5,m6,m7⟩,hS⟩:=hM3.out;rw [←m6] at hwF;obtain ⟨sa9,ca9,hve9,hj9⟩:=OwnR.row n1;refine ⟨rfl,s3,g3,v',tk+1,⟨rfl,rfl,rfl,rfl,rfl,rfl,rfl,rfl,rfl,rfl,congrArg (Value.int .u16) m7.symm,rfl,congrArg (Value.int .i64) m5.symm,rfl⟩,hwF,hS⟩
set_option maxRecDepth 100000 in
theorem Tryz.ztk {W0 w:World} {n:Nat} {ev tb:Bool} {d:Hs} {r:Rg} {aa:Option Addr} {ca:Nat} {acts:List Tn} {j:Nat} {a:Act} (hI:HsI W0 n ev tb d r (.slice aa acts.length ca) j a w) (hA:TnsV W0 (.slice aa acts.length ca) acts) (hj:j≤acts.length) (h60:acts.length≤60∧ ∀x∈acts,x.sl.length≤100) (hrk:SgOk r) (hrn:EqI r.n n):
  (zbf prog [0,0,1,0,1,1,1,1,1,1,1,1,1,1,1,4]).wp prog (fun ex a' w'=>match ex with| .normal=>HsI W0 n ev tb d r (.slice aa acts.length ca) (j+1) a' w'∧j<acts.length| .exit i=>i=2∧HsI W0 n ev tb d r (.slice aa acts.length ca) j a' w'|_=>False) a w:=by
 obtain ⟨hdf,s,g,ov,tk,hf,hw,hs⟩:=hI;obtain ⟨tm,ds⟩:=a;have hdf:ds= []:=hdf;subst hdf;have go: ∀ {c:Code} {Q:Exit→Act→World→Prop},j<acts.length→c.wp prog (zoa W0 n ev tb d r (.slice aa acts.length ca) j) ⟨tm,[]⟩ w→c.wp prog (fun ex a' w'=>match ex with| .normal=>HsI W0 n ev tb d r (.slice aa acts.length ca) (j+1) a' w'∧j<acts.length| .exit i=>i=2∧HsI W0 n ev tb d r (.slice aa acts.length ca) j a' w'|_=>False) ⟨tm,[]⟩ w:=fun {c Q} hj h=>wp_mono h fun ex a' w' hh=>by
  cases ex with
  | normal=>exact ⟨hh,hj⟩
  | _=>exact hh.elim
 by_cases hjl:j<acts.length
 ·cases hbk:acts[j].bk with
  | true=>exact go (Q:=fun _ _ _=>True) hjl (zvG hf hw hs hA hjl h60.1 hbk hrk hrn)
  | false=>
   have h100:=h60.2 acts[j] (List.getElem_mem hjl);by_cases hy:(zbG 60000 s tk acts[j].sl).1=0
   ·exact go (Q:=fun _ _ _=>True) hjl (zw1 hf hw hs hA hjl h60.1 hbk h100 hrk hrn hy)
   ·exact go (Q:=fun _ _ _=>True) hjl (zxq hf hw hs hA hjl h60.1 hbk h100 hy)
 ·have hjl': ¬(j:Int)<acts.length:=by omega
  clear go;obtain ⟨jf,hjf⟩:=zhj (t:=tm) hf.sz hf.t0 hf.t2 hf.t4 hf.t8 hf.t9 hf.t10 hf.t12 hf.t15 hf.t18 hf.t19 hf.t20 hf.t21 hf.t22;rw [hjf];clear hjf hf;refine zaK (c':=(zad 0 (zad 0 (zad 1 (zad 0 (zad 1 (zad 1 (zad 1 (zad 1 (zad 1 (zad 1 (zad 1 (zad 1 (zad 1 (zad 1 (zad 1 (match (f4).body with|some c=>c|none=> .skip))))))))))))))))) (by kernel_rfl) ?_
  dsimp only [f4,zad]
  go_wp2_with fail;exact ⟨rfl,s,g,ov,tk,⟨rfl,rfl,rfl,rfl,rfl,rfl,rfl,rfl,rfl,rfl,rfl,rfl,rfl,rfl⟩,hw,hs⟩
set_option maxRecDepth 100000 in
theorem Tryz.sholds_walk (hlives: ∀w,Calls prog 5 #[] w fun e w'=>e= .returned (.bool true)∧Below w.heap.size w w') {w:World} {av:Value} {acts:List Tn} (hA:TnsV w av acts) (size:Int) (ev tb pk:Bool):
    Calls prog 4 #[.int .i64 size,.agg #[.bool ev,.bool tb,.bool pk],av] w fun e w'=>e= .returned (.bool true)∧Below w.heap.size w w':=by
  obtain ⟨aa,ca,hav,hacts⟩:=hA.val;obtain ⟨k,hk1,hk2⟩: ∃k:Nat,size%5=k∧k<5:=by
    have h0:0≤size%5:=Int.emod_nonneg _ (by decide);have h1:size%5<5:=Int.emod_lt_of_pos _ (by decide);exact ⟨(size%5).toNat,by omega,by omega⟩
  obtain ⟨n,hn,hwk,hwk2⟩: ∃n:Nat,(n=1∨n=2∨n=4∨n=8∨n=16)∧IntKind.wrap .i64 ((2:Int)^k)=n∧IntKind.wrap .u64 (k:Int)=k:=by
    have hk:k=0∨k=1∨k=2∨k=3∨k=4:=by omega
    rcases hk with rfl|rfl|rfl|rfl|rfl
    · exact ⟨1,by decide,by decide,by decide⟩
    · exact ⟨2,by decide,by decide,by decide⟩
    · exact ⟨4,by decide,by decide,by decide⟩
    · exact ⟨8,by decide,by decide,by decide⟩
    · exact ⟨16,by decide,by decide,by decide⟩
  have hrk:=zhR hn;have hst: ∀w:World,Calls prog 37 #[.int .i64 n,.agg #[.bool ev,.bool tb,.bool false]] w fun e w'=> ∃S P L Bs B M,e= .returned (.tuple #[.pointer (some ⟨P,0,none⟩),.pointer (some ⟨S,0,none⟩),.agg #[.bool false,.int .i64 (zaw n).n,.int .u64 (zaw n).d,.int .u64 (zaw n).v,.int .u64 (zaw n).c],.bool true])∧
      SDW (sdK S M B) w' S P L Bs B M 60000 (zaw n) (SD.fresh ev tb (zaw n).n.toNat) (fun _=>0)∧Below w.heap.size w w'∧(w.heap.size≤S∧w.heap.size≤M∧w.heap.size≤B∧w.heap.size≤P∧w.heap.size≤L∧w.heap.size≤Bs):=fun w=>zhQ hn ev tb w
  obtain ⟨r,hr⟩: ∃r,r=zaw n:=⟨_,rfl⟩;rw [←hr] at hrk hst;have hrn:EqI r.n n:=⟨by rw [hr];rfl⟩;clear hr;have hw3:=fun w=>zsC r hrk.ok w;have hw7:=fun w=>zsw r hrk.ok w;unfold Rg.val at hw3 hw7;subst hav;by_cases h60:acts.length≤60
  · have h60': ¬(acts.length:Int)>60:=by omega
    go_enter func4,ntmps4;go_wp2_with (first
      | (go_at_call 5;refine (hlives _).mono ?_;rintro e w1 ⟨rfl,hb1⟩;have ka:=(Cl.new w _ _).below hb1 (by simp))
      | go_in)
    have hbl:Below w.heap.size w w1:=(Below.alloc (Below.refl w.heap.size w) (Nat.le_refl _) (Obj.cells #[Value.bool ev,Value.bool tb,Value.bool pk] 23)).trans (hb1.mono (by simp));have hkw:=ka.lt;go_loopw [7] (fun i wr=>wr=w1∧ ∃q:Nat,q≤acts.length∧i= .int .i64 q∧ ∀(z:Nat) (hz:z<acts.length),z<q→acts[z].sl.length≤100) (fun i _=>acts.length-(RowKit.intOf i).toNat)
    case atStart=>exact ⟨rfl,0,Nat.zero_le _,rfl,fun z hz h=>absurd h (by omega)⟩
    case round=>
      obtain ⟨rfl,q,hq,rfl,hall⟩:=hrel;by_cases hql:q<acts.length
      · have hql':(q:Int)<acts.length:=by omega
        obtain ⟨R,o,hra,hrow⟩: ∃R o,aa=some ⟨R,o,none⟩∧ ∀(i:Nat) (hi:i<acts.length),w.rangeAt R (o+4*i) acts[i].cells:=by
          rcases hacts with q|⟨R,o,q1,q2⟩
          · rw [q] at hql;simp at hql
          · exact ⟨R,o,q1,q2⟩
        have hcw:=hrow q hql;have hRl:R<w.heap.size:=World.block_lt_of_cell? w _ (hcw 0 _ rfl);have hcr:=zae hcw (hbl.block R hRl);obtain ⟨sa,cs,hsv,hsok,hsr⟩:=(hA.ok acts[q] (List.getElem_mem hql)).sv;have hnext:acts[q].sl.length≤100→ ∀(z:Nat) (hz:z<acts.length),z<q+1→acts[z].sl.length≤100:=fun h z hz hz2=>by
          by_cases e:z=q
          · subst e;exact h
          · exact hall z hz (by omega)
        obtain ⟨c,hc⟩: ∃c,c=acts[q]:=⟨_,rfl⟩;rw [←hc] at hcr hsv hsok hsr hnext;rw [Nat.mul_comm 4 q] at hcr;have a1:=hcr 1 _ rfl;rw [hsv] at a1;clear hc hcr hcw hrow hsr hsv hall hacts hA;subst hra;by_cases h1:c.sl.length≤100
        · have h1': ¬(c.sl.length:Int)>100:=by omega
          have hnx:=hnext h1;clear hnext;go_wp2_with fail;exact ⟨⟨trivial,q+1,by omega,by push_cast;rfl,hnx⟩,by simp only [RowKit.intOf];omega⟩
        · have h1':(c.sl.length:Int)>100:=by omega
          clear hnext;go_wp2_with fail;exact zc2 (fn:=f4) (Post:=fun e w'=>e= .returned (.bool true)∧RowKit.Below w.heap.size w w') rfl rfl rfl ⟨rfl,hbl⟩
      · have hql': ¬(q:Int)<acts.length:=by omega
        have h100: ∀x∈acts,x.sl.length≤100:=fun x hx=>by
          obtain ⟨z,hz,rfl⟩:=List.mem_iff_getElem.1 hx;exact hall z hz (by omega)
        have hH:=HidP.mk (And.intro h60 h100);clear hall hacts h60 h100;have b0:=ka.cell 0 _ rfl;have b1:=ka.cell 1 _ rfl;have b2:=ka.cell 2 _ rfl;have f2:=ka.free 2;have hl1:=ka.lt;have kb:=ka.set 2 (.bool false) (by simp);have hmb:Dw.Mv (· =w.heap.size) wr (wr.setCell ⟨w.heap.size,2,none⟩ (.bool false)):=zaH (zaa (Below.refl _ _)) _ 2 _ rfl;have hbl2:Below w.heap.size w (wr.setCell ⟨w.heap.size,2,none⟩ (.bool false)):=zbM hbl hmb (Nat.le_refl _);have c0:=kb.cell 0 _ rfl;have c1:=kb.cell 1 _ rfl;have c2:=kb.cell 2 _ rfl;go_wp2_with (first
          | (go_at_call 7;refine (zni size 5 (by decide) _).mono ?_;rintro e w3 ⟨rfl,rfl⟩;rw [hk1])
          | (go_at_call 37;generalize w3.setCell ⟨w.heap.size,2,none⟩ (.bool false)=wb at*;refine (hst _).mono ?_;rintro e w4 ⟨S,P,L,Bs,B,M,rfl,hD,hb4,hlo⟩)
          | (go_at_call 21;have hz:=hb5;refine (hw7 _).mono ?_;rintro e w6 ⟨rfl,hb6⟩)
          | (go_at_call 21;refine (hw3 _).mono ?_;rintro e w5 ⟨rfl,hb5⟩;have kX5:=(Cl.new w4 #[.bool false,.int .i64 r.n,.int .u64 r.d,.int .u64 r.v,.int .u64 r.c] 31).below hb5 (by simp);have xx0:=kX5.cell 0 _ rfl;have xx1:=kX5.cell 1 _ rfl;have xx2:=kX5.cell 2 _ rfl;have xx3:=kX5.cell 3 _ rfl;have xx4:=kX5.cell 4 _ rfl)
          | go_in)
        rename_i K hK;have hkb:=kb.lt;have h4b:=hb4.size;have hb45:=((Below.refl w4.heap.size w4).alloc (Nat.le_refl _) (Obj.cells #[.bool false,.int .i64 r.n,.int .u64 r.d,.int .u64 r.v,.int .u64 r.c] 31)).trans (hb5.mono (by simp));have hb46:=hb45.trans (hb6.mono hb45.size);have hbb6:=hb4.trans (hb46.mono hb4.size);have kX:=kX5.below hb6 kX5.lt;have hmono:=hD.f.mvNe;obtain ⟨lo1,lo2,lo3,lo4,lo5,lo6⟩:=hlo;obtain ⟨d,hd⟩: ∃d:Hs,d=⟨w.heap.size,S,P,L,Bs,B,M,w4.heap.size⟩:=⟨_,rfl⟩;have hok:d.ok w.heap.size:=by
          rw [hd];exact ⟨wb.heap.size,w4.heap.size,Nat.le_refl _,hkb,⟨lo1,lo4,lo5,lo6,lo3,lo2⟩,⟨hmono.1,hmono.2.2.1,hmono.2.2.2.1,hmono.2.2.2.2.1,hmono.2.2.2.2.2,hmono.2.1⟩,Nat.le_refl _⟩
        have hW:HsW w ev tb d r w6 (SD.fresh ev tb r.n.toNat) (fun _=>0) (.slice none 0 0) (SD.fresh ev tb r.n.toNat).L:=by
          subst hd;refine ⟨⟨hD.f.keepA (A':=hsA ⟨w.heap.size,S,P,L,Bs,B,M,w4.heap.size⟩ (.slice none 0 0)) (fun b hb q=> ?_) (.inl (.inl rfl)) (.inl (.inr (.inl rfl))) (.inl (.inr (.inr rfl))) (fun b q=> ?_) (fun b hb _=>hb46.block b hb) hb46.size,hD.pb⟩,kb.below hbb6 kb.lt,kX,⟨95,OwnR.nil _ _ _ _⟩,hbl2.trans (hbb6.mono hbl2.size),hok⟩
          · rcases q with q|q
            · exact q
            · cases q
          · rcases q with q|q
            · exact Nat.lt_of_lt_of_le (hD.f.lt b q) hb46.size
            · cases q
        have hfl:HidP (((SD.fresh ev tb r.n.toNat).F.length:Int)=n):=⟨by
          have:=hrn.eq;show ((((List.range r.n.toNat).map fun (i:Nat)=>(i:Int)).length:Nat):Int)=n;rw [List.length_map,List.length_range];omega⟩
        clear kX hb45 hb46 hbb6 h4b hkb lo1 lo2 lo3 lo4 lo5 lo6 hmono hD hb4 hb5 hz hb6 hst hw3 hw7 hok hlives ka kb c0 c1 c2 xx0 xx1 xx2 xx3 xx4 kX5 hn hwk hwk2 hmb f2 hl1 b0 b1 b2 hbl2;have hA':TnsV w (.slice aa acts.length ca) acts:=hA;have hS0:HsS (SD.fresh ev tb r.n.toNat) tb 0 0:=⟨rfl,rfl,rfl,SDI.fresh ev tb r.n.toNat,fun e he=>(by cases he),⟨Int.le_refl _,by decide⟩,by show (0:Int)=0%65536;decide⟩;refine zaK (c':= .loop (zbf prog [0,0,1,0,1,1,1,1,1,1,1,1,1,1,1,4])) (by kernel_rfl) ?_;refine zg7 (fun (j:Nat) a' w'=>j≤acts.length∧HsI w n ev tb d r (.slice aa acts.length ca) j a' w') (fun j=>acts.length-j) (fun j a1 w1 hI=> ?_) 0 _ _ ⟨Nat.zero_le _,rfl,_,_,_,0,(by subst hd;exact ⟨rfl,rfl,rfl,rfl,rfl,rfl,rfl,rfl,rfl,rfl,rfl,rfl,congrArg (Value.int .i64) hfl.out.symm,rfl⟩),hW,hS0⟩;refine wp_mono (ztk hI.2 hA' hI.1 hH.out hrk hrn) fun ex a2 w2 hh=> ?_;clear hW hI;cases ex with
        | normal=>exact ⟨j+1,by have:=hh.2;omega,by have:=hh.2;omega,hh.1⟩
        | exit i=>
          obtain ⟨rfl,hR⟩:=hh;show K a2 w2;refine hK _ _ ?_;clear hK;obtain ⟨hdf,s,g,ov,tk,hf,hw2,hs⟩:=hR;obtain ⟨tm,ds⟩:=a2;have hdf:ds= []:=hdf;subst hdf;obtain ⟨jf,hjf⟩:=zhj (t:=tm) hf.sz hf.t0 hf.t2 hf.t4 hf.t8 hf.t9 hf.t10 hf.t12 hf.t15 hf.t18 hf.t19 hf.t20 hf.t21 hf.t22;rw [hjf];clear hjf hf hd hA hA' hH hkw hbl hfl;obtain ⟨t12,hO⟩:=hw2.row;obtain ⟨sov,cov,hov,_⟩:=OwnR.row hO;subst hov;have hout:=zqx hw2.dr;have hlen:s.outs.length=s.L.length:=by unfold SD.outs;rw [List.length_mergeSort,List.length_map]
          rw [hlen] at hout;have herr:=fun {w':World} (q:HsW w ev tb d r w' s g (.slice sov s.L.length cov) s.L)=>(by
            have q1:=zkQ q.dr;rw [hs.br] at q1;exact q1:Calls prog 33 #[.pointer (some ⟨d.S,0,none⟩)] w' fun e w9=>e= .returned (.int .i64 0)∧w9=w')
          clear hlen hO;go_wp2_with (first
            | (go_at_call 28;refine hout.mono ?_;rintro en w3 ⟨v,rfl,hv,hb3⟩;obtain ⟨sv,cv,hve,hj3⟩:=OwnR.row hv;clear hj3;subst hve;have hw3:=hw2.below hb3)
            | (go_at_call 33;refine (herr hw3).mono ?_;rintro en w4 ⟨rfl,hw4⟩;have hw4:=hw4.symm;subst hw4)
            | go_in)
          exact zc2 (fn:=f4) (Post:=fun e w'=>e= .returned (.bool true)∧RowKit.Below w.heap.size w w') rfl rfl rfl ⟨rfl,hw3.old⟩
        | _=>exact hh.elim
  · have h60':(acts.length:Int)>60:=by omega
    go_enter func4,ntmps4;go_wp2_with (first
      | (go_at_call 5;refine (hlives _).mono ?_;rintro e w1 ⟨rfl,hb1⟩;have ka:=(Cl.new w _ _).below hb1 (by simp))
      | go_in)
    have hbl:=(Below.alloc (Below.refl w.heap.size w) (Nat.le_refl _) (Obj.cells #[Value.bool ev,Value.bool tb,Value.bool pk] 23)).trans (hb1.mono (by simp));exact zc2 (fn:=f4) (Post:=fun e w'=>e= .returned (.bool true)∧RowKit.Below w.heap.size w w') rfl rfl rfl ⟨rfl,hbl⟩
def Tryz.twoL:List Sg:= [⟨50,8,false⟩,⟨100,4,true⟩]
def Tryz.lvQ:Nat→SD×(Nat→Int)
 | 0=>((zbG 60000 (SD.fresh false false (zaw 4).n.toNat) 7 twoL).2,fun _=>0)
 | i+1=>((zay (zaw 4) (lvQ i).1 (lvQ i).2).2.2.1,(zay (zaw 4) (lvQ i).1 (lvQ i).2).2.2.2)
theorem Tryz.zwV:(zbG 60000 (SD.fresh false false (zaw 4).n.toNat) 7 twoL).1=0:=by kernel_rfl
theorem Tryz.zxm:((zay (zaw 4) (lvQ 0).1 (lvQ 0).2).1,(zay (zaw 4) (lvQ 0).1 (lvQ 0).2).2.1)=(Value.agg #[.int .i64 1,.int .i64 0,.int .i64 0],(0:Int)):=by kernel_rfl
theorem Tryz.zxl:((zay (zaw 4) (lvQ 1).1 (lvQ 1).2).1,(zay (zaw 4) (lvQ 1).1 (lvQ 1).2).2.1)=(Value.agg #[.int .i64 3,.int .i64 4,.int .i64 0],(0:Int)):=by kernel_rfl
theorem Tryz.zxk:((zay (zaw 4) (lvQ 2).1 (lvQ 2).2).1,(zay (zaw 4) (lvQ 2).1 (lvQ 2).2).2.1)=(Value.agg #[.int .i64 4,.int .i64 0,.int .i64 0],(0:Int)):=by kernel_rfl
theorem Tryz.zxj:((zay (zaw 4) (lvQ 3).1 (lvQ 3).2).1,(zay (zaw 4) (lvQ 3).1 (lvQ 3).2).2.1)=(Value.agg #[.int .i64 3,.int .i64 3,.int .i64 0],(0:Int)):=by kernel_rfl
theorem Tryz.zxi:((zay (zaw 4) (lvQ 4).1 (lvQ 4).2).1,(zay (zaw 4) (lvQ 4).1 (lvQ 4).2).2.1)=(Value.agg #[.int .i64 4,.int .i64 0,.int .i64 0],(0:Int)):=by kernel_rfl
theorem Tryz.zxh:((zay (zaw 4) (lvQ 5).1 (lvQ 5).2).1,(zay (zaw 4) (lvQ 5).1 (lvQ 5).2).2.1)=(Value.agg #[.int .i64 2,.int .i64 6,.int .i64 0],(0:Int)):=by kernel_rfl
theorem Tryz.zt2:((lvQ 6).1.out,(lvQ 6).1.has)=(Value.agg #[.int .i64 1,.bool false,.int .i64 7,.int .u32 0,.bool true],true):=by kernel_rfl
def Tryz.lvZ:Int×SD×(Nat→Int):=zdL (zaw 4) 20 0 (za9 (lvQ 6).1).2 (lvQ 6).2
theorem Tryz.zt1:((za9 (lvQ 6).1).1,lvZ.1)=((0:Int),(1:Int)):=by kernel_rfl
theorem Tryz.zt3:(lvZ.2.1.out,lvZ.2.1.has)=(Value.agg #[.int .i64 2,.bool true,.int .i64 0,.int .u32 0,.bool false],true):=by kernel_rfl
theorem Tryz.zvz: ∀i,SDI (lvQ i).1
 | 0=>(SDI.fresh false false _).off
 | i+1=>(zvz i).step
set_option maxRecDepth 100000 in
theorem Tryz.zuJ (w:World):Calls prog 43 #[] w fun e w'=> ∃G,e= .returned (.slice (some ⟨G,0,none⟩) 2 2)∧w.heap.size≤G∧w'.rangeAt G 0 (zam twoL)∧Below w.heap.size w w':=by
 have hb:=(Below.refl w.heap.size w).alloc (Nat.le_refl _) (Obj.cells #[.int .u64 50,.int .u32 8,.bool false,.int .u64 100,.int .u32 4,.bool true] 136);have kN:=Cl.new w #[.int .u64 50,.int .u32 8,.bool false,.int .u64 100,.int .u32 4,.bool true] 136;go_enter func43,ntmps43;go_wp2_with fail;go_ret;exact ⟨w.heap.size,rfl,Nat.le_refl _,zbn kN,hb⟩
set_option maxRecDepth 100000 in
theorem Tryz.slives_any (w:World):Calls prog 5 #[] w fun e w'=>e= .returned (.bool true)∧Below w.heap.size w w':=by
  have hst:=fun w=>zhQ (n:=4) (.inr (.inr (.inl rfl))) false false w;unfold Rg.val at hst;simp only [show ((4:Nat):Int)=4 from rfl] at hst;have htw:=fun w=>zuJ w;have l0:=zwV;have hQ0:(lvQ 0)=((zbG 60000 (SD.fresh false false (zaw 4).n.toNat) 7 twoL).2,fun _=>0):=rfl;have hof:=fun {w1 w2:World} {S P L Bs B M G:Nat} (hD:SDW (sdK S M B) w1 S P L Bs B M 60000 (zaw 4) (SD.fresh false false (zaw 4).n.toNat) (fun _=>0)) (hb:Below w1.heap.size w1 w2) (hg:w2.rangeAt G 0 (zam twoL)) (hG:w1.heap.size≤G)=>(by
    have q:=zqy (hD.below hb) (v:= .slice (some ⟨G,0,none⟩) 2 2) (l:=twoL) ⟨some ⟨G,0,none⟩,2,rfl,fun x hx=>by
      rcases List.mem_cons.1 hx with rfl|hx
      · exact ⟨by decide,by decide,by decide,by decide⟩
      · rw [List.mem_singleton] at hx;subst hx;exact ⟨by decide,by decide,by decide,by decide⟩,.inr ⟨G,0,rfl,fun q=>by have:=hD.f.lt G q;omega,hg⟩⟩ (by decide) (t:=7) l0
    exact q.mono fun e w' hh=>⟨hh.1,hh.2.1,hh.2.2.mono fun b z=>z.elim .inl fun z=> .inr (.inl z)⟩:Calls prog 13 #[.pointer (some ⟨S,0,none⟩),.int .i64 7,.slice (some ⟨G,0,none⟩) 2 2] w2 fun e w'=>e= .returned (.int .i64 0)∧SDW (sdK S M B) w' S P L Bs B M 60000 (zaw 4) (lvQ 0).1 (lvQ 0).2∧Dw.Mv (sdK S M B) w2 w')
  have hstep: ∀ {w1:World} {S P L Bs B M:Nat} (i:Nat) {x:Value} (e:((zay (zaw 4) (lvQ i).1 (lvQ i).2).1,(zay (zaw 4) (lvQ i).1 (lvQ i).2).2.1)=(x,(0:Int))) (hD:SDW (sdK S M B) w1 S P L Bs B M 60000 (zaw 4) (lvQ i).1 (lvQ i).2),Calls prog 23 #[.pointer (some ⟨S,0,none⟩)] w1 fun e w'=>e= .returned (.tuple #[x,.int .i64 0])∧SDW (sdK S M B) w' S P L Bs B M 60000 (zaw 4) (lvQ (i+1)).1 (lvQ (i+1)).2∧Dw.Mv (sdK S M B) w1 w':=fun {w1 S P L Bs B M} i {x} e hD=>by
    have q:=zpC hD (zvz i);have e1:(zay (zaw 4) (lvQ i).1 (lvQ i).2).1=x:=congrArg Prod.fst e;have e2:(zay (zaw 4) (lvQ i).1 (lvQ i).2).2.1=0:=congrArg Prod.snd e;rw [e1,e2] at q;exact q
  have hdn1:=fun {w1:World} {S P L Bs B M:Nat} (hD:SDW (sdK S M B) w1 S P L Bs B M 60000 (zaw 4) (lvQ 6).1 (lvQ 6).2)=>(by
    have q:=zmc hD;have e1:(lvQ 6).1.out=_:=congrArg Prod.fst zt2;have e2:(lvQ 6).1.has=_:=congrArg Prod.snd zt2;rw [e1,e2] at q;exact q:Calls prog 25 #[.pointer (some ⟨S,0,none⟩)] w1 fun e w'=>e= .returned (.tuple #[.agg #[.int .i64 1,.bool false,.int .i64 7,.int .u32 0,.bool true],.bool true])∧Below w1.heap.size w1 w')
  have hrec:=fun {w1:World} {S P L Bs B M:Nat} (hD:SDW (sdK S M B) w1 S P L Bs B M 60000 (zaw 4) (lvQ 6).1 (lvQ 6).2)=>(by
    have q:=zhW hD;have e1:(za9 (lvQ 6).1).1=0:=(Prod.mk.inj zt1).1;rw [e1] at q;exact q.mono fun e w' hh=>⟨hh.1,hh.2.1,zfj hh.2.2⟩:Calls prog 16 #[.pointer (some ⟨S,0,none⟩)] w1 fun e w'=>e= .returned (.int .i64 0)∧SDW (sdK S M B) w' S P L Bs B M 60000 (zaw 4) (za9 (lvQ 6).1).2 (lvQ 6).2∧Dw.Mv (sdK S M B) w1 w')
  have hfin:=fun {w1:World} {S P L Bs B M:Nat} (hD:SDW (sdK S M B) w1 S P L Bs B M 60000 (zaw 4) (za9 (lvQ 6).1).2 (lvQ 6).2)=>(zhl hD (zvz 6).recl (k:=1) (by decide) (s':=lvZ.2.1) (g':=lvZ.2.2) (Prod.ext (congrArg Prod.snd zt1) rfl):Calls prog 38 #[.pointer (some ⟨S,0,none⟩)] w1 fun e w'=>e= .returned (.int .i64 1)∧SDW (sdK S M B) w' S P L Bs B M 60000 (zaw 4) lvZ.2.1 lvZ.2.2∧Dw.Mv (sdK S M B) w1 w');have hdn2:=fun {w1:World} {S P L Bs B M:Nat} (hD:SDW (sdK S M B) w1 S P L Bs B M 60000 (zaw 4) lvZ.2.1 lvZ.2.2)=>(by
    have q:=zmc hD;have e1:lvZ.2.1.out=_:=congrArg Prod.fst zt3;have e2:lvZ.2.1.has=_:=congrArg Prod.snd zt3;rw [e1,e2] at q;exact q:Calls prog 25 #[.pointer (some ⟨S,0,none⟩)] w1 fun e w'=>e= .returned (.tuple #[.agg #[.int .i64 2,.bool true,.int .i64 0,.int .u32 0,.bool false],.bool true])∧Below w1.heap.size w1 w')
  clear l0 hQ0;go_enter func5,ntmps5;go_wp2_with (first
    | (go_at_call 37;refine (hst _).mono ?_;rintro e w1 ⟨S,P,L,Bs,B,M,rfl,hD,hb1,hlo⟩)
    | (go_at_call 43;refine (htw _).mono ?_;rintro e w2 ⟨G,rfl,hG,hGr,hb2⟩;have hb12:=((Below.refl w1.heap.size w1).alloc (Nat.le_refl _) (Obj.cells #[.bool false,.int .i64 (zaw 4).n,.int .u64 (zaw 4).d,.int .u64 (zaw 4).v,.int .u64 (zaw 4).c] 31)).trans (hb2.mono (by simp)))
    | (go_at_call 13;refine (hof hD hb12 hGr (by simp at hG;omega)).mono ?_;rintro e w3 ⟨rfl,hD3,hm3⟩)
    | go_in)
  have hbG:=(Below.refl w3.heap.size w3).alloc (Nat.le_refl _) (Obj.cells #[.int .i64 1,.int .i64 0,.int .i64 0,.int .i64 3,.int .i64 4,.int .i64 0,.int .i64 4,.int .i64 0,.int .i64 0,.int .i64 3,.int .i64 3,.int .i64 0,.int .i64 4,.int .i64 0,.int .i64 0,.int .i64 2,.int .i64 6,.int .i64 0] 56);have kG:=Cl.new w3 #[.int .i64 1,.int .i64 0,.int .i64 0,.int .i64 3,.int .i64 4,.int .i64 0,.int .i64 4,.int .i64 0,.int .i64 0,.int .i64 3,.int .i64 3,.int .i64 0,.int .i64 4,.int .i64 0,.int .i64 0,.int .i64 2,.int .i64 6,.int .i64 0] 56;have hD4:=hD3.below hbG;obtain ⟨lo1,lo2,lo3,lo4,lo5,lo6⟩:=hlo;have hmv:=hD3.f.mvNe;have hbw:Below w.heap.size w w2:=hb1.trans (hb12.mono hb1.size);have hm4:Dw.Mv (sdK S M B) w2 (w3.alloc (Obj.cells #[.int .i64 1,.int .i64 0,.int .i64 0,.int .i64 3,.int .i64 4,.int .i64 0,.int .i64 4,.int .i64 0,.int .i64 0,.int .i64 3,.int .i64 3,.int .i64 0,.int .i64 4,.int .i64 0,.int .i64 0,.int .i64 2,.int .i64 6,.int .i64 0] 56)):=hm3.trans (zaa hbG);have hlow: ∀b,sdK S M B b→w.heap.size≤b∧b<w3.heap.size:=fun b q=>by rcases q with rfl|rfl|rfl<;>omega
  have fin: ∀ {w':World},Dw.Mv (sdK S M B) w2 w'→Below w.heap.size w w':=fun {w'} q=>⟨q.os.trans hbw.os,q.tape.trans hbw.tape,q.output.trans hbw.output,Nat.le_trans hbw.size q.size,fun b hb=>(q.block b (Nat.lt_of_lt_of_le hb hbw.size) (fun e=>by have:=(hlow b e).1;omega)).trans (hbw.block b hb)⟩;clear hst htw hof hD hb1 hb2 hG hGr hb12 hD3 hbG hm3 lo1 lo2 lo3 lo4 lo5 lo6 hmv hbw;go_loopw [6] (fun iv wr=>(iv= .int .i64 0∨iv= .int .i64 1∨iv= .int .i64 2∨iv= .int .i64 3∨iv= .int .i64 4∨iv= .int .i64 5∨iv= .int .i64 6)∧SDW (sdK S M B) wr S P L Bs B M 60000 (zaw 4) (lvQ (RowKit.intOf iv).toNat).1 (lvQ (RowKit.intOf iv).toNat).2∧Cl wr w3.heap.size [.int .i64 1,.int .i64 0,.int .i64 0,.int .i64 3,.int .i64 4,.int .i64 0,.int .i64 4,.int .i64 0,.int .i64 0,.int .i64 3,.int .i64 3,.int .i64 0,.int .i64 4,.int .i64 0,.int .i64 0,.int .i64 2,.int .i64 6,.int .i64 0]∧Dw.Mv (sdK S M B) w2 wr) (fun iv _=>6-(RowKit.intOf iv).toNat)
  case atStart=>exact ⟨.inl rfl,hD4,kG,hm4⟩
  case round=>
    obtain ⟨hi,hD5,kR,hm5⟩:=hrel;have hG5: ∀ {wa wb:World},Dw.Mv (sdK S M B) wa wb→Cl wa w3.heap.size [.int .i64 1,.int .i64 0,.int .i64 0,.int .i64 3,.int .i64 4,.int .i64 0,.int .i64 4,.int .i64 0,.int .i64 0,.int .i64 3,.int .i64 3,.int .i64 0,.int .i64 4,.int .i64 0,.int .i64 0,.int .i64 2,.int .i64 6,.int .i64 0]→Cl wb w3.heap.size [.int .i64 1,.int .i64 0,.int .i64 0,.int .i64 3,.int .i64 4,.int .i64 0,.int .i64 4,.int .i64 0,.int .i64 0,.int .i64 3,.int .i64 3,.int .i64 0,.int .i64 4,.int .i64 0,.int .i64 0,.int .i64 2,.int .i64 6,.int .i64 0]:=fun q k=>k.kept (q.block _ k.lt (fun e=>by have:=(hlow _ e).2;omega));rcases hi with rfl|rfl|rfl|rfl|rfl|rfl|rfl
    · have hs:=hstep 0 (x:= .agg #[.int .i64 1,.int .i64 0,.int .i64 0]) zxm hD5;clear hdn1 hrec hfin hdn2 hD4 kG hm4 fin hlow;go_wp2_with (first
        | (go_at_call 23;refine hs.mono ?_;rintro e w6 ⟨rfl,hD6,hm6⟩;have kR6:=hG5 hm6 kR;have kR7:=kR6.alloc (Obj.cells #[.int .i64 1,.int .i64 0,.int .i64 0] 56);have kN:=Cl.new w6 #[.int .i64 1,.int .i64 0,.int .i64 0] 56)
        | go_in)
      have hbN:=(Below.refl w6.heap.size w6).alloc (Nat.le_refl _) (Obj.cells #[.int .i64 1,.int .i64 0,.int .i64 0] 56);have hm7:=(hm5.trans hm6).trans (zaa (K:=sdK S M B) hbN);have hD7:=hD6.below hbN;clear hs hm5 hm6 hD5 kR kR6 hD6;generalize w6.alloc (Obj.cells #[.int .i64 1,.int .i64 0,.int .i64 0] 56)=w7 at*;generalize w6.heap.size=N at*;have kNd:=kN.kept (w':=w7.drew) rfl;have kRd:=kR7.kept (w':=w7.drew) rfl;have n0:=kN.cell 0 _ rfl;have n1:=kN.cell 1 _ rfl;have n2:=kN.cell 2 _ rfl;have m0:=kNd.cell 0 _ rfl;have m1:=kNd.cell 1 _ rfl;have m2:=kNd.cell 2 _ rfl;have q0:=kR7.cell 0 _ rfl;have q1:=kR7.cell 1 _ rfl;have q2:=kR7.cell 2 _ rfl;have r0:=kRd.cell 0 _ rfl;have r1:=kRd.cell 1 _ rfl;have r2:=kRd.cell 2 _ rfl;go_region_held3 (fun w'=>w'.cell? ⟨N,0,none⟩=some (.int .i64 1)∧w'.cell? ⟨N,1,none⟩=some (.int .i64 0)∧w'.cell? ⟨N,2,none⟩=some (.int .i64 0)∧w'.cell? ⟨w3.heap.size,0,none⟩=some (.int .i64 1)∧w'.cell? ⟨w3.heap.size,1,none⟩=some (.int .i64 0)∧w'.cell? ⟨w3.heap.size,2,none⟩=some (.int .i64 0)) (go_keep) (fail);go_wp2_with fail;have hbd:=(Below.refl w7.heap.size w7).drew;exact ⟨⟨.inr (.inl rfl),hD7.below hbd,kR7.below hbd kR7.lt,hm7.trans (zaa hbd)⟩,by simp [RowKit.intOf]⟩
    · have hs:=hstep 1 (x:= .agg #[.int .i64 3,.int .i64 4,.int .i64 0]) zxl hD5;clear hdn1 hrec hfin hdn2 hD4 kG hm4 fin hlow;go_wp2_with (first
        | (go_at_call 23;refine hs.mono ?_;rintro e w6 ⟨rfl,hD6,hm6⟩;have kR6:=hG5 hm6 kR;have kR7:=kR6.alloc (Obj.cells #[.int .i64 3,.int .i64 4,.int .i64 0] 56);have kN:=Cl.new w6 #[.int .i64 3,.int .i64 4,.int .i64 0] 56)
        | go_in)
      have hbN:=(Below.refl w6.heap.size w6).alloc (Nat.le_refl _) (Obj.cells #[.int .i64 3,.int .i64 4,.int .i64 0] 56);have hm7:=(hm5.trans hm6).trans (zaa (K:=sdK S M B) hbN);have hD7:=hD6.below hbN;clear hs hm5 hm6 hD5 kR kR6 hD6;generalize w6.alloc (Obj.cells #[.int .i64 3,.int .i64 4,.int .i64 0] 56)=w7 at*;generalize w6.heap.size=N at*;have kNd:=kN.kept (w':=w7.drew) rfl;have kRd:=kR7.kept (w':=w7.drew) rfl;have n0:=kN.cell 0 _ rfl;have n1:=kN.cell 1 _ rfl;have n2:=kN.cell 2 _ rfl;have m0:=kNd.cell 0 _ rfl;have m1:=kNd.cell 1 _ rfl;have m2:=kNd.cell 2 _ rfl;have q0:=kR7.cell 3 _ rfl;have q1:=kR7.cell 4 _ rfl;have q2:=kR7.cell 5 _ rfl;have r0:=kRd.cell 3 _ rfl;have r1:=kRd.cell 4 _ rfl;have r2:=kRd.cell 5 _ rfl;go_region_held3 (fun w'=>w'.cell? ⟨N,0,none⟩=some (.int .i64 3)∧w'.cell? ⟨N,1,none⟩=some (.int .i64 4)∧w'.cell? ⟨N,2,none⟩=some (.int .i64 0)∧w'.cell? ⟨w3.heap.size,3,none⟩=some (.int .i64 3)∧w'.cell? ⟨w3.heap.size,4,none⟩=some (.int .i64 4)∧w'.cell? ⟨w3.heap.size,5,none⟩=some (.int .i64 0)) (go_keep) (fail);go_wp2_with fail;have hbd:=(Below.refl w7.heap.size w7).drew;exact ⟨⟨.inr (.inr (.inl rfl)),hD7.below hbd,kR7.below hbd kR7.lt,hm7.trans (zaa hbd)⟩,by simp [RowKit.intOf]⟩
    · have hs:=hstep 2 (x:= .agg #[.int .i64 4,.int .i64 0,.int .i64 0]) zxk hD5;clear hdn1 hrec hfin hdn2 hD4 kG hm4 fin hlow;go_wp2_with (first
        | (go_at_call 23;refine hs.mono ?_;rintro e w6 ⟨rfl,hD6,hm6⟩;have kR6:=hG5 hm6 kR;have kR7:=kR6.alloc (Obj.cells #[.int .i64 4,.int .i64 0,.int .i64 0] 56);have kN:=Cl.new w6 #[.int .i64 4,.int .i64 0,.int .i64 0] 56)
        | go_in)
      have hbN:=(Below.refl w6.heap.size w6).alloc (Nat.le_refl _) (Obj.cells #[.int .i64 4,.int .i64 0,.int .i64 0] 56);have hm7:=(hm5.trans hm6).trans (zaa (K:=sdK S M B) hbN);have hD7:=hD6.below hbN;clear hs hm5 hm6 hD5 kR kR6 hD6;generalize w6.alloc (Obj.cells #[.int .i64 4,.int .i64 0,.int .i64 0] 56)=w7 at*;generalize w6.heap.size=N at*;have kNd:=kN.kept (w':=w7.drew) rfl;have kRd:=kR7.kept (w':=w7.drew) rfl;have n0:=kN.cell 0 _ rfl;have n1:=kN.cell 1 _ rfl;have n2:=kN.cell 2 _ rfl;have m0:=kNd.cell 0 _ rfl;have m1:=kNd.cell 1 _ rfl;have m2:=kNd.cell 2 _ rfl;have q0:=kR7.cell 6 _ rfl;have q1:=kR7.cell 7 _ rfl;have q2:=kR7.cell 8 _ rfl;have r0:=kRd.cell 6 _ rfl;have r1:=kRd.cell 7 _ rfl;have r2:=kRd.cell 8 _ rfl;go_region_held3 (fun w'=>w'.cell? ⟨N,0,none⟩=some (.int .i64 4)∧w'.cell? ⟨N,1,none⟩=some (.int .i64 0)∧w'.cell? ⟨N,2,none⟩=some (.int .i64 0)∧w'.cell? ⟨w3.heap.size,6,none⟩=some (.int .i64 4)∧w'.cell? ⟨w3.heap.size,7,none⟩=some (.int .i64 0)∧w'.cell? ⟨w3.heap.size,8,none⟩=some (.int .i64 0)) (go_keep) (fail);go_wp2_with fail;have hbd:=(Below.refl w7.heap.size w7).drew;exact ⟨⟨.inr (.inr (.inr (.inl rfl))),hD7.below hbd,kR7.below hbd kR7.lt,hm7.trans (zaa hbd)⟩,by simp [RowKit.intOf]⟩
    · have hs:=hstep 3 (x:= .agg #[.int .i64 3,.int .i64 3,.int .i64 0]) zxj hD5;clear hdn1 hrec hfin hdn2 hD4 kG hm4 fin hlow;go_wp2_with (first
        | (go_at_call 23;refine hs.mono ?_;rintro e w6 ⟨rfl,hD6,hm6⟩;have kR6:=hG5 hm6 kR;have kR7:=kR6.alloc (Obj.cells #[.int .i64 3,.int .i64 3,.int .i64 0] 56);have kN:=Cl.new w6 #[.int .i64 3,.int .i64 3,.int .i64 0] 56)
        | go_in)
      have hbN:=(Below.refl w6.heap.size w6).alloc (Nat.le_refl _) (Obj.cells #[.int .i64 3,.int .i64 3,.int .i64 0] 56);have hm7:=(hm5.trans hm6).trans (zaa (K:=sdK S M B) hbN);have hD7:=hD6.below hbN;clear hs hm5 hm6 hD5 kR kR6 hD6;generalize w6.alloc (Obj.cells #[.int .i64 3,.int .i64 3,.int .i64 0] 56)=w7 at*;generalize w6.heap.size=N at*;have kNd:=kN.kept (w':=w7.drew) rfl;have kRd:=kR7.kept (w':=w7.drew) rfl;have n0:=kN.cell 0 _ rfl;have n1:=kN.cell 1 _ rfl;have n2:=kN.cell 2 _ rfl;have m0:=kNd.cell 0 _ rfl;have m1:=kNd.cell 1 _ rfl;have m2:=kNd.cell 2 _ rfl;have q0:=kR7.cell 9 _ rfl;have q1:=kR7.cell 10 _ rfl;have q2:=kR7.cell 11 _ rfl;have r0:=kRd.cell 9 _ rfl;have r1:=kRd.cell 10 _ rfl;have r2:=kRd.cell 11 _ rfl;go_region_held3 (fun w'=>w'.cell? ⟨N,0,none⟩=some (.int .i64 3)∧w'.cell? ⟨N,1,none⟩=some (.int .i64 3)∧w'.cell? ⟨N,2,none⟩=some (.int .i64 0)∧w'.cell? ⟨w3.heap.size,9,none⟩=some (.int .i64 3)∧w'.cell? ⟨w3.heap.size,10,none⟩=some (.int .i64 3)∧w'.cell? ⟨w3.heap.size,11,none⟩=some (.int .i64 0)) (go_keep) (fail);go_wp2_with fail;have hbd:=(Below.refl w7.heap.size w7).drew;exact ⟨⟨.inr (.inr (.inr (.inr (.inl rfl)))),hD7.below hbd,kR7.below hbd kR7.lt,hm7.trans (zaa hbd)⟩,by simp [RowKit.intOf]⟩
    · have hs:=hstep 4 (x:= .agg #[.int .i64 4,.int .i64 0,.int .i64 0]) zxi hD5;clear hdn1 hrec hfin hdn2 hD4 kG hm4 fin hlow;go_wp2_with (first
        | (go_at_call 23;refine hs.mono ?_;rintro e w6 ⟨rfl,hD6,hm6⟩;have kR6:=hG5 hm6 kR;have kR7:=kR6.alloc (Obj.cells #[.int .i64 4,.int .i64 0,.int .i64 0] 56);have kN:=Cl.new w6 #[.int .i64 4,.int .i64 0,.int .i64 0] 56)
        | go_in)
      have hbN:=(Below.refl w6.heap.size w6).alloc (Nat.le_refl _) (Obj.cells #[.int .i64 4,.int .i64 0,.int .i64 0] 56);have hm7:=(hm5.trans hm6).trans (zaa (K:=sdK S M B) hbN);have hD7:=hD6.below hbN;clear hs hm5 hm6 hD5 kR kR6 hD6;generalize w6.alloc (Obj.cells #[.int .i64 4,.int .i64 0,.int .i64 0] 56)=w7 at*;generalize w6.heap.size=N at*;have kNd:=kN.kept (w':=w7.drew) rfl;have kRd:=kR7.kept (w':=w7.drew) rfl;have n0:=kN.cell 0 _ rfl;have n1:=kN.cell 1 _ rfl;have n2:=kN.cell 2 _ rfl;have m0:=kNd.cell 0 _ rfl;have m1:=kNd.cell 1 _ rfl;have m2:=kNd.cell 2 _ rfl;have q0:=kR7.cell 12 _ rfl;have q1:=kR7.cell 13 _ rfl;have q2:=kR7.cell 14 _ rfl;have r0:=kRd.cell 12 _ rfl;have r1:=kRd.cell 13 _ rfl;have r2:=kRd.cell 14 _ rfl;go_region_held3 (fun w'=>w'.cell? ⟨N,0,none⟩=some (.int .i64 4)∧w'.cell? ⟨N,1,none⟩=some (.int .i64 0)∧w'.cell? ⟨N,2,none⟩=some (.int .i64 0)∧w'.cell? ⟨w3.heap.size,12,none⟩=some (.int .i64 4)∧w'.cell? ⟨w3.heap.size,13,none⟩=some (.int .i64 0)∧w'.cell? ⟨w3.heap.size,14,none⟩=some (.int .i64 0)) (go_keep) (fail);go_wp2_with fail;have hbd:=(Below.refl w7.heap.size w7).drew;exact ⟨⟨.inr (.inr (.inr (.inr (.inr (.inl rfl))))),hD7.below hbd,kR7.below hbd kR7.lt,hm7.trans (zaa hbd)⟩,by simp [RowKit.intOf]⟩
    · have hs:=hstep 5 (x:= .agg #[.int .i64 2,.int .i64 6,.int .i64 0]) zxh hD5;clear hdn1 hrec hfin hdn2 hD4 kG hm4 fin hlow;go_wp2_with (first
        | (go_at_call 23;refine hs.mono ?_;rintro e w6 ⟨rfl,hD6,hm6⟩;have kR6:=hG5 hm6 kR;have kR7:=kR6.alloc (Obj.cells #[.int .i64 2,.int .i64 6,.int .i64 0] 56);have kN:=Cl.new w6 #[.int .i64 2,.int .i64 6,.int .i64 0] 56)
        | go_in)
      have hbN:=(Below.refl w6.heap.size w6).alloc (Nat.le_refl _) (Obj.cells #[.int .i64 2,.int .i64 6,.int .i64 0] 56);have hm7:=(hm5.trans hm6).trans (zaa (K:=sdK S M B) hbN);have hD7:=hD6.below hbN;clear hs hm5 hm6 hD5 kR kR6 hD6;generalize w6.alloc (Obj.cells #[.int .i64 2,.int .i64 6,.int .i64 0] 56)=w7 at*;generalize w6.heap.size=N at*;have kNd:=kN.kept (w':=w7.drew) rfl;have kRd:=kR7.kept (w':=w7.drew) rfl;have n0:=kN.cell 0 _ rfl;have n1:=kN.cell 1 _ rfl;have n2:=kN.cell 2 _ rfl;have m0:=kNd.cell 0 _ rfl;have m1:=kNd.cell 1 _ rfl;have m2:=kNd.cell 2 _ rfl;have q0:=kR7.cell 15 _ rfl;have q1:=kR7.cell 16 _ rfl;have q2:=kR7.cell 17 _ rfl;have r0:=kRd.cell 15 _ rfl;have r1:=kRd.cell 16 _ rfl;have r2:=kRd.cell 17 _ rfl;go_region_held3 (fun w'=>w'.cell? ⟨N,0,none⟩=some (.int .i64 2)∧w'.cell? ⟨N,1,none⟩=some (.int .i64 6)∧w'.cell? ⟨N,2,none⟩=some (.int .i64 0)∧w'.cell? ⟨w3.heap.size,15,none⟩=some (.int .i64 2)∧w'.cell? ⟨w3.heap.size,16,none⟩=some (.int .i64 6)∧w'.cell? ⟨w3.heap.size,17,none⟩=some (.int .i64 0)) (go_keep) (fail);go_wp2_with fail;have hbd:=(Below.refl w7.heap.size w7).drew;exact ⟨⟨.inr (.inr (.inr (.inr (.inr (.inr (rfl)))))),hD7.below hbd,kR7.below hbd kR7.lt,hm7.trans (zaa hbd)⟩,by simp [RowKit.intOf]⟩
    · clear hstep kR hG5 hD4 kG hm4;have hD5:SDW (sdK S M B) wr S P L Bs B M 60000 (zaw 4) (lvQ 6).1 (lvQ 6).2:=hD5;have hd1:=hdn1 hD5;go_wp2_with (first
        | (go_at_call 25;have hz:=hD9;refine (hdn2 hD9).mono ?_;rintro e w10 ⟨rfl,hb10⟩;have kEE:=kE9.below hb10 kE9.lt;have f0:=kEE.free 0;have f1:=kEE.free 1;have f2:=kEE.free 2;have f3:=kEE.free 3;have f4:=kEE.free 4;have c0:=kEE.cell 0 _ rfl;have c1:=kEE.cell 1 _ rfl;have c2:=kEE.cell 2 _ rfl;have c3:=kEE.cell 3 _ rfl;have c4:=kEE.cell 4 _ rfl)
        | (go_at_call 25;refine hd1.mono ?_;rintro e w6 ⟨rfl,hb6⟩;have hbN:=zas hb6 (o:=Obj.cells #[.int .i64 1,.bool false,.int .i64 7,.int .u32 0,.bool true] 71);have hD7:=hD5.below hbN;have kE:=Cl.new w6 #[.int .i64 1,.bool false,.int .i64 7,.int .u32 0,.bool true] 71)
        | (go_at_call 16;refine (hrec hD7).mono ?_;rintro e w8 ⟨rfl,hD8,hm8⟩;have hwl:=hD7.f.lt;have kE8:=kE.kept (hm8.block _ kE.lt (fun q=>by have h1:=hD5.f.lt _ q;have h2:=hb6.size;omega)))
        | (go_at_call 38;refine (hfin hD8).mono ?_;rintro e w9 ⟨rfl,hD9,hm9⟩;have kE9:=kE8.kept (hm9.block _ kE8.lt (fun q=>by have h1:=hD5.f.lt _ q;have h2:=hb6.size;omega)))
        | go_in)
      go_ret;have hm10:=(((hm5.trans (zaa hbN)).trans hm8).trans hm9).trans (zaa (K:=sdK S M B) hb10);have hw6:w.heap.size≤w6.heap.size:=Nat.le_trans (fin hm5).size hb6.size;exact ⟨rfl,zbu (zaA (zaA (zaA (zaA (zaA (zaa (K:=fun _=>False) (fin hm10)) w6.heap.size 0 _ (.inr hw6)) w6.heap.size 1 _ (.inr hw6)) w6.heap.size 2 _ (.inr hw6)) w6.heap.size 3 _ (.inr hw6)) w6.heap.size 4 _ (.inr hw6))⟩
end Go.Proofs
namespace Go.Proofs.YtaichlekaoefpaaGreat
theorem zlK:Tryz.pinned.checked.prog.mayEnter=true:=by kernel_rfl
end Go.Proofs.YtaichlekaoefpaaGreat
namespace Go.Proofs.YtaichlekaoefpaaGreat.sdriveHolds
open Go.ChangeShapes Go.WideShapes Go.ChangeAt Go.RowKit
theorem closedFacts:joinedFacts Tryz.pinned.checked.prog 4 Tryz.f4 Rows.sdriveHoldsSpec Rows.sdriveHoldsRow=true:=by
 unfold joinedFacts;rw [zlK];kernel_rfl
end Go.Proofs.YtaichlekaoefpaaGreat.sdriveHolds
end
