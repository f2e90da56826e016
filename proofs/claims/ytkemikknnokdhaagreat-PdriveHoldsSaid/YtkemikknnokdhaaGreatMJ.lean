/-
  Proved: laws on the way to 'PdriveHoldsProof' (VeJ); no condition.
-/
import Derived.Test.YtkemikknnokdhaaGreatMD
import Derived.Test.YtkemikknnokdhaaGreatMV
import Derived.Test.YtkemikknnokdhaaGreatMB
set_option linter.unusedSimpArgs false
set_option linter.unusedVariables false
set_option maxHeartbeats 4000000
noncomputable section
namespace Go.Proofs
open Go.Dw Go.RowKit Go.Maps Go.Sort Go.Deep
theorem Tryz.zjj {P0:Program} {w:World} {ops:Array Oper} {rest:List Oper} {o:Oper} {a:Act} {Q:Exit→Act→World→Prop} (hgd:o.guard=none) (s x:Operand) (t:TypeId)
  (ho:o.op= .call { callee:= .builtin .append,args:= #[s,x],argTypes:= #[t,t] })
  (base:Nat) (e t0:TypeId) (i:TypeInfo) (z:Value) (size bytes:Nat) (ht:P0.underlying t=some (.slice e)) (hi:P0.info? e=some i) (hz:i.zero=some z)
  (hsize:i.size=size) (hby:i.bytes=bytes) (hzs:z.cells.size=size) (hsz:0<size)
  (v:Value) (n:Nat) (xs:List Value) (hs:a.eval s=v) (hown:w.ownsRow base t0 size v n xs)
  (ad:Addr) (m c:Nat) (news:List Value) (hx:a.eval x= .slice (some ad) m c) (hl:news.length=m*size) (hnews: ∀j u,news[j]? =some u→w.cell? (ad.add j)=some u) (h1: ∀u∈news,u.oneCell'=true)
  (h63:n+m≤maxLen) (hbytes:(n+m)*bytes≤140737488355328) (hbase:base≤w.heap.size)
  (h: ∀v' w' t',w'.ownsRow base t' size v' (n+m) (xs++news)→w.grownBy w' v.ownBlock→(v'.ownBlock=v.ownBlock∨v'.ownBlock=some w.heap.size)→wpList P0 ops Q rest (a.put o.dst v') w'):
  wpList P0 ops Q (o::rest) a w:=by
 refine wpList_plain hgd fun K hK=> ?_;obtain ⟨v',w',t',hr,h2,h3,h4⟩:=ziQ (P0:=P0) w base t o.type e t0 i z size bytes ht hi hz hsize hby hzs hsz v n xs hown ad m c news hl hnews h1 h63 hbytes hbase;unfold Oper.wp execOp;simp only [ho,resolve,invoke,builtin,Sem.run_bind,Sem.run_pure,Result.andThen_ok,List.map_toArray,List.map_cons,List.map_nil,hs,hx,hr];exact hK _ _ (h v' w' t' h2 h3 h4)
set_option maxRecDepth 100000 in
theorem Tryz.zvx {W0 w:World} {n:Nat} {ev tb pk:Bool} {d:Hd} {r:Rg} {aa:Option Addr} {ca:Nat} {acts:List Tn} {ov:Value} {tk:Int} {j:Nat} {s:DS} {g:Nat→Int} {tm:Array Value} (hf:Ho0 n d (.slice aa acts.length ca) ov tk s.own j tm) (hw:HoW W0 n ev tb pk d r w s g ov [.int .i64 s.nx,.bool s.nw] [.int .i64 s.sx,.bool s.sw] s.L) (hs:HoS s tb tk j) (hA:TnsV W0 (.slice aa acts.length ca) acts) (hj:j<acts.length) (h60:acts.length≤60) (hbk:acts[j].bk=false) (hsl100:acts[j].sl.length≤100) (hn:1≤n∧n≤16) (hrk:PgOk r) (hrn:EqI r.n n) (hyes:(za3 60000 r.n s tk acts[j].sl).1=0):
    (zbb prog [0,0,1,0,1,1,1,1,1,1,1,1,1,1,4]).wp prog (zn5 W0 n ev tb pk d r (.slice aa acts.length ca) j) ⟨tm,[]⟩ w:=by
  obtain ⟨jf,hjf⟩:=zhv (t:=tm) hf.sz hf.t0 hf.t2 hf.t4 hf.t8 hf.t9 hf.t10 hf.t12 hf.t13 hf.t14 hf.t15 hf.t16 hf.t17;rw [hjf];clear hjf hf;obtain ⟨R,o,hra,hrow⟩: ∃R o,aa=some ⟨R,o,none⟩∧ ∀(i:Nat) (hi:i<acts.length),W0.rangeAt R (o+4*i) acts[i].cells:=by
    obtain ⟨aa',c',e,h⟩:=hA.val;cases e;rcases h with q|⟨R,o,q1,q2⟩
    · rw [q] at hj;simp at hj
    · exact ⟨R,o,q1,q2⟩
  have hco:=hA.ok acts[j] (List.getElem_mem hj);have hcw:=hrow j hj;have hRl:R<W0.heap.size:=World.block_lt_of_cell? W0 _ (hcw 0 _ rfl);have hcr:=zag hcw (hw.old.block R hRl);obtain ⟨c,hc⟩: ∃c,c=acts[j]:=⟨_,rfl⟩;rw [←hc] at hco hcr hbk hsl100 hyes;rw [Nat.mul_comm 4 j] at hcr;obtain ⟨sa,cs,hsv,hsok,hsr⟩:=hco.sv;have hv0: ∀ {w'},Below W0.heap.size W0 w'→SegV (fun b=>W0.heap.size≤b) w' (.slice sa c.sl.length cs) c.sl:=fun {w'} hb=>SegV.setK (A:=fun _=>False) (w:=W0) ⟨sa,cs,rfl,hsok,hsr⟩ (fun b hb' q=>absurd q (by omega)) (fun b hb' _=>hb.block b hb');have a0:=hcr 0 _ rfl;have a1:=hcr 1 _ rfl;have a2:=hcr 2 _ rfl;have a3:=hcr 3 _ rfl;rw [hsv] at a1;rw [hbk] at a0;simp only [Nat.add_zero] at a0;have hj':(j:Int)<acts.length:=by omega
  clear hc hcr hcw hrow hA hsr hco hsv hbk;subst hra;have hbA:=(Below.refl w.heap.size w).alloc (Nat.le_refl _) (Obj.cells #[.bool false,.slice sa c.sl.length cs,.int .i64 c.n,.int .u32 c.v] 89);have hwA:=hw.below hbA;have kT:=Cl.new w #[.bool false,.slice sa c.sl.length cs,.int .i64 c.n,.int .u32 c.v] 89;have pT:=kT.cell 1 _ rfl;obtain ⟨l1,l2,l3,l4⟩:=hw.x10l;have lo:=hw.old.size;have l14:=hw.x14.lt;have l10:d.X10≤w.heap.size:=by omega
  have hks:=zkQ (hv0 hwA.old) (by omega);have hof:=fun {w1:World} {u:Value} (hb1:Below (w.alloc (Obj.cells #[.bool false,.slice sa c.sl.length cs,.int .i64 c.n,.int .u32 c.v] 89)).heap.size (w.alloc (Obj.cells #[.bool false,.slice sa c.sl.length cs,.int .i64 c.n,.int .u32 c.v] 89)) w1) (hu:OwnSeg w1 (w.alloc (Obj.cells #[.bool false,.slice sa c.sl.length cs,.int .i64 c.n,.int .u32 c.v] 89)).heap.size u c.sl)=>(by
    have q:=hwA.below hb1;have hlt:=hwA.dr.f.lt;exact (zp1 q.dr (OwnSeg.segV hu hsok (A:=hoA d ov) (fun b q1 q=>by have:=hlt b q;omega)) (by omega) (by have:=hs.tk0;omega)).mono fun en w2 hh=>⟨hh.1,q.turn hh.2.1 hh.2.2,hh.2.2⟩:Calls prog 13 #[.pointer (some ⟨d.S,0,none⟩),.int .i64 tk,u] w1 fun en w2=>en= .returned (.int .i64 (za3 60000 r.n s tk c.sl).1)∧HoW W0 n ev tb pk d r w2 (za3 60000 r.n s tk c.sl).2 g ov [.int .i64 s.nx,.bool s.nw] [.int .i64 s.sx,.bool s.sw] s.L∧Dw.Mv (dK d.S d.I d.B) w1 w2)
  have hY:=zui hyes;rw [hyes] at hof;obtain ⟨s1,hs1⟩: ∃s1,s1=(za3 60000 r.n s tk c.sl).2:=⟨_,rfl⟩;rw [←hs1] at hY hof;have hDI1:DI s1:=by rw [hs1];exact hs.di.off
  have hpb:=hw.dr.pb;have hbn:=hrk.bnd;have hnb:=hrn.eq;obtain ⟨id,hid⟩: ∃id:Int,id=(zaM s.L r.n.toNat 0:Nat):=⟨_,rfl⟩;have hidn:0≤id∧id<n:=by have:=hY.id;omega
  have hfree:zdC s.L id=false:=by
    rw [hid];exact (zbz s.L r.n.toNat 0).2.2.2 (by have:=hY.id;omega)
  have hlp:c.sl.length≠0:=fun e=>hY.ne (List.length_eq_zero_iff.1 e);have hnp:=zng s hlp;have hown:=hY.own;have hole:=hpb.own_le;obtain ⟨need,hnd⟩: ∃need,need=s.need c.sl:=⟨_,rfl⟩;rw [←hnd] at hnp hown;have hneed:need=if tb=true∧1<c.sl.length then 1 else (c.sl.length:Int):=by
    rw [hnd];unfold DS.need DS.tab;rw [hs.tb];simp
  obtain ⟨kk,hfin⟩:=zoK (r:=r) (s1:=s1) (g:=g) (by rw [hY.eq]) (by rw [hY.eq];exact hY.br);obtain ⟨s3,hs3⟩: ∃s3:DS,s3= { s1 with nx:=(zaH r.n s1.nx s1.nw s1.c.ct).1,nw:=(zaH r.n s1.nx s1.nw s1.c.ct).2,kk:=kk,ph:=0,dn:=true }:=⟨_,rfl⟩;rw [←hs3] at hfin;obtain ⟨g3,hg3⟩: ∃g3,g3=zjB s1 g:=⟨_,rfl⟩;rw [←hg3] at hfin;have hc1:s1.c=⟨id,tk,need⟩∧s1.nx=s.nx∧s1.nw=s.nw∧s1.sx=s.sx∧s1.sw=s.sw∧s1.own=s.own-need∧s1.L=s.L++ [⟨id,tk,need⟩]∧s1.tb=s.tb∧s1.br=s.br:=by
    rw [hY.eq,hid,hnd];exact ⟨rfl,rfl,rfl,rfl,rfl,rfl,rfl,rfl,rfl⟩
  obtain ⟨k1,k2,k3,k4,k5,k6,k7,k8,k9⟩:=hc1;obtain ⟨v1,v2,hv12⟩: ∃v1 v2,zaH n s.nx s.nw need=(v1,v2):=⟨_,_,rfl⟩;have hF3:s3.nx=v1∧s3.nw=v2∧s3.sx=s.sx∧s3.sw=s.sw∧s3.own=s.own-need∧s3.L=s.L++ [⟨id,tk,need⟩]:=by
    have e:zaH r.n s1.nx s1.nw s1.c.ct=(v1,v2):=by rw [k1,k2,k3,hnb];exact hv12
    rw [hs3,e];exact ⟨rfl,rfl,k4,k5,k6,k7⟩
  have hS3:HoS s3 tb (tk+1) (j+1):=by
    refine ⟨by rw [hs3],by rw [hs3];exact k9.trans hs.br,by rw [hs3];exact k8.trans hs.tb,by rw [hs3];exact DI.late (.inl rfl),fun x hx=> ?_,by have:=hs.tk0;omega,by have:=hs.tk0;omega⟩;rw [hF3.2.2.2.2.2] at hx;rcases List.mem_append.1 hx with hx|hx
    · have:=hs.tks x hx;omega
    · rw [List.mem_singleton] at hx;rw [hx];show tk<tk+1;omega
  have hread:=fun (g':Nat→Int) (hg': ∀q,q<60000→g' q=g3 q)=>zp0 (g':=g') hrk hpb hY hsok (by decide) (fun q hq=>(hg' q hq).trans (by rw [hg3]));rw [←hid,←hnd,hs.tb,hnb] at hread;have hnx:=hpb.nx;rw [hnb] at hnx;have hK:HidQ ((s3.nx=v1∧s3.nw=v2∧s3.sx=s.sx∧s3.sw=s.sw∧s3.own=s.own-need∧s3.L=s.L++ [⟨id,tk,need⟩])∧HoS s3 tb (tk+1) (j+1)):=⟨hF3,hS3⟩;have hgo:=fun w'=>zlM (n:=n) (a:=s.nx) (c:=need) (x:=s.nw) (by omega) hnx ⟨by omega,by omega⟩ w';unfold posV at hgo;rw [hv12] at hgo;have hfns:=fun {w':World} (q:HoW W0 n ev tb pk d r w' s1 g ov [.int .i64 s.nx,.bool s.nw] [.int .i64 s.sx,.bool s.sw] s.L)=>((ziA q.dr hDI1 (by decide) hfin).mono fun en w2 hh=>⟨hh.1,q.turn hh.2.1 hh.2.2,hh.2.2⟩:Calls prog 41 #[.pointer (some ⟨d.S,0,none⟩)] w' fun en w2=>en= .returned (.int .i64 5)∧HoW W0 n ev tb pk d r w2 s3 g3 ov [.int .i64 s.nx,.bool s.nw] [.int .i64 s.sx,.bool s.sw] s.L∧Dw.Mv (dK d.S d.I d.B) w' w2);have hsp:=fun {w':World} (q:HoW W0 n ev tb pk d r w' s3 g3 ov [.int .i64 s.nx,.bool s.nw] [.int .i64 s.sx,.bool s.sw] s.L)=>(by
    have q1:=zgT q.dr;rw [hF3.2.2.2.2.1] at q1;exact q1:Calls prog 32 #[.pointer (some ⟨d.S,0,none⟩)] w' fun en w2=>en= .returned (.int .i64 (s.own-need))∧w2=w')
  have hwo:IntKind.wrap .i64 (s.own-need)=s.own-need:=zaT (by omega) (by omega);have hwt:IntKind.wrap .i64 (tk+1)=tk+1:=by have:=hs.tk0;exact zaT (by omega) (by omega)
  have e1:IntKind.wrap .u64 s.nx=s.nx:=wrap_u64 _ (by omega) (by omega);have e2:IntKind.wrap .u64 (16*s.nx)=16*s.nx:=wrap_u64 _ (by omega) (by omega);have e3:IntKind.wrap .u64 (4096+16*s.nx)=4096+16*s.nx:=wrap_u64 _ (by omega) (by omega);obtain ⟨a,ha,ha2⟩: ∃a:Nat,(a:Int)=4096+16*s.nx+14∧a+2≤60000:=⟨(4096+16*s.nx+14).toNat,by omega,by omega⟩;have e4:IntKind.wrap .u64 (4096+16*s.nx+14)=(a:Int):=by rw [wrap_u64 _ (by omega) (by omega)];omega
  rw [show (4096+16*s.nx+14).toNat=a by omega] at hread;have hown': ¬need>s.own:=by omega
  have hf3:=HidQ.mk hs.tk0;have hcase:(tb=false∧need=c.sl.length)∨(tb=true∧(c.sl.length:Int)>1∧need=1)∨(tb=true∧ ¬(c.sl.length:Int)>1∧need=c.sl.length):=by
    rw [hneed];cases tb with
    | false=>exact .inl ⟨rfl,if_neg (by simp)⟩
    | true=>
      by_cases q:1<c.sl.length
      · exact .inr (.inl ⟨rfl,by omega,if_pos ⟨rfl,q⟩⟩)
      · exact .inr (.inr ⟨rfl,by omega,if_neg fun z=>q z.2⟩)
  clear hneed;have hxl:((List.range 60000).map g3).length=60000:=by rw [List.length_map,List.length_range]
  obtain ⟨xs,hxs⟩: ∃xs,xs=(List.range 60000).map g3:=⟨_,rfl⟩;rw [←hxs] at hxl;have hg4: ∀q,q<60000→putL (fun _=>0) 0 xs q=g3 q:=fun q hq=>by
    rw [zcF,if_pos (by rw [hxl];omega),hxs,Nat.sub_zero,List.getD_eq_getElem?_getD,List.getElem?_map,List.getElem?_range hq];rfl
  have hread4:=hread _ hg4;have hrow:row g3 0 60000=xs.map (Value.int .u8):=by
    rw [hxs];unfold row;rw [List.map_map];exact List.map_congr_left fun q _=>by simp
  have hbx:(∀j,0≤g3 j∧g3 j<256)→ ∀x∈xs,0≤x∧x<256:=fun h x hx=>by
    rw [hxs] at hx;obtain ⟨q,_,rfl⟩:=List.mem_map.1 hx;exact h q
  obtain ⟨g4,hg4'⟩: ∃g4,g4=putL (fun _=>0) 0 xs:=⟨_,rfl⟩;rw [←hg4'] at hread4;clear hxs hread hg4;have hnew:=fun R (w:World) (c:Cl w R [.int .u64 0,.int .u64 60000])=>zps (w:=w) (R:=R) (c.cell 0 _ rfl) (c.cell 1 _ rfl);have himg:=fun {w':World} (q:HoW W0 n ev tb pk d r w' s3 g3 ov [.int .i64 s.nx,.bool s.nw] [.int .i64 s.sx,.bool s.sw] s.L)=>(by
    refine (zqw d.P d.L d.Bs d.B 60000 g3 w' q.dr.f.mem (by decide) (by decide)).mono ?_;rintro e w2 ⟨v,rfl,hv,hb⟩;rw [hrow] at hv;have hv:OwnR 5 1 w2 w'.heap.size v 60000 (xs.map (Value.int .u8)):=hv;obtain ⟨sa,c,rfl,hr⟩:=OwnR.row hv;rcases hr with hr|⟨G,rfl,ho,hG⟩
    · have:=congrArg List.length hr;rw [List.length_map,hxl] at this;exact absurd this (by decide)
    · exact ⟨G,c,rfl,hG,(OwnR.lt hv G ho).2,hb⟩:Calls prog 36 #[.pointer (some ⟨d.P,0,none⟩)] w' fun e w2=> ∃G c,e= .returned (.slice (some ⟨G,0,none⟩) 60000 c)∧w2.rangeAt G 0 (xs.map (Value.int .u8))∧G<w2.heap.size∧Below w'.heap.size w' w2)
  have hwrt:=fun {P2 L2 Bs2 B2 G c:Nat} {w':World} (st:RMm w' P2 L2 Bs2 B2 60000 (fun _=>0)) (hb: ∀x∈xs,0≤x∧x<256) (hr:w'.rangeAt G 0 (xs.map (Value.int .u8))) (hG:G<w'.heap.size)=>(by
    have q:=zpn P2 L2 Bs2 B2 60000 0 G 0 c xs (fun _=>0) w' st (by decide) (by rw [hxl];decide) (by rw [hxl];decide) hb hr hG;rw [hxl,←hg4'] at q;exact q:Calls prog 24 #[.pointer (some ⟨P2,0,none⟩),.int .u64 0,.slice (some ⟨G,0,none⟩) 60000 c] w' fun e w2=>e= .returned (.int .i64 0)∧RMm w2 P2 L2 Bs2 B2 60000 g4∧Mv (· =B2) w' w2)
  have hld:=fun {P2 L2 Bs2 B2:Nat} {w':World} (st:RMm w' P2 L2 Bs2 B2 60000 g4)=>(zrO P2 L2 Bs2 B2 60000 a 2 g4 w' st (by decide) (.inr (.inl rfl)) ha2:Calls prog 42 #[.pointer (some ⟨P2,0,none⟩),.int .u64 a,.int .i64 2] w' fun e w2=>e= .returned (.tuple #[.int .u64 (zac g4 a 2),.int .i64 0])∧Below w'.heap.size w' w2);have hpk:=fun {P2 L2 Bs2 B2:Nat} {w':World} (st:RMm w' P2 L2 Bs2 B2 60000 g4)=>(by
    have q:=zpq st (by decide) (zfy hn) (by show (4096:Int)+16*(n:Int)≤60000;omega) (at0:=s.nx) (wp:=s.nw) (by show 0≤s.nx∧s.nx<(n:Int);exact hnx) tb;refine q.mono ?_;rintro en w2 ⟨hb,e1,v,q1,q2,q3⟩;have hr1:zdS 60000 g4 n s.nx tb=⟨id,need,c.sl,0⟩:=hread4.1;rw [show (zcG n).n=(n:Int) from rfl,hr1] at q1 q2;have he1:=q1.2 rfl;obtain ⟨h1,h2⟩:=q2 he1;exact ⟨v,h1,h2,hb⟩:Calls prog 43 #[.pointer (some ⟨P2,0,none⟩),.agg #[.bool true,.int .i64 n,.int .u64 4096,.int .u64 (4096+16*n),.int .u64 (4100+16*n)],.agg #[.int .i64 s.nx,.bool s.nw],.bool tb] w' fun en w2=> ∃v,en= .returned (.tuple #[.agg #[.int .i64 id,.int .i64 need,v],.int .i64 0])∧OwnSeg w2 w'.heap.size v c.sl∧Below w'.heap.size w' w2)
  have hav:=hread4.2;obtain ⟨W,hW⟩: ∃W,W=zac g4 a 2:=⟨_,rfl⟩;rw [←hW] at hav hld;have hWb:(∀j,0≤g4 j∧g4 j<256)→0≤W∧W<65536:=fun h=>by
    rw [hW];have q:=zaq g4 h a 2;exact ⟨q.1,by have:=q.2;simpa using this⟩
  have e5:0≤W∧W<65536→IntKind.wrap .u16 W=W:=fun q=>by unfold IntKind.wrap;simp [IntKind.signed,IntKind.bits];omega
  have hssg:=fun {w':World} {v:Value} {b:Nat} (hb:Below W0.heap.size W0 w') (hv:OwnSeg w' b v c.sl)=>(by
    have q:=zpj (OwnSeg.segV hv hsok (A:=fun _=>False) (fun _ _ h=>h)) (hv0 hb) (by omega) (by omega);rw [decide_eq_true rfl] at q;exact q:Calls prog 44 #[v,.slice sa c.sl.length cs] w' fun e w2=>e= .returned (.bool true)∧Below w'.heap.size w' w2)
  have hrv:=fun (hW:0≤W∧W<65536) (w':World)=>(by
    have q:=zt0 (b:=s.nw) hW w';rw [hav] at q;exact q:Calls prog 45 #[.int .u16 W,.bool s.nw] w' fun e w2=>e= .returned (.bool true)∧Below w'.heap.size w' w2)
  have hM:=HidQ.mk hread4;have hfree:HidQ _:=⟨hfree⟩;have htk0:HidQ _:=⟨hs.tk0⟩;have hM3:=hK;clear hK;obtain ⟨t12,hO⟩:=hw.row;obtain ⟨sov,cov,hov,hOr⟩:=OwnR.row hO;subst hov;have hLl:s.L.length≤16:=by
    have h1:=zbg fun e he=>(hw.dr.pb.el e he).2.2.1;have h2:=hw.dr.pb.sum;have h3:=hw.dr.pb.own;omega
  clear hY hs1 hDI1 hfin hs3 hg3 k1 k2 k3 k4 k5 k6 k7 k8 k9 hv12 hF3 hS3 hpb hole hnd hid hwA lo ha hlp hread4 hrow hav hW hg4' hxl hnx hs hf3 hO hyes hrk hrn hnp hown hj hbn hnb;obtain ⟨rfl,rfl⟩|⟨rfl,h1',rfl⟩|⟨rfl,h1',rfl⟩:=hcase
  · refine zaD (c':=(zae 0 (zae 0 (zae 1 (zae 0 (zae 1 (zae 1 (zae 1 (zae 1 (zae 1 (zae 1 (zae 1 (zae 1 (zae 1 (zae 1 (match (f4).body with|some c=>c|none=> .skip)))))))))))))))) (by kernel_rfl) ?_
    dsimp only [f4,zae]
    go_wp2_with (first
      | (go_at_call 14;refine hks.mono ?_;rintro en w1 ⟨u,rfl,hu,hb1⟩)
      | (go_at_call 13;refine (hof hb1 hu).mono ?_;rintro en w2 ⟨rfl,hw2,hm2⟩;have kT2:=(kT.below hb1 kT.lt).kept ((hw.below (hbA.trans (hb1.mono hbA.size))).kept hm2 _ (kT.below hb1 kT.lt).lt (.inr l10));have p2:=kT2.cell 1 _ rfl;have p4:=hw2.x4.cell 1 _ rfl)
      | (go_at_call 41;refine (hfns hw2).mono ?_;rintro en w3 ⟨rfl,hw3,hm3⟩;have kT3:=kT2.kept (hw2.kept hm3 _ kT2.lt (.inr l10)))
      | (go_at_call 10;refine (hnew w3.heap.size _ (Cl.new2 rfl)).mono ?_;rintro en w4 ⟨P2,L2,Bs2,B2,rfl,hg2,hb4,hP2,hL2,hBs2,hB2⟩;have hb34:=((Below.refl w3.heap.size w3).alloc (Nat.le_refl _) _).trans (hb4.mono (by simp));have hw4:=hw3.below hb34;have lB2:w3.heap.size≤B2:=(by simp at hB2;omega))
      | (go_at_call 36;refine (himg hw4).mono ?_;rintro en w5 ⟨G,cG,rfl,hG,hGl,hb5⟩;have hw5:=hw4.below hb5;have hb35:=hb34.trans (hb5.mono hb34.size);have hg25:=hg2.below hb5)
      | (go_at_call 24;refine (hwrt hg25 (hbx hw5.dr.f.mem.byte) hG hGl).mono ?_;rintro en w6 ⟨rfl,hg6,hm6⟩;have hb36:=hb35.trans (hm6.below (base:=w3.heap.size) (fun k hk=>by rw [hk];exact lB2) hb35.size);have hw6:=hw3.below hb36;have hWw:=e5 (hWb hg6.byte);have x2:w6.cell? ⟨d.X10,2,none⟩=some (.int .u64 4096):=hw6.x10.cell 2 _ rfl;have y0:=hw6.x13.cell 0 _ rfl)
      | (go_at_call 42;refine (hld hg6).mono ?_;rintro en w7 ⟨rfl,hb7⟩;have hw7:=hw6.below hb7;have hg7:=hg6.below hb7;have hb37:=hb36.trans (hb7.mono hb36.size);have z0:w7.cell? ⟨d.X10,0,none⟩=some (.bool true):=hw7.x10.cell 0 _ rfl;have z1:w7.cell? ⟨d.X10,1,none⟩=some (.int .i64 n):=hw7.x10.cell 1 _ rfl;have z2:w7.cell? ⟨d.X10,2,none⟩=some (.int .u64 4096):=hw7.x10.cell 2 _ rfl;have z3:w7.cell? ⟨d.X10,3,none⟩=some (.int .u64 (4096+16*n)):=hw7.x10.cell 3 _ rfl;have z4:w7.cell? ⟨d.X10,4,none⟩=some (.int .u64 (4100+16*n)):=hw7.x10.cell 4 _ rfl;have y70:=hw7.x13.cell 0 _ rfl;have y71:=hw7.x13.cell 1 _ rfl;have q74:=hw7.x4.cell 1 _ rfl)
      | (go_at_call 43;refine (hpk hg7).mono ?_;rintro en w8 ⟨v,rfl,hv,hb8⟩;obtain ⟨sv,cv,hve,hj8⟩:=hv.slice;clear hj8;subst hve;have hb38:=hb37.trans (hb8.mono hb37.size);have hX30:=HidQ.mk (hw3.below hb38).x14.lt;have kR:=Cl.new w8 #[.int .i64 id,.int .i64 c.sl.length,.slice sv c.sl.length cv] 102;have hbR:=(Below.refl w8.heap.size w8).alloc (Nat.le_refl _) (Obj.cells #[.int .i64 id,.int .i64 c.sl.length,.slice sv c.sl.length cv] 102);have hvR:=hv.kept fun b e=>hbR.block b (hv.lt b e).2.1;have hb3R:=hb38.trans (hbR.mono hb38.size);have hwR:=hw3.below hb3R;have kTR:=kT3.below hb3R kT3.lt;have tR:=kTR.cell 1 _ rfl;clear hw hks hof hfns hnew himg hwrt hld hpk hu hb1 hw2 hm2 kT2 p2 p4 hm3 kT hbA pT hv0 hg2 hb4 hP2 hL2 hBs2 hB2 hb34 hw4 lB2 hG hGl hb5 hw5 hb35 hg25 hm6 hb36 hw6 x2 y0 hb7 hw7 hg7 hb37 z0 z1 z2 z3 z4 y70 y71 q74 hv hb8 hb38 hbR hb3R kTR hw3 kT3;have r0:=kR.cell 0 _ rfl;have r1:=kR.cell 1 _ rfl;have r2:=kR.cell 2 _ rfl)
      | (go_at_call 44;refine (hssg hwR.old hvR).mono ?_;rintro en w9 ⟨rfl,hb9⟩;have hw9:=hwR.below hb9;have kR9:=kR.below hb9 kR.lt;have s1':=kR9.cell 1 _ rfl;have y91:=hw9.x13.cell 1 _ rfl)
      | (go_at_call 45;refine (hrv (hWb hg6.byte) _).mono ?_;rintro en w10 ⟨rfl,hb10⟩;have hw10:=hw9.below hb10;have kR10:=kR9.below hb10 kR9.lt)
      | (go_at_call 32;refine (hsp hw10).mono ?_;rintro en w11 ⟨rfl,hw11⟩;have hw11:=hw11.symm;subst hw11)
      | go_in)
    clear hssg hrv hsp hWb hWw hg6 hw9 kR9 s1' y91 hb9 hb10 r0 r1 r2 tR hwR kR hvR e5;have hlc:(s.L.length:Int)≤16:=by omega
    generalize hWR:w8.heap.size=X30 at kR10 hX30 ⊢;clear hWR;go_loopw [32] (fun i wr=>Below w10.heap.size w10 wr∧ ∃k:Nat,k≤s.L.length∧i= .int .i64 k) (fun i _=>s.L.length-(RowKit.intOf i).toNat)
    case atStart=>exact ⟨Below.refl _ _,0,Nat.zero_le _,rfl⟩
    case round=>
      obtain ⟨hb,k,hk,rfl⟩:=hrel;have hwr:=hw10.below hb;by_cases hkm:k<s.L.length
      · have hkm':(k:Int)<s.L.length:=by omega
        rcases hOr with hOr|⟨G,rfl,_,_⟩
        · have:=congrArg List.length hOr;rw [zaY] at this;have:s.L.length*3=0:=this;omega
        obtain ⟨hGr,_,_,_⟩:=hwr.out;obtain ⟨o0,_,_⟩:=zch s.L k hkm;have g0:=hGr _ _ o0;rw [Nat.zero_add] at g0;have kR:=kR10.below hb kR10.lt;have r0:=kR.cell 0 _ rfl;have hne: ¬(s.L[k]).id=id:=fun q=>by
          have:=zc9.2 ⟨s.L[k],List.getElem_mem hkm,q⟩;rw [hfree.out] at this;cases this
        generalize (s.L[k]).id=ik at o0 g0 hne;have hbf:=beq_false_of_ne hne;clear hfree hgo o0 hne;go_wp2_with fail;go_quiet (fail);go_wp2;exact ⟨⟨below_drewN hb _,k+1,by omega,by push_cast;rfl⟩,by simp only [RowKit.intOf];omega⟩
      · have hkm': ¬(k:Int)<s.L.length:=by omega
        clear hOr;have kR:=kR10.below hb kR10.lt;have hbw:=hb;clear hb hw10 kR10;have y0:=hwr.x13.cell 0 _ rfl;have y1:=hwr.x13.cell 1 _ rfl;have hXn:X30≠d.X13:=by
          have h1:=hX30.out;have h2:=hwr.x10l.2.2.2;omega
        clear hX30;obtain ⟨i0,hi0,j1,j2,j3⟩:=info_parts znr;have hU:prog.underlying 92=some (.slice 95):=by kernel_rfl
        go_wp2_with (first
          | (go_at_call 40;refine (hgo _).mono ?_;rintro en w9 ⟨rfl,hb9⟩;have hw9:=hwr.below hb9;have f0:=hw9.x13.free 0;have f1:=hw9.x13.free 1;have c0:=hw9.x13.cell 0 _ rfl;have c1:=hw9.x13.cell 1 _ rfl;have kR9:=kR.below hb9 kR.lt;have hwX:=hw9.set13 (zaj (zaj (zaa (K:=(· =d.X13)) (Below.refl w9.heap.size w9)) d.X13 0 (.int .i64 v1) rfl) d.X13 1 (.bool v2) rfl) ((hw9.x13.set 0 (.int .i64 v1) (by simp)).set 1 (.bool v2) (by simp));have kRX:=kR9.kept (w':=(w9.setCell ⟨d.X13,0,none⟩ (.int .i64 v1)).setCell ⟨d.X13,1,none⟩ (.bool v2)) ((Below.heap_setCell _ ⟨d.X13,1,none⟩ _ _ hXn).trans (Below.heap_setCell _ ⟨d.X13,0,none⟩ _ _ hXn));have r0:=kRX.cell 0 _ rfl;obtain ⟨tA,hrow⟩:=hwX.row;have hbN:=(Below.refl ((w9.setCell ⟨d.X13,0,none⟩ (.int .i64 v1)).setCell ⟨d.X13,1,none⟩ (.bool v2)).heap.size ((w9.setCell ⟨d.X13,0,none⟩ (.int .i64 v1)).setCell ⟨d.X13,1,none⟩ (.bool v2))).alloc (Nat.le_refl _) (Obj.cells #[.int .i64 id,.int .i64 tk,.int .i64 c.sl.length] 95);have hrowN:=OwnR.kept hrow fun b e=>hbN.block b (OwnR.lt hrow b e).2;have kN:=Cl.new ((w9.setCell ⟨d.X13,0,none⟩ (.int .i64 v1)).setCell ⟨d.X13,1,none⟩ (.bool v2)) #[.int .i64 id,.int .i64 tk,.int .i64 c.sl.length] 95;have hsz9:((w9.setCell ⟨d.X13,0,none⟩ (.int .i64 v1)).setCell ⟨d.X13,1,none⟩ (.bool v2)).heap.size=w9.heap.size:=(by simp);rw [hsz9] at kN;clear hsz9;have hX14:d.X14+1≤((w9.setCell ⟨d.X13,0,none⟩ (.int .i64 v1)).setCell ⟨d.X13,1,none⟩ (.bool v2)).heap.size:=hwX.x14.lt)
          | (at_builtin;go_loud (refine zjj rfl _ _ 92 rfl (d.X14+1) 95 tA i0 _ 3 24 hU hi0 j1 j2 j3 rfl (by decide) (.slice sov s.L.length cov) s.L.length (zap s.L) rfl hrowN ⟨w9.heap.size,0,none⟩ 1 1 [.int .i64 id,.int .i64 tk,.int .i64 c.sl.length] rfl rfl (fun j u hu=>by rw [Dw.addr_add,Nat.zero_add];exact kN.cell j u hu) (fun u hu=>by simp only [List.mem_cons,List.not_mem_nil,or_false] at hu;rcases hu with rfl|rfl|rfl<;>rfl) (by unfold maxLen;omega) (by omega) (Nat.le_trans hX14 hbN.size) ?_);intro v' wa t' n1 n3 n4;go_frame)
          | go_in)
        have hg:=n3.size;have hwF:=hwX.setO (M':=s.L++ [⟨id,tk,c.sl.length⟩]) ⟨n3.os,n3.tape,n3.output,by simp at hg ⊢;omega,fun b hb hn=>(n3.block b (by simp at hb ⊢;omega) fun e=>hn e.symm).trans (hbN.block b hb)⟩ (by
          rw [List.length_append,zbC];exact n1) (fun b e=>by
            rcases n4 with q|q
            · rw [q] at e;exact .inl e
            · rw [q] at e;simp at e;simp;omega)
        obtain ⟨m1,m2,m3,m4,m5,m6⟩:=hM3.out.1;have hS:=hM3.out.2;rw [←m1,←m2,←m3,←m4,←m6] at hwF;obtain ⟨sa9,ca9,hve9,hj9⟩:=OwnR.row n1;refine ⟨rfl,s3,g3,v',tk+1,⟨rfl,rfl,rfl,rfl,rfl,rfl,rfl,rfl,rfl,rfl,rfl,by rw [m5];rfl,by push_cast;rfl⟩,hwF,hS⟩
  · refine zaD (c':=(zae 0 (zae 0 (zae 1 (zae 0 (zae 1 (zae 1 (zae 1 (zae 1 (zae 1 (zae 1 (zae 1 (zae 1 (zae 1 (zae 1 (match (f4).body with|some c=>c|none=> .skip)))))))))))))))) (by kernel_rfl) ?_
    dsimp only [f4,zae]
    go_wp2_with (first
      | (go_at_call 14;refine hks.mono ?_;rintro en w1 ⟨u,rfl,hu,hb1⟩)
      | (go_at_call 13;refine (hof hb1 hu).mono ?_;rintro en w2 ⟨rfl,hw2,hm2⟩;have kT2:=(kT.below hb1 kT.lt).kept ((hw.below (hbA.trans (hb1.mono hbA.size))).kept hm2 _ (kT.below hb1 kT.lt).lt (.inr l10));have p2:=kT2.cell 1 _ rfl;have p4:=hw2.x4.cell 1 _ rfl)
      | (go_at_call 41;refine (hfns hw2).mono ?_;rintro en w3 ⟨rfl,hw3,hm3⟩;have kT3:=kT2.kept (hw2.kept hm3 _ kT2.lt (.inr l10)))
      | (go_at_call 10;refine (hnew w3.heap.size _ (Cl.new2 rfl)).mono ?_;rintro en w4 ⟨P2,L2,Bs2,B2,rfl,hg2,hb4,hP2,hL2,hBs2,hB2⟩;have hb34:=((Below.refl w3.heap.size w3).alloc (Nat.le_refl _) _).trans (hb4.mono (by simp));have hw4:=hw3.below hb34;have lB2:w3.heap.size≤B2:=(by simp at hB2;omega))
      | (go_at_call 36;refine (himg hw4).mono ?_;rintro en w5 ⟨G,cG,rfl,hG,hGl,hb5⟩;have hw5:=hw4.below hb5;have hb35:=hb34.trans (hb5.mono hb34.size);have hg25:=hg2.below hb5)
      | (go_at_call 24;refine (hwrt hg25 (hbx hw5.dr.f.mem.byte) hG hGl).mono ?_;rintro en w6 ⟨rfl,hg6,hm6⟩;have hb36:=hb35.trans (hm6.below (base:=w3.heap.size) (fun k hk=>by rw [hk];exact lB2) hb35.size);have hw6:=hw3.below hb36;have hWw:=e5 (hWb hg6.byte);have x2:w6.cell? ⟨d.X10,2,none⟩=some (.int .u64 4096):=hw6.x10.cell 2 _ rfl;have y0:=hw6.x13.cell 0 _ rfl)
      | (go_at_call 42;refine (hld hg6).mono ?_;rintro en w7 ⟨rfl,hb7⟩;have hw7:=hw6.below hb7;have hg7:=hg6.below hb7;have hb37:=hb36.trans (hb7.mono hb36.size);have z0:w7.cell? ⟨d.X10,0,none⟩=some (.bool true):=hw7.x10.cell 0 _ rfl;have z1:w7.cell? ⟨d.X10,1,none⟩=some (.int .i64 n):=hw7.x10.cell 1 _ rfl;have z2:w7.cell? ⟨d.X10,2,none⟩=some (.int .u64 4096):=hw7.x10.cell 2 _ rfl;have z3:w7.cell? ⟨d.X10,3,none⟩=some (.int .u64 (4096+16*n)):=hw7.x10.cell 3 _ rfl;have z4:w7.cell? ⟨d.X10,4,none⟩=some (.int .u64 (4100+16*n)):=hw7.x10.cell 4 _ rfl;have y70:=hw7.x13.cell 0 _ rfl;have y71:=hw7.x13.cell 1 _ rfl;have q74:=hw7.x4.cell 1 _ rfl)
      | (go_at_call 43;refine (hpk hg7).mono ?_;rintro en w8 ⟨v,rfl,hv,hb8⟩;obtain ⟨sv,cv,hve,hj8⟩:=hv.slice;clear hj8;subst hve;have hb38:=hb37.trans (hb8.mono hb37.size);have hX30:=HidQ.mk (hw3.below hb38).x14.lt;have kR:=Cl.new w8 #[.int .i64 id,.int .i64 1,.slice sv c.sl.length cv] 102;have hbR:=(Below.refl w8.heap.size w8).alloc (Nat.le_refl _) (Obj.cells #[.int .i64 id,.int .i64 1,.slice sv c.sl.length cv] 102);have hvR:=hv.kept fun b e=>hbR.block b (hv.lt b e).2.1;have hb3R:=hb38.trans (hbR.mono hb38.size);have hwR:=hw3.below hb3R;have kTR:=kT3.below hb3R kT3.lt;have tR:=kTR.cell 1 _ rfl;clear hw hks hof hfns hnew himg hwrt hld hpk hu hb1 hw2 hm2 kT2 p2 p4 hm3 kT hbA pT hv0 hg2 hb4 hP2 hL2 hBs2 hB2 hb34 hw4 lB2 hG hGl hb5 hw5 hb35 hg25 hm6 hb36 hw6 x2 y0 hb7 hw7 hg7 hb37 z0 z1 z2 z3 z4 y70 y71 q74 hv hb8 hb38 hbR hb3R kTR hw3 kT3;have r0:=kR.cell 0 _ rfl;have r1:=kR.cell 1 _ rfl;have r2:=kR.cell 2 _ rfl)
      | (go_at_call 44;refine (hssg hwR.old hvR).mono ?_;rintro en w9 ⟨rfl,hb9⟩;have hw9:=hwR.below hb9;have kR9:=kR.below hb9 kR.lt;have s1':=kR9.cell 1 _ rfl;have y91:=hw9.x13.cell 1 _ rfl)
      | (go_at_call 45;refine (hrv (hWb hg6.byte) _).mono ?_;rintro en w10 ⟨rfl,hb10⟩;have hw10:=hw9.below hb10;have kR10:=kR9.below hb10 kR9.lt)
      | (go_at_call 32;refine (hsp hw10).mono ?_;rintro en w11 ⟨rfl,hw11⟩;have hw11:=hw11.symm;subst hw11)
      | go_in)
    clear hssg hrv hsp hWb hWw hg6 hw9 kR9 s1' y91 hb9 hb10 r0 r1 r2 tR hwR kR hvR e5;have hlc:(s.L.length:Int)≤16:=by omega
    generalize hWR:w8.heap.size=X30 at kR10 hX30 ⊢;clear hWR;go_loopw [32] (fun i wr=>Below w10.heap.size w10 wr∧ ∃k:Nat,k≤s.L.length∧i= .int .i64 k) (fun i _=>s.L.length-(RowKit.intOf i).toNat)
    case atStart=>exact ⟨Below.refl _ _,0,Nat.zero_le _,rfl⟩
    case round=>
      obtain ⟨hb,k,hk,rfl⟩:=hrel;have hwr:=hw10.below hb;by_cases hkm:k<s.L.length
      · have hkm':(k:Int)<s.L.length:=by omega
        rcases hOr with hOr|⟨G,rfl,_,_⟩
        · have:=congrArg List.length hOr;rw [zaY] at this;have:s.L.length*3=0:=this;omega
        obtain ⟨hGr,_,_,_⟩:=hwr.out;obtain ⟨o0,_,_⟩:=zch s.L k hkm;have g0:=hGr _ _ o0;rw [Nat.zero_add] at g0;have kR:=kR10.below hb kR10.lt;have r0:=kR.cell 0 _ rfl;have hne: ¬(s.L[k]).id=id:=fun q=>by
          have:=zc9.2 ⟨s.L[k],List.getElem_mem hkm,q⟩;rw [hfree.out] at this;cases this
        generalize (s.L[k]).id=ik at o0 g0 hne;have hbf:=beq_false_of_ne hne;clear hfree hgo o0 hne;go_wp2_with fail;go_quiet (fail);go_wp2;exact ⟨⟨below_drewN hb _,k+1,by omega,by push_cast;rfl⟩,by simp only [RowKit.intOf];omega⟩
      · have hkm': ¬(k:Int)<s.L.length:=by omega
        clear hOr;have kR:=kR10.below hb kR10.lt;have hbw:=hb;clear hb hw10 kR10;have y0:=hwr.x13.cell 0 _ rfl;have y1:=hwr.x13.cell 1 _ rfl;have hXn:X30≠d.X13:=by
          have h1:=hX30.out;have h2:=hwr.x10l.2.2.2;omega
        clear hX30;obtain ⟨i0,hi0,j1,j2,j3⟩:=info_parts znr;have hU:prog.underlying 92=some (.slice 95):=by kernel_rfl
        go_wp2_with (first
          | (go_at_call 40;refine (hgo _).mono ?_;rintro en w9 ⟨rfl,hb9⟩;have hw9:=hwr.below hb9;have f0:=hw9.x13.free 0;have f1:=hw9.x13.free 1;have c0:=hw9.x13.cell 0 _ rfl;have c1:=hw9.x13.cell 1 _ rfl;have kR9:=kR.below hb9 kR.lt;have hwX:=hw9.set13 (zaj (zaj (zaa (K:=(· =d.X13)) (Below.refl w9.heap.size w9)) d.X13 0 (.int .i64 v1) rfl) d.X13 1 (.bool v2) rfl) ((hw9.x13.set 0 (.int .i64 v1) (by simp)).set 1 (.bool v2) (by simp));have kRX:=kR9.kept (w':=(w9.setCell ⟨d.X13,0,none⟩ (.int .i64 v1)).setCell ⟨d.X13,1,none⟩ (.bool v2)) ((Below.heap_setCell _ ⟨d.X13,1,none⟩ _ _ hXn).trans (Below.heap_setCell _ ⟨d.X13,0,none⟩ _ _ hXn));have r0:=kRX.cell 0 _ rfl;obtain ⟨tA,hrow⟩:=hwX.row;have hbN:=(Below.refl ((w9.setCell ⟨d.X13,0,none⟩ (.int .i64 v1)).setCell ⟨d.X13,1,none⟩ (.bool v2)).heap.size ((w9.setCell ⟨d.X13,0,none⟩ (.int .i64 v1)).setCell ⟨d.X13,1,none⟩ (.bool v2))).alloc (Nat.le_refl _) (Obj.cells #[.int .i64 id,.int .i64 tk,.int .i64 1] 95);have hrowN:=OwnR.kept hrow fun b e=>hbN.block b (OwnR.lt hrow b e).2;have kN:=Cl.new ((w9.setCell ⟨d.X13,0,none⟩ (.int .i64 v1)).setCell ⟨d.X13,1,none⟩ (.bool v2)) #[.int .i64 id,.int .i64 tk,.int .i64 1] 95;have hsz9:((w9.setCell ⟨d.X13,0,none⟩ (.int .i64 v1)).setCell ⟨d.X13,1,none⟩ (.bool v2)).heap.size=w9.heap.size:=(by simp);rw [hsz9] at kN;clear hsz9;have hX14:d.X14+1≤((w9.setCell ⟨d.X13,0,none⟩ (.int .i64 v1)).setCell ⟨d.X13,1,none⟩ (.bool v2)).heap.size:=hwX.x14.lt)
          | (at_builtin;go_loud (refine zjj rfl _ _ 92 rfl (d.X14+1) 95 tA i0 _ 3 24 hU hi0 j1 j2 j3 rfl (by decide) (.slice sov s.L.length cov) s.L.length (zap s.L) rfl hrowN ⟨w9.heap.size,0,none⟩ 1 1 [.int .i64 id,.int .i64 tk,.int .i64 1] rfl rfl (fun j u hu=>by rw [Dw.addr_add,Nat.zero_add];exact kN.cell j u hu) (fun u hu=>by simp only [List.mem_cons,List.not_mem_nil,or_false] at hu;rcases hu with rfl|rfl|rfl<;>rfl) (by unfold maxLen;omega) (by omega) (Nat.le_trans hX14 hbN.size) ?_);intro v' wa t' n1 n3 n4;go_frame)
          | go_in)
        have hg:=n3.size;have hwF:=hwX.setO (M':=s.L++ [⟨id,tk,1⟩]) ⟨n3.os,n3.tape,n3.output,by simp at hg ⊢;omega,fun b hb hn=>(n3.block b (by simp at hb ⊢;omega) fun e=>hn e.symm).trans (hbN.block b hb)⟩ (by
          rw [List.length_append,zbC];exact n1) (fun b e=>by
            rcases n4 with q|q
            · rw [q] at e;exact .inl e
            · rw [q] at e;simp at e;simp;omega)
        obtain ⟨m1,m2,m3,m4,m5,m6⟩:=hM3.out.1;have hS:=hM3.out.2;rw [←m1,←m2,←m3,←m4,←m6] at hwF;obtain ⟨sa9,ca9,hve9,hj9⟩:=OwnR.row n1;refine ⟨rfl,s3,g3,v',tk+1,⟨rfl,rfl,rfl,rfl,rfl,rfl,rfl,rfl,rfl,rfl,rfl,by rw [m5];rfl,by push_cast;rfl⟩,hwF,hS⟩
  · refine zaD (c':=(zae 0 (zae 0 (zae 1 (zae 0 (zae 1 (zae 1 (zae 1 (zae 1 (zae 1 (zae 1 (zae 1 (zae 1 (zae 1 (zae 1 (match (f4).body with|some c=>c|none=> .skip)))))))))))))))) (by kernel_rfl) ?_
    dsimp only [f4,zae]
    go_wp2_with (first
      | (go_at_call 14;refine hks.mono ?_;rintro en w1 ⟨u,rfl,hu,hb1⟩)
      | (go_at_call 13;refine (hof hb1 hu).mono ?_;rintro en w2 ⟨rfl,hw2,hm2⟩;have kT2:=(kT.below hb1 kT.lt).kept ((hw.below (hbA.trans (hb1.mono hbA.size))).kept hm2 _ (kT.below hb1 kT.lt).lt (.inr l10));have p2:=kT2.cell 1 _ rfl;have p4:=hw2.x4.cell 1 _ rfl)
      | (go_at_call 41;refine (hfns hw2).mono ?_;rintro en w3 ⟨rfl,hw3,hm3⟩;have kT3:=kT2.kept (hw2.kept hm3 _ kT2.lt (.inr l10)))
      | (go_at_call 10;refine (hnew w3.heap.size _ (Cl.new2 rfl)).mono ?_;rintro en w4 ⟨P2,L2,Bs2,B2,rfl,hg2,hb4,hP2,hL2,hBs2,hB2⟩;have hb34:=((Below.refl w3.heap.size w3).alloc (Nat.le_refl _) _).trans (hb4.mono (by simp));have hw4:=hw3.below hb34;have lB2:w3.heap.size≤B2:=(by simp at hB2;omega))
      | (go_at_call 36;refine (himg hw4).mono ?_;rintro en w5 ⟨G,cG,rfl,hG,hGl,hb5⟩;have hw5:=hw4.below hb5;have hb35:=hb34.trans (hb5.mono hb34.size);have hg25:=hg2.below hb5)
      | (go_at_call 24;refine (hwrt hg25 (hbx hw5.dr.f.mem.byte) hG hGl).mono ?_;rintro en w6 ⟨rfl,hg6,hm6⟩;have hb36:=hb35.trans (hm6.below (base:=w3.heap.size) (fun k hk=>by rw [hk];exact lB2) hb35.size);have hw6:=hw3.below hb36;have hWw:=e5 (hWb hg6.byte);have x2:w6.cell? ⟨d.X10,2,none⟩=some (.int .u64 4096):=hw6.x10.cell 2 _ rfl;have y0:=hw6.x13.cell 0 _ rfl)
      | (go_at_call 42;refine (hld hg6).mono ?_;rintro en w7 ⟨rfl,hb7⟩;have hw7:=hw6.below hb7;have hg7:=hg6.below hb7;have hb37:=hb36.trans (hb7.mono hb36.size);have z0:w7.cell? ⟨d.X10,0,none⟩=some (.bool true):=hw7.x10.cell 0 _ rfl;have z1:w7.cell? ⟨d.X10,1,none⟩=some (.int .i64 n):=hw7.x10.cell 1 _ rfl;have z2:w7.cell? ⟨d.X10,2,none⟩=some (.int .u64 4096):=hw7.x10.cell 2 _ rfl;have z3:w7.cell? ⟨d.X10,3,none⟩=some (.int .u64 (4096+16*n)):=hw7.x10.cell 3 _ rfl;have z4:w7.cell? ⟨d.X10,4,none⟩=some (.int .u64 (4100+16*n)):=hw7.x10.cell 4 _ rfl;have y70:=hw7.x13.cell 0 _ rfl;have y71:=hw7.x13.cell 1 _ rfl;have q74:=hw7.x4.cell 1 _ rfl)
      | (go_at_call 43;refine (hpk hg7).mono ?_;rintro en w8 ⟨v,rfl,hv,hb8⟩;obtain ⟨sv,cv,hve,hj8⟩:=hv.slice;clear hj8;subst hve;have hb38:=hb37.trans (hb8.mono hb37.size);have hX30:=HidQ.mk (hw3.below hb38).x14.lt;have kR:=Cl.new w8 #[.int .i64 id,.int .i64 c.sl.length,.slice sv c.sl.length cv] 102;have hbR:=(Below.refl w8.heap.size w8).alloc (Nat.le_refl _) (Obj.cells #[.int .i64 id,.int .i64 c.sl.length,.slice sv c.sl.length cv] 102);have hvR:=hv.kept fun b e=>hbR.block b (hv.lt b e).2.1;have hb3R:=hb38.trans (hbR.mono hb38.size);have hwR:=hw3.below hb3R;have kTR:=kT3.below hb3R kT3.lt;have tR:=kTR.cell 1 _ rfl;clear hw hks hof hfns hnew himg hwrt hld hpk hu hb1 hw2 hm2 kT2 p2 p4 hm3 kT hbA pT hv0 hg2 hb4 hP2 hL2 hBs2 hB2 hb34 hw4 lB2 hG hGl hb5 hw5 hb35 hg25 hm6 hb36 hw6 x2 y0 hb7 hw7 hg7 hb37 z0 z1 z2 z3 z4 y70 y71 q74 hv hb8 hb38 hbR hb3R kTR hw3 kT3;have r0:=kR.cell 0 _ rfl;have r1:=kR.cell 1 _ rfl;have r2:=kR.cell 2 _ rfl)
      | (go_at_call 44;refine (hssg hwR.old hvR).mono ?_;rintro en w9 ⟨rfl,hb9⟩;have hw9:=hwR.below hb9;have kR9:=kR.below hb9 kR.lt;have s1':=kR9.cell 1 _ rfl;have y91:=hw9.x13.cell 1 _ rfl)
      | (go_at_call 45;refine (hrv (hWb hg6.byte) _).mono ?_;rintro en w10 ⟨rfl,hb10⟩;have hw10:=hw9.below hb10;have kR10:=kR9.below hb10 kR9.lt)
      | (go_at_call 32;refine (hsp hw10).mono ?_;rintro en w11 ⟨rfl,hw11⟩;have hw11:=hw11.symm;subst hw11)
      | go_in)
    clear hssg hrv hsp hWb hWw hg6 hw9 kR9 s1' y91 hb9 hb10 r0 r1 r2 tR hwR kR hvR e5;have hlc:(s.L.length:Int)≤16:=by omega
    generalize hWR:w8.heap.size=X30 at kR10 hX30 ⊢;clear hWR;go_loopw [32] (fun i wr=>Below w10.heap.size w10 wr∧ ∃k:Nat,k≤s.L.length∧i= .int .i64 k) (fun i _=>s.L.length-(RowKit.intOf i).toNat)
    case atStart=>exact ⟨Below.refl _ _,0,Nat.zero_le _,rfl⟩
    case round=>
      obtain ⟨hb,k,hk,rfl⟩:=hrel;have hwr:=hw10.below hb;by_cases hkm:k<s.L.length
      · have hkm':(k:Int)<s.L.length:=by omega
        rcases hOr with hOr|⟨G,rfl,_,_⟩
        · have:=congrArg List.length hOr;rw [zaY] at this;have:s.L.length*3=0:=this;omega
        obtain ⟨hGr,_,_,_⟩:=hwr.out;obtain ⟨o0,_,_⟩:=zch s.L k hkm;have g0:=hGr _ _ o0;rw [Nat.zero_add] at g0;have kR:=kR10.below hb kR10.lt;have r0:=kR.cell 0 _ rfl;have hne: ¬(s.L[k]).id=id:=fun q=>by
          have:=zc9.2 ⟨s.L[k],List.getElem_mem hkm,q⟩;rw [hfree.out] at this;cases this
        generalize (s.L[k]).id=ik at o0 g0 hne;have hbf:=beq_false_of_ne hne;clear hfree hgo o0 hne;go_wp2_with fail;go_quiet (fail);go_wp2;exact ⟨⟨below_drewN hb _,k+1,by omega,by push_cast;rfl⟩,by simp only [RowKit.intOf];omega⟩
      · have hkm': ¬(k:Int)<s.L.length:=by omega
        clear hOr;have kR:=kR10.below hb kR10.lt;have hbw:=hb;clear hb hw10 kR10;have y0:=hwr.x13.cell 0 _ rfl;have y1:=hwr.x13.cell 1 _ rfl;have hXn:X30≠d.X13:=by
          have h1:=hX30.out;have h2:=hwr.x10l.2.2.2;omega
        clear hX30;obtain ⟨i0,hi0,j1,j2,j3⟩:=info_parts znr;have hU:prog.underlying 92=some (.slice 95):=by kernel_rfl
        go_wp2_with (first
          | (go_at_call 40;refine (hgo _).mono ?_;rintro en w9 ⟨rfl,hb9⟩;have hw9:=hwr.below hb9;have f0:=hw9.x13.free 0;have f1:=hw9.x13.free 1;have c0:=hw9.x13.cell 0 _ rfl;have c1:=hw9.x13.cell 1 _ rfl;have kR9:=kR.below hb9 kR.lt;have hwX:=hw9.set13 (zaj (zaj (zaa (K:=(· =d.X13)) (Below.refl w9.heap.size w9)) d.X13 0 (.int .i64 v1) rfl) d.X13 1 (.bool v2) rfl) ((hw9.x13.set 0 (.int .i64 v1) (by simp)).set 1 (.bool v2) (by simp));have kRX:=kR9.kept (w':=(w9.setCell ⟨d.X13,0,none⟩ (.int .i64 v1)).setCell ⟨d.X13,1,none⟩ (.bool v2)) ((Below.heap_setCell _ ⟨d.X13,1,none⟩ _ _ hXn).trans (Below.heap_setCell _ ⟨d.X13,0,none⟩ _ _ hXn));have r0:=kRX.cell 0 _ rfl;obtain ⟨tA,hrow⟩:=hwX.row;have hbN:=(Below.refl ((w9.setCell ⟨d.X13,0,none⟩ (.int .i64 v1)).setCell ⟨d.X13,1,none⟩ (.bool v2)).heap.size ((w9.setCell ⟨d.X13,0,none⟩ (.int .i64 v1)).setCell ⟨d.X13,1,none⟩ (.bool v2))).alloc (Nat.le_refl _) (Obj.cells #[.int .i64 id,.int .i64 tk,.int .i64 c.sl.length] 95);have hrowN:=OwnR.kept hrow fun b e=>hbN.block b (OwnR.lt hrow b e).2;have kN:=Cl.new ((w9.setCell ⟨d.X13,0,none⟩ (.int .i64 v1)).setCell ⟨d.X13,1,none⟩ (.bool v2)) #[.int .i64 id,.int .i64 tk,.int .i64 c.sl.length] 95;have hsz9:((w9.setCell ⟨d.X13,0,none⟩ (.int .i64 v1)).setCell ⟨d.X13,1,none⟩ (.bool v2)).heap.size=w9.heap.size:=(by simp);rw [hsz9] at kN;clear hsz9;have hX14:d.X14+1≤((w9.setCell ⟨d.X13,0,none⟩ (.int .i64 v1)).setCell ⟨d.X13,1,none⟩ (.bool v2)).heap.size:=hwX.x14.lt)
          | (at_builtin;go_loud (refine zjj rfl _ _ 92 rfl (d.X14+1) 95 tA i0 _ 3 24 hU hi0 j1 j2 j3 rfl (by decide) (.slice sov s.L.length cov) s.L.length (zap s.L) rfl hrowN ⟨w9.heap.size,0,none⟩ 1 1 [.int .i64 id,.int .i64 tk,.int .i64 c.sl.length] rfl rfl (fun j u hu=>by rw [Dw.addr_add,Nat.zero_add];exact kN.cell j u hu) (fun u hu=>by simp only [List.mem_cons,List.not_mem_nil,or_false] at hu;rcases hu with rfl|rfl|rfl<;>rfl) (by unfold maxLen;omega) (by omega) (Nat.le_trans hX14 hbN.size) ?_);intro v' wa t' n1 n3 n4;go_frame)
          | go_in)
        have hg:=n3.size;have hwF:=hwX.setO (M':=s.L++ [⟨id,tk,c.sl.length⟩]) ⟨n3.os,n3.tape,n3.output,by simp at hg ⊢;omega,fun b hb hn=>(n3.block b (by simp at hb ⊢;omega) fun e=>hn e.symm).trans (hbN.block b hb)⟩ (by
          rw [List.length_append,zbC];exact n1) (fun b e=>by
            rcases n4 with q|q
            · rw [q] at e;exact .inl e
            · rw [q] at e;simp at e;simp;omega)
        obtain ⟨m1,m2,m3,m4,m5,m6⟩:=hM3.out.1;have hS:=hM3.out.2;rw [←m1,←m2,←m3,←m4,←m6] at hwF;obtain ⟨sa9,ca9,hve9,hj9⟩:=OwnR.row n1;refine ⟨rfl,s3,g3,v',tk+1,⟨rfl,rfl,rfl,rfl,rfl,rfl,rfl,rfl,rfl,rfl,rfl,by rw [m5];rfl,by push_cast;rfl⟩,hwF,hS⟩
end Go.Proofs
end
