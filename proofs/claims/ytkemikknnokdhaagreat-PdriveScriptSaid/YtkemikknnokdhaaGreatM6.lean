/-
  Proved: laws on the way to 'PdriveScriptProof' (texts VbJ VbK VbM VdH VcE VcF VcG VcH VcI VcJ VcA VcB VcC VcD VdF VdI VdJ VdK VdM); no condition.
-/
import Derived.Test.YtkemikknnokdhaaGreatM5
import Derived.Deep.CutBlock
set_option linter.unusedSimpArgs false
set_option linter.unusedVariables false
set_option maxHeartbeats 4000000
noncomputable section
namespace Go.Proofs
open Go.Dw Go.RowKit Go.Maps Go.Sort Go.Deep
theorem Tryz.zpE (w:World) (t:TypeId) (sz:Nat):((w.alloc (Obj.cells #[] t)).drew).ownsRow w.heap.size t sz (.slice (some ⟨w.heap.size,0,none⟩) 0 0) 0 []:=
 ⟨by simp,.inr ⟨_,0,_,rfl,yaa _,ydh w _,yaa _,yar _,by simp,by simp⟩⟩
theorem Tryz.znm {w:World} {G:Nat} {cs:List Value} (h:w.rangeAt G 0 cs) {k c:Nat} (hc:cs.length≤c*3): ∀j u,(cs.drop (k*3))[j]? =some u→w.cell? ((if c=k then (⟨G,0,none⟩:Addr) else ⟨G,k*3,none⟩).add j)=some u:=fun j u hu=>by
 by_cases hk:c=k
 ·subst hk;rw [List.drop_eq_nil_of_le hc] at hu;cases hu
 ·rw [yah hk];rw [Dw.addr_add];rw [ybN] at hu;have:=h _ u hu
  rwa [yaf] at this
set_option maxRecDepth 100000 in
theorem Tryz.ztv {A:Nat→Prop} {w:World} {S P L Bs B N b2:Nat} {r:Rg} {s:DS} {g:Nat→Int} {lv:Value} (h:YW A w S P L Bs B N b2 r s g lv) (hp:s.ph=16) {e:DO} (hget:fA s.L (bW g (4096+16*s.sx+8).toNat 8/4294967296%65536)=some e) {s':DS} (hs':s'=({ s with tok:=e.tk,wr:=bW g (4096+16*s.sx+8).toNat 8%4294967296,own:=s.own+e.ct,L:=dJ s.L e.id,sx:=(dF r.n s.sx s.sw e.ct).1,sw:=(dF r.n s.sx s.sw e.ct).2 }:DS).stop) (hpb:DB r s'):
    Calls prog 85 #[.pointer (some ⟨S,0,none⟩)] w fun en w'=>en= .returned (.tuple #[.agg #[.int .i64 2,.int .i64 1,.int .i64 s.sx],.int .i64 0])∧ ∃bG,YW A w' S P L Bs B N b2 r s' g bG∧(∀b,bG.ownBlock=some b→w.heap.size≤b)∧Dw.Mv (fun b=>b=S∨b=B) w w':=by
  obtain ⟨au,aj,q1,q2,q3⟩:=h.obj;have hlt:=h.oH;have hbn:=h.rg.bnd;have hd:=h.rg.d;have hN:=h.hN;have hF:=h.fit;have hsx:=h.pb.sx;have hb1:=(yab w.heap.size w).alloc (yaa _) (Obj.cells #[.int .i64 0,.int .i64 0,.int .i64 0] 54);have hbw:=hb1.alloc (by simp) (Obj.cells #[.int .i64 2,.int .i64 1,.int .i64 s.sx] 54);have kX:=(Cl.new w #[.int .i64 0,.int .i64 0,.int .i64 0] 54).alloc (Obj.cells #[.int .i64 2,.int .i64 1,.int .i64 s.sx] 54);have kY:=Cl.new2 (w:=(w.alloc (Obj.cells #[.int .i64 0,.int .i64 0,.int .i64 0] 54))) (b:=w.heap.size+1) (arr:= #[.int .i64 2,.int .i64 1,.int .i64 s.sx]) (t:=54) (by simp);have o1:=q1.below hb1 q1.lt;have c12:=o1.cell 12 _ rfl;have o2:=q1.below hbw q1.lt;have r2:=h.rm.below hbw;have c16:=o2.cell 16 _ rfl;have iU:w.heap.size≠S:=by omega
  have kJ:w.heap.size+1≠S:=by omega
  have mI:w.heap.size≠B:=by omega
  have CY:w.heap.size+1≠B:=by omega
  have hdn:s.dn=false:=h.pb.dn (.inl (by omega));rw [hp] at c16;obtain ⟨a,ha,ha2⟩: ∃a:Nat,(a:Int)=r.d+16*s.sx+8∧a+8≤N:=⟨(r.d+16*s.sx+8).toNat,by omega,by omega⟩;have e3:IntKind.wrap .u64 (r.d+16*s.sx+8)=(a:Int):=by rw [wrap_u64 _ (by omega) (by omega)];omega
  have ea:(4096+16*s.sx+8).toNat=a:=by omega
  rw [ea] at hget;have hwb:=sV g h.rm.byte a 8;have mM:=fun (w':World) (q:w'.cell? ⟨S,3,none⟩=some (.int .u64 r.d))=>wV q ⟨by omega,by omega⟩ ⟨hsx.1,by omega⟩;have hld:=fun (w':World) (q:aV w' P L Bs B N g)=>Jr P L Bs B N a 8 g _ q h.hN (by decide) ha2;rw [ea] at hs';generalize bW g a 8=wv at hwb hld hget hs';have qX:0≤wv∧wv<18446744073709551616:=⟨hwb.1,by omega⟩;have t1:(wv/4294967296).tmod 65536=wv/4294967296%65536:=ybK (by omega);have t2:wv.tmod 4294967296=wv%4294967296:=ybK (by omega);have t3:IntKind.wrap .i64 (wv/4294967296%65536)=wv/4294967296%65536:=dV (by omega) (by omega);have t4:IntKind.wrap .u32 (wv%4294967296)=wv%4294967296:=by unfold IntKind.wrap;simp [IntKind.signed,IntKind.bits]
  have t5:wv/4294967296%65536%18446744073709551616=wv/4294967296%65536:=by omega
  have hmem:=(yZ hget).1;have hel:=h.pb.el e hmem;have hsum:=OH hmem h.pb.nd;have hps:=h.pb.sum;have hown:=h.pb.own;have hpos:0≤((dJ s.L e.id).map (·.ct)).sum:=by
    have:=gT (L:=dJ s.L e.id) fun x hx=>(h.pb.el x ((IW _ _).subset hx)).2.2.1;omega
  have ew1:IntKind.wrap .i64 (s.own+e.ct)=s.own+e.ct:=dV (by omega) (by omega);obtain ⟨k0,hk0,hke,Gt,hk3⟩:=zuE hget;have hdel:=Za hk0 (by rw [hke]) (id:=e.id) (by rw [Gt];exact hk3);have hgo:=fun w'=>Pn (n:=r.n) (a:=s.sx) (c:=e.ct) (x:=s.sw) ⟨hbn.1,by omega⟩ hsx ⟨by omega,hel.2.2.2⟩ w';obtain ⟨u1,hu1⟩: ∃u1,u1=(dF r.n s.sx s.sw e.ct).1:=⟨_,rfl⟩;obtain ⟨u2,hu2⟩: ∃u2,u2=(dF r.n s.sx s.sw e.ct).2:=⟨_,rfl⟩;rw [←hu1] at hgo hs';rw [←hu2] at hgo hs';rw [hdel] at hs';unfold bM at hgo;have aa1: ∀v2:Value,(((((((((s.aM r P lv au aj).set 19 (.int .i64 e.tk)).set 20 (.int .u32 (wv%4294967296))).set 14 (.int .i64 (s.own+e.ct))).set 12 (.int .i64 u1)).set 13 (.bool u2)).set 15 v2).set 16 (.int .i64 0)).set 22 (.bool true))=s'.aM r P v2 au aj:=fun v2=>by rw [hs'];rfl
  have fL:s'.L=s.L.take k0++s.L.drop (k0+1):=by rw [hs'];rfl
  have fsg:s'.sg=s.sg:=by rw [hs'];rfl
  have fpu:s'.pu=s.pu:=by rw [hs'];rfl
  obtain ⟨ty,hrow⟩:=h.row;obtain ⟨sa,c,hlv,fO⟩:=af.row hrow;have hcap:s.L.length≤c:=by rw [hlv] at hrow;exact af.cap hrow (by omega)
  obtain ⟨G,hsa,iT,hr⟩:=fO.resolve_left (by intro e;have:=yaB List.length e;rw [oK] at this;simp only [ybm] at this;omega);have Rt:=hrow.lt G iT;have hlo:=h.lo;have abX:=h.b2;have La:G≠S:=by omega
  have Ac:s.L.length≤100000:=by
    have:=gT fun x hx=>(h.pb.el x hx).2.2.1;omega
  clear hdel hu1 hu2 hs' hpos hsum hps hown hmem hsx hbn hd hN hF ha ha2 ea hget hwb qX fO hdn;replace hlt:aA _:=⟨hlt⟩;replace hlo:aA _:=⟨hlo⟩;replace hel:aA _:=⟨hel⟩;replace hlv:aA _:=⟨hlv⟩;go_enter func85,ntmps85;go_wp2_with fail;generalize ((w.alloc (Obj.cells #[.int .i64 0,.int .i64 0,.int .i64 0] 54)).alloc (Obj.cells #[.int .i64 2,.int .i64 1,.int .i64 s.sx] 54))=w2 at*;have hbd:=(yab w2.heap.size w2).drew;have od:=o2.below hbd o2.lt;have rd:=r2.below hbd;have d3:=od.cell 3 _ rfl;have x0:=o2.cell 0 _ rfl;have rF:=o2.cell 12 _ rfl;have z0:=od.cell 0 _ rfl;have z12:=od.cell 12 _ rfl;go_region_held3 (fun w'=>w'.cell? ⟨S,0,none⟩=some (.pointer (some ⟨P,0,none⟩))∧w'.cell? ⟨S,12,none⟩=some (.int .i64 s.sx)) (go_keep)
    ((first
      | (go_at_call 60;refine (mM _ d3).mono ?_;rintro en w3 ⟨rfl,hw3⟩;have hw3:=hw3.symm;subst hw3)
      | (go_at_call 42;refine (hld _ rd).mono ?_;rintro en w4 ⟨rfl,hb4⟩;have o4:=od.below hb4 od.lt;have v0:=o4.cell 0 _ rfl;have v12:=o4.cell 12 _ rfl)))
  have lZ:Below w2.heap.size w2 w4:=hbd.trans hb4;have oG:=kX.below lZ kX.lt;have mQ:=kY.below lZ kY.lt;have r4:=r2.below lZ;have Ar:Below w.heap.size w w4:=hbw.trans (lZ.mono hbw.size);have wE:Dw.Mv (fun b=>b=S∨b=B) w w4:=ah Ar;have Hw:=o4.cell 15 _ rfl;clear x0 rF z0 z12 d3 v0 v12 hld mM rd od hbd c12 c16 o1 o2 kX kY r2 lZ hb4 hbw hb1;clear w2;rw [hlv.out,hsa] at Hw;have Gb:G<w4.heap.size:=yae Rt.2 Ar.size;have hr4:=aX hr (Ar.block G Rt.2);go_wp2_with fail;go_loopw [13] (fun x wr=>wr=w4∧ ∃k:Nat,k≤s.L.length∧x= .int .i64 k∧ ∀(j:Nat) (hj:j<s.L.length),j<k→s.L[j].id≠wv/4294967296%65536) (fun x _=>s.L.length-(RowKit.intOf x).toNat)
  case atStart=>exact ⟨rfl,0,yar _,rfl,fun j _ hj=>absurd hj (by omega)⟩
  case round=>
    obtain ⟨rfl,k,hk,rfl,hall⟩:=hrel;have hkl:k<s.L.length:=by
      by_cases q:k<s.L.length
      · exact q
      · exact absurd (by rw [hke];exact Gt) (hall k0 hk0 (by omega))
    have hkl':(k:Int)<s.L.length:=by omega
    obtain ⟨d1,d2,d3⟩:=uV s.L k hkl;have e1:=hr4 _ _ d1;rw [yaf] at e1;by_cases hid:s.L[k].id=wv/4294967296%65536
    · have hkk:k=k0:=by
        rcases Nat.lt_trichotomy k k0 with z|z|z
        · exact absurd hid (hk3 k z)
        · exact z
        · exact absurd (by rw [hke];exact Gt) (hall k0 hk0 z)
      subst hkk;have e2:=hr4 _ _ d2;rw [yaf] at e2;rw [hke] at e1 e2 d3;rw [hke] at hid;rw [Gt] at e1;clear hall hk3 d1 d2 hk;have p19:=o4.cell 19 _ rfl;have p20:=o4.cell 20 _ rfl;have f19:=o4.free 19;have f20:=o4.free 20;have o5:=(o4.set 19 (.int .i64 e.tk) (by simp [DS.aM])).set 20 (.int .u32 (wv%4294967296)) (by simp [DS.aM]);have aH:=zag (zag (Dw.Mv.refl (· =S) wr) S 19 (.int .i64 e.tk) rfl) S 20 (.int .u32 (wv%4294967296)) rfl;go_wp2_with fail;generalize ((wr.setCell ⟨S,19,none⟩ (.int .i64 e.tk)).setCell ⟨S,20,none⟩ (.int .u32 (wv%4294967296)))=w5 at*;have Bd:=o5.cell 14 _ rfl;have Be:=o5.cell 15 _ rfl;have f14:=o5.free 14;rw [hlv.out,hsa] at Be;have S9:=aX hr4 (aH.block G Gb La);have x2:=S9 _ _ d3;rw [yaf] at x2;go_cut [] from 176 to 191 (fun wx=>Cl wx S ((((s.aM r P lv au aj).set 19 (.int .i64 e.tk)).set 20 (.int .u32 (wv%4294967296))).set 14 (.int .i64 (s.own+e.ct)))∧Dw.Mv (· =S) w5 wx)
      case first=>
        go_region_law fail
        all_goals
          go_wp2_with fail;go_meet
          first
            | exact ⟨(o5.set 14 (.int .i64 (s.own+e.ct)) (by simp [DS.aM])).kept (w':=(w5.setCell ⟨S,14,none⟩ (.int .i64 (s.own+e.ct))).drew) rfl,(zag (K:=(· =S)) (ah (yab w5.heap.size w5)) S 14 _ rfl).trans (ah (yab _ _).drew)⟩
            | exact ⟨(o5.kept (w':=w5.drew) rfl).set 14 (.int .i64 (s.own+e.ct)) (by simp [DS.aM]),zag (K:=(· =S)) (ah (yab w5.heap.size w5).drew) S 14 _ rfl⟩
      case rest=>
        obtain ⟨o6,gX⟩:=hcut;have SG:=aH.trans gX;clear Bd Be f14 x2 S9;have sG:=aX hr4 (SG.block G Gb La);have x2:=sG _ _ d3;rw [yaf] at x2;have rF:=o6.cell 12 _ rfl;have Ui:=o6.cell 13 _ rfl;have xn:=o6.cell 2 _ rfl;have Be:=o6.cell 15 _ rfl;rw [hlv.out,hsa] at Be;go_wp2_with fail;go_cut [] from 192 to 215 (fun wx=>Cl wx S ((((((s.aM r P lv au aj).set 19 (.int .i64 e.tk)).set 20 (.int .u32 (wv%4294967296))).set 14 (.int .i64 (s.own+e.ct))).set 12 (.int .i64 u1)).set 13 (.bool u2))∧Dw.Mv (· =S) wc wx)
        case first=>
          go_region_law (first
            | (go_simp;go_at_call 40;refine (hgo wc.drew).mono ?_;rintro en w7 ⟨rfl,iW⟩;have p7:=(o6.kept (w':=wc.drew) rfl).below iW o6.lt;have v12:=p7.cell 12 _ rfl;have v13:=p7.cell 13 _ rfl;have f12:=p7.free 12;have f13:=p7.free 13))
          all_goals
            go_wp2_with fail;go_meet;have iV:Below wc.heap.size wc w7:=((yab wc.heap.size wc).drew).trans iW;exact ⟨(p7.set 12 (.int .i64 u1) (by simp [DS.aM])).set 13 (.bool u2) (by simp [DS.aM]),zag (K:=(· =S)) (zag (K:=(· =S)) (ah iV) S 12 _ rfl) S 13 _ rfl⟩
        case rest=>
          obtain ⟨o9,mK⟩:=hcut;have GD:=SG.trans mK;clear rF Ui xn Be x2 sG;have MJ:=o9.below ((yab wc.heap.size wc).alloc (yaa _) (Obj.cells #[] 69)) o9.lt;have mh:=o9.cell 15 _ rfl;have f15:=o9.free 15;have Uo:=MJ.cell 15 _ rfl;rw [hlv.out,hsa] at mh Uo;have Gc:=aX hr4 (GD.block G Gb La);have CQ:G<wc.heap.size:=yae Gb GD.size;obtain ⟨i0,hi0,j1,j2,j3⟩:=yba Jy;have hU:prog.underlying 65=some (.slice 69):=by kernel_rfl
          have hoe:=zpE wc 69 3;have yc:G<((wc.alloc (Obj.cells #[] 69)).drew).heap.size:=by simp;omega
          have vU:((wc.alloc (Obj.cells #[] 69)).drew).rangeAt G 0 (cK s.L):=aX Gc (ydg wc _ (h:=CQ));have hone:=zlm s.L;have hlen:=oK s.L;have hn1:((cK s.L).take (k*3)).length=k*3:=by rw [ya1,hlen];omega
          have hn2:((cK s.L).drop ((k+1)*3)).length=(s.L.length-(k+1))*3:=by rw [yb1,hlen];omega
          have c1:(0:Int)≤(k:Int):=by omega
          have c2:(k:Int)≤(c:Int):=by omega
          have c3:(k:Int)+1≤(s.L.length:Int):=by omega
          have c4:(s.L.length:Int)≤(c:Int):=by omega
          have c5:(0:Int)≤(k:Int)+1:=by omega
          have c6:=zu1 k (by omega);have c7:(k:Int)+1≤(c:Int):=by omega
          have Gh:S<wc.heap.size:=o9.lt;have hq9:w.heap.size+1<wc.heap.size:=(mQ.kept (GD.block _ mQ.lt kJ)).lt;have aaY:aA (b2≤wc.heap.size):=⟨by omega⟩;replace Gh:aA _:=⟨Gh⟩;have hws:wc.heap.size≠S:=by have:=Gh.out;omega
          have pK:S<((wc.alloc (Obj.cells #[] 69)).drew).heap.size:=MJ.lt;go_wp2_with fail;go_cut [] from 140 to 234 (fun wx=> ∃v2 t2,af t2 3 wx wc.heap.size v2 (s.L.length-1) (cK (s.L.take k++s.L.drop (k+1)))∧Cl wx S (((((((s.aM r P lv au aj).set 19 (.int .i64 e.tk)).set 20 (.int .u32 (wv%4294967296))).set 14 (.int .i64 (s.own+e.ct))).set 12 (.int .i64 u1)).set 13 (.bool u2)).set 15 v2)∧Dw.Mv (· =S) wc wx)
          case first=>
            go_region_law (first
              | (refine nR (P0:=prog) (by rfl) _ _ _ (by rfl) wc.heap.size 69 69 i0 _ 3 24 hU hi0 j1 j2 j3 rfl (by decide) (.slice (some ⟨wc.heap.size,0,none⟩) 0 0) 0 [] (by rfl) hoe (some ⟨G,0,none⟩) ⟨G,0,none⟩ rfl k c ((cK s.L).take (k*3)) (by rfl) hn1
                   (zp1 vU (k*3)) (fun u hu=>hone u (ybP hu)) (by unfold maxLen;omega) (by omega) (by simp) ?_
                 intro v1 wa t1 hown1 hgrow1 qM;have ug:=zmG vU hgrow1 yc (fun e=>by simp [Value.ownBlock] at e;omega);have hSb:=hgrow1.block S pK (fun e=>by simp [Value.ownBlock] at e;omega);have TI:=MJ.kept (w':=wa) hSb;have HV:=TI.cell 15 _ rfl;rw [hlv.out,hsa] at HV)
              | (refine nR (P0:=prog) (by rfl) _ _ _ (by rfl) wc.heap.size 69 t1 i0 _ 3 24 hU hi0 j1 j2 j3 rfl (by decide) v1 (0+k) ([]++(cK s.L).take (k*3)) (by rfl) hown1 (if c=k+1 then some ⟨G,0,none⟩ else some ⟨G,(k+1)*3,none⟩) (if c=k+1 then ⟨G,0,none⟩ else ⟨G,(k+1)*3,none⟩) (by split<;>rfl) (s.L.length-(k+1)) (c-(k+1)) ((cK s.L).drop ((k+1)*3)) (by rfl) hn2
                   (znm ug (by rw [hlen];omega)) (fun u hu=>hone u (ybi hu)) (by unfold maxLen;omega) (by omega) (by have:=hgrow1.size;simp at this;omega) ?_
                 intro v2 wb t2 hown2 hgrow2 Gj;have hSc:=hgrow2.block S (yae pK hgrow1.size) (fun e=>by
                   rcases qM with q|q
                   · rw [q] at e;simp [Value.ownBlock] at e;omega
                   · rw [q] at e;simp at e;have:=o9.lt;omega)
                 have MP:=TI.kept (w':=wb) hSc;have acA:=MP.cell 15 _ rfl;obtain ⟨pX,c2,hv2,uF⟩:=af.row hown2;clear uF;subst hv2;have abK:=MP.free 15))
            all_goals (go_wp2_with fail)
            all_goals
              go_meet;have hcs: []++(cK s.L).take (k*3)++(cK s.L).drop ((k+1)*3)=cK (s.L.take k++s.L.drop (k+1)):=by
                rw [ydH,zjH _ _ (by omega),zjI _ _ (by omega),Bp]
              have hcl:0+k+(s.L.length-(k+1))=s.L.length-1:=by omega
              have aaD:k+(s.L.length-(k+1))=s.L.length-1:=by omega
              rw [hcs,hcl] at hown2;rw [aaD];have q1:Below wc.heap.size wc ((wc.alloc (Obj.cells #[] 69)).drew):=⟨rfl,rfl,rfl,by simp,fun b hb=>ydg wc _ (h:=hb)⟩;have q2:Below wc.heap.size ((wc.alloc (Obj.cells #[] 69)).drew) wa:=⟨hgrow1.os,hgrow1.tape,hgrow1.output,hgrow1.size,fun b hb=>hgrow1.block b (by simp;omega) (fun e=>by simp [Value.ownBlock] at e;omega)⟩;have hs1:=hgrow1.size;simp at hs1;have q3:Below wc.heap.size wa wb:=⟨hgrow2.os,hgrow2.tape,hgrow2.output,hgrow2.size,fun b hb=>hgrow2.block b (by omega) (fun e=>by
                rcases qM with h|h
                · rw [h] at e;simp [Value.ownBlock] at e;omega
                · rw [h] at e;simp at e;omega)⟩
              exact ⟨_,t2,af.kept hown2 fun b hh=>ya5 wb ⟨S,15,none⟩ _ b fun e=>by have e:b=S:=e;have:=(af.lt hown2 b hh).1;have:=o9.lt;omega,MP.set 15 _ (by simp [DS.aM]),zag (ah ((q1.trans q2).trans q3)) S 15 _ rfl⟩
          case rest=>
            obtain ⟨v2,t2,hown2,jk,oh⟩:=hcut;clear mh Uo f15 Gc vU hoe hone hlen hn1 hn2 hgo;have aaO:=GD.trans oh;have t16:=jk.cell 16 _ rfl;have t22:=jk.cell 22 _ rfl;have CB:=jk.free 16;have CF:=jk.free 22;have hend:=Qe t16 t22 CB CF;have G5:=(jk.set 16 (.int .i64 0) (by simp [DS.aM])).set 22 (.bool true) (by simp [DS.aM]);rw [aa1] at G5;have SF:=zag (zag (Dw.Mv.refl (· =S) wc) S 16 (.int .i64 0) rfl) S 22 (.bool true) rfl;have GA:=aaO.trans SF;have k5:=oG.kept (GA.block _ oG.lt iU);have y5:=mQ.kept (GA.block _ mQ.lt kJ);have r5:=r4.jW GA h.sd;have hmv:Dw.Mv (fun b=>b=S∨b=B) w _:=wE.trans (GA.mono fun b q=> .inl q);have b0:=k5.cell 0 _ rfl;have b1:=k5.cell 1 _ rfl;have b2':=k5.cell 2 _ rfl;have g0:=k5.free 0;have g1:=k5.free 1;have g2:=k5.free 2;have y0:=y5.cell 0 _ rfl;have y1:=y5.cell 1 _ rfl;have y2:=y5.cell 2 _ rfl;obtain ⟨cO,gu,fF,fV⟩:=oU hmv k5 G5 r5 hlt.out (.int .i64 2) (.int .i64 1) (.int .i64 s.sx);have hlen':s'.L.length=s.L.length-1:=by rw [fL,yaC,ya1,yb1];omega
            rw [←hlen',←fL] at hown2;go_wp2_with (first
              | (go_at_call 88;refine hend.mono ?_;rintro en w7 ⟨rfl,hw7⟩;have hw7:=hw7.symm;subst hw7)
              | go_in)
            refine yap (bU rfl _ _ w.heap.size [.int .i64 2,.int .i64 1,.int .i64 s.sx] _ rfl (fun j y hy=>by rw [yaf];exact gu.cell j y hy) underlying54 rfl (by kernel_rfl)) rfl ?_;have hv2: ∀b,v2.ownBlock=some b→b≠S∧w.heap.size<b∧b<wc.heap.size:=fun b q=>by
              have:=hown2.lt b q;have:=Gh.out;exact ⟨by omega,by omega,by omega⟩
            have aaU:=af.mono (af.kept (w':=(((((wc.setCell ⟨S,16,none⟩ (.int .i64 0)).setCell ⟨S,22,none⟩ (.bool true)).setCell ⟨w.heap.size,0,none⟩ (.int .i64 2)).setCell ⟨w.heap.size,1,none⟩ (.int .i64 1)).setCell ⟨w.heap.size,2,none⟩ (.int .i64 s.sx))) hown2 fun b q=>by
              obtain ⟨n1,n2,n3⟩:=hv2 b q;have n4:b≠w.heap.size:=by omega
              exact (ya5 _ ⟨w.heap.size,2,none⟩ _ b n4).trans ((ya5 _ ⟨w.heap.size,1,none⟩ _ b n4).trans ((ya5 _ ⟨w.heap.size,0,none⟩ _ b n4).trans (SF.block b n3 n1)))) aaY.out
            exact ⟨rfl,v2,h.aaj cO fV fF q2 q3 fsg fpu hpb aaU fun b q=>Nat.le_of_lt (hv2 b q).2.1,fun b q=>Nat.le_of_lt (hv2 b q).2.1,cO⟩
    · have uE:(s.L[k].id==wv/4294967296%65536)=false:=by simpa using hid
      generalize hx:s.L[k].id=x at e1 hid uE;go_wp2;refine ⟨⟨trivial,k+1,by omega,by push_cast;rfl,fun j hj hlt=> ?_⟩,by simp only [RowKit.intOf];omega⟩;by_cases hjk:j=k
      · subst hjk;rw [hx];exact hid
      · exact hall j hj (by omega)
section
variable {A A':Nat→Prop} {w w':World} {S P L Bs B N b2:Nat} {r:Tryz.Rg} {s s':Tryz.DS} {g g':Nat→Int} {lv bG:Value}
theorem Tryz.YW.box (h:YW A w S P L Bs B N b2 r s g lv) (o:Obj):YW (fun b=>A b∨b=w.heap.size) (w.alloc o) S P L Bs B N b2 r s g lv:=by
 have hb:=(yab w.heap.size w).alloc (yaa _) o;obtain ⟨au,aj,q1,q2,q3⟩:=h.obj;obtain ⟨t,hrow⟩:=h.row;have hA: ∀b,b<w.heap.size→((A b∨b=w.heap.size)∨lv.ownBlock=some b)→(A b∨lv.ownBlock=some b):=fun b hb q=>by
  rcases q with (q|q)|q
  ·exact .inl q
  ·omega
  ·exact .inr q
 refine ⟨⟨au,aj,q1.below hb q1.lt,q2.aZ hA fun b hh _=>hb.block b hh,q3.aZ hA fun b hh _=>hb.block b hh⟩,⟨t,hrow.kept fun b e=>hb.block b (hrow.lt b e).2⟩,h.rm.below hb,.inl h.aS,.inl h.aB,fun b q=> ?_,h.lo,yas h.b2 hb.size,h.sd,h.rg,h.pb,h.hN,h.fit⟩;rcases q with q|rfl
 ·exact yae (h.lt b q) hb.size
 ·simp
theorem Tryz.YW.unbox {X:Nat} (h:YW (fun b=>A b∨b=X) w S P L Bs B N b2 r s g lv) (aS:A S) (aB:A B) (hX:X≠S∧X≠P∧X≠L∧X≠Bs∧X≠B) (hlv:lv.ownBlock≠some X) (hm:Dw.Mv (· =X) w w'):YW A w' S P L Bs B N b2 r s g lv:=by
 obtain ⟨n1,n2,n3,n4,n5⟩:=hX;obtain ⟨au,aj,q1,q2,q3⟩:=h.obj;obtain ⟨t,hrow⟩:=h.row;have hA: ∀b,b<w.heap.size→(A b∨lv.ownBlock=some b)→((A b∨b=X)∨lv.ownBlock=some b):=fun b _ q=>q.imp_left .inl;have hk: ∀b,b<w.heap.size→ ¬((A b∨b=X)∨lv.ownBlock=some b)→w'.heap[b]? =w.heap[b]? :=fun b hb hn=>hm.block b hb fun e=>hn (.inl (.inr e));exact ⟨⟨au,aj,q1.kept (hm.block S q1.lt (fun e=>n1 e.symm)),q2.aZ hA hk,q3.aZ hA hk⟩,⟨t,hrow.kept fun b e=>hm.block b (hrow.lt b e).2 fun e2=>hlv (by rw [e,show b=X from e2])⟩,h.rm.jW hm ⟨n2,n3,n4,n5⟩,aS,aB,fun b q=>yae (h.lt b (.inl q)) hm.size,h.lo,yas h.b2 hm.size,h.sd,h.rg,h.pb,h.hN,h.fit⟩
set_option maxRecDepth 100000 in
theorem Tryz.Yq (h:YW A w S P L Bs B N b2 r s g lv) (hb:s.br=true∨s.ph=0):
  Calls prog 26 #[.pointer (some ⟨S,0,none⟩)] w fun e w'=>e= .returned (.tuple #[.agg #[.int .i64 0,.int .i64 0,.int .i64 0],.int .i64 (if s.br then 4 else 8)])∧YW A w' S P L Bs B N b2 r s g lv∧Dw.Mv (fun b=>b=S∨b=B) w w':=by
 have hbx:=(yab w.heap.size w).alloc (yaa _) (Obj.cells #[.int .i64 0,.int .i64 0,.int .i64 0] 54);have k2:=Cl.new w #[.int .i64 0,.int .i64 0,.int .i64 0] 54;have hX:=h.below hbx;have hm2:=ah (K:=fun b=>b=S∨b=B) hbx;obtain ⟨au,aj,q1,_⟩:=hX.obj;have c16:=q1.cell 16 _ rfl;have c23:=q1.cell 23 _ rfl;clear hbx;by_cases hbr:s.br=true
 ·rw [hbr] at c23 ⊢;clear hb;go_enter func26,ntmps26;go_wp2_with fail;refine yap (bU rfl _ _ w.heap.size [.int .i64 0,.int .i64 0,.int .i64 0] _ rfl (fun j y hy=>by rw [yaf];exact k2.cell j y hy) underlying54 rfl (by kernel_rfl)) rfl ?_;exact ⟨rfl,hX,hm2⟩
 ·have hbf:s.br=false:=by simpa using hbr
  have hp:s.ph=0:=hb.resolve_left hbr;rw [hbf] at c23 ⊢;rw [hp] at c16;clear hb hbr hbf hp;go_enter func26,ntmps26;go_wp2_with fail;refine yap (bU rfl _ _ w.heap.size [.int .i64 0,.int .i64 0,.int .i64 0] _ rfl (fun j y hy=>by rw [yaf];exact k2.cell j y hy) underlying54 rfl (by kernel_rfl)) rfl ?_;exact ⟨rfl,hX,hm2⟩
set_option maxRecDepth 100000 in
theorem Tryz.zi (h:YW A w S P L Bs B N b2 r s g lv) (hb:s.br=false) (hp:11≤s.ph) {k wh i er:Int}
    (hcall: ∀A1 w1,YW A1 w1 S P L Bs B N b2 r s g lv→Calls prog 85 #[.pointer (some ⟨S,0,none⟩)] w1 fun e w'=>e= .returned (.tuple #[.agg #[.int .i64 k,.int .i64 wh,.int .i64 i],.int .i64 er])∧ ∃bG,YW A1 w' S P L Bs B N b2 r s' g' bG∧(∀b,bG.ownBlock=some b→lv.ownBlock=some b∨w1.heap.size≤b)∧Dw.Mv (fun b=>b=S∨b=B) w1 w'):
    Calls prog 26 #[.pointer (some ⟨S,0,none⟩)] w fun e w'=>e= .returned (.tuple #[.agg #[.int .i64 k,.int .i64 wh,.int .i64 i],.int .i64 er])∧ ∃bG,YW A w' S P L Bs B N b2 r s' g' bG∧(∀b,bG.ownBlock=some b→lv.ownBlock=some b∨w.heap.size≤b)∧Dw.Mv (fun b=>b=S∨b=B) w w':=by
  have hlt:=h.oH;obtain ⟨ty,hrow⟩:=h.row;have hlv: ∀b,lv.ownBlock=some b→b<w.heap.size:=fun b e=>(hrow.lt b e).2;have hbx:=(yab w.heap.size w).alloc (yaa _) (Obj.cells #[.int .i64 0,.int .i64 0,.int .i64 0] 54);have k2:=Cl.new w #[.int .i64 0,.int .i64 0,.int .i64 0] 54;have hX:=h.box (Obj.cells #[.int .i64 0,.int .i64 0,.int .i64 0] 54);have hh:=hcall _ _ hX;obtain ⟨au,aj,q1,_⟩:=hX.obj;have c16:=q1.cell 16 _ rfl;have c23:=q1.cell 23 _ rfl;rw [hb] at c23;have hp0: ¬((s.ph:Nat):Int)=0:=by omega
  have hp1:((s.ph:Nat):Int)>10:=by omega
  generalize ((s.ph:Nat):Int)=ph at c16 hp0 hp1;have Lp:w.heap.size≠S∧w.heap.size≠P∧w.heap.size≠L∧w.heap.size≠Bs∧w.heap.size≠B:=⟨by omega,by omega,by omega,by omega,by omega⟩;have aS:=h.aS;have aB:=h.aB;clear hcall hp hb hlt hX;go_enter func26,ntmps26;go_wp2_with (first
    | (go_at_call 85;refine hh.mono ?_;rintro en w3 ⟨rfl,bG,h3,hl3,jg⟩;have k3:=k2.kept (jg.block _ k2.lt (by rintro (e|e);exact Lp.1 e;exact Lp.2.2.2.2 e));have b0:=k3.cell 0 _ rfl;have b1:=k3.cell 1 _ rfl;have b2':=k3.cell 2 _ rfl;have g0:=k3.free 0;have g1:=k3.free 1;have g2:=k3.free 2)
    | go_in)
  have gu:=((k3.set 0 (.int .i64 k) (by simp)).set 1 (.int .i64 wh) (by simp)).set 2 (.int .i64 i) (by simp);refine yap (bU rfl _ _ w.heap.size [.int .i64 k,.int .i64 wh,.int .i64 i] _ rfl (fun j y hy=>by rw [yaf];exact gu.cell j y hy) underlying54 rfl (by kernel_rfl)) rfl ?_;have LZ:=zag (zag (zag (Dw.Mv.refl (· =w.heap.size) w3) w.heap.size 0 (.int .i64 k) rfl) w.heap.size 1 (.int .i64 wh) rfl) w.heap.size 2 (.int .i64 i) rfl;have Sw: ∀b,bG.ownBlock=some b→lv.ownBlock=some b∨w.heap.size<b:=fun b e=>(hl3 b e).imp_right fun z=>by simp at z;omega
  refine ⟨rfl,bG,h3.unbox aS aB Lp (fun e=> ?_) LZ,fun b e=>(Sw b e).imp_right Nat.le_of_lt,aD (aD (aD ((ah hbx).trans jg) w.heap.size 0 _ (.inr (yaa _))) w.heap.size 1 _ (.inr (yaa _))) w.heap.size 2 _ (.inr (yaa _))⟩;rcases Sw _ e with z|z
  · have:=hlv _ z;omega
  · omega
theorem Tryz.Va (h:YW A w S P L Bs B N b2 r s g lv) (hi:DI s):
  Calls prog 26 #[.pointer (some ⟨S,0,none⟩)] w fun e w'=>e= .returned (.tuple #[(dZ r s g).1,.int .i64 (dZ r s g).2.1])∧ ∃bG,YW A w' S P L Bs B N b2 r (dZ r s g).2.2.1 (dZ r s g).2.2.2 bG∧(∀b,bG.ownBlock=some b→lv.ownBlock=some b∨w.heap.size≤b)∧Dw.Mv (fun b=>b=S∨b=B) w w':=by
 have hbn:=h.rg.bnd;have hpb:=h.pb.step (g:=g) h.rm.byte ⟨hbn.1,by omega⟩;have same: ∀ {v:Value} {s2:DS} {g2:Nat→Int},Calls prog 26 #[.pointer (some ⟨S,0,none⟩)] w (fun e w'=>e= .returned v∧YW A w' S P L Bs B N b2 r s2 g2 lv∧Dw.Mv (fun b=>b=S∨b=B) w w')→Calls prog 26 #[.pointer (some ⟨S,0,none⟩)] w fun e w'=>e= .returned v∧ ∃bG,YW A w' S P L Bs B N b2 r s2 g2 bG∧(∀b,bG.ownBlock=some b→lv.ownBlock=some b∨w.heap.size≤b)∧Dw.Mv (fun b=>b=S∨b=B) w w':=fun hc=>hc.mono fun e w' hh=>⟨hh.1,lv,hh.2.1,fun b q=> .inl q,hh.2.2⟩;have Ba: ∀ {A1:Nat→Prop} {w1:World} {v:Value} {s2:DS} {g2:Nat→Int},Calls prog 85 #[.pointer (some ⟨S,0,none⟩)] w1 (fun e w'=>e= .returned v∧YW A1 w' S P L Bs B N b2 r s2 g2 lv∧Dw.Mv (fun b=>b=S∨b=B) w1 w')→Calls prog 85 #[.pointer (some ⟨S,0,none⟩)] w1 fun e w'=>e= .returned v∧ ∃bG,YW A1 w' S P L Bs B N b2 r s2 g2 bG∧(∀b,bG.ownBlock=some b→lv.ownBlock=some b∨w1.heap.size≤b)∧Dw.Mv (fun b=>b=S∨b=B) w1 w':=fun hc=>hc.mono fun e w' hh=>⟨hh.1,lv,hh.2.1,fun b q=> .inl q,hh.2.2⟩;unfold dZ at hpb ⊢;by_cases hb:s.br=true
 ·have:=Yq h (.inl hb);rw [yak hb] at this ⊢;exact same this
 ·rw [yah hb] at hpb ⊢;by_cases hp:s.ph=0
  ·have:=Yq h (.inr hp);rw [yah hb] at this;rw [yak hp];exact same this
  ·rw [yah hp] at hpb ⊢;have hbf:s.br=false:=by simpa using hb
   have GK:=h.pb.ph;have hcs:s.ph=1∨s.ph=2∨s.ph=3∨s.ph=4∨s.ph=5∨s.ph=11∨s.ph=12∨s.ph=13∨s.ph=14∨s.ph=15∨s.ph=16:=by omega
   rcases hcs with q|q|q|q|q|q|q|q|q|q|q
   all_goals
    rw [q] at hpb ⊢;unfold Cf at hpb ⊢;simp only at hpb ⊢
   ·exact same (zqG h hbf q (hi.se (by omega) (by omega)) hpb)
   ·exact same (zqF h hbf q hpb)
   ·exact same (zqE h hbf q hpb)
   ·exact same (zqD h hbf q hpb)
   ·exact same (zqC h hbf q rfl hpb)
   ·refine zi h hbf (by omega) fun A1 w1 h1=>Ba (ZR h1 (.inl q) ?_ hpb);by_cases hu:iO g s=true
    ·rw [yak hu];exact .inl ⟨hu,rfl⟩
    ·rw [yah hu];by_cases hv:s.ev=true
     ·rw [yak hv];exact .inr (.inl ⟨by simpa using hu,⟨q,hv⟩,rfl⟩)
     ·rw [yah hv];exact .inr (.inr ⟨by simpa using hu,.inr (by simpa using hv),rfl⟩)
   ·exact zi h hbf (by omega) fun A1 w1 h1=>Ba (ztu h1 q hpb)
   ·exact zi h hbf (by omega) fun A1 w1 h1=>Ba (zmD h1 q hpb)
   ·refine zi h hbf (by omega) fun A1 w1 h1=>Ba (ZR h1 (.inr q) ?_ hpb);by_cases hu:iO g s=true
    ·rw [yak hu];exact .inl ⟨hu,rfl⟩
    ·rw [yah hu];exact .inr (.inr ⟨by simpa using hu,.inl q,rfl⟩)
   ·exact zi h hbf (by omega) fun A1 w1 h1=>Ba (zmC h1 q hpb)
   ·cases hget:fA s.L (bW g (4096+16*s.sx+8).toNat 8/4294967296%65536) with
    | none=>
     rw [hget] at hpb;simp only at hpb ⊢;exact zi h hbf (by omega) fun A1 w1 h1=>Ba (ztw h1 q hget hpb)
    | some e=>
     rw [hget] at hpb;simp only at hpb ⊢;exact zi h hbf (by omega) fun A1 w1 h1=>(ztv h1 q hget rfl hpb).mono fun en w' hh=>by
      obtain ⟨h1,bG,h2,h3,h4⟩:=hh;exact ⟨h1,bG,h2,fun b z=> .inr (h3 b z),h4⟩
end
end Go.Proofs
namespace Go.Proofs
open Go.Dw Go.RowKit Go.Maps Go.Sort Go.Deep
theorem Tryz.zpV (L:List DO) (k:Int) {j:Nat} (hj:j<L.length):((L.take (j+1)).any fun e=>e.id==k)=(((L.take j).any fun e=>e.id==k)||(L[j].id==k)):=by
 rw [ybv hj,List.any_append];simp
section
variable {A A':Nat→Prop} {w w':World} {S P L Bs B N b2:Nat} {r:Tryz.Rg} {s s':Tryz.DS} {g g':Nat→Int} {lv bG:Value}
set_option maxRecDepth 100000 in
theorem Tryz.zwf (h:YW A w S P L Bs B N b2 r s g lv):Calls prog 28 #[.pointer (some ⟨S,0,none⟩)] w fun e w'=>e= .returned (.tuple #[s.out,.bool s.has])∧Below w.heap.size w w':=by
 have hbx:=(yab w.heap.size w).alloc (yaa _) (Obj.cells #[.int .i64 0,.bool false,.int .i64 0,.int .u32 0,.bool false] 67);have k2:=Cl.new w #[.int .i64 0,.bool false,.int .i64 0,.int .u32 0,.bool false] 67;obtain ⟨au,aj,h1,_⟩:=h.obj;have kS:=h1.below hbx h1.lt;have c16:=kS.cell 16 _ rfl;have FW:=kS.cell 22 _ rfl;have f0:=k2.free 0;have f1:=k2.free 1;have f2:=k2.free 2;have f3:=k2.free 3;have f4:=k2.free 4;have x0:=k2.cell 0 _ rfl;have x1:=k2.cell 1 _ rfl;have x2:=k2.cell 2 _ rfl;have x3:=k2.cell 3 _ rfl;have x4:=k2.cell 4 _ rfl;by_cases hdn:s.ph=0∧s.dn=true
 ·have e1:s.out= .agg #[.int .i64 s.op,.bool s.nn,.int .i64 s.tok,.int .u32 s.wr,.bool s.kk]:=yak hdn;have e2:s.has=true:=by unfold DS.has;rw [hdn.1,hdn.2];rfl
  rw [e1,e2];rw [hdn.2] at FW;rw [hdn.1] at c16;have c17:=kS.cell 17 _ rfl;have c18:=kS.cell 18 _ rfl;have c19:=kS.cell 19 _ rfl;have c20:=kS.cell 20 _ rfl;have c21:=kS.cell 21 _ rfl;clear e1 e2 hdn;go_enter func28,ntmps28;go_wp2_with fail;refine yap (bU rfl _ _ w.heap.size [.int .i64 s.op,.bool s.nn,.int .i64 s.tok,.int .u32 s.wr,.bool s.kk] _ rfl (fun j y hy=>by rw [yaf];first|exact (Cl.new w #[.int .i64 s.op,.bool s.nn,.int .i64 s.tok,.int .u32 s.wr,.bool s.kk] 67).cell j y hy|exact (((((k2.set 0 (.int .i64 s.op) (by simp)).set 1 (.bool s.nn) (by simp)).set 2 (.int .i64 s.tok) (by simp)).set 3 (.int .u32 s.wr) (by simp)).set 4 (.bool s.kk) (by simp)).cell j y hy) underlying67 rfl (by kernel_rfl)) rfl ?_;refine ⟨rfl,?_⟩
  first
   | exact (yab w.heap.size w).alloc (yaa _) _
   | exact mU (aD (aD (aD (aD (aD (ah (K:=fun _=>False) hbx) w.heap.size 0 _ (.inr (yaa _))) w.heap.size 1 _ (.inr (yaa _))) w.heap.size 2 _ (.inr (yaa _))) w.heap.size 3 _ (.inr (yaa _))) w.heap.size 4 _ (.inr (yaa _)))
 ·have e1:s.out= .agg #[.int .i64 0,.bool false,.int .i64 0,.int .u32 0,.bool false]:=yah hdn;have e2:s.has=false:=by
   unfold DS.has;cases q:s.dn with
   | false=>simp
   | true=>simp only [Bool.and_true,yaR];exact fun e=>hdn ⟨e,q⟩
  rw [e1,e2];by_cases hp:s.ph=0
  ·have hdf:s.dn=false:=by
    cases q:s.dn with
    | false=>rfl
    | true=>exact absurd ⟨hp,q⟩ hdn
   rw [hdf] at FW;rw [hp] at c16;clear hdf hdn e1 e2;go_enter func28,ntmps28;go_wp2_with fail;refine yap (bU rfl _ _ w.heap.size [.int .i64 0,.bool false,.int .i64 0,.int .u32 0,.bool false] _ rfl (fun j y hy=>by rw [yaf];exact k2.cell j y hy) underlying67 rfl (by kernel_rfl)) rfl ?_;exact ⟨rfl,hbx⟩
  ·have hp0: ¬((s.ph:Nat):Int)=0:=by omega
   generalize ((s.ph:Nat):Int)=ph at c16 hp0;clear hdn hp e1 e2;go_enter func28,ntmps28;go_wp2_with fail;refine yap (bU rfl _ _ w.heap.size [.int .i64 0,.bool false,.int .i64 0,.int .u32 0,.bool false] _ rfl (fun j y hy=>by rw [yaf];exact k2.cell j y hy) underlying67 rfl (by kernel_rfl)) rfl ?_;exact ⟨rfl,hbx⟩
set_option maxRecDepth 100000 in
theorem Tryz.Kq (h:YW A w S P L Bs B N b2 r s g lv):Calls prog 76 #[.pointer (some ⟨S,0,none⟩)] w fun e w'=>e= .returned (.int .i64 ((dD s.L r.n.toNat 0:Nat):Int))∧w'=w:=by
 obtain ⟨au,aj,h1,_⟩:=h.obj;have hbn:=h.rg.bnd;have c2:=h1.cell 2 _ rfl;have c15:=h1.cell 15 _ rfl;obtain ⟨ty,hrow⟩:=h.row;obtain ⟨sa,c,hlv,fO⟩:=af.row hrow;rw [hlv] at c15;have Ac:s.L.length≤100000:=by
  have:=gT fun x hx=>(h.pb.el x hx).2.2.1;have:=h.pb.sum;have:=h.pb.own;omega
 obtain ⟨n,hn,hn16⟩: ∃n:Nat,r.n=n∧n≤16:=⟨r.n.toNat,by omega,by omega⟩;rw [hn] at c2 ⊢;rw [yaS];obtain ⟨R,hR⟩: ∃R,R=dD s.L n 0:=⟨_,rfl⟩;rw [←hR];replace hR:aA (R=dD s.L n 0):=⟨hR⟩;replace hlv:aA _:=⟨hlv⟩;clear hbn hn;go_enter func76,ntmps76;go_wp2_with fail;go_loopw [3] (fun x wr=>wr=w∧ ∃k:Nat,k≤n∧x= .int .i64 k∧aA (R=dD s.L (n-k) k)) (fun x _=>n-(RowKit.intOf x).toNat)
 case atStart=>exact ⟨rfl,0,yar _,rfl,hR⟩
 case round=>
  obtain ⟨rfl,k,hk,rfl,hf⟩:=hrel;by_cases hkn:k<n
  ·have hkn':(k:Int)<n:=by omega
   go_wp2_with fail;go_loopw [4,5] (fun b i wq=>wq=wr∧ ∃j:Nat,j≤s.L.length∧i= .int .i64 j∧b= .bool ((s.L.take j).any fun e=>e.id==(k:Int))) (fun _ i _=>s.L.length-(RowKit.intOf i).toNat)
   case atStart=>exact ⟨rfl,0,yar _,rfl,by simp⟩
   case round=>
    obtain ⟨rfl,j,hj,rfl,rfl⟩:=hrel;by_cases hjl:j<s.L.length
    ·have LQ:(j:Int)<s.L.length:=by omega
     have ht:=zpV s.L k hjl;obtain ⟨G,hsa,iT,hr⟩:=fO.resolve_left (by intro e;have:=yaB List.length e;rw [oK] at this;simp only [ybm] at this;omega);have e1:=hr _ _ (uV s.L j hjl).1;rw [yaf] at e1;rw [hsa] at c15;generalize s.L[j].id=id at e1 ht;generalize ((s.L.take j).any fun e=>e.id==(k:Int))=b0 at ht ⊢;clear hr fO hsa hrow;cases b0
     ·rw [Bool.false_or] at ht;replace ht:aA _:=⟨ht⟩;go_wp2;exact ⟨⟨trivial,j+1,by omega,by push_cast;rfl,by rw [ht.out]⟩,by simp only [RowKit.intOf];omega⟩
     ·rw [Bool.true_or] at ht;replace ht:aA _:=⟨ht⟩;go_wp2;exact ⟨⟨trivial,j+1,by omega,by push_cast;rfl,by rw [ht.out]⟩,by simp only [RowKit.intOf];omega⟩
    ·have LQ: ¬(j:Int)<s.L.length:=by omega
     have hjq:j=s.L.length:=by omega
     subst hjq;rw [ybE];have hf':=hf.out;obtain ⟨m,hm⟩: ∃m,n-k=m+1:=⟨n-k-1,by omega⟩;rw [hm] at hf';unfold dD at hf';have hh:(s.L.any fun e=>e.id==(k:Int))=kg s.L k:=rfl;rw [hh];clear hh;cases hb:kg s.L k with
     | true=>
      rw [hb,yak rfl] at hf';have hm2:m=n-(k+1):=by omega
      rw [hm2] at hf';replace hf':aA _:=⟨hf'⟩;clear hb;go_wp2;exact ⟨⟨trivial,k+1,by omega,by push_cast;rfl,hf'⟩,by simp only [RowKit.intOf];omega⟩
     | false=>
      rw [hb,yah (by decide)] at hf';subst hf';clear hb;go_wp2;go_ret;exact ⟨rfl,rfl⟩
  ·have hkn': ¬(k:Int)<n:=by omega
   have hkq:k=n:=by omega
   subst hkq;have hf':=hf.out;rw [yc4] at hf';unfold dD at hf';subst hf';go_wp2;go_ret;exact ⟨rfl,rfl⟩
end
end Go.Proofs
namespace Go.Proofs
open Go.Dw Go.RowKit Go.Maps Go.Sort Go.Deep
set_option maxRecDepth 100000 in
theorem Tryz.zw5 {W0 w:World} {n:Nat} {d:fB} {r:Rg} {av:Value} {j aC:Nat} {E:Int} {c:Dc} {s:DS} {g:Nat→Int} {px py pz:Int} {tm:Array Value} (hf:Rf n d av j E aC tm) (hw:Rw W0 d n r aC c w s g s g (jD px py pz) (jD px py pz)) (gZ:gU r):
    (bS prog [1,1,1,0,0,1,0,0,1,0,1,1,1,1,1,1,1,1,1,1,3]).wp prog (fun ex a' w'=>ex= .normal∧a'.defers= []∧Rf n d av j E aC a'.tmps∧Rw W0 d n r aC c w' s g s g (jD px py pz) (jD px py pz)) ⟨tm,[]⟩ w:=by
  have hal:=hf.sz;obtain ⟨jf,dR⟩:=JA (t:=tm) hf.sz hf.t0 hf.t2 hf.t7 hf.t8 hf.t10 hf.t12 hf.t14 hf.t15 hf.t16 hf.t17 hf.t18 hf.t19 hf.t20 hf.t21;rw [dR];clear dR hal hf;have hpb:=hw.duo.facts.2;have yg:s.L.length≤16:=by
    have h1:=gT fun e he=>(hpb.el e he).2.2.1;have h2:=hpb.sum;have h3:=hpb.own;have h4:=gZ.bnd;omega
  have hS: ∀w',Below w.heap.size w w'→ ∃A,DW A w' d.S d.P d.L d.Bs d.B d.M 60000 r s g:=fun w' hb=>by
    obtain ⟨lv,h1,_,_⟩:=(hw.duo.below hb).ex;exact ⟨_,h1⟩
  have hY: ∀w',Below w.heap.size w w'→ ∃A lv,YW A w' d.S2 d.P2 d.L2 d.iC d.B2 60000 d.b2 r s g lv:=fun w' hb=>by
    obtain ⟨lv,_,h2,_⟩:=(hw.duo.below hb).ex;exact ⟨_,_,h2⟩
  obtain ⟨op,nn,tk,wr,kk,hout⟩:=s.abm;have hd1:=fun w' hb=>(show Calls _ _ _ w' _ from by obtain ⟨A,h1⟩:=hS w' hb;exact zuD h1);have hd2:=fun w' hb=>(show Calls _ _ _ w' _ from by obtain ⟨A,lv,h2⟩:=hY w' hb;exact zwf h2);rw [hout] at hd1 hd2;have hol:s.outs.length=s.L.length:=by rw [←Yv,zqL]
  have hhS: ∀w',Below w.heap.size w w'→Calls prog 30 #[.pointer (some ⟨d.S,0,none⟩)] w' fun e w2=> ∃v,e= .returned v∧(∀w3,Below w2.heap.size w2 w3→xR w3 v s.outs)∧Below w'.heap.size w' w2:=fun w' hb=>by
    obtain ⟨A,h1⟩:=hS w' hb;refine (JE h1).mono ?_;rintro e w2 ⟨v,rfl,hr,hb2⟩;exact ⟨v,rfl,fun w3 hb3=>af.Tn (af.keepD hr hb3),hb2⟩
  have hhY: ∀w',Below w.heap.size w w'→Calls prog 31 #[.pointer (some ⟨d.S2,0,none⟩)] w' fun e w2=> ∃v,e= .returned v∧(∀w3,Below w2.heap.size w2 w3→xR w3 v s.outs)∧Below w'.heap.size w' w2:=fun w' hb=>by
    obtain ⟨A,lv,h1⟩:=hY w' hb;refine (zxL h1 (by omega)).mono ?_;rintro e w2 ⟨v,t,rfl,hr,hb2⟩;rw [Yv] at hr;have hr2:af t 1 w2 w'.heap.size v s.outs.length (bA s.outs):=hol.symm▸hr;exact ⟨v,rfl,fun w3 hb3=>af.Tn (af.keepD hr2 hb3),hb2⟩
  have hin: ∀w' v1 v2,xR w' v1 s.outs→xR w' v2 s.outs→Calls prog 29 #[v1,v2] w' fun e w2=>e= .returned (.bool true)∧Below w'.heap.size w' w2:=fun w' v1 v2 h1 h2=>by
    have:=zqw h1 h2 (by omega) (by omega);simpa only [decide_true] using this
  have hsp: ∀w',Below w.heap.size w w'→Calls prog 32 #[.pointer (some ⟨d.S,0,none⟩)] w' fun e w2=>e= .returned (.int .i64 s.own)∧Below w'.heap.size w' w2:=fun w' hb=>by
    obtain ⟨A,h1⟩:=hS w' hb;refine (zqo h1).mono ?_;rintro e w2 ⟨rfl,rfl⟩;exact ⟨rfl,yab _ _⟩
  have hbz: ∀w',Below w.heap.size w w'→Calls prog 33 #[.pointer (some ⟨d.S,0,none⟩)] w' fun e w2=>e= .returned (.bool ((s.ph:Int) !=0))∧Below w'.heap.size w' w2:=fun w' hb=>by
    obtain ⟨A,h1⟩:=hS w' hb;refine (BD h1).mono ?_;rintro e w2 ⟨rfl,rfl⟩;refine ⟨?_,yab _ _⟩;have:decide (s.ph≠0)=((s.ph:Int) !=0):=by
      by_cases h0:s.ph=0
      · simp [h0]
      · have h3:((s.ph:Int) !=0)=true:=bne_iff_ne.2 (by omega);rw [yaH h0];exact h3.symm
    rw [this]
  have R4: ∀w',Below w.heap.size w w'→Calls prog 34 #[.pointer (some ⟨d.S,0,none⟩)] w' fun e w2=>e= .returned (.int .i64 (if s.br then 4 else 0))∧Below w'.heap.size w' w2:=fun w' hb=>by
    obtain ⟨A,h1⟩:=hS w' hb;refine (EU h1).mono ?_;rintro e w2 ⟨rfl,rfl⟩;exact ⟨rfl,yab _ _⟩
  have R5: ∀w',Below w.heap.size w w'→Calls prog 35 #[.pointer (some ⟨d.S2,0,none⟩)] w' fun e w2=>e= .returned (.int .i64 (if s.br then 4 else 0))∧Below w'.heap.size w' w2:=fun w' hb=>by
    obtain ⟨A,lv,h1⟩:=hY w' hb;refine (zpy h1).mono ?_;rintro e w2 ⟨rfl,rfl⟩;exact ⟨rfl,yab _ _⟩
  generalize hev:(if s.br then (4:Int) else 0)=ev at R4 R5;clear hev;have hS2: ∀w',Below w.heap.size w w'→w'.cell? ⟨d.S2,14,none⟩=some (.int .i64 s.own)∧w'.cell? ⟨d.S2,16,none⟩=some (.int .i64 s.ph):=fun w' hb=>by
    obtain ⟨A,lv,h1⟩:=hY w' hb;obtain ⟨au,aj,q1,_⟩:=h1.obj;exact ⟨q1.cell 14 _ rfl,q1.cell 16 _ rfl⟩
  have hr0:=yab w.heap.size w;refine ybu (?_:Code.wp _ _ (fun ex a' w'=>ex= .normal∧a'.defers= []∧Rf n d av j E aC a'.tmps∧Below w.heap.size w w') _ _) fun ex a' w' hh=>⟨hh.1,hh.2.1,hh.2.2.1,hw.below hh.2.2.2⟩;refine mr (c':=(ax 1 (ax 1 (ax 1 (ax 0 (ax 0 (ax 1 (ax 0 (ax 0 (ax 1 (ax 0 (ax 1 (ax 1 (ax 1 (ax 1 (ax 1 (ax 1 (ax 1 (ax 1 (ax 1 (ax 1 (match (Tryz.f3).body with|some c=>c|none=> .skip)))))))))))))))))))))) (by kernel_rfl) ?_
  dsimp only [Tryz.f3,ax]
  generalize s.has=hs;go_wp2_with (first
    | (go_at_call 27;refine (hd1 _ hr0).mono ?_;rintro e wA ⟨rfl,jA⟩;have Gm:=jA.alloc jA.size (Obj.cells #[.int .i64 op,.bool nn,.int .i64 tk,.int .u32 wr,.bool kk] 67))
    | (go_at_call 28;refine (hd2 _ Gm).mono ?_;rintro e wB ⟨rfl,Lv⟩;have C9:=Gm.trans (Lv.mono Gm.size);have RU:=C9.alloc C9.size (Obj.cells #[.int .i64 op,.bool nn,.int .i64 tk,.int .u32 wr,.bool kk] 67))
    | go_in)
  have sI: ∀w',Below wB.heap.size wB w'→Below w.heap.size w w':=fun w' hb=>C9.trans (hb.mono C9.size);have hW0:=(yab wB.heap.size wB).alloc (yaa _) (Obj.cells #[.int .i64 op,.bool nn,.int .i64 tk,.int .u32 wr,.bool kk] 67);obtain ⟨wC,Dz⟩: ∃wC,wC=wB.alloc (Obj.cells #[.int .i64 op,.bool nn,.int .i64 tk,.int .u32 wr,.bool kk] 67):=⟨_,rfl⟩;rw [←Dz];have hC2:Below w.heap.size w wC:=Dz▸RU;have k20:=hw.k20.below hC2 hw.k20.lt;have k21:=hw.k21.below hC2 hw.k21.lt;have k24:Cl wC wA.heap.size [.int .i64 op,.bool nn,.int .i64 tk,.int .u32 wr,.bool kk]:=by
    have q:=(Cl.new wA #[.int .i64 op,.bool nn,.int .i64 tk,.int .u32 wr,.bool kk] 67).below Lv (by simp);rw [Dz];exact q.below hW0 q.lt
  have k26:Cl wC wB.heap.size [.int .i64 op,.bool nn,.int .i64 tk,.int .u32 wr,.bool kk]:=Dz▸Cl.new wB #[.int .i64 op,.bool nn,.int .i64 tk,.int .u32 wr,.bool kk] 67;replace sI: ∀w',Below wC.heap.size wC w'→Below w.heap.size w w':=fun w' hb=>hC2.trans (hb.mono hC2.size);have hb0:=(yab wC.heap.size wC).drew;have hT:=fun w' (hb:Below wC.heap.size wC w')=>And.intro ((k20.below hb k20.lt).cell 0 _ rfl) (And.intro ((k20.below hb k20.lt).cell 1 _ rfl) (And.intro ((k20.below hb k20.lt).cell 2 _ rfl) (And.intro ((k21.below hb k21.lt).cell 0 _ rfl) (And.intro ((k21.below hb k21.lt).cell 1 _ rfl) (And.intro ((k21.below hb k21.lt).cell 2 _ rfl) (And.intro ((k24.below hb k24.lt).cell 0 _ rfl) (And.intro ((k24.below hb k24.lt).cell 1 _ rfl) (And.intro ((k24.below hb k24.lt).cell 2 _ rfl) (And.intro ((k24.below hb k24.lt).cell 3 _ rfl) (And.intro ((k24.below hb k24.lt).cell 4 _ rfl) (And.intro ((k26.below hb k26.lt).cell 0 _ rfl) (And.intro ((k26.below hb k26.lt).cell 1 _ rfl) (And.intro ((k26.below hb k26.lt).cell 2 _ rfl) (And.intro ((k26.below hb k26.lt).cell 3 _ rfl) (And.intro ((k26.below hb k26.lt).cell 4 _ rfl) (And.intro ((hS2 _ (sI _ hb)).1) ((hS2 _ (sI _ hb)).2)))))))))))))))));obtain ⟨f0,f1,f2,f3,f4,f5,f6,f7,f8,f9,f10,f11,f12,f13,f14,f15,f16,f17⟩:=hT _ (yab _ _);clear Dz hS hY hd1 hd2 jA Lv Gm C9 RU hC2 hW0 hw hr0 hpb yg gZ hout hol;go_region_held3 (fun w'=>w'.cell? ⟨aC+1,0,none⟩=some (.int .i64 px)∧w'.cell? ⟨aC+1,1,none⟩=some (.int .i64 py)∧w'.cell? ⟨aC+1,2,none⟩=some (.int .i64 pz)∧w'.cell? ⟨aC+1+1,0,none⟩=some (.int .i64 px)∧w'.cell? ⟨aC+1+1,1,none⟩=some (.int .i64 py)∧w'.cell? ⟨aC+1+1,2,none⟩=some (.int .i64 pz)∧w'.cell? ⟨wA.heap.size,0,none⟩=some (.int .i64 op)∧w'.cell? ⟨wA.heap.size,1,none⟩=some (.bool nn)∧w'.cell? ⟨wA.heap.size,2,none⟩=some (.int .i64 tk)∧w'.cell? ⟨wA.heap.size,3,none⟩=some (.int .u32 wr)∧w'.cell? ⟨wA.heap.size,4,none⟩=some (.bool kk)∧w'.cell? ⟨wB.heap.size,0,none⟩=some (.int .i64 op)∧w'.cell? ⟨wB.heap.size,1,none⟩=some (.bool nn)∧w'.cell? ⟨wB.heap.size,2,none⟩=some (.int .i64 tk)∧w'.cell? ⟨wB.heap.size,3,none⟩=some (.int .u32 wr)∧w'.cell? ⟨wB.heap.size,4,none⟩=some (.bool kk)∧w'.cell? ⟨d.S2,14,none⟩=some (.int .i64 s.own)∧w'.cell? ⟨d.S2,16,none⟩=some (.int .i64 s.ph)) (go_keep)
    ((first
      | (go_at_call 30;refine (hhS _ (sI _ hb0)).mono ?_;rintro en w1 ⟨v1,rfl,hi1,hb1'⟩;have hb1:=hb0.trans (hb1'.mono hb0.size);clear f0 f1 f2 f3 f4 f5 f6 f7 f8 f9 f10 f11 f12 f13 f14 f15 f16 f17;obtain ⟨f0,f1,f2,f3,f4,f5,f6,f7,f8,f9,f10,f11,f12,f13,f14,f15,f16,f17⟩:=hT _ hb1)
      | (go_at_call 31;refine (hhY _ (sI _ hb1)).mono ?_;rintro en w2 ⟨v2,rfl,hi2,hb2'⟩;have hb2:=hb1.trans (hb2'.mono hb1.size);clear f0 f1 f2 f3 f4 f5 f6 f7 f8 f9 f10 f11 f12 f13 f14 f15 f16 f17;obtain ⟨f0,f1,f2,f3,f4,f5,f6,f7,f8,f9,f10,f11,f12,f13,f14,f15,f16,f17⟩:=hT _ hb2)
      | (go_at_call 29;refine (hin _ v1 v2 (hi1 _ hb2') (hi2 _ (yab _ _))).mono ?_;rintro en w3 ⟨rfl,aax⟩;have hb3:=hb2.trans (aax.mono hb2.size);clear f0 f1 f2 f3 f4 f5 f6 f7 f8 f9 f10 f11 f12 f13 f14 f15 f16 f17;obtain ⟨f0,f1,f2,f3,f4,f5,f6,f7,f8,f9,f10,f11,f12,f13,f14,f15,f16,f17⟩:=hT _ hb3)
      | (go_at_call 32;refine (hsp _ (sI _ hb3)).mono ?_;rintro en w4 ⟨rfl,aay⟩;have hb4:=hb3.trans (aay.mono hb3.size);clear f0 f1 f2 f3 f4 f5 f6 f7 f8 f9 f10 f11 f12 f13 f14 f15 f16 f17;obtain ⟨f0,f1,f2,f3,f4,f5,f6,f7,f8,f9,f10,f11,f12,f13,f14,f15,f16,f17⟩:=hT _ hb4)
      | (go_at_call 33;refine (hbz _ (sI _ hb4)).mono ?_;rintro en w5 ⟨rfl,Aj⟩;have hb5:=hb4.trans (Aj.mono hb4.size);clear f0 f1 f2 f3 f4 f5 f6 f7 f8 f9 f10 f11 f12 f13 f14 f15 f16 f17;obtain ⟨f0,f1,f2,f3,f4,f5,f6,f7,f8,f9,f10,f11,f12,f13,f14,f15,f16,f17⟩:=hT _ hb5)
      | (go_at_call 34;refine (R4 _ (sI _ hb5)).mono ?_;rintro en w6 ⟨rfl,Ak⟩;have hb6:=hb5.trans (Ak.mono hb5.size);clear f0 f1 f2 f3 f4 f5 f6 f7 f8 f9 f10 f11 f12 f13 f14 f15 f16 f17;obtain ⟨f0,f1,f2,f3,f4,f5,f6,f7,f8,f9,f10,f11,f12,f13,f14,f15,f16,f17⟩:=hT _ hb6)
      | (go_at_call 35;refine (R5 _ (sI _ hb6)).mono ?_;rintro en w7 ⟨rfl,aaz⟩;have iW:=hb6.trans (aaz.mono hb6.size);clear f0 f1 f2 f3 f4 f5 f6 f7 f8 f9 f10 f11 f12 f13 f14 f15 f16 f17;obtain ⟨f0,f1,f2,f3,f4,f5,f6,f7,f8,f9,f10,f11,f12,f13,f14,f15,f16,f17⟩:=hT _ iW)))
  all_goals (go_wp2_with fail)
  all_goals (first|exact ⟨rfl,rfl,rfl,rfl,rfl,rfl,rfl,rfl,rfl,rfl,rfl,rfl,rfl,rfl,rfl⟩|exact sI _ iW)
set_option maxRecDepth 100000 in
theorem Tryz.Ie {A:Nat→Prop} {w:World} {v:Value} {l:List Sg} (h:bC A w v l) (hl:l.length≤60000) (tb:Bool) (hm0:rQ l=0):
    Calls prog 75 #[v,.bool tb] w fun e w'=>e= .returned (.int .i64 (if tb=true then 1 else (l.length:Int)))∧Below w.heap.size w w':=by
  have hm:=Pz h hl;rw [hm0] at hm;clear hm0;obtain ⟨sa,c,rfl,_⟩:=h;cases tb
  all_goals
    go_enter func75,ntmps75;go_wp2_with (first
      | (go_at_call 124;refine hm.mono ?_;rintro e w' ⟨rfl,hb⟩)
      | go_in)
    go_ret;exact ⟨rfl,hb⟩
set_option maxRecDepth 100000 in
theorem Tryz.ztn {n a id m ad:Int} {x:Bool} (hn:1≤n∧n≤16) (ha:0≤a∧a<n) (hid:0≤id∧id<n) (hm:1≤m∧m≤64) (w:World):
    Calls prog 77 #[bM a x,.int .i64 n,.int .i64 id,.int .u64 ad,.int .i64 m] w fun e w'=>e= .returned (.tuple #[.agg #[.int .i64 a,.int .u64 ad,.int .u32 (16*m),.int .u16 id,.int .u16 (fZ 4 x)],.int .i64 0])∧Below w.heap.size w w':=by
  have hck:=fun w'=>zmz (x:=x) hn ha w';have hmk:=fun w'=>zxO (x:=x) w';generalize fZ 4 x=fl at hmk ⊢;have h0:decide (id<0)=false:=yao (by omega);have h1:decide (n≤id)=false:=yao (by omega);have h2:decide (m<1)=false:=yao (by omega);have h3:decide (64<m)=false:=yao (by omega);have e1:IntKind.wrap .i64 (16*m)=16*m:=dV (by omega) (by omega);have e2:IntKind.wrap .u32 (16*m)=16*m:=by unfold IntKind.wrap;simp [IntKind.signed,IntKind.bits];omega
  have e3:IntKind.wrap .u16 id=id:=tN (by omega) (by omega);unfold bM at ⊢;have hb1:=(yab w.heap.size w).alloc (yaa _) (Obj.cells #[.int .i64 a,.bool x] 64);have hb2:=hb1.alloc (by simp) (Obj.cells #[.int .i64 0,.int .u64 0,.int .u32 0,.int .u16 0,.int .u16 0] 139);have k0:=(Cl.new w #[.int .i64 a,.bool x] 64).alloc (Obj.cells #[.int .i64 0,.int .u64 0,.int .u32 0,.int .u16 0,.int .u16 0] 139);have k1:=Cl.new2 (w:=w.alloc (Obj.cells #[.int .i64 a,.bool x] 64)) (b:=w.heap.size+1) (arr:= #[.int .i64 0,.int .u64 0,.int .u32 0,.int .u16 0,.int .u16 0]) (t:=139) (by simp);clear hn ha hid hm;go_enter func77,ntmps77;go_wp2_with (first
    | (go_at_call 92;refine (hck _).mono ?_;rintro en w4 ⟨rfl,hb3⟩;have j0:=k0.below hb3 k0.lt;have j1:=k1.below hb3 k1.lt)
    | go_in)
  have hbd:=(yab w4.heap.size w4).drew;have hbw:Below w.heap.size w w4:=hb2.trans (hb3.mono hb2.size);have d0:=j0.below hbd j0.lt;have x0:=j0.cell 0 _ rfl;have x1:=j0.cell 1 _ rfl;have y0:=d0.cell 0 _ rfl;have y1:=d0.cell 1 _ rfl;have z0:=j1.cell 0 _ rfl;have q0:=j1.free 0;have z1:=j1.cell 1 _ rfl;have q1:=j1.free 1;have z2:=j1.cell 2 _ rfl;have q2:=j1.free 2;have z3:=j1.cell 3 _ rfl;have q3:=j1.free 3;have z4:=j1.cell 4 _ rfl;have q4:=j1.free 4;go_region_law (first
    | (go_simp;go_at_call 21;refine (hmk _).mono ?_;rintro en w' ⟨rfl,hw⟩;have hw:=hw.symm;subst hw))
  all_goals
    go_wp2_with fail;have LY:=aD (aD (aD (aD (aD (ah (K:=fun _=>False) hbw) (w.heap.size+1) 0 (.int .i64 a) (.inr (by omega))) (w.heap.size+1) 1 (.int .u64 ad) (.inr (by omega))) (w.heap.size+1) 2 (.int .u32 (16*m)) (.inr (by omega))) (w.heap.size+1) 3 (.int .u16 id) (.inr (by omega))) (w.heap.size+1) 4 (.int .u16 fl) (.inr (by omega));have cO:=mU (LY.trans (ah ((yab _ _).drew)));have kF:=Cl.kept (w':=(((((w4.setCell ⟨w.heap.size+1,0,none⟩ (.int .i64 a)).setCell ⟨w.heap.size+1,1,none⟩ (.int .u64 ad)).setCell ⟨w.heap.size+1,2,none⟩ (.int .u32 (16*m))).setCell ⟨w.heap.size+1,3,none⟩ (.int .u16 id)).setCell ⟨w.heap.size+1,4,none⟩ (.int .u16 fl)).drew) (((((j1.set 0 (.int .i64 a) (by simp)).set 1 (.int .u64 ad) (by simp)).set 2 (.int .u32 (16*m)) (by simp)).set 3 (.int .u16 id) (by simp)).set 4 (.int .u16 fl) (by simp)) rfl;refine yap (bU rfl _ _ (w.heap.size+1) [.int .i64 a,.int .u64 ad,.int .u32 (16*m),.int .u16 id,.int .u16 fl] _ rfl (fun j y hy=>by rw [yaf];exact kF.cell j y hy) underlying139 rfl (by kernel_rfl)) rfl ?_;exact ⟨rfl,cO⟩
section
variable {A A':Nat→Prop} {w w':World} {S P L Bs B N b2:Nat} {r:Tryz.Rg} {s s':Tryz.DS} {g g':Nat→Int} {lv bG:Value}
theorem Tryz.YW.KY (h:YW A w S P L Bs B N b2 r s g lv) (hm:Dw.Mv (fun b=>b=S∨lv.ownBlock=some b) w w') {au aj:Value} (hc:Cl w' S (s'.aM r P bG au aj)) (q2:bC (fun b=>A b∨bG.ownBlock=some b) w' au s'.sg) (q3:gV (fun b=>A b∨bG.ownBlock=some b) w' aj s'.pu) (hp:DB r s') {t:TypeId} (hrow:af t 3 w' b2 bG s'.L.length (cK s'.L)):YW A w' S P L Bs B N b2 r s' g bG:=by
 obtain ⟨t0,fO⟩:=h.row;have hlo:=h.lo;have hX: ∀X,X<b2→X≠S→ ¬(X=S∨lv.ownBlock=some X):=fun X hX hS q=>by
  rcases q with q|q
  ·exact hS q
  ·have:=(fO.lt X q).1;omega
 have hsd:=h.sd;exact ⟨⟨au,aj,hc,q2,q3⟩,⟨t,hrow⟩,h.rm.kept (fun k hk hq=>hm.block k hk (by
  rcases hq with rfl|rfl|rfl|rfl
  ·exact hX _ hlo.2.1 fun e=>hsd.1 e.symm
  ·exact hX _ hlo.2.2.1 fun e=>hsd.2.1 e.symm
  ·exact hX _ hlo.2.2.2.1 fun e=>hsd.2.2.1 e.symm
  ·exact hX _ hlo.2.2.2.2 fun e=>hsd.2.2.2 e.symm)) hm.size,h.aS,h.aB,fun b hb=>yae (h.lt b hb) hm.size,h.lo,yas h.b2 hm.size,h.sd,h.rg,hp,h.hN,h.fit⟩
set_option maxRecDepth 100000 in
theorem Tryz.zv0 (h:YW A w S P L Bs B N b2 r s g lv) {v:Value} {l:List Sg} (hv:bC A w v l) (hl:l.length≤60000) {t:Int} (hno:(di N r.n s t l).1≠0):
    Calls prog 15 #[.pointer (some ⟨S,0,none⟩),.int .i64 t,v] w fun e w'=>e= .returned (.int .i64 (di N r.n s t l).1)∧Below w.heap.size w w':=by
  obtain ⟨au,aj,q1,q2,q3⟩:=h.obj;have hN:=h.hN;have hF:=h.fit;have hbn:=h.rg.bnd;obtain ⟨A9,c0,oF,hok,_⟩:=id hv;subst oF;have c23:=q1.cell 23 _ rfl;have c16:=q1.cell 16 _ rfl;have c15:=q1.cell 15 _ rfl;have y0:=q1.cell 0 _ rfl;obtain ⟨ty,hrow⟩:=h.row;obtain ⟨sa,c,hlv,fO⟩:=af.row hrow;rw [hlv] at c15;have Ac:s.L.length≤16:=by
    have:=gT fun x hx=>(h.pb.el x hx).2.2.1;have:=h.pb.sum;have:=h.pb.own;omega
  have hcell: ∀(j:Nat) (hj:j<s.L.length),∃G,sa=some ⟨G,0,none⟩∧w.cell? ⟨G,j*3+1,none⟩=some (.int .i64 s.L[j].tk):=fun j hj=>by
    rcases fO with hr|⟨G,hsa,iT,hr⟩
    · have:=yaB List.length hr;rw [oK s.L] at this;simp only [ybm] at this;omega
    · refine ⟨G,hsa,?_⟩;have e1:=hr _ _ (uV s.L j hj).2.1;rw [yaf] at e1;exact e1
  replace hlv:aA _:=⟨hlv⟩;have hin2:=fun (w1:World) (hb:Below w.heap.size w w1)=>JD (h.rm.below hb) hN (hv.below hb) (by omega);have qU:=fun w1 hb=>Ie (w:=w1) (hv.below hb) (by omega);have hidx:=fun (w1:World) (hb:Below w.heap.size w w1)=>Kq (h.below hb);have gM: ∀w1,Below w.heap.size w w1→w1.cell? ⟨S,7,none⟩=some (.bool s.tb):=fun w1 hb=>(q1.below hb q1.lt).cell 7 _ rfl;have hc2: ∀w1,Below w.heap.size w w1→w1.cell? ⟨S,2,none⟩=some (.int .i64 r.n):=fun w1 hb=>(q1.below hb q1.lt).cell 2 _ rfl;have iX: ∀w1,Below w.heap.size w w1→w1.cell? ⟨S,14,none⟩=some (.int .i64 s.own):=fun w1 hb=>(q1.below hb q1.lt).cell 14 _ rfl;clear hrow fO q2 q3;unfold di at hno ⊢;by_cases hb:s.br=true
  · rw [yak hb];rw [hb] at c23;clear hno hb hcell hin2;go_enter func15,ntmps15;go_wp2;go_ret;exact ⟨rfl,yab _ _⟩
  rw [yah hb] at hno ⊢;have hbf:s.br=false:=by simpa using hb
  rw [hbf] at c23;by_cases hp:s.ph≠0
  · rw [yak hp];have hp':((s.ph:Int)==0)=false:=by simpa using hp
    clear hno hb hp hbf hcell hin2;go_enter func15,ntmps15;go_wp2;go_ret;exact ⟨rfl,yab _ _⟩
  rw [yah hp] at hno ⊢;rw [yaz.1 hp] at c16;by_cases ht:t<0
  · have ht':decide (t<0)=true:=yaH ht;rw [yak (.inl ht)];clear hno hb hp ht hbf hcell hin2;go_enter func15,ntmps15;go_wp2;go_ret;exact ⟨rfl,yab _ _⟩
  have ht':decide (t<0)=false:=yao ht;by_cases htk:(s.L.any fun e=>e.tk==t)=true
  · rw [yak (.inr htk)];obtain ⟨e,he,het⟩:=ybF.1 htk;obtain ⟨i,hi,hie⟩:=ycB.1 he;have vY:aA (∃(i:Nat) (hi:i<s.L.length),s.L[i].tk=t):=⟨i,hi,by rw [hie];simpa using het⟩;clear hno hb hp hbf htk he het hie hi e i;go_enter func15,ntmps15;go_wp2_with fail;go_loopw [7] (fun x wr=>wr=w∧ ∃k:Nat,k≤s.L.length∧x= .int .i64 k∧aA (∀(j:Nat) (hj:j<s.L.length),j<k→s.L[j].tk≠t)) (fun x _=>s.L.length-(RowKit.intOf x).toNat)
    case atStart=>exact ⟨rfl,0,yar _,rfl,⟨fun j hj q=>absurd q (by omega)⟩⟩
    case round=>
      obtain ⟨hwr,k,hk,rfl,hf⟩:=hrel;have hwr:=hwr.symm;subst hwr;by_cases hkl:k<s.L.length
      · have hkl':(k:Int)<s.L.length:=by omega
        obtain ⟨G,hsa,e1⟩:=hcell k hkl;rw [hsa] at c15;by_cases cZ:s.L[k].tk=t
        · rw [cZ] at e1;clear hf hcell cZ hin2;go_wp2;refine yap (ycy rfl _ _ _) rfl ?_;exact ⟨rfl,yab _ _⟩
        · have hf':aA (∀(j:Nat) (hj:j<s.L.length),j<k+1→s.L[j].tk≠t):=⟨fun j hj q=>by
            by_cases e:j<k
            · exact hf.out j hj e
            · have e:j=k:=by omega
              subst e;exact cZ⟩
          generalize s.L[k].tk=tk at e1 cZ;have Az:(tk==t)=false:=by simpa using cZ
          clear hf hcell cZ hin2;go_wp2;exact ⟨⟨trivial,k+1,by omega,by push_cast;rfl,hf'⟩,by simp only [RowKit.intOf];omega⟩
      · have hkl': ¬(k:Int)<s.L.length:=by omega
        exfalso;obtain ⟨i,hi,hie⟩:=vY.out;exact hf.out i hi (by omega) hie
  rw [yah (by rintro (q|q);exact ht q;exact htk q)] at hno ⊢;have hnf: ∀(k:Nat) (hk:k<s.L.length),s.L[k].tk≠t:=fun k hk q=>htk (ybF.2 ⟨s.L[k],yaA hk,by simpa using q⟩);by_cases hin:iB N l≠0
  · rw [yak hin];have LK:(iB N l==0)=false:=by simpa using hin
    generalize iB N l=e at hin2 hin LK ⊢;clear hno hb hp hbf htk;go_enter func15,ntmps15;go_wp2_with fail;go_loopw [7] (fun x wr=>wr=w∧ ∃k:Nat,k≤s.L.length∧x= .int .i64 k∧aA (∀(j:Nat) (hj:j<s.L.length),j<k→s.L[j].tk≠t)) (fun x _=>s.L.length-(RowKit.intOf x).toNat)
    case atStart=>exact ⟨rfl,0,yar _,rfl,⟨fun j hj q=>absurd q (by omega)⟩⟩
    case round=>
      obtain ⟨hwr,k,hk,rfl,hf⟩:=hrel;have hwr:=hwr.symm;subst hwr;by_cases hkl:k<s.L.length
      · have hkl':(k:Int)<s.L.length:=by omega
        obtain ⟨G,hsa,e1⟩:=hcell k hkl;rw [hsa] at c15;by_cases cZ:s.L[k].tk=t
        · exact absurd cZ (by intro q;exact hnf k hkl q)
        · have hf':aA (∀(j:Nat) (hj:j<s.L.length),j<k+1→s.L[j].tk≠t):=⟨fun j hj q=>by
            by_cases e:j<k
            · exact hf.out j hj e
            · have e:j=k:=by omega
              subst e;exact cZ⟩
          generalize s.L[k].tk=tk at e1 cZ;have Az:(tk==t)=false:=by simpa using cZ
          clear hf hcell cZ hin2;go_wp2;exact ⟨⟨trivial,k+1,by omega,by push_cast;rfl,hf'⟩,by simp only [RowKit.intOf];omega⟩
      · have hkl': ¬(k:Int)<s.L.length:=by omega
        clear hf hcell hnf;go_wp2_with (first
          | (go_at_call 74;refine (hin2 _ (yab _ _)).mono ?_;rintro e w1 ⟨rfl,hb1⟩)
          | go_in)
        refine yap (ycy rfl _ _ _) rfl ?_;exact ⟨rfl,hb1⟩
  rw [yah hin] at hno ⊢;rw [yaz.1 hin] at hin2;by_cases hl0:l.length=0
  · rw [yak hl0];have hb0:((l.length:Int)==0)=true:=by simpa using hl0
    clear hno hb hp hbf htk hin hl0;go_enter func15,ntmps15;go_wp2_with fail;go_loopw [7] (fun x wr=>wr=w∧ ∃k:Nat,k≤s.L.length∧x= .int .i64 k∧aA (∀(j:Nat) (hj:j<s.L.length),j<k→s.L[j].tk≠t)) (fun x _=>s.L.length-(RowKit.intOf x).toNat)
    case atStart=>exact ⟨rfl,0,yar _,rfl,⟨fun j hj q=>absurd q (by omega)⟩⟩
    case round=>
      obtain ⟨hwr,k,hk,rfl,hf⟩:=hrel;have hwr:=hwr.symm;subst hwr;by_cases hkl:k<s.L.length
      · have hkl':(k:Int)<s.L.length:=by omega
        obtain ⟨G,hsa,e1⟩:=hcell k hkl;rw [hsa] at c15;by_cases cZ:s.L[k].tk=t
        · exact absurd cZ (by intro q;exact hnf k hkl q)
        · have hf':aA (∀(j:Nat) (hj:j<s.L.length),j<k+1→s.L[j].tk≠t):=⟨fun j hj q=>by
            by_cases e:j<k
            · exact hf.out j hj e
            · have e:j=k:=by omega
              subst e;exact cZ⟩
          generalize s.L[k].tk=tk at e1 cZ;have Az:(tk==t)=false:=by simpa using cZ
          clear hf hcell cZ hin2;go_wp2;exact ⟨⟨trivial,k+1,by omega,by push_cast;rfl,hf'⟩,by simp only [RowKit.intOf];omega⟩
      · have hkl': ¬(k:Int)<s.L.length:=by omega
        clear hf hcell hnf;go_wp2_with (first
          | (go_at_call 74;refine (hin2 _ (yab _ _)).mono ?_;rintro e w1 ⟨rfl,hb1⟩)
          | go_in)
        refine yap (ycy rfl _ _ _) rfl ?_;exact ⟨rfl,hb1⟩
  rw [yah hl0] at hno ⊢;have hbe:rQ l=0:=by
    rw [EF];unfold eD;rw [(nS (yaz.1 hin)).2,yah (by decide),yah hl0]
  obtain ⟨T,hT⟩: ∃T,(s.tb&&decide ((1:Int)<l.length))=T:=⟨_,rfl⟩;have fG:s.tab l=T:=by
    unfold DS.tab;rw [←hT];congr 1;exact ya4.2 (by omega)
  have bZ:s.need l=if T=true then 1 else (l.length:Int):=by unfold DS.need;rw [fG]
  have hnd:=fun w1 hb=>qU w1 hb T hbe;rw [←bZ] at hnd;simp only at hno ⊢;generalize s.need l=ct at hno hnd ⊢;clear bZ qU;obtain ⟨f1,f2,f3,f4⟩:=uX s.L r.n.toNat 0;obtain ⟨id,hid⟩: ∃id:Nat,id=dD s.L r.n.toNat 0:=⟨_,rfl⟩;rw [←hid] at hno hidx f1 f2 f3 f4 ⊢;have hfull:s.own<ct∨r.n≤(id:Int):=by
    by_cases q:s.own<ct∨r.n≤(id:Int)
    · exact q
    · rw [yah q] at hno;exact absurd rfl hno
  rw [yak hfull];have hb0:((l.length:Int)==0)=false:=by simpa using hl0
  have hcs:decide (s.own<ct)=true∨(decide (s.own<ct)=false∧((id:Int)==r.n)=true):=by
    by_cases q:s.own<ct
    · exact .inl (yaH q)
    · refine .inr ⟨yao q,?_⟩;have:(id:Int)=r.n:=by omega
      simpa using this
  clear hno hb hp hbf htk hin hl0 hid f1 f2 f3 f4 hfull fG hbe;have lY:(s.tb=true)∨s.tb=false:=by cases s.tb<;>simp
  rcases lY with htb|htb<;>rcases hcs with hfu|⟨hfu,hfi⟩
  all_goals
    rw [htb] at hT gM
    first|rw [ybr] at hT|(rw [yb2] at hT;subst hT)
    go_enter func15,ntmps15;go_wp2_with fail;go_loopw [7] (fun x wr=>wr=w∧ ∃k:Nat,k≤s.L.length∧x= .int .i64 k∧aA (∀(j:Nat) (hj:j<s.L.length),j<k→s.L[j].tk≠t)) (fun x _=>s.L.length-(RowKit.intOf x).toNat)
    case atStart=>exact ⟨rfl,0,yar _,rfl,⟨fun j hj q=>absurd q (by omega)⟩⟩
    case round=>
      obtain ⟨hwr,k,hk,rfl,hf⟩:=hrel;have hwr:=hwr.symm;subst hwr;by_cases hkl:k<s.L.length
      · have hkl':(k:Int)<s.L.length:=by omega
        obtain ⟨G,hsa,e1⟩:=hcell k hkl;rw [hsa] at c15;by_cases cZ:s.L[k].tk=t
        · exact absurd cZ (by intro q;exact hnf k hkl q)
        · have hf':aA (∀(j:Nat) (hj:j<s.L.length),j<k+1→s.L[j].tk≠t):=⟨fun j hj q=>by
            by_cases e:j<k
            · exact hf.out j hj e
            · have e:j=k:=by omega
              subst e;exact cZ⟩
          generalize s.L[k].tk=tk at e1 cZ;have Az:(tk==t)=false:=by simpa using cZ
          clear hf hcell cZ hin2;go_wp2;exact ⟨⟨trivial,k+1,by omega,by push_cast;rfl,hf'⟩,by simp only [RowKit.intOf];omega⟩
      · have hkl': ¬(k:Int)<s.L.length:=by omega
        clear hf hcell hnf;go_wp2_with (first
          | (go_at_call 74;refine (hin2 _ (yab _ _)).mono ?_;rintro e w1 ⟨rfl,hb1⟩;have y7:=gM _ hb1)
          | (go_at_call 75;refine (hnd _ hb1).mono ?_;rintro e w2 ⟨rfl,hb2⟩;have bI:=hb1.trans (hb2.mono hb1.size);have qb:=iX _ bI;have y2:=hc2 _ bI)
          | (go_at_call 76;refine (hidx _ bI).mono ?_;rintro e w' ⟨rfl,hw⟩;have hw:=hw.symm;subst hw)
          | go_in)
        refine yap (ycy rfl _ _ _) rfl ?_;exact ⟨rfl,bI⟩
end
end Go.Proofs
namespace Go.Proofs
open Go.Dw Go.RowKit Go.Maps Go.Sort Go.Deep
section
variable {A A':Nat→Prop} {w w':World} {S P L Bs B N b2:Nat} {r:Tryz.Rg} {s s':Tryz.DS} {g g':Nat→Int} {lv bG:Value}
set_option maxRecDepth 100000 in
theorem Tryz.zvX (h:YW A w S P L Bs B N b2 r s g lv) {v:Value} {l:List Sg} (hv:bC A w v l) (hl:l.length≤60000) {t:Int} (l8:t<9223372036854775808) (aF:(di N r.n s t l).1=0) (nu:s.tab l=true):
    Calls prog 15 #[.pointer (some ⟨S,0,none⟩),.int .i64 t,v] w fun e w'=>e= .returned (.int .i64 0)∧(∃dU,YW A w' S P L Bs B N b2 r (di N r.n s t l).2 g dU∧ ∀b,dU.ownBlock=some b→lv.ownBlock=some b∨w.heap.size≤b)∧Dw.Mv (fun b=>b=S∨lv.ownBlock=some b) w w':=by
  obtain ⟨au,aj,q1,q2,q3⟩:=h.obj;have hN:=h.hN;have hF:=h.fit;have hbn:=h.rg.bnd;obtain ⟨A9,c0,oF,hok,qV⟩:=id hv;subst oF;have c23:=q1.cell 23 _ rfl;have c16:=q1.cell 16 _ rfl;have c15:=q1.cell 15 _ rfl;have y0:=q1.cell 0 _ rfl;obtain ⟨ty,hrow⟩:=h.row;obtain ⟨sa,c,hlv,fO⟩:=af.row hrow;rw [hlv] at c15;have Ac:s.L.length≤16:=by
    have:=gT fun x hx=>(h.pb.el x hx).2.2.1;have:=h.pb.sum;have:=h.pb.own;omega
  have hcell: ∀(j:Nat) (hj:j<s.L.length),∃G,sa=some ⟨G,0,none⟩∧w.cell? ⟨G,j*3+1,none⟩=some (.int .i64 s.L[j].tk):=fun j hj=>by
    rcases fO with hr|⟨G,hsa,iT,hr⟩
    · have:=yaB List.length hr;rw [oK s.L] at this;simp only [ybm] at this;omega
    · refine ⟨G,hsa,?_⟩;have e1:=hr _ _ (uV s.L j hj).2.1;rw [yaf] at e1;exact e1
  replace hlv:aA _:=⟨hlv⟩;have hin2:=fun (w1:World) (hb:Below w.heap.size w w1)=>JD (h.rm.below hb) hN (hv.below hb) (by omega);have qU:=fun w1 hb=>Ie (w:=w1) (hv.below hb) (by omega);have hidx:=fun (w1:World) (hb:Below w.heap.size w w1)=>Kq (h.below hb);have gM: ∀w1,Below w.heap.size w w1→w1.cell? ⟨S,7,none⟩=some (.bool s.tb):=fun w1 hb=>(q1.below hb q1.lt).cell 7 _ rfl;have hc2: ∀w1,Below w.heap.size w w1→w1.cell? ⟨S,2,none⟩=some (.int .i64 r.n):=fun w1 hb=>(q1.below hb q1.lt).cell 2 _ rfl;have iX: ∀w1,Below w.heap.size w w1→w1.cell? ⟨S,14,none⟩=some (.int .i64 s.own):=fun w1 hb=>(q1.below hb q1.lt).cell 14 _ rfl;have hpb:=h.pb.off (N:=N) (t:=t) ⟨hbn.1,hbn.2⟩ l8 hok;unfold di at aF hpb ⊢;by_cases hb:s.br=true
  · rw [yak hb] at aF;exact absurd aF (show¬(4:Int)=0 by decide)
  rw [yah hb] at aF hpb ⊢;have hbf:s.br=false:=by simpa using hb
  rw [hbf] at c23;by_cases hp:s.ph≠0
  · rw [yak hp] at aF;exact absurd aF (show¬(8:Int)=0 by decide)
  rw [yah hp] at aF hpb ⊢;rw [yaz.1 hp] at c16;by_cases htk:t<0∨(s.L.any fun e=>e.tk==t)=true
  · rw [yak htk] at aF;exact absurd aF (show¬(2:Int)=0 by decide)
  rw [yah htk] at aF hpb ⊢;have ht':decide (t<0)=false:=yao fun q=>htk (.inl q);have hnf: ∀(k:Nat) (hk:k<s.L.length),s.L[k].tk≠t:=fun k hk q=>htk (.inr (ybF.2 ⟨s.L[k],yaA hk,by simpa using q⟩));by_cases hin:iB N l≠0
  · rw [yak hin] at aF;exact absurd aF hin
  rw [yah hin] at aF hpb ⊢;rw [yaz.1 hin] at hin2;by_cases hl0:l.length=0
  · rw [yak hl0] at aF;exact absurd aF (show¬(2:Int)=0 by decide)
  rw [yah hl0] at aF hpb ⊢;have Gv:=(nS (yaz.1 hin)).1;have hbe:rQ l=0:=by
    rw [EF];unfold eD;rw [(nS (yaz.1 hin)).2,yah (by decide),yah hl0]
  simp only at aF hpb ⊢;by_cases hfull:s.own<s.need l∨r.n≤(dD s.L r.n.toNat 0:Nat)
  · rw [yak hfull] at aF;exact absurd aF (show¬(7:Int)=0 by decide)
  rw [yah hfull] at aF hpb ⊢;clear aF;simp only at hpb ⊢;obtain ⟨T,hT⟩: ∃T,(s.tb&&decide ((1:Int)<l.length))=T:=⟨_,rfl⟩;have fG:s.tab l=T:=by
    unfold DS.tab;rw [←hT];congr 1;exact ya4.2 (by omega)
  have hTe:T=true:=fG.symm.trans nu;replace hTe:aA _:=⟨hTe⟩;clear nu;have bZ:s.need l=if T=true then 1 else (l.length:Int):=by unfold DS.need;rw [fG]
  have hnd:=fun w1 hb=>qU w1 hb T hbe;rw [←bZ] at hnd;obtain ⟨ct,hct⟩: ∃ct,ct=s.need l:=⟨_,rfl⟩;obtain ⟨f1,f2,f3,f4⟩:=uX s.L r.n.toNat 0;obtain ⟨id,hid⟩: ∃id:Nat,id=dD s.L r.n.toNat 0:=⟨_,rfl⟩;rw [←hid] at hidx hfull hpb ⊢;rw [←hct] at hnd bZ hfull hpb ⊢;have yA:(id:Int)<r.n:=by omega
  have hidJ:((id:Int)==r.n)=false:=by simpa using (show¬(id:Int)=r.n by omega)
  have hown2:decide (s.own<ct)=false:=yao (by omega);have hown0:=h.pb.own;have Gn:1≤ct∧ct≤s.own:=⟨by rw [bZ];split<;>omega,by omega⟩;have jB:T=false→(l.length:Int)≤r.n:=fun q=>by
    rw [q] at bZ;have h1:=h.pb.sum;have h2:=gT fun x hx=>(h.pb.el x hx).2.2.1;simp at bZ;omega
  have GJ:IntKind.wrap .i64 (s.own-ct)=s.own-ct:=dV (by omega) (by have:=h.pb.sum;have:=gT fun x hx=>(h.pb.el x hx).2.2.1;omega);have hl1:(1:Int)≤l.length:=by omega
  have e1:IntKind.wrap .u64 (id:Int)=id:=wrap_u64 _ (by omega) (by omega);have e2:IntKind.wrap .u64 ((id:Int)*1024)=(id:Int)*1024:=wrap_u64 _ (by omega) (by omega);have e3:IntKind.wrap .u64 (20000+(id:Int)*1024)=20000+(id:Int)*1024:=wrap_u64 _ (by omega) (by omega);have hb0:((l.length:Int)==0)=false:=by simpa using hl0
  have jU:s.ph=0:=yaz.1 hp;obtain ⟨k0,hk0,vZ,wm,wo⟩:=yba Ff;have pO:=Ep l;have Dr:=yY l;have lF:=fun w2:World=>yco (base:=w2.heap.size) (e:=137) (size:=3) w2 #[] 0 (yaa _) (by unfold maxLen;omega) rfl;have hba:=fun w2:World=>(yab w2.heap.size w2).alloc (yaa _) (.cells #[] 137);obtain ⟨ad,rfl⟩: ∃ad,A9=some ad:=by
    rcases qV with q|⟨R,o,q,_⟩
    · rw [q] at hl0;exact absurd rfl hl0
    · exact ⟨_,q⟩
  have hnews: ∀w2,Below w.heap.size w w2→ ∀j u,(dA l)[j]? =some u→(w2.alloc (.cells #[] 137)).cell? (ad.add j)=some u:=fun w2 hb j u hj=>by
    rcases qV with q|⟨R,o,q,_,hr⟩
    · subst q;cases hj
    · cases q;have hc1:=hr j u hj;have hlt:R<w.heap.size:=yan w _ hc1;rw [Dw.addr_add];have hb':=hb.trans ((hba w2).mono hb.size);exact (yal (a:=⟨R,o+j,none⟩) (hb'.block R hlt)).trans hc1
  have ni: ∀b,(A b∨lv.ownBlock=some b)→b<w.heap.size:=fun b q=>q.elim (h.lt b) fun e=>(hrow.lt b e).2;have wu:lv.ownBlock≠some S:=fun e=>by have:=(hrow.lt S e).1;have:=h.lo.1;omega
  replace ni:aA _:=⟨ni⟩;replace jB:aA _:=⟨jB⟩;replace jU:aA _:=⟨jU⟩;have hput:aA (s.puts r.n id l=if T=true then [zip id s.nx (jF id) l.length s.nw] else dN r.n id s.nx s.nw l l.length):=⟨by unfold DS.puts;rw [fG]⟩;have lY:s.tb=true∨s.tb=false:=by cases s.tb<;>simp
  replace hbe:aA _:=⟨hbe⟩;replace hct:aA _:=⟨hct⟩;clear hb hp htk hin hl0 fG bZ hfull f1 f2 f3 f4 hid qU qV fO;have uj:(s.tb=true∧T=true)∨(s.tb=true∧T=false)∨(s.tb=false∧T=false):=by
    rcases lY with q|q
    · cases T
      · exact .inr (.inl ⟨q,rfl⟩)
      · exact .inl ⟨q,rfl⟩
    · rw [q,yb2] at hT;exact .inr (.inr ⟨q,hT.symm⟩)
  clear lY;rcases uj with ⟨htb,gD⟩|⟨htb,gD⟩|⟨htb,gD⟩
  · rw [htb] at hT gM;rw [ybr] at hT;subst gD;clear htb hTe;go_enter func15,ntmps15;go_wp2_with fail;go_loopw [7] (fun x wr=>wr=w∧ ∃k:Nat,k≤s.L.length∧x= .int .i64 k∧aA (∀(j:Nat) (hj:j<s.L.length),j<k→s.L[j].tk≠t)) (fun x _=>s.L.length-(RowKit.intOf x).toNat)
    case atStart=>exact ⟨rfl,0,yar _,rfl,⟨fun j hj q=>absurd q (by omega)⟩⟩
    case round=>
      obtain ⟨hwr,k,hk,rfl,hf⟩:=hrel;have hwr:=hwr.symm;subst hwr;by_cases hkl:k<s.L.length
      · have hkl':(k:Int)<s.L.length:=by omega
        obtain ⟨G,hsa,e1⟩:=hcell k hkl;rw [hsa] at c15;by_cases cZ:s.L[k].tk=t
        · exact absurd cZ (by intro q;exact hnf k hkl q)
        · have hf':aA (∀(j:Nat) (hj:j<s.L.length),j<k+1→s.L[j].tk≠t):=⟨fun j hj q=>by
            by_cases e:j<k
            · exact hf.out j hj e
            · have e:j=k:=by omega
              subst e;exact cZ⟩
          generalize s.L[k].tk=tk at e1 cZ;have Az:(tk==t)=false:=by simpa using cZ
          clear hf hcell cZ hin2;go_wp2;exact ⟨⟨trivial,k+1,by omega,by push_cast;rfl,hf'⟩,by simp only [RowKit.intOf];omega⟩
      · have hkl': ¬(k:Int)<s.L.length:=by omega
        clear hf hcell hnf;go_wp2_with (first
          | (go_at_call 74;refine (hin2 _ (yab _ _)).mono ?_;rintro e w1 ⟨rfl,hb1⟩;have y7:=gM _ hb1)
          | (go_at_call 75;refine (hnd _ hb1).mono ?_;rintro e w2 ⟨rfl,hb2⟩;have bI:=hb1.trans (hb2.mono hb1.size);have qb:=iX _ bI;have y2:=hc2 _ bI)
          | (go_at_call 76;refine (hidx _ bI).mono ?_;rintro e w' ⟨rfl,hw⟩;have hw:=hw.symm;subst hw)
          | (at_builtin;go_loud (refine ybV _ rfl _ _ 49 rfl w2.heap.size 137 k0 _ 3 16 (by kernel_rfl) hk0 vZ wm wo rfl (by decide) _ _ _ rfl (lF w2) ad l.length c0 (dA l) rfl (by omega) (hnews w2 bI) pO (by unfold maxLen;omega) (by omega) (by simp) ?_);intro v' w3 hown' hg3 _;have hu3:fM w3 w2.heap.size v' l:=(by unfold fM;simpa using hown');have wH:=fM.Bb hu3 hok (A:=(fun b=>A b∨lv.ownBlock=some b)) (fun b z1 z2=>by have:=ni.out b z2;have:=bI.size;omega);obtain ⟨su,cu,hue,_⟩:=fM.slice hu3;subst hue;have vW:Below w2.heap.size w2 w3:=(hba w2).grown hg3 (by simp) (fun j hj=>((lF w2).lt j hj).1);have p3:=(q1.below bI q1.lt).below vW (q1.below bI q1.lt).lt;have a24:=p3.cell 24 _ rfl;have f24:=p3.free 24;have a25:=p3.cell 25 _ rfl;have f25:=p3.free 25;have a26:=p3.cell 26 _ rfl;have f26:=p3.free 26;have a27:=p3.cell 27 _ rfl;have f27:=p3.free 27;go_frame)
          | go_in)
        have o4:=(((p3.set 24 (.int .i64 id) (by show 24<29;decide)).set 25 (.int .i64 t) (by show 25<29;decide)).set 26 (.int .i64 ct) (by show 26<29;decide)).set 27 (.slice su l.length cu) (by show 27<29;decide);have qP:=zag (zag (zag (zag (Dw.Mv.refl (· =S) w3) S 24 (.int .i64 id) rfl) S 25 (.int .i64 t) rfl) S 26 (.int .i64 ct) rfl) S 27 (.slice su l.length cu) rfl;clear a24 f24 a25 f25 a26 f26 a27 f27 y7 qb y2;generalize ((((w3.setCell ⟨S,24,none⟩ (.int .i64 id)).setCell ⟨S,25,none⟩ (.int .i64 t)).setCell ⟨S,26,none⟩ (.int .i64 ct)).setCell ⟨S,27,none⟩ (.slice su l.length cu))=w4 at*;have sF:Dw.Mv (· =S) w w4:=((ah bI).trans (ah vW)).trans qP;have eX:Cl w4 S (({ s with sg:=l,c:=⟨id,t,ct⟩ }:DS).aM r P lv (.slice su l.length cu) aj):=o4;have nA:=wH.aZ (A':=(fun b=>A b∨lv.ownBlock=some b)) (fun _ _ q=>q) fun b hb hn=>qP.block b hb fun e=>hn (by have e:b=S:=e;exact e▸ .inl h.aS);clear o4 hu3 wH hown' hg3 hb1 hb2 p3 hin2 hnd hidx lF hba hnews gM hc2 iX pO qP;have x10:=eX.cell 10 (.int .i64 s.nx) rfl;have rE:=eX.cell 11 (.bool s.nw) rfl;have x2:=eX.cell 2 (.int .i64 r.n) rfl;have x9:=eX.cell 9 (.int .u64 20000) rfl;have x28:=eX.cell 28 _ rfl;have f28:=eX.free 28;have hone:=fun w'=>ztn (n:=r.n) (a:=s.nx) (id:=id) (m:=l.length) (ad:=20000+id*1024) (x:=s.nw) ⟨hbn.1,by omega⟩ h.pb.nx ⟨by omega,by omega⟩ ⟨by omega,by omega⟩ w';unfold bM at hone;generalize hfl:fZ 4 s.nw=fl at hone;replace hfl:aA _:=⟨hfl⟩;go_wp2_with fail;go_cut [12,13] from 104 to 127 (fun z e wx=> ∃Zb,z= .pointer (some ⟨Zb,0,none⟩)∧e= .int .i64 0∧Cl wx Zb [.int .i64 s.nx,.int .u64 (20000+id*1024),.int .u32 (16*l.length),.int .u16 id,.int .u16 fl]∧Below w4.heap.size w4 wx)
        case first=>
          have uo:=(yab w4.heap.size w4).alloc (yaa _) (Obj.cells #[.int .i64 0,.int .u64 0,.int .u32 0,.int .u16 0,.int .u16 0] 139);have hbD:=(yab w4.heap.size w4).drew;have hS5:w4.heap.size≠S:=by have:=eX.lt;omega
          have hS6:S≠w4.heap.size:=fun q=>hS5 q.symm;have yu:=uo.drew;have od:=eX.below hbD eX.lt;have oz:=eX.below yu eX.lt;have d10:=od.cell 10 (.int .i64 s.nx) rfl;have d11:=od.cell 11 (.bool s.nw) rfl;have d2:=od.cell 2 (.int .i64 r.n) rfl;have d9:=od.cell 9 (.int .u64 20000) rfl;have g10:=oz.cell 10 (.int .i64 s.nx) rfl;have g11:=oz.cell 11 (.bool s.nw) rfl;have g2:=oz.cell 2 (.int .i64 r.n) rfl;have g9:=oz.cell 9 (.int .u64 20000) rfl;go_region_held3 (fun w'=>w'.cell? ⟨S,10,none⟩=some (.int .i64 s.nx)∧w'.cell? ⟨S,11,none⟩=some (.bool s.nw)∧w'.cell? ⟨S,2,none⟩=some (.int .i64 r.n)∧w'.cell? ⟨S,9,none⟩=some (.int .u64 20000)) (go_keep)
            ((first
              | (go_at_call 77;refine (hone (w4.drew)).mono ?_;rintro en w9 ⟨rfl,dI⟩;have fU:=hbD.trans (dI.mono (yaa _));have on:=od.below dI od.lt;have v10:=on.cell 10 (.int .i64 s.nx) rfl;have v11:=on.cell 11 (.bool s.nw) rfl;have v2:=on.cell 2 (.int .i64 r.n) rfl;have v9:=on.cell 9 (.int .u64 20000) rfl)
              | (go_at_call 77;refine (hone ((w4.alloc (Obj.cells #[.int .i64 0,.int .u64 0,.int .u32 0,.int .u16 0,.int .u16 0] 139)).drew)).mono ?_;rintro en w9 ⟨rfl,dI⟩;have fU:=yu.trans (dI.mono yu.size);have on:=oz.below dI oz.lt;have v10:=on.cell 10 (.int .i64 s.nx) rfl;have v11:=on.cell 11 (.bool s.nw) rfl;have v2:=on.cell 2 (.int .i64 r.n) rfl;have v9:=on.cell 9 (.int .u64 20000) rfl;have zc:=((Cl.new w4 #[.int .i64 0,.int .u64 0,.int .u32 0,.int .u16 0,.int .u16 0] 139).kept (w':=(w4.alloc (Obj.cells #[.int .i64 0,.int .u64 0,.int .u32 0,.int .u16 0,.int .u16 0] 139)).drew) rfl).below dI (by simp);have Nq:=zc.cell 0 _ rfl;have Oj:=zc.free 0;have Nr:=zc.cell 1 _ rfl;have Ol:=zc.free 1;have zc2:=zc.cell 2 _ rfl;have zf2:=zc.free 2;have zc3:=zc.cell 3 _ rfl;have zf3:=zc.free 3;have zc4:=zc.cell 4 _ rfl;have zf4:=zc.free 4)))
          all_goals
            go_wp2_with fail;go_meet
            first
              | exact ⟨w9.heap.size,rfl,rfl,Cl.new w9 _ _,fU.alloc fU.size _⟩
              | exact ⟨w4.heap.size,rfl,rfl,((((zc.set 0 _ (by simp)).set 1 _ (by simp)).set 2 _ (by simp)).set 3 _ (by simp)).set 4 _ (by simp),mU (aD (aD (aD (aD (aD (ah (K:=fun _=>False) fU) w4.heap.size 0 _ (.inr (yaa _))) w4.heap.size 1 _ (.inr (yaa _))) w4.heap.size 2 _ (.inr (yaa _))) w4.heap.size 3 _ (.inr (yaa _))) w4.heap.size 4 _ (.inr (yaa _)))⟩
        case rest=>
        obtain ⟨Zb,rfl,rfl,hZ,hb6⟩:=hcut;have a0:=hZ.cell 0 _ rfl;have a1:=hZ.cell 1 _ rfl;have a2:=hZ.cell 2 _ rfl;have a3:=hZ.cell 3 _ rfl;have a4:=hZ.cell 4 _ rfl;have Am:=(yab wc.heap.size wc).alloc (yaa _) (Obj.cells #[.int .i64 s.nx,.int .u64 (20000+id*1024),.int .u32 (16*l.length),.int .u16 id,.int .u16 fl] 139);have kV:=Cl.new wc #[.int .i64 s.nx,.int .u64 (20000+id*1024),.int .u32 (16*l.length),.int .u16 id,.int .u16 fl] 139;have uh:gV (fun b=>A b∨lv.ownBlock=some b) (wc.alloc (Obj.cells #[.int .i64 s.nx,.int .u64 (20000+id*1024),.int .u32 (16*l.length),.int .u16 id,.int .u16 fl] 139)) (.slice (some ⟨wc.heap.size,0,none⟩) 1 1) (s.puts r.n id l):=by
          rw [hput.out]
          first|rw [yak rfl]|rw [yak trivial]
          refine ⟨_,_,rfl,.inr ⟨wc.heap.size,0,rfl,fun q=>by have:=ni.out _ q;have:=sF.size;have:=hb6.size;omega,fun j y hy=> ?_⟩⟩;rw [yaf];have e:dY [zip (id:Int) s.nx (jF id) l.length s.nw]= [.int .i64 s.nx,.int .u64 (20000+id*1024),.int .u32 (16*l.length),.int .u16 id,.int .u16 fl]:=by
            rw [←hfl.out];unfold dY zip jF Pt.cells;simp [ydu]
          rw [e] at hy;exact kV.cell j y hy
        have AX:=(eX.below hb6 eX.lt).below Am (eX.below hb6 eX.lt).lt;have m28:=AX.cell 28 _ rfl;have n28:=AX.free 28;have jR:=zag (Dw.Mv.refl (· =S) (wc.alloc (Obj.cells #[.int .i64 s.nx,.int .u64 (20000+id*1024),.int .u32 (16*l.length),.int .u16 id,.int .u16 fl] 139))) S 28 (.slice (some ⟨wc.heap.size,0,none⟩) 1 1) rfl;have wz:=((ah (K:=(· =S)) hb6).trans (ah Am)).trans jR;have o5:Cl ((wc.alloc (Obj.cells #[.int .i64 s.nx,.int .u64 (20000+id*1024),.int .u32 (16*l.length),.int .u16 id,.int .u16 fl] 139)).setCell ⟨S,28,none⟩ (.slice (some ⟨wc.heap.size,0,none⟩) 1 1)) S (({ s with sg:=l,c:=⟨id,t,ct⟩,pu:=s.puts r.n id l }:DS).aM r P lv (.slice su l.length cu) (.slice (some ⟨wc.heap.size,0,none⟩) 1 1)):=AX.set 28 _ (by show 28<29;decide);have yS:=uh.aZ (A':=(fun b=>A b∨lv.ownBlock=some b)) (fun _ _ q=>q) fun b hb hn=>jR.block b hb fun e=>hn (by have e:b=S:=e;exact e▸ .inl h.aS);clear x10 rE x2 x9 x28 f28;go_wp2_with fail;clear m28 n28 a0 a1 a2 a3 a4;generalize ((wc.alloc (Obj.cells #[.int .i64 s.nx,.int .u64 (20000+id*1024),.int .u32 (16*l.length),.int .u16 id,.int .u16 fl] 139)).setCell ⟨S,28,none⟩ (.slice (some ⟨wc.heap.size,0,none⟩) 1 1))=w5 at*;generalize (Value.slice (some ⟨wc.heap.size,0,none⟩) 1 1)=nH at*;have Ec:=nA.aZ (A':=(fun b=>A b∨lv.ownBlock=some b)) (fun _ _ q=>q) fun b hb hn=>wz.block b hb fun e=>hn (by have e:b=S:=e;exact e▸ .inl h.aS);have iY:=sF.trans wz;clear nA;clear hbf ht' hidJ hown2 hb0 hT hl1 e1 e2 e3 Dr hk0 vZ wm wo k0 c23 c16 y0 c15 q2 q3 yA jB hput hbe jU hct
        try clear hone
        try clear hfl
        replace hpb:aA _:=⟨hpb⟩;obtain ⟨i0,hi0,j1,j2,j3⟩:=yba Jy;have hU:prog.underlying 65=some (.slice 69):=by kernel_rfl
        have wF:=hrow.kept (w':=w5) fun b e=>iY.block b (hrow.lt b e).2 fun q=>wu (by have q:b=S:=q;exact q▸e);have hba:=(yab w5.heap.size w5).alloc (yaa _) (Obj.cells #[.int .i64 id,.int .i64 t,.int .i64 ct] 69);have lI:=o5.below hba o5.lt;have z24:=o5.cell 24 (.int .i64 id) rfl;have z25:=o5.cell 25 (.int .i64 t) rfl;have z26:=o5.cell 26 (.int .i64 ct) rfl;have yX:=o5.cell 14 (.int .i64 s.own) rfl;have kT:=o5.cell 15 _ rfl;have qb:=lI.cell 14 (.int .i64 s.own) rfl;have mh:=lI.cell 15 _ rfl;rw [hlv.out] at kT mh;have wG:=wF.kept (w':=(w5.alloc (Obj.cells #[.int .i64 id,.int .i64 t,.int .i64 ct] 69)).drew) fun b e=>hba.block b (wF.lt b e).2;have hnew:=(Cl.new w5 #[.int .i64 id,.int .i64 t,.int .i64 ct] 69).kept (w':=(w5.alloc (Obj.cells #[.int .i64 id,.int .i64 t,.int .i64 ct] 69)).drew) rfl;have RQ:b2≤w5.heap.size:=by have:=h.b2;have:=iY.size;omega
        have pK:S<(w5.alloc (Obj.cells #[.int .i64 id,.int .i64 t,.int .i64 ct] 69)).drew.heap.size:=lI.lt;have Tk:w5.heap.size≠S:=by have:=o5.lt;omega
        go_wp2_with fail;go_cut [] from 151 to 172 (fun wx=> ∃dU t2,af t2 3 wx b2 dU (s.L.length+1) (cK s.L++ [.int .i64 id,.int .i64 t,.int .i64 ct])∧Cl wx S ((((({ s with sg:=l,c:=⟨id,t,ct⟩,pu:=s.puts r.n id l }:DS).aM r P lv (.slice su l.length cu) nH).set 15 dU).set 14 (.int .i64 (s.own-ct))))∧(∀b,dU.ownBlock=some b→lv.ownBlock=some b∨w5.heap.size≤b)∧Dw.Mv (fun b=>b=S∨lv.ownBlock=some b) w5 wx)
        case first=>
          go_region_law (first
            | (refine nR (P0:=prog) (by rfl) _ _ _ (by rfl) b2 69 ty i0 _ 3 24 hU hi0 j1 j2 j3 rfl (by decide) lv s.L.length (cK s.L) (by rw [hlv.out];rfl) wG (some ⟨w5.heap.size,0,none⟩) ⟨w5.heap.size,0,none⟩ rfl 1 1 [.int .i64 id,.int .i64 t,.int .i64 ct] (by rfl) rfl
                 (fun j u hu=>by rw [Dw.addr_add,yaf];exact hnew.cell j u hu) (fun u hu=>by simp only [yaj,yaq,yaZ] at hu;rcases hu with rfl|rfl|rfl<;>rfl) (by unfold maxLen;omega) (by omega) (by simp;omega) ?_
               intro v1 wa t1 hown1 hgrow1 qM;have hSb:=hgrow1.block S pK (ycW wu);have gI:=lI.kept (w':=wa) hSb;have HV:=gI.cell 15 _ rfl;have Rn:=gI.free 15;have Un:=gI.cell 14 (.int .i64 s.own) rfl;have Rm:=gI.free 14;have i24:=gI.cell 24 (.int .i64 id) rfl;have i25:=gI.cell 25 (.int .i64 t) rfl;have i26:=gI.cell 26 (.int .i64 ct) rfl;obtain ⟨pX,c2,hv2,uF⟩:=af.row hown1;clear uF;subst hv2))
          all_goals (go_wp2_with fail)
          all_goals
            go_meet;have hgs:=hgrow1.size;refine ⟨_,t1,af.kept hown1 fun b e=> ?_,(gI.set 15 _ (by show 15<29;decide)).set 14 _ (by show 14<29;decide),fun b e=> ?_,?_⟩
            · have hbS:b≠S:=fun e2=>by
                have:=(af.lt hown1 b e).1;have:=h.lo.1;omega
              exact (ya5 _ ⟨S,14,none⟩ _ b hbS).trans (ya5 wa ⟨S,15,none⟩ _ b hbS)
            · rcases qM with q|q
              · rw [q] at e;exact .inl e
              · rw [q] at e;simp at e;omega
            · have uG:Dw.Mv (fun b=>b=S∨lv.ownBlock=some b) w5 wa:=⟨hgrow1.os,hgrow1.tape,hgrow1.output,by simp at hgs;omega,fun b hb hn=>(hgrow1.block b (by simp;omega) fun e=>hn (.inr e.symm)).trans (hba.block b hb)⟩;exact zag (zag uG S 15 _ (.inl rfl)) S 14 _ (.inl rfl)
        case rest=>
        obtain ⟨dU,t2,hown2,o8,hlv2,dm⟩:=hcut;clear z24 z25 z26 yX kT qb mh hnew wG pK lI hba;have k16:=o8.cell 16 _ rfl;have n16:=o8.free 16;have k17:=o8.cell 17 _ rfl;have n17:=o8.free 17;have k18:=o8.cell 18 _ rfl;have n18:=o8.free 18;have k19:=o8.cell 19 _ rfl;have n19:=o8.free 19;have k20:=o8.cell 20 _ rfl;have n20:=o8.free 20;have k21:=o8.cell 21 _ rfl;have n21:=o8.free 21;have k22:=o8.cell 22 _ rfl;have n22:=o8.free 22;have o9:=((((((o8.set 16 (.int .i64 1) (by show 16<29;decide)).set 22 (.bool false) (by show 22<29;decide)).set 17 (.int .i64 1) (by show 17<29;decide)).set 18 (.bool false) (by show 18<29;decide)).set 19 (.int .i64 t) (by show 19<29;decide)).set 20 (.int .u32 0) (by show 20<29;decide)).set 21 (.bool false) (by show 21<29;decide);have wD:=zag (zag (zag (zag (zag (zag (zag (Dw.Mv.refl (· =S) wc) S 16 (.int .i64 1) rfl) S 22 (.bool false) rfl) S 17 (.int .i64 1) rfl) S 18 (.bool false) rfl) S 19 (.int .i64 t) rfl) S 20 (.int .u32 0) rfl) S 21 (.bool false) rfl;go_wp2_with fail;refine yap (ycy rfl _ _ _) rfl ?_;have qQ:Dw.Mv (fun b=>b=S∨lv.ownBlock=some b) w5 _:=dm.trans (wD.mono fun b q=> .inl q);have hK2: ∀b,b<w5.heap.size→(A b∨dU.ownBlock=some b)→(A b∨lv.ownBlock=some b):=fun b hb q=>q.elim .inl fun e=>by
          rcases hlv2 b e with e|e
          · exact .inr e
          · omega
        have hk2: ∀b,b<w5.heap.size→ ¬(A b∨lv.ownBlock=some b)→_:=fun b hb hn=>qQ.block b hb fun e=>hn (by
          rcases e with e|e
          · exact e▸ .inl h.aS
          · exact .inr e)
        refine ⟨rfl,⟨dU,YW.KY (au:= .slice su l.length cu) (aj:=nH) h ((iY.mono fun b q=> .inl q).trans qQ) o9 (Ec.aZ hK2 hk2) (yS.aZ hK2 hk2) hpb.out (t:=t2) ?_,fun b e=>(hlv2 b e).imp_right fun q=>yas iY.size q⟩,(iY.mono fun b q=> .inl q).trans qQ⟩;have hLn:(s.L++ [(⟨id,t,ct⟩:DO)]).length=s.L.length+1:=by simp
        have CS:cK (s.L++ [(⟨id,t,ct⟩:DO)])=cK s.L++ [.int .i64 id,.int .i64 t,.int .i64 ct]:=by rw [Bp];rfl
        show af t2 3 _ b2 dU (s.L++ [(⟨id,t,ct⟩:DO)]).length (cK (s.L++ [(⟨id,t,ct⟩:DO)]));rw [hLn,CS];refine af.kept hown2 fun b e=>wD.block b (af.lt hown2 b e).2 fun q=> ?_;have q:b=S:=q;have:=(af.lt hown2 b e).1;have:=h.lo.1;omega
  · exact absurd (gD.symm.trans hTe.out) (by decide)
  · exact absurd (gD.symm.trans hTe.out) (by decide)
end
end Go.Proofs
namespace Go.Proofs
open Go.Dw Go.RowKit Go.Maps Go.Sort Go.Deep
structure Tryz.aad (w:World) (l:List Pt) (args:Array Value):Prop where
 h:Calls prog 78 args w fun e w'=>(∃u,e= .returned (.tuple #[u,.int .i64 0])∧vH w' w.heap.size u l)∧Below w.heap.size w w'
section
variable {A A':Nat→Prop} {w w':World} {S P L Bs B N b2:Nat} {r:Tryz.Rg} {s s':Tryz.DS} {g g':Nat→Int} {lv bG:Value}
set_option maxRecDepth 100000 in
theorem Tryz.zvZ (h:YW A w S P L Bs B N b2 r s g lv) {v:Value} {l:List Sg} (hv:bC A w v l) (hl:l.length≤60000) {t:Int} (l8:t<9223372036854775808) (aF:(di N r.n s t l).1=0) (nu:s.tab l=false) (xZ:s.tb=true):
    Calls prog 15 #[.pointer (some ⟨S,0,none⟩),.int .i64 t,v] w fun e w'=>e= .returned (.int .i64 0)∧(∃dU,YW A w' S P L Bs B N b2 r (di N r.n s t l).2 g dU∧ ∀b,dU.ownBlock=some b→lv.ownBlock=some b∨w.heap.size≤b)∧Dw.Mv (fun b=>b=S∨lv.ownBlock=some b) w w':=by
  obtain ⟨au,aj,q1,q2,q3⟩:=h.obj;have hN:=h.hN;have hF:=h.fit;have hbn:=h.rg.bnd;obtain ⟨A9,c0,oF,hok,qV⟩:=id hv;subst oF;have c23:=q1.cell 23 _ rfl;have c16:=q1.cell 16 _ rfl;have c15:=q1.cell 15 _ rfl;have y0:=q1.cell 0 _ rfl;obtain ⟨ty,hrow⟩:=h.row;obtain ⟨sa,c,hlv,fO⟩:=af.row hrow;rw [hlv] at c15;have Ac:s.L.length≤16:=by
    have:=gT fun x hx=>(h.pb.el x hx).2.2.1;have:=h.pb.sum;have:=h.pb.own;omega
  have hcell: ∀(j:Nat) (hj:j<s.L.length),∃G,sa=some ⟨G,0,none⟩∧w.cell? ⟨G,j*3+1,none⟩=some (.int .i64 s.L[j].tk):=fun j hj=>by
    rcases fO with hr|⟨G,hsa,iT,hr⟩
    · have:=yaB List.length hr;rw [oK s.L] at this;simp only [ybm] at this;omega
    · refine ⟨G,hsa,?_⟩;have e1:=hr _ _ (uV s.L j hj).2.1;rw [yaf] at e1;exact e1
  replace hlv:aA _:=⟨hlv⟩;have hin2:=fun (w1:World) (hb:Below w.heap.size w w1)=>JD (h.rm.below hb) hN (hv.below hb) (by omega);have qU:=fun w1 hb=>Ie (w:=w1) (hv.below hb) (by omega);have hidx:=fun (w1:World) (hb:Below w.heap.size w w1)=>Kq (h.below hb);have gM: ∀w1,Below w.heap.size w w1→w1.cell? ⟨S,7,none⟩=some (.bool s.tb):=fun w1 hb=>(q1.below hb q1.lt).cell 7 _ rfl;have hc2: ∀w1,Below w.heap.size w w1→w1.cell? ⟨S,2,none⟩=some (.int .i64 r.n):=fun w1 hb=>(q1.below hb q1.lt).cell 2 _ rfl;have iX: ∀w1,Below w.heap.size w w1→w1.cell? ⟨S,14,none⟩=some (.int .i64 s.own):=fun w1 hb=>(q1.below hb q1.lt).cell 14 _ rfl;have hpb:=h.pb.off (N:=N) (t:=t) ⟨hbn.1,hbn.2⟩ l8 hok;unfold di at aF hpb ⊢;by_cases hb:s.br=true
  · rw [yak hb] at aF;exact absurd aF (show¬(4:Int)=0 by decide)
  rw [yah hb] at aF hpb ⊢;have hbf:s.br=false:=by simpa using hb
  rw [hbf] at c23;by_cases hp:s.ph≠0
  · rw [yak hp] at aF;exact absurd aF (show¬(8:Int)=0 by decide)
  rw [yah hp] at aF hpb ⊢;rw [yaz.1 hp] at c16;by_cases htk:t<0∨(s.L.any fun e=>e.tk==t)=true
  · rw [yak htk] at aF;exact absurd aF (show¬(2:Int)=0 by decide)
  rw [yah htk] at aF hpb ⊢;have ht':decide (t<0)=false:=yao fun q=>htk (.inl q);have hnf: ∀(k:Nat) (hk:k<s.L.length),s.L[k].tk≠t:=fun k hk q=>htk (.inr (ybF.2 ⟨s.L[k],yaA hk,by simpa using q⟩));by_cases hin:iB N l≠0
  · rw [yak hin] at aF;exact absurd aF hin
  rw [yah hin] at aF hpb ⊢;rw [yaz.1 hin] at hin2;by_cases hl0:l.length=0
  · rw [yak hl0] at aF;exact absurd aF (show¬(2:Int)=0 by decide)
  rw [yah hl0] at aF hpb ⊢;have Gv:=(nS (yaz.1 hin)).1;have hbe:rQ l=0:=by
    rw [EF];unfold eD;rw [(nS (yaz.1 hin)).2,yah (by decide),yah hl0]
  simp only at aF hpb ⊢;by_cases hfull:s.own<s.need l∨r.n≤(dD s.L r.n.toNat 0:Nat)
  · rw [yak hfull] at aF;exact absurd aF (show¬(7:Int)=0 by decide)
  rw [yah hfull] at aF hpb ⊢;clear aF;simp only at hpb ⊢;obtain ⟨T,hT⟩: ∃T,(s.tb&&decide ((1:Int)<l.length))=T:=⟨_,rfl⟩;have fG:s.tab l=T:=by
    unfold DS.tab;rw [←hT];congr 1;exact ya4.2 (by omega)
  have hTe:T=false:=fG.symm.trans nu;replace hTe:aA _:=⟨hTe⟩;clear nu;have bZ:s.need l=if T=true then 1 else (l.length:Int):=by unfold DS.need;rw [fG]
  have hnd:=fun w1 hb=>qU w1 hb T hbe;rw [←bZ] at hnd;obtain ⟨ct,hct⟩: ∃ct,ct=s.need l:=⟨_,rfl⟩;obtain ⟨f1,f2,f3,f4⟩:=uX s.L r.n.toNat 0;obtain ⟨id,hid⟩: ∃id:Nat,id=dD s.L r.n.toNat 0:=⟨_,rfl⟩;rw [←hid] at hidx hfull hpb ⊢;rw [←hct] at hnd bZ hfull hpb ⊢;have yA:(id:Int)<r.n:=by omega
  have hidJ:((id:Int)==r.n)=false:=by simpa using (show¬(id:Int)=r.n by omega)
  have hown2:decide (s.own<ct)=false:=yao (by omega);have hown0:=h.pb.own;have Gn:1≤ct∧ct≤s.own:=⟨by rw [bZ];split<;>omega,by omega⟩;have jB:T=false→(l.length:Int)≤r.n:=fun q=>by
    rw [q] at bZ;have h1:=h.pb.sum;have h2:=gT fun x hx=>(h.pb.el x hx).2.2.1;simp at bZ;omega
  have GJ:IntKind.wrap .i64 (s.own-ct)=s.own-ct:=dV (by omega) (by have:=h.pb.sum;have:=gT fun x hx=>(h.pb.el x hx).2.2.1;omega);have hl1:(1:Int)≤l.length:=by omega
  have e1:IntKind.wrap .u64 (id:Int)=id:=wrap_u64 _ (by omega) (by omega);have e2:IntKind.wrap .u64 ((id:Int)*1024)=(id:Int)*1024:=wrap_u64 _ (by omega) (by omega);have e3:IntKind.wrap .u64 (20000+(id:Int)*1024)=20000+(id:Int)*1024:=wrap_u64 _ (by omega) (by omega);have hb0:((l.length:Int)==0)=false:=by simpa using hl0
  have jU:s.ph=0:=yaz.1 hp;obtain ⟨k0,hk0,vZ,wm,wo⟩:=yba Ff;have pO:=Ep l;have Dr:=yY l;have lF:=fun w2:World=>yco (base:=w2.heap.size) (e:=137) (size:=3) w2 #[] 0 (yaa _) (by unfold maxLen;omega) rfl;have hba:=fun w2:World=>(yab w2.heap.size w2).alloc (yaa _) (.cells #[] 137);obtain ⟨ad,rfl⟩: ∃ad,A9=some ad:=by
    rcases qV with q|⟨R,o,q,_⟩
    · rw [q] at hl0;exact absurd rfl hl0
    · exact ⟨_,q⟩
  have hnews: ∀w2,Below w.heap.size w w2→ ∀j u,(dA l)[j]? =some u→(w2.alloc (.cells #[] 137)).cell? (ad.add j)=some u:=fun w2 hb j u hj=>by
    rcases qV with q|⟨R,o,q,_,hr⟩
    · subst q;cases hj
    · cases q;have hc1:=hr j u hj;have hlt:R<w.heap.size:=yan w _ hc1;rw [Dw.addr_add];have hb':=hb.trans ((hba w2).mono hb.size);exact (yal (a:=⟨R,o+j,none⟩) (hb'.block R hlt)).trans hc1
  have ni: ∀b,(A b∨lv.ownBlock=some b)→b<w.heap.size:=fun b q=>q.elim (h.lt b) fun e=>(hrow.lt b e).2;have wu:lv.ownBlock≠some S:=fun e=>by have:=(hrow.lt S e).1;have:=h.lo.1;omega
  replace ni:aA _:=⟨ni⟩;replace jB:aA _:=⟨jB⟩;replace jU:aA _:=⟨jU⟩;have hput:aA (s.puts r.n id l=if T=true then [zip id s.nx (jF id) l.length s.nw] else dN r.n id s.nx s.nw l l.length):=⟨by unfold DS.puts;rw [fG]⟩;have lY:s.tb=true∨s.tb=false:=by cases s.tb<;>simp
  replace hbe:aA _:=⟨hbe⟩;replace hct:aA _:=⟨hct⟩;clear hb hp htk hin hl0 fG bZ hfull f1 f2 f3 f4 hid qU qV fO;have uj:(s.tb=true∧T=true)∨(s.tb=true∧T=false)∨(s.tb=false∧T=false):=by
    rcases lY with q|q
    · cases T
      · exact .inr (.inl ⟨q,rfl⟩)
      · exact .inl ⟨q,rfl⟩
    · rw [q,yb2] at hT;exact .inr (.inr ⟨q,hT.symm⟩)
  clear lY;replace xZ:aA _:=⟨xZ⟩;rcases uj with ⟨htb,gD⟩|⟨htb,gD⟩|⟨htb,gD⟩
  · exact absurd (gD.symm.trans hTe.out) (by decide)
  · rw [htb] at hT gM
    first|rw [ybr] at hT|skip
    subst gD;clear htb hTe;go_enter func15,ntmps15;go_wp2_with fail;go_loopw [7] (fun x wr=>wr=w∧ ∃k:Nat,k≤s.L.length∧x= .int .i64 k∧aA (∀(j:Nat) (hj:j<s.L.length),j<k→s.L[j].tk≠t)) (fun x _=>s.L.length-(RowKit.intOf x).toNat)
    case atStart=>exact ⟨rfl,0,yar _,rfl,⟨fun j hj q=>absurd q (by omega)⟩⟩
    case round=>
      obtain ⟨hwr,k,hk,rfl,hf⟩:=hrel;have hwr:=hwr.symm;subst hwr;by_cases hkl:k<s.L.length
      · have hkl':(k:Int)<s.L.length:=by omega
        obtain ⟨G,hsa,e1⟩:=hcell k hkl;rw [hsa] at c15;by_cases cZ:s.L[k].tk=t
        · exact absurd cZ (by intro q;exact hnf k hkl q)
        · have hf':aA (∀(j:Nat) (hj:j<s.L.length),j<k+1→s.L[j].tk≠t):=⟨fun j hj q=>by
            by_cases e:j<k
            · exact hf.out j hj e
            · have e:j=k:=by omega
              subst e;exact cZ⟩
          generalize s.L[k].tk=tk at e1 cZ;have Az:(tk==t)=false:=by simpa using cZ
          clear hf hcell cZ hin2;go_wp2;exact ⟨⟨trivial,k+1,by omega,by push_cast;rfl,hf'⟩,by simp only [RowKit.intOf];omega⟩
      · have hkl': ¬(k:Int)<s.L.length:=by omega
        clear hf hcell hnf;go_wp2_with (first
          | (go_at_call 74;refine (hin2 _ (yab _ _)).mono ?_;rintro e w1 ⟨rfl,hb1⟩;have y7:=gM _ hb1)
          | (go_at_call 75;refine (hnd _ hb1).mono ?_;rintro e w2 ⟨rfl,hb2⟩;have bI:=hb1.trans (hb2.mono hb1.size);have qb:=iX _ bI;have y2:=hc2 _ bI)
          | (go_at_call 76;refine (hidx _ bI).mono ?_;rintro e w' ⟨rfl,hw⟩;have hw:=hw.symm;subst hw)
          | (at_builtin;go_loud (refine ybV _ rfl _ _ 49 rfl w2.heap.size 137 k0 _ 3 16 (by kernel_rfl) hk0 vZ wm wo rfl (by decide) _ _ _ rfl (lF w2) ad l.length c0 (dA l) rfl (by omega) (hnews w2 bI) pO (by unfold maxLen;omega) (by omega) (by simp) ?_);intro v' w3 hown' hg3 _;have hu3:fM w3 w2.heap.size v' l:=(by unfold fM;simpa using hown');have wH:=fM.Bb hu3 hok (A:=(fun b=>A b∨lv.ownBlock=some b)) (fun b z1 z2=>by have:=ni.out b z2;have:=bI.size;omega);obtain ⟨su,cu,hue,_⟩:=fM.slice hu3;subst hue;have vW:Below w2.heap.size w2 w3:=(hba w2).grown hg3 (by simp) (fun j hj=>((lF w2).lt j hj).1);have p3:=(q1.below bI q1.lt).below vW (q1.below bI q1.lt).lt;have a24:=p3.cell 24 _ rfl;have f24:=p3.free 24;have a25:=p3.cell 25 _ rfl;have f25:=p3.free 25;have a26:=p3.cell 26 _ rfl;have f26:=p3.free 26;have a27:=p3.cell 27 _ rfl;have f27:=p3.free 27;go_frame)
          | go_in)
        have o4:=(((p3.set 24 (.int .i64 id) (by show 24<29;decide)).set 25 (.int .i64 t) (by show 25<29;decide)).set 26 (.int .i64 ct) (by show 26<29;decide)).set 27 (.slice su l.length cu) (by show 27<29;decide);have qP:=zag (zag (zag (zag (Dw.Mv.refl (· =S) w3) S 24 (.int .i64 id) rfl) S 25 (.int .i64 t) rfl) S 26 (.int .i64 ct) rfl) S 27 (.slice su l.length cu) rfl;clear a24 f24 a25 f25 a26 f26 a27 f27 y7 qb y2;generalize ((((w3.setCell ⟨S,24,none⟩ (.int .i64 id)).setCell ⟨S,25,none⟩ (.int .i64 t)).setCell ⟨S,26,none⟩ (.int .i64 ct)).setCell ⟨S,27,none⟩ (.slice su l.length cu))=w4 at*;have sF:Dw.Mv (· =S) w w4:=((ah bI).trans (ah vW)).trans qP;have eX:Cl w4 S (({ s with sg:=l,c:=⟨id,t,ct⟩ }:DS).aM r P lv (.slice su l.length cu) aj):=o4;have nA:=wH.aZ (A':=(fun b=>A b∨lv.ownBlock=some b)) (fun _ _ q=>q) fun b hb hn=>qP.block b hb fun e=>hn (by have e:b=S:=e;exact e▸ .inl h.aS);clear o4 hu3 wH hown' hg3 hb1 hb2 p3 hin2 hnd hidx lF hba hnews gM hc2 iX pO qP;have x10:=eX.cell 10 (.int .i64 s.nx) rfl;have rE:=eX.cell 11 (.bool s.nw) rfl;have x2:=eX.cell 2 (.int .i64 r.n) rfl;have x9:=eX.cell 9 (.int .u64 20000) rfl;have x28:=eX.cell 28 _ rfl;have f28:=eX.free 28;have Dx:=(hv.aZ (A':=fun _=>False) (fun b _ q=>q.elim) fun b hb hn=>rfl);have hv4:bC (fun _=>False) w (.slice (some ad) l.length c0) l:=Dx;have hpk: ∀w',Below w4.heap.size w4 w'→aad w' (s.puts r.n id l) #[.agg #[.int .i64 s.nx,.bool s.nw],.int .i64 r.n,.int .i64 id,.slice (some ad) l.length c0]:=fun w' hb=>⟨by
          have:=hput.out
          first|rw [yah (show¬(false=true) from by decide)] at this|rw [yah (show¬False from id)] at this|skip
          rw [this];have hv5:=hv.aZ (A':=A) (w':=w4) (fun _ _ q=>q) fun b hb hn=>sF.block b hb fun e=>hn (by have e:b=S:=e;exact e▸h.aS);exact Vb (A:=A) (w:=w') (n:=r.n) (id:=id) (a:=s.nx) (x:=s.nw) (hv5.below hb) hbe.out (jB.out (by first|rfl|trivial)) ⟨hbn.1,by omega⟩ h.pb.nx ⟨by omega,by omega⟩⟩
        clear Dx hv4;go_wp2_with fail;go_cut [] from 133 to 150 (fun wx=> ∃nH,Cl wx S (({ s with sg:=l,c:=⟨id,t,ct⟩,pu:=s.puts r.n id l }:DS).aM r P lv (.slice su l.length cu) nH)∧gV (fun b=>A b∨lv.ownBlock=some b) wx nH (s.puts r.n id l)∧Dw.Mv (· =S) w4 wx)
        case first=>
          have hbD:=(yab w4.heap.size w4).drew;have od:=eX.below hbD eX.lt;have d10:=od.cell 10 (.int .i64 s.nx) rfl;have d11:=od.cell 11 (.bool s.nw) rfl;have d2:=od.cell 2 (.int .i64 r.n) rfl;go_region_held3 (fun w'=>w'.cell? ⟨S,10,none⟩=some (.int .i64 s.nx)∧w'.cell? ⟨S,11,none⟩=some (.bool s.nw)∧w'.cell? ⟨S,2,none⟩=some (.int .i64 r.n)) (first|go_keep|(rw [yaN _ ⟨S,28,none⟩ ⟨S,10,none⟩ _ (by simp),yaN _ ⟨S,28,none⟩ ⟨S,11,none⟩ _ (by simp),yaN _ ⟨S,28,none⟩ ⟨S,2,none⟩ _ (by simp)];exact ⟨by assumption,by assumption,by assumption⟩))
            ((first
              | (go_at_call 78;refine (hpk (w4.drew) hbD).h.mono ?_;rintro en w9 ⟨⟨u9,rfl,wI⟩,dI⟩;have fU:=hbD.trans (dI.mono (yaa _));have Dj:=af.lt wI;obtain ⟨rz,qF,Dv,iG⟩:=af.row wI;subst Dv;have on:=od.below dI od.lt;have v10:=on.cell 10 (.int .i64 s.nx) rfl;have v11:=on.cell 11 (.bool s.nw) rfl;have v2:=on.cell 2 (.int .i64 r.n) rfl;have v28:=on.cell 28 _ rfl;have u28:=on.free 28)))
          all_goals
            go_wp2_with fail;go_meet;have mK:=zag (Dw.Mv.refl (· =S) w9) S 28 (.slice rz (s.puts r.n id l).length qF) rfl;have uh:gV (fun b=>A b∨lv.ownBlock=some b) w9 (.slice rz (s.puts r.n id l).length qF) (s.puts r.n id l):=by
              refine ⟨rz,qF,rfl,?_⟩;rcases iG with iG|⟨G,e,e2,iG⟩
              · refine .inl ?_;cases hq:s.puts r.n id l with
                | nil=>rfl
                | cons x y=>rw [hq] at iG;simp [dY,Pt.cells] at iG
              · exact .inr ⟨G,0,e,fun q=>by have h1:=ni.out _ q;have h2:=(Dj _ e2).1;have h3:w4.heap.size≤G:=h2;have:=sF.size;omega,iG⟩
            exact ⟨_,on.set 28 _ (by show 28<29;decide),uh.aZ (A':=(fun b=>A b∨lv.ownBlock=some b)) (fun _ _ q=>q) fun b hb hn=>mK.block b hb fun e=>hn (by have e:b=S:=e;exact e▸ .inl h.aS),(ah fU).trans mK⟩
        case rest=>
        obtain ⟨nH,o5,yS,wz⟩:=hcut;generalize wc=w5 at*;clear hpk x10 rE x2 x9 x28 f28;have Ec:=nA.aZ (A':=(fun b=>A b∨lv.ownBlock=some b)) (fun _ _ q=>q) fun b hb hn=>wz.block b hb fun e=>hn (by have e:b=S:=e;exact e▸ .inl h.aS);have iY:=sF.trans wz;clear nA;clear hbf ht' hidJ hown2 hb0 hT hl1 e1 e2 e3 Dr hk0 vZ wm wo k0 c23 c16 y0 c15 q2 q3 yA jB hput hbe jU hct
        try clear hone
        try clear hfl
        replace hpb:aA _:=⟨hpb⟩;obtain ⟨i0,hi0,j1,j2,j3⟩:=yba Jy;have hU:prog.underlying 65=some (.slice 69):=by kernel_rfl
        have wF:=hrow.kept (w':=w5) fun b e=>iY.block b (hrow.lt b e).2 fun q=>wu (by have q:b=S:=q;exact q▸e);have hba:=(yab w5.heap.size w5).alloc (yaa _) (Obj.cells #[.int .i64 id,.int .i64 t,.int .i64 ct] 69);have lI:=o5.below hba o5.lt;have z24:=o5.cell 24 (.int .i64 id) rfl;have z25:=o5.cell 25 (.int .i64 t) rfl;have z26:=o5.cell 26 (.int .i64 ct) rfl;have yX:=o5.cell 14 (.int .i64 s.own) rfl;have kT:=o5.cell 15 _ rfl;have qb:=lI.cell 14 (.int .i64 s.own) rfl;have mh:=lI.cell 15 _ rfl;rw [hlv.out] at kT mh;have wG:=wF.kept (w':=(w5.alloc (Obj.cells #[.int .i64 id,.int .i64 t,.int .i64 ct] 69)).drew) fun b e=>hba.block b (wF.lt b e).2;have hnew:=(Cl.new w5 #[.int .i64 id,.int .i64 t,.int .i64 ct] 69).kept (w':=(w5.alloc (Obj.cells #[.int .i64 id,.int .i64 t,.int .i64 ct] 69)).drew) rfl;have RQ:b2≤w5.heap.size:=by have:=h.b2;have:=iY.size;omega
        have pK:S<(w5.alloc (Obj.cells #[.int .i64 id,.int .i64 t,.int .i64 ct] 69)).drew.heap.size:=lI.lt;have Tk:w5.heap.size≠S:=by have:=o5.lt;omega
        go_wp2_with fail;go_cut [] from 151 to 172 (fun wx=> ∃dU t2,af t2 3 wx b2 dU (s.L.length+1) (cK s.L++ [.int .i64 id,.int .i64 t,.int .i64 ct])∧Cl wx S ((((({ s with sg:=l,c:=⟨id,t,ct⟩,pu:=s.puts r.n id l }:DS).aM r P lv (.slice su l.length cu) nH).set 15 dU).set 14 (.int .i64 (s.own-ct))))∧(∀b,dU.ownBlock=some b→lv.ownBlock=some b∨w5.heap.size≤b)∧Dw.Mv (fun b=>b=S∨lv.ownBlock=some b) w5 wx)
        case first=>
          go_region_law (first
            | (refine nR (P0:=prog) (by rfl) _ _ _ (by rfl) b2 69 ty i0 _ 3 24 hU hi0 j1 j2 j3 rfl (by decide) lv s.L.length (cK s.L) (by rw [hlv.out];rfl) wG (some ⟨w5.heap.size,0,none⟩) ⟨w5.heap.size,0,none⟩ rfl 1 1 [.int .i64 id,.int .i64 t,.int .i64 ct] (by rfl) rfl
                 (fun j u hu=>by rw [Dw.addr_add,yaf];exact hnew.cell j u hu) (fun u hu=>by simp only [yaj,yaq,yaZ] at hu;rcases hu with rfl|rfl|rfl<;>rfl) (by unfold maxLen;omega) (by omega) (by simp;omega) ?_
               intro v1 wa t1 hown1 hgrow1 qM;have hSb:=hgrow1.block S pK (ycW wu);have gI:=lI.kept (w':=wa) hSb;have HV:=gI.cell 15 _ rfl;have Rn:=gI.free 15;have Un:=gI.cell 14 (.int .i64 s.own) rfl;have Rm:=gI.free 14;have i24:=gI.cell 24 (.int .i64 id) rfl;have i25:=gI.cell 25 (.int .i64 t) rfl;have i26:=gI.cell 26 (.int .i64 ct) rfl;obtain ⟨pX,c2,hv2,uF⟩:=af.row hown1;clear uF;subst hv2))
          all_goals (go_wp2_with fail)
          all_goals
            go_meet;have hgs:=hgrow1.size;refine ⟨_,t1,af.kept hown1 fun b e=> ?_,(gI.set 15 _ (by show 15<29;decide)).set 14 _ (by show 14<29;decide),fun b e=> ?_,?_⟩
            · have hbS:b≠S:=fun e2=>by
                have:=(af.lt hown1 b e).1;have:=h.lo.1;omega
              exact (ya5 _ ⟨S,14,none⟩ _ b hbS).trans (ya5 wa ⟨S,15,none⟩ _ b hbS)
            · rcases qM with q|q
              · rw [q] at e;exact .inl e
              · rw [q] at e;simp at e;omega
            · have uG:Dw.Mv (fun b=>b=S∨lv.ownBlock=some b) w5 wa:=⟨hgrow1.os,hgrow1.tape,hgrow1.output,by simp at hgs;omega,fun b hb hn=>(hgrow1.block b (by simp;omega) fun e=>hn (.inr e.symm)).trans (hba.block b hb)⟩;exact zag (zag uG S 15 _ (.inl rfl)) S 14 _ (.inl rfl)
        case rest=>
        obtain ⟨dU,t2,hown2,o8,hlv2,dm⟩:=hcut;clear z24 z25 z26 yX kT qb mh hnew wG pK lI hba;have k16:=o8.cell 16 _ rfl;have n16:=o8.free 16;have k17:=o8.cell 17 _ rfl;have n17:=o8.free 17;have k18:=o8.cell 18 _ rfl;have n18:=o8.free 18;have k19:=o8.cell 19 _ rfl;have n19:=o8.free 19;have k20:=o8.cell 20 _ rfl;have n20:=o8.free 20;have k21:=o8.cell 21 _ rfl;have n21:=o8.free 21;have k22:=o8.cell 22 _ rfl;have n22:=o8.free 22;have o9:=((((((o8.set 16 (.int .i64 1) (by show 16<29;decide)).set 22 (.bool false) (by show 22<29;decide)).set 17 (.int .i64 1) (by show 17<29;decide)).set 18 (.bool false) (by show 18<29;decide)).set 19 (.int .i64 t) (by show 19<29;decide)).set 20 (.int .u32 0) (by show 20<29;decide)).set 21 (.bool false) (by show 21<29;decide);have wD:=zag (zag (zag (zag (zag (zag (zag (Dw.Mv.refl (· =S) wc) S 16 (.int .i64 1) rfl) S 22 (.bool false) rfl) S 17 (.int .i64 1) rfl) S 18 (.bool false) rfl) S 19 (.int .i64 t) rfl) S 20 (.int .u32 0) rfl) S 21 (.bool false) rfl;go_wp2_with fail;refine yap (ycy rfl _ _ _) rfl ?_;have qQ:Dw.Mv (fun b=>b=S∨lv.ownBlock=some b) w5 _:=dm.trans (wD.mono fun b q=> .inl q);have hK2: ∀b,b<w5.heap.size→(A b∨dU.ownBlock=some b)→(A b∨lv.ownBlock=some b):=fun b hb q=>q.elim .inl fun e=>by
          rcases hlv2 b e with e|e
          · exact .inr e
          · omega
        have hk2: ∀b,b<w5.heap.size→ ¬(A b∨lv.ownBlock=some b)→_:=fun b hb hn=>qQ.block b hb fun e=>hn (by
          rcases e with e|e
          · exact e▸ .inl h.aS
          · exact .inr e)
        refine ⟨rfl,⟨dU,YW.KY (au:= .slice su l.length cu) (aj:=nH) h ((iY.mono fun b q=> .inl q).trans qQ) o9 (Ec.aZ hK2 hk2) (yS.aZ hK2 hk2) hpb.out (t:=t2) ?_,fun b e=>(hlv2 b e).imp_right fun q=>yas iY.size q⟩,(iY.mono fun b q=> .inl q).trans qQ⟩;have hLn:(s.L++ [(⟨id,t,ct⟩:DO)]).length=s.L.length+1:=by simp
        have CS:cK (s.L++ [(⟨id,t,ct⟩:DO)])=cK s.L++ [.int .i64 id,.int .i64 t,.int .i64 ct]:=by rw [Bp];rfl
        show af t2 3 _ b2 dU (s.L++ [(⟨id,t,ct⟩:DO)]).length (cK (s.L++ [(⟨id,t,ct⟩:DO)]));rw [hLn,CS];refine af.kept hown2 fun b e=>wD.block b (af.lt hown2 b e).2 fun q=> ?_;have q:b=S:=q;have:=(af.lt hown2 b e).1;have:=h.lo.1;omega
  · exact absurd (htb.symm.trans xZ.out) (by decide)
end
end Go.Proofs
namespace Go.Proofs
open Go.Dw Go.RowKit Go.Maps Go.Sort Go.Deep
structure Tryz.zyC (w:World) (l:List Pt) (args:Array Value):Prop where
 h:Calls prog 78 args w fun e w'=>(∃u,e= .returned (.tuple #[u,.int .i64 0])∧vH w' w.heap.size u l)∧Below w.heap.size w w'
section
variable {A A':Nat→Prop} {w w':World} {S P L Bs B N b2:Nat} {r:Tryz.Rg} {s s':Tryz.DS} {g g':Nat→Int} {lv bG:Value}
set_option maxRecDepth 100000 in
theorem Tryz.zvY (h:YW A w S P L Bs B N b2 r s g lv) {v:Value} {l:List Sg} (hv:bC A w v l) (hl:l.length≤60000) {t:Int} (l8:t<9223372036854775808) (aF:(di N r.n s t l).1=0) (nu:s.tab l=false) (xZ:s.tb=false):
    Calls prog 15 #[.pointer (some ⟨S,0,none⟩),.int .i64 t,v] w fun e w'=>e= .returned (.int .i64 0)∧(∃dU,YW A w' S P L Bs B N b2 r (di N r.n s t l).2 g dU∧ ∀b,dU.ownBlock=some b→lv.ownBlock=some b∨w.heap.size≤b)∧Dw.Mv (fun b=>b=S∨lv.ownBlock=some b) w w':=by
  obtain ⟨au,aj,q1,q2,q3⟩:=h.obj;have hN:=h.hN;have hF:=h.fit;have hbn:=h.rg.bnd;obtain ⟨A9,c0,oF,hok,qV⟩:=id hv;subst oF;have c23:=q1.cell 23 _ rfl;have c16:=q1.cell 16 _ rfl;have c15:=q1.cell 15 _ rfl;have y0:=q1.cell 0 _ rfl;obtain ⟨ty,hrow⟩:=h.row;obtain ⟨sa,c,hlv,fO⟩:=af.row hrow;rw [hlv] at c15;have Ac:s.L.length≤16:=by
    have:=gT fun x hx=>(h.pb.el x hx).2.2.1;have:=h.pb.sum;have:=h.pb.own;omega
  have hcell: ∀(j:Nat) (hj:j<s.L.length),∃G,sa=some ⟨G,0,none⟩∧w.cell? ⟨G,j*3+1,none⟩=some (.int .i64 s.L[j].tk):=fun j hj=>by
    rcases fO with hr|⟨G,hsa,iT,hr⟩
    · have:=yaB List.length hr;rw [oK s.L] at this;simp only [ybm] at this;omega
    · refine ⟨G,hsa,?_⟩;have e1:=hr _ _ (uV s.L j hj).2.1;rw [yaf] at e1;exact e1
  replace hlv:aA _:=⟨hlv⟩;have hin2:=fun (w1:World) (hb:Below w.heap.size w w1)=>JD (h.rm.below hb) hN (hv.below hb) (by omega);have qU:=fun w1 hb=>Ie (w:=w1) (hv.below hb) (by omega);have hidx:=fun (w1:World) (hb:Below w.heap.size w w1)=>Kq (h.below hb);have gM: ∀w1,Below w.heap.size w w1→w1.cell? ⟨S,7,none⟩=some (.bool s.tb):=fun w1 hb=>(q1.below hb q1.lt).cell 7 _ rfl;have hc2: ∀w1,Below w.heap.size w w1→w1.cell? ⟨S,2,none⟩=some (.int .i64 r.n):=fun w1 hb=>(q1.below hb q1.lt).cell 2 _ rfl;have iX: ∀w1,Below w.heap.size w w1→w1.cell? ⟨S,14,none⟩=some (.int .i64 s.own):=fun w1 hb=>(q1.below hb q1.lt).cell 14 _ rfl;have hpb:=h.pb.off (N:=N) (t:=t) ⟨hbn.1,hbn.2⟩ l8 hok;unfold di at aF hpb ⊢;by_cases hb:s.br=true
  · rw [yak hb] at aF;exact absurd aF (show¬(4:Int)=0 by decide)
  rw [yah hb] at aF hpb ⊢;have hbf:s.br=false:=by simpa using hb
  rw [hbf] at c23;by_cases hp:s.ph≠0
  · rw [yak hp] at aF;exact absurd aF (show¬(8:Int)=0 by decide)
  rw [yah hp] at aF hpb ⊢;rw [yaz.1 hp] at c16;by_cases htk:t<0∨(s.L.any fun e=>e.tk==t)=true
  · rw [yak htk] at aF;exact absurd aF (show¬(2:Int)=0 by decide)
  rw [yah htk] at aF hpb ⊢;have ht':decide (t<0)=false:=yao fun q=>htk (.inl q);have hnf: ∀(k:Nat) (hk:k<s.L.length),s.L[k].tk≠t:=fun k hk q=>htk (.inr (ybF.2 ⟨s.L[k],yaA hk,by simpa using q⟩));by_cases hin:iB N l≠0
  · rw [yak hin] at aF;exact absurd aF hin
  rw [yah hin] at aF hpb ⊢;rw [yaz.1 hin] at hin2;by_cases hl0:l.length=0
  · rw [yak hl0] at aF;exact absurd aF (show¬(2:Int)=0 by decide)
  rw [yah hl0] at aF hpb ⊢;have Gv:=(nS (yaz.1 hin)).1;have hbe:rQ l=0:=by
    rw [EF];unfold eD;rw [(nS (yaz.1 hin)).2,yah (by decide),yah hl0]
  simp only at aF hpb ⊢;by_cases hfull:s.own<s.need l∨r.n≤(dD s.L r.n.toNat 0:Nat)
  · rw [yak hfull] at aF;exact absurd aF (show¬(7:Int)=0 by decide)
  rw [yah hfull] at aF hpb ⊢;clear aF;simp only at hpb ⊢;obtain ⟨T,hT⟩: ∃T,(s.tb&&decide ((1:Int)<l.length))=T:=⟨_,rfl⟩;have fG:s.tab l=T:=by
    unfold DS.tab;rw [←hT];congr 1;exact ya4.2 (by omega)
  have hTe:T=false:=fG.symm.trans nu;replace hTe:aA _:=⟨hTe⟩;clear nu;have bZ:s.need l=if T=true then 1 else (l.length:Int):=by unfold DS.need;rw [fG]
  have hnd:=fun w1 hb=>qU w1 hb T hbe;rw [←bZ] at hnd;obtain ⟨ct,hct⟩: ∃ct,ct=s.need l:=⟨_,rfl⟩;obtain ⟨f1,f2,f3,f4⟩:=uX s.L r.n.toNat 0;obtain ⟨id,hid⟩: ∃id:Nat,id=dD s.L r.n.toNat 0:=⟨_,rfl⟩;rw [←hid] at hidx hfull hpb ⊢;rw [←hct] at hnd bZ hfull hpb ⊢;have yA:(id:Int)<r.n:=by omega
  have hidJ:((id:Int)==r.n)=false:=by simpa using (show¬(id:Int)=r.n by omega)
  have hown2:decide (s.own<ct)=false:=yao (by omega);have hown0:=h.pb.own;have Gn:1≤ct∧ct≤s.own:=⟨by rw [bZ];split<;>omega,by omega⟩;have jB:T=false→(l.length:Int)≤r.n:=fun q=>by
    rw [q] at bZ;have h1:=h.pb.sum;have h2:=gT fun x hx=>(h.pb.el x hx).2.2.1;simp at bZ;omega
  have GJ:IntKind.wrap .i64 (s.own-ct)=s.own-ct:=dV (by omega) (by have:=h.pb.sum;have:=gT fun x hx=>(h.pb.el x hx).2.2.1;omega);have hl1:(1:Int)≤l.length:=by omega
  have e1:IntKind.wrap .u64 (id:Int)=id:=wrap_u64 _ (by omega) (by omega);have e2:IntKind.wrap .u64 ((id:Int)*1024)=(id:Int)*1024:=wrap_u64 _ (by omega) (by omega);have e3:IntKind.wrap .u64 (20000+(id:Int)*1024)=20000+(id:Int)*1024:=wrap_u64 _ (by omega) (by omega);have hb0:((l.length:Int)==0)=false:=by simpa using hl0
  have jU:s.ph=0:=yaz.1 hp;obtain ⟨k0,hk0,vZ,wm,wo⟩:=yba Ff;have pO:=Ep l;have Dr:=yY l;have lF:=fun w2:World=>yco (base:=w2.heap.size) (e:=137) (size:=3) w2 #[] 0 (yaa _) (by unfold maxLen;omega) rfl;have hba:=fun w2:World=>(yab w2.heap.size w2).alloc (yaa _) (.cells #[] 137);obtain ⟨ad,rfl⟩: ∃ad,A9=some ad:=by
    rcases qV with q|⟨R,o,q,_⟩
    · rw [q] at hl0;exact absurd rfl hl0
    · exact ⟨_,q⟩
  have hnews: ∀w2,Below w.heap.size w w2→ ∀j u,(dA l)[j]? =some u→(w2.alloc (.cells #[] 137)).cell? (ad.add j)=some u:=fun w2 hb j u hj=>by
    rcases qV with q|⟨R,o,q,_,hr⟩
    · subst q;cases hj
    · cases q;have hc1:=hr j u hj;have hlt:R<w.heap.size:=yan w _ hc1;rw [Dw.addr_add];have hb':=hb.trans ((hba w2).mono hb.size);exact (yal (a:=⟨R,o+j,none⟩) (hb'.block R hlt)).trans hc1
  have ni: ∀b,(A b∨lv.ownBlock=some b)→b<w.heap.size:=fun b q=>q.elim (h.lt b) fun e=>(hrow.lt b e).2;have wu:lv.ownBlock≠some S:=fun e=>by have:=(hrow.lt S e).1;have:=h.lo.1;omega
  replace ni:aA _:=⟨ni⟩;replace jB:aA _:=⟨jB⟩;replace jU:aA _:=⟨jU⟩;have hput:aA (s.puts r.n id l=if T=true then [zip id s.nx (jF id) l.length s.nw] else dN r.n id s.nx s.nw l l.length):=⟨by unfold DS.puts;rw [fG]⟩;have lY:s.tb=true∨s.tb=false:=by cases s.tb<;>simp
  replace hbe:aA _:=⟨hbe⟩;replace hct:aA _:=⟨hct⟩;clear hb hp htk hin hl0 fG bZ hfull f1 f2 f3 f4 hid qU qV fO;have uj:(s.tb=true∧T=true)∨(s.tb=true∧T=false)∨(s.tb=false∧T=false):=by
    rcases lY with q|q
    · cases T
      · exact .inr (.inl ⟨q,rfl⟩)
      · exact .inl ⟨q,rfl⟩
    · rw [q,yb2] at hT;exact .inr (.inr ⟨q,hT.symm⟩)
  clear lY;replace xZ:aA _:=⟨xZ⟩;rcases uj with ⟨htb,gD⟩|⟨htb,gD⟩|⟨htb,gD⟩
  · exact absurd (gD.symm.trans hTe.out) (by decide)
  · exact absurd (htb.symm.trans xZ.out) (by decide)
  · rw [htb] at hT gM
    first|rw [ybr] at hT|skip
    subst gD;clear htb hTe;go_enter func15,ntmps15;go_wp2_with fail;go_loopw [7] (fun x wr=>wr=w∧ ∃k:Nat,k≤s.L.length∧x= .int .i64 k∧aA (∀(j:Nat) (hj:j<s.L.length),j<k→s.L[j].tk≠t)) (fun x _=>s.L.length-(RowKit.intOf x).toNat)
    case atStart=>exact ⟨rfl,0,yar _,rfl,⟨fun j hj q=>absurd q (by omega)⟩⟩
    case round=>
      obtain ⟨hwr,k,hk,rfl,hf⟩:=hrel;have hwr:=hwr.symm;subst hwr;by_cases hkl:k<s.L.length
      · have hkl':(k:Int)<s.L.length:=by omega
        obtain ⟨G,hsa,e1⟩:=hcell k hkl;rw [hsa] at c15;by_cases cZ:s.L[k].tk=t
        · exact absurd cZ (by intro q;exact hnf k hkl q)
        · have hf':aA (∀(j:Nat) (hj:j<s.L.length),j<k+1→s.L[j].tk≠t):=⟨fun j hj q=>by
            by_cases e:j<k
            · exact hf.out j hj e
            · have e:j=k:=by omega
              subst e;exact cZ⟩
          generalize s.L[k].tk=tk at e1 cZ;have Az:(tk==t)=false:=by simpa using cZ
          clear hf hcell cZ hin2;go_wp2;exact ⟨⟨trivial,k+1,by omega,by push_cast;rfl,hf'⟩,by simp only [RowKit.intOf];omega⟩
      · have hkl': ¬(k:Int)<s.L.length:=by omega
        clear hf hcell hnf;go_wp2_with (first
          | (go_at_call 74;refine (hin2 _ (yab _ _)).mono ?_;rintro e w1 ⟨rfl,hb1⟩;have y7:=gM _ hb1)
          | (go_at_call 75;refine (hnd _ hb1).mono ?_;rintro e w2 ⟨rfl,hb2⟩;have bI:=hb1.trans (hb2.mono hb1.size);have qb:=iX _ bI;have y2:=hc2 _ bI)
          | (go_at_call 76;refine (hidx _ bI).mono ?_;rintro e w' ⟨rfl,hw⟩;have hw:=hw.symm;subst hw)
          | (at_builtin;go_loud (refine ybV _ rfl _ _ 49 rfl w2.heap.size 137 k0 _ 3 16 (by kernel_rfl) hk0 vZ wm wo rfl (by decide) _ _ _ rfl (lF w2) ad l.length c0 (dA l) rfl (by omega) (hnews w2 bI) pO (by unfold maxLen;omega) (by omega) (by simp) ?_);intro v' w3 hown' hg3 _;have hu3:fM w3 w2.heap.size v' l:=(by unfold fM;simpa using hown');have wH:=fM.Bb hu3 hok (A:=(fun b=>A b∨lv.ownBlock=some b)) (fun b z1 z2=>by have:=ni.out b z2;have:=bI.size;omega);obtain ⟨su,cu,hue,_⟩:=fM.slice hu3;subst hue;have vW:Below w2.heap.size w2 w3:=(hba w2).grown hg3 (by simp) (fun j hj=>((lF w2).lt j hj).1);have p3:=(q1.below bI q1.lt).below vW (q1.below bI q1.lt).lt;have a24:=p3.cell 24 _ rfl;have f24:=p3.free 24;have a25:=p3.cell 25 _ rfl;have f25:=p3.free 25;have a26:=p3.cell 26 _ rfl;have f26:=p3.free 26;have a27:=p3.cell 27 _ rfl;have f27:=p3.free 27;go_frame)
          | go_in)
        have o4:=(((p3.set 24 (.int .i64 id) (by show 24<29;decide)).set 25 (.int .i64 t) (by show 25<29;decide)).set 26 (.int .i64 ct) (by show 26<29;decide)).set 27 (.slice su l.length cu) (by show 27<29;decide);have qP:=zag (zag (zag (zag (Dw.Mv.refl (· =S) w3) S 24 (.int .i64 id) rfl) S 25 (.int .i64 t) rfl) S 26 (.int .i64 ct) rfl) S 27 (.slice su l.length cu) rfl;clear a24 f24 a25 f25 a26 f26 a27 f27 y7 qb y2;generalize ((((w3.setCell ⟨S,24,none⟩ (.int .i64 id)).setCell ⟨S,25,none⟩ (.int .i64 t)).setCell ⟨S,26,none⟩ (.int .i64 ct)).setCell ⟨S,27,none⟩ (.slice su l.length cu))=w4 at*;have sF:Dw.Mv (· =S) w w4:=((ah bI).trans (ah vW)).trans qP;have eX:Cl w4 S (({ s with sg:=l,c:=⟨id,t,ct⟩ }:DS).aM r P lv (.slice su l.length cu) aj):=o4;have nA:=wH.aZ (A':=(fun b=>A b∨lv.ownBlock=some b)) (fun _ _ q=>q) fun b hb hn=>qP.block b hb fun e=>hn (by have e:b=S:=e;exact e▸ .inl h.aS);clear o4 hu3 wH hown' hg3 hb1 hb2 p3 hin2 hnd hidx lF hba hnews gM hc2 iX pO qP;have x10:=eX.cell 10 (.int .i64 s.nx) rfl;have rE:=eX.cell 11 (.bool s.nw) rfl;have x2:=eX.cell 2 (.int .i64 r.n) rfl;have x9:=eX.cell 9 (.int .u64 20000) rfl;have x28:=eX.cell 28 _ rfl;have f28:=eX.free 28;have Dx:=(hv.aZ (A':=fun _=>False) (fun b _ q=>q.elim) fun b hb hn=>rfl);have hv4:bC (fun _=>False) w (.slice (some ad) l.length c0) l:=Dx;have hpk: ∀w',Below w4.heap.size w4 w'→zyC w' (s.puts r.n id l) #[.agg #[.int .i64 s.nx,.bool s.nw],.int .i64 r.n,.int .i64 id,.slice (some ad) l.length c0]:=fun w' hb=>⟨by
          have:=hput.out
          first|rw [yah (show¬(false=true) from by decide)] at this|rw [yah (show¬False from id)] at this|skip
          rw [this];have hv5:=hv.aZ (A':=A) (w':=w4) (fun _ _ q=>q) fun b hb hn=>sF.block b hb fun e=>hn (by have e:b=S:=e;exact e▸h.aS);exact Vb (A:=A) (w:=w') (n:=r.n) (id:=id) (a:=s.nx) (x:=s.nw) (hv5.below hb) hbe.out (jB.out (by first|rfl|trivial)) ⟨hbn.1,by omega⟩ h.pb.nx ⟨by omega,by omega⟩⟩
        clear Dx hv4;go_wp2_with fail;go_cut [] from 133 to 150 (fun wx=> ∃nH,Cl wx S (({ s with sg:=l,c:=⟨id,t,ct⟩,pu:=s.puts r.n id l }:DS).aM r P lv (.slice su l.length cu) nH)∧gV (fun b=>A b∨lv.ownBlock=some b) wx nH (s.puts r.n id l)∧Dw.Mv (· =S) w4 wx)
        case first=>
          have hbD:=(yab w4.heap.size w4).drew;have od:=eX.below hbD eX.lt;have d10:=od.cell 10 (.int .i64 s.nx) rfl;have d11:=od.cell 11 (.bool s.nw) rfl;have d2:=od.cell 2 (.int .i64 r.n) rfl;go_region_held3 (fun w'=>w'.cell? ⟨S,10,none⟩=some (.int .i64 s.nx)∧w'.cell? ⟨S,11,none⟩=some (.bool s.nw)∧w'.cell? ⟨S,2,none⟩=some (.int .i64 r.n)) (first|go_keep|(rw [yaN _ ⟨S,28,none⟩ ⟨S,10,none⟩ _ (by simp),yaN _ ⟨S,28,none⟩ ⟨S,11,none⟩ _ (by simp),yaN _ ⟨S,28,none⟩ ⟨S,2,none⟩ _ (by simp)];exact ⟨by assumption,by assumption,by assumption⟩))
            ((first
              | (go_at_call 78;refine (hpk (w4.drew) hbD).h.mono ?_;rintro en w9 ⟨⟨u9,rfl,wI⟩,dI⟩;have fU:=hbD.trans (dI.mono (yaa _));have Dj:=af.lt wI;obtain ⟨rz,qF,Dv,iG⟩:=af.row wI;subst Dv;have on:=od.below dI od.lt;have v10:=on.cell 10 (.int .i64 s.nx) rfl;have v11:=on.cell 11 (.bool s.nw) rfl;have v2:=on.cell 2 (.int .i64 r.n) rfl;have v28:=on.cell 28 _ rfl;have u28:=on.free 28)))
          all_goals
            go_wp2_with fail;go_meet;have mK:=zag (Dw.Mv.refl (· =S) w9) S 28 (.slice rz (s.puts r.n id l).length qF) rfl;have uh:gV (fun b=>A b∨lv.ownBlock=some b) w9 (.slice rz (s.puts r.n id l).length qF) (s.puts r.n id l):=by
              refine ⟨rz,qF,rfl,?_⟩;rcases iG with iG|⟨G,e,e2,iG⟩
              · refine .inl ?_;cases hq:s.puts r.n id l with
                | nil=>rfl
                | cons x y=>rw [hq] at iG;simp [dY,Pt.cells] at iG
              · exact .inr ⟨G,0,e,fun q=>by have h1:=ni.out _ q;have h2:=(Dj _ e2).1;have h3:w4.heap.size≤G:=h2;have:=sF.size;omega,iG⟩
            exact ⟨_,on.set 28 _ (by show 28<29;decide),uh.aZ (A':=(fun b=>A b∨lv.ownBlock=some b)) (fun _ _ q=>q) fun b hb hn=>mK.block b hb fun e=>hn (by have e:b=S:=e;exact e▸ .inl h.aS),(ah fU).trans mK⟩
        case rest=>
        obtain ⟨nH,o5,yS,wz⟩:=hcut;generalize wc=w5 at*;clear hpk x10 rE x2 x9 x28 f28;have Ec:=nA.aZ (A':=(fun b=>A b∨lv.ownBlock=some b)) (fun _ _ q=>q) fun b hb hn=>wz.block b hb fun e=>hn (by have e:b=S:=e;exact e▸ .inl h.aS);have iY:=sF.trans wz;clear nA;clear hbf ht' hidJ hown2 hb0 hT hl1 e1 e2 e3 Dr hk0 vZ wm wo k0 c23 c16 y0 c15 q2 q3 yA jB hput hbe jU hct
        try clear hone
        try clear hfl
        replace hpb:aA _:=⟨hpb⟩;obtain ⟨i0,hi0,j1,j2,j3⟩:=yba Jy;have hU:prog.underlying 65=some (.slice 69):=by kernel_rfl
        have wF:=hrow.kept (w':=w5) fun b e=>iY.block b (hrow.lt b e).2 fun q=>wu (by have q:b=S:=q;exact q▸e);have hba:=(yab w5.heap.size w5).alloc (yaa _) (Obj.cells #[.int .i64 id,.int .i64 t,.int .i64 ct] 69);have lI:=o5.below hba o5.lt;have z24:=o5.cell 24 (.int .i64 id) rfl;have z25:=o5.cell 25 (.int .i64 t) rfl;have z26:=o5.cell 26 (.int .i64 ct) rfl;have yX:=o5.cell 14 (.int .i64 s.own) rfl;have kT:=o5.cell 15 _ rfl;have qb:=lI.cell 14 (.int .i64 s.own) rfl;have mh:=lI.cell 15 _ rfl;rw [hlv.out] at kT mh;have wG:=wF.kept (w':=(w5.alloc (Obj.cells #[.int .i64 id,.int .i64 t,.int .i64 ct] 69)).drew) fun b e=>hba.block b (wF.lt b e).2;have hnew:=(Cl.new w5 #[.int .i64 id,.int .i64 t,.int .i64 ct] 69).kept (w':=(w5.alloc (Obj.cells #[.int .i64 id,.int .i64 t,.int .i64 ct] 69)).drew) rfl;have RQ:b2≤w5.heap.size:=by have:=h.b2;have:=iY.size;omega
        have pK:S<(w5.alloc (Obj.cells #[.int .i64 id,.int .i64 t,.int .i64 ct] 69)).drew.heap.size:=lI.lt;have Tk:w5.heap.size≠S:=by have:=o5.lt;omega
        go_wp2_with fail;go_cut [] from 151 to 172 (fun wx=> ∃dU t2,af t2 3 wx b2 dU (s.L.length+1) (cK s.L++ [.int .i64 id,.int .i64 t,.int .i64 ct])∧Cl wx S ((((({ s with sg:=l,c:=⟨id,t,ct⟩,pu:=s.puts r.n id l }:DS).aM r P lv (.slice su l.length cu) nH).set 15 dU).set 14 (.int .i64 (s.own-ct))))∧(∀b,dU.ownBlock=some b→lv.ownBlock=some b∨w5.heap.size≤b)∧Dw.Mv (fun b=>b=S∨lv.ownBlock=some b) w5 wx)
        case first=>
          go_region_law (first
            | (refine nR (P0:=prog) (by rfl) _ _ _ (by rfl) b2 69 ty i0 _ 3 24 hU hi0 j1 j2 j3 rfl (by decide) lv s.L.length (cK s.L) (by rw [hlv.out];rfl) wG (some ⟨w5.heap.size,0,none⟩) ⟨w5.heap.size,0,none⟩ rfl 1 1 [.int .i64 id,.int .i64 t,.int .i64 ct] (by rfl) rfl
                 (fun j u hu=>by rw [Dw.addr_add,yaf];exact hnew.cell j u hu) (fun u hu=>by simp only [yaj,yaq,yaZ] at hu;rcases hu with rfl|rfl|rfl<;>rfl) (by unfold maxLen;omega) (by omega) (by simp;omega) ?_
               intro v1 wa t1 hown1 hgrow1 qM;have hSb:=hgrow1.block S pK (ycW wu);have gI:=lI.kept (w':=wa) hSb;have HV:=gI.cell 15 _ rfl;have Rn:=gI.free 15;have Un:=gI.cell 14 (.int .i64 s.own) rfl;have Rm:=gI.free 14;have i24:=gI.cell 24 (.int .i64 id) rfl;have i25:=gI.cell 25 (.int .i64 t) rfl;have i26:=gI.cell 26 (.int .i64 ct) rfl;obtain ⟨pX,c2,hv2,uF⟩:=af.row hown1;clear uF;subst hv2))
          all_goals (go_wp2_with fail)
          all_goals
            go_meet;have hgs:=hgrow1.size;refine ⟨_,t1,af.kept hown1 fun b e=> ?_,(gI.set 15 _ (by show 15<29;decide)).set 14 _ (by show 14<29;decide),fun b e=> ?_,?_⟩
            · have hbS:b≠S:=fun e2=>by
                have:=(af.lt hown1 b e).1;have:=h.lo.1;omega
              exact (ya5 _ ⟨S,14,none⟩ _ b hbS).trans (ya5 wa ⟨S,15,none⟩ _ b hbS)
            · rcases qM with q|q
              · rw [q] at e;exact .inl e
              · rw [q] at e;simp at e;omega
            · have uG:Dw.Mv (fun b=>b=S∨lv.ownBlock=some b) w5 wa:=⟨hgrow1.os,hgrow1.tape,hgrow1.output,by simp at hgs;omega,fun b hb hn=>(hgrow1.block b (by simp;omega) fun e=>hn (.inr e.symm)).trans (hba.block b hb)⟩;exact zag (zag uG S 15 _ (.inl rfl)) S 14 _ (.inl rfl)
        case rest=>
        obtain ⟨dU,t2,hown2,o8,hlv2,dm⟩:=hcut;clear z24 z25 z26 yX kT qb mh hnew wG pK lI hba;have k16:=o8.cell 16 _ rfl;have n16:=o8.free 16;have k17:=o8.cell 17 _ rfl;have n17:=o8.free 17;have k18:=o8.cell 18 _ rfl;have n18:=o8.free 18;have k19:=o8.cell 19 _ rfl;have n19:=o8.free 19;have k20:=o8.cell 20 _ rfl;have n20:=o8.free 20;have k21:=o8.cell 21 _ rfl;have n21:=o8.free 21;have k22:=o8.cell 22 _ rfl;have n22:=o8.free 22;have o9:=((((((o8.set 16 (.int .i64 1) (by show 16<29;decide)).set 22 (.bool false) (by show 22<29;decide)).set 17 (.int .i64 1) (by show 17<29;decide)).set 18 (.bool false) (by show 18<29;decide)).set 19 (.int .i64 t) (by show 19<29;decide)).set 20 (.int .u32 0) (by show 20<29;decide)).set 21 (.bool false) (by show 21<29;decide);have wD:=zag (zag (zag (zag (zag (zag (zag (Dw.Mv.refl (· =S) wc) S 16 (.int .i64 1) rfl) S 22 (.bool false) rfl) S 17 (.int .i64 1) rfl) S 18 (.bool false) rfl) S 19 (.int .i64 t) rfl) S 20 (.int .u32 0) rfl) S 21 (.bool false) rfl;go_wp2_with fail;refine yap (ycy rfl _ _ _) rfl ?_;have qQ:Dw.Mv (fun b=>b=S∨lv.ownBlock=some b) w5 _:=dm.trans (wD.mono fun b q=> .inl q);have hK2: ∀b,b<w5.heap.size→(A b∨dU.ownBlock=some b)→(A b∨lv.ownBlock=some b):=fun b hb q=>q.elim .inl fun e=>by
          rcases hlv2 b e with e|e
          · exact .inr e
          · omega
        have hk2: ∀b,b<w5.heap.size→ ¬(A b∨lv.ownBlock=some b)→_:=fun b hb hn=>qQ.block b hb fun e=>hn (by
          rcases e with e|e
          · exact e▸ .inl h.aS
          · exact .inr e)
        refine ⟨rfl,⟨dU,YW.KY (au:= .slice su l.length cu) (aj:=nH) h ((iY.mono fun b q=> .inl q).trans qQ) o9 (Ec.aZ hK2 hk2) (yS.aZ hK2 hk2) hpb.out (t:=t2) ?_,fun b e=>(hlv2 b e).imp_right fun q=>yas iY.size q⟩,(iY.mono fun b q=> .inl q).trans qQ⟩;have hLn:(s.L++ [(⟨id,t,ct⟩:DO)]).length=s.L.length+1:=by simp
        have CS:cK (s.L++ [(⟨id,t,ct⟩:DO)])=cK s.L++ [.int .i64 id,.int .i64 t,.int .i64 ct]:=by rw [Bp];rfl
        show af t2 3 _ b2 dU (s.L++ [(⟨id,t,ct⟩:DO)]).length (cK (s.L++ [(⟨id,t,ct⟩:DO)]));rw [hLn,CS];refine af.kept hown2 fun b e=>wD.block b (af.lt hown2 b e).2 fun q=> ?_;have q:b=S:=q;have:=(af.lt hown2 b e).1;have:=h.lo.1;omega
end
end Go.Proofs
namespace Go.Proofs
open Go.Dw Go.RowKit Go.Maps Go.Sort Go.Deep
theorem Tryz.zvW {A:Nat→Prop} {w:World} {S P L Bs B N b2:Nat} {r:Rg} {s:DS} {g:Nat→Int} {lv:Value} (h:YW A w S P L Bs B N b2 r s g lv) {v:Value} {l:List Sg} (hv:bC A w v l) (hl:l.length≤60000) {t:Int} (l8:t<9223372036854775808) (aF:(di N r.n s t l).1=0):
  Calls prog 15 #[.pointer (some ⟨S,0,none⟩),.int .i64 t,v] w fun e w'=>e= .returned (.int .i64 0)∧(∃dU,YW A w' S P L Bs B N b2 r (di N r.n s t l).2 g dU∧ ∀b,dU.ownBlock=some b→lv.ownBlock=some b∨w.heap.size≤b)∧Dw.Mv (fun b=>b=S∨lv.ownBlock=some b) w w':=by
 cases hT:s.tab l with
 | true=>exact zvX h hv hl l8 aF hT
 | false=>
  cases hB:s.tb with
  | true=>exact zvZ h hv hl l8 aF hT hB
  | false=>exact zvY h hv hl l8 aF hT hB
section
variable {fns gW:List Nat} {nw ji:Prop} {A A':Nat→Prop} {w w':World} {S P L Bs B I N:Nat} {r:Tryz.Rg} {s s':Tryz.DS} {g g':Nat→Int}
theorem Tryz.DS.aau (L:List DO) (t:Int):((L.map (·.tk)).mergeSort leI).any (fun x=>x==t)=L.any fun e=>e.tk==t:=by
 rw [ybS,ybF,ybF];constructor
 ·rintro ⟨x,hx,hxt⟩;rw [List.mem_mergeSort] at hx;obtain ⟨e,he,rfl⟩:=yaY.1 hx;exact ⟨e,he,hxt⟩
 ·rintro ⟨e,he,het⟩;exact ⟨e.tk,List.mem_mergeSort.2 (yaY.2 ⟨e,he,rfl⟩),het⟩
theorem Tryz.O3 (s:DS) (t:Int):(s.outs.any fun x=>x==t)=s.L.any fun e=>e.tk==t:=DS.aau s.L t
set_option maxRecDepth 100000 in
theorem Tryz.zt7 (h:DW A w S P L Bs B I N r s g) {v:Value} {l:List Sg} (hv:bC A w v l) (hl:l.length≤100000) {t:Int} (hno:(di N r.n s t l).1≠0):
    Calls prog 13 #[.pointer (some ⟨S,0,none⟩),.int .i64 t,v] w fun e w'=>e= .returned (.int .i64 (di N r.n s t l).1)∧Below w.heap.size w w':=by
  have hrd:=Ja h;unfold DS.A7 at hrd;have hN:=h.f.hN;have hF:=h.f.fit;obtain ⟨sa,c,oF,_⟩:=id hv;subst oF;have hin2:=fun (w1:World) (hb:Below w.heap.size w w1)=>Qg (h.f.mem.below hb) hN (by omega) (hv.below hb) (by omega);unfold di at hno ⊢;by_cases hb:s.br=true
  · rw [yak hb] at hrd ⊢;clear hno hb;go_enter func13,ntmps13;go_wp2_with (first
      | (go_at_call 61;refine hrd.mono ?_;rintro e w' ⟨rfl,hw⟩;have hw:=hw.symm;subst hw)
      | go_in)
    go_ret;exact ⟨rfl,yab _ _⟩
  rw [yah hb] at hrd hno ⊢;by_cases hp:s.ph≠0
  · rw [yak hp] at hrd ⊢;clear hno hb hp;go_enter func13,ntmps13;go_wp2_with (first
      | (go_at_call 61;refine hrd.mono ?_;rintro e w' ⟨rfl,hw⟩;have hw:=hw.symm;subst hw)
      | go_in)
    go_ret;exact ⟨rfl,yab _ _⟩
  rw [yah hp] at hrd hno ⊢;have hout:=JE h;have hany:=O3 s t;have hol:s.outs.length≤100000:=by
    unfold DS.outs;rw [ycu,yaK];have:=gT fun x hx=>(h.pb.el x hx).2.2.1;have:=h.pb.sum;have:=h.pb.own;have:=h.f.rg.bnd;omega
  by_cases ht:t<0
  · have ht':decide (t<0)=true:=yaH ht;rw [yak (.inl ht)];clear hno hb hp ht;go_enter func13,ntmps13;go_wp2_with (first
      | (go_at_call 61;refine hrd.mono ?_;rintro e w' ⟨rfl,hw⟩;have hw:=hw.symm;subst hw)
      | go_in)
    go_ret;exact ⟨rfl,yab _ _⟩
  have ht':decide (t<0)=false:=yao ht;have hcon: ∀(w1:World) (u:Value),af 3 1 w1 w.heap.size u s.outs.length (bA s.outs)→Calls prog 62 #[u,.int .i64 t] w1 fun e w'=>e= .returned (.bool (s.L.any fun e=>e.tk==t))∧w'=w1:=fun w1 u hu=>by
    obtain ⟨su,cu,rfl,hr⟩:=af.row hu;have:=Oi (w:=w1) (sa:=su) (c:=cu) (l:=s.outs) (by
      rcases hr with hr|⟨G,e,_,hr⟩
      · exact .inl (yde.1 hr)
      · exact .inr ⟨G,0,e,hr⟩) hol t
    rw [hany] at this;exact this
  clear hany;by_cases htk:(s.L.any fun e=>e.tk==t)=true
  · rw [yak (.inr htk)];rw [htk] at hcon;clear hno hb hp ht htk;go_enter func13,ntmps13;go_wp2_with (first
      | (go_at_call 61;refine hrd.mono ?_;rintro e w' ⟨rfl,hw⟩;have hw:=hw.symm;subst hw)
      | (go_at_call 30;refine hout.mono ?_;rintro e w1 ⟨u,rfl,hu,hb1⟩)
      | (go_at_call 62;refine (hcon _ _ hu).mono ?_;rintro e w' ⟨rfl,hw⟩;have hw:=hw.symm;subst hw)
      | go_in)
    go_ret;exact ⟨rfl,hb1⟩
  have sM:(s.L.any fun e=>e.tk==t)=false:=by simpa using htk
  rw [yah (by rintro (q|q);exact ht q;exact htk q)] at hno ⊢;rw [sM] at hcon;have kK:=h.f.obj;have hS:=h.f.lt S h.f.aS;have hc0: ∀w1,Below w.heap.size w w1→w1.cell? ⟨S,0,none⟩=some (.pointer (some ⟨P,0,none⟩)):=fun w1 hb=>by
    obtain ⟨aT,aU,au,aj,h1,_⟩:=kK;exact (h1.below hb h1.lt).cell 0 _ rfl
  by_cases hin:iB N l≠0
  · rw [yak hin];have LK:(iB N l==0)=false:=by simpa using hin
    generalize iB N l=e at hin2 hin LK ⊢;clear hno hb hp ht htk sM;go_enter func13,ntmps13;go_wp2_with (first
      | (go_at_call 61;refine hrd.mono ?_;rintro e w' ⟨rfl,hw⟩;have hw:=hw.symm;subst hw)
      | (go_at_call 30;refine hout.mono ?_;rintro e w1 ⟨u,rfl,hu,hb1⟩)
      | (go_at_call 62;refine (hcon _ _ hu).mono ?_;rintro e w' ⟨rfl,hw⟩;have hw:=hw.symm;subst hw;have x0:=hc0 _ hb1)
      | (go_at_call 63;refine (hin2 _ hb1).mono ?_;rintro e w2 ⟨rfl,hb2⟩)
      | go_in)
    go_ret;exact ⟨rfl,hb1.trans (hb2.mono hb1.size)⟩
  rw [yah hin] at hno ⊢;rw [yaz.1 hin] at hin2;by_cases hl0:l.length=0
  · rw [yak hl0];have hb0:((l.length:Int)==0)=true:=by simpa using hl0
    clear hno hb hp ht htk sM hin hl0;go_enter func13,ntmps13;go_wp2_with (first
      | (go_at_call 61;refine hrd.mono ?_;rintro e w' ⟨rfl,hw⟩;have hw:=hw.symm;subst hw)
      | (go_at_call 30;refine hout.mono ?_;rintro e w1 ⟨u,rfl,hu,hb1⟩)
      | (go_at_call 62;refine (hcon _ _ hu).mono ?_;rintro e w' ⟨rfl,hw⟩;have hw:=hw.symm;subst hw;have x0:=hc0 _ hb1)
      | (go_at_call 63;refine (hin2 _ hb1).mono ?_;rintro e w2 ⟨rfl,hb2⟩)
      | go_in)
    go_ret;exact ⟨rfl,hb1.trans (hb2.mono hb1.size)⟩
  rw [yah hl0] at hno ⊢;have hbe:eD l=0:=by
    unfold eD;rw [(nS (yaz.1 hin)).2,yah (by decide),yah hl0]
  obtain ⟨T,hT⟩: ∃T,(s.tb&&decide ((1:Int)<l.length))=T:=⟨_,rfl⟩;have fG:s.tab l=T:=by
    unfold DS.tab;rw [←hT];congr 1;exact ya4.2 (by omega)
  have bZ:s.need l=if T=true then 1 else (l.length:Int):=by unfold DS.need;rw [fG]
  have hnd:=fun w1 hb=>OB (w:=w1) (hv.below hb) T;simp only [yah (show¬eD l≠0 from fun q=>q hbe)] at hnd;rw [←bZ] at hnd;simp only at hno ⊢;generalize s.need l=ct at hno hnd ⊢;have hbn:=h.f.rg.bnd;have hidx:=fun w1 (hb:Below w.heap.size w w1)=>OJ (h.below hb).f.ids (by omega);obtain ⟨idx,LJ⟩: ∃idx:Int,idx=(if dD s.L r.n.toNat 0<r.n.toNat then ((dD s.L r.n.toNat 0:Nat):Int) else-1):=⟨_,rfl⟩;rw [←LJ] at hidx;have hb0:((l.length:Int)==0)=false:=by simpa using hl0
  have gM: ∀w1,Below w.heap.size w w1→w1.cell? ⟨S,7,none⟩=some (.bool s.tb):=fun w1 hb=>by
    obtain ⟨aT,aU,au,aj,h1,_⟩:=kK;exact (h1.below hb h1.lt).cell 7 _ rfl
  have nZ: ∀w1,Below w.heap.size w w1→w1.cell? ⟨S,15,none⟩=some (.slice (some ⟨I,0,none⟩) r.n.toNat r.n.toNat):=fun w1 hb=>by
    obtain ⟨aT,aU,au,aj,h1,_⟩:=kK;exact (h1.below hb h1.lt).cell 15 _ rfl
  have iX: ∀w1,Below w.heap.size w w1→w1.cell? ⟨S,14,none⟩=some (.int .i64 s.own):=fun w1 hb=>by
    obtain ⟨aT,aU,au,aj,h1,_⟩:=kK;exact (h1.below hb h1.lt).cell 14 _ rfl
  obtain ⟨d1,d2,hd1,hd2,hdd⟩: ∃d1 d2:Bool,decide (s.own<ct)=d1∧decide (idx<0)=d2∧(d1||d2)=true:=by
    refine ⟨_,_,rfl,rfl,?_⟩;by_cases q:s.own<ct∨r.n≤(dD s.L r.n.toNat 0:Nat)
    · rcases q with q|q
      · rw [yaH q];rfl
      · rw [LJ,yah (by omega)];simp
    · rw [yah q] at hno;exact absurd rfl hno
  have hres:(if s.own<ct∨r.n≤(dD s.L r.n.toNat 0:Nat) then ((7:Int),s) else (0,{ s with c:=⟨(dD s.L r.n.toNat 0:Nat),t,ct⟩,sg:=l,pu:=s.puts r.n (dD s.L r.n.toNat 0:Nat) l,L:=s.L++ [⟨(dD s.L r.n.toNat 0:Nat),t,ct⟩],own:=s.own-ct,ph:=1,dn:=false,op:=1,nn:=false,tok:=t,wr:=0,kk:=false })).1=7:=by
    by_cases q:s.own<ct∨r.n≤(dD s.L r.n.toNat 0:Nat)
    · rw [yak q]
    · rw [yah q] at hno;exact absurd rfl hno
  rw [hres];clear hres hno hb hp ht htk sM hin hl0 fG bZ hbe LJ hbn;rcases Bool.eq_false_or_eq_true s.tb with htb|htb
  all_goals
    rw [htb] at hT gM
    first|rw [ybr] at hT|(rw [yb2] at hT;subst hT)
    clear htb;go_enter func13,ntmps13;go_wp2_with (first
        | (go_at_call 61;refine hrd.mono ?_;rintro e w' ⟨rfl,hw⟩;have hw:=hw.symm;subst hw)
        | (go_at_call 30;refine hout.mono ?_;rintro e w1 ⟨u,rfl,hu,hb1⟩)
        | (go_at_call 62;refine (hcon _ _ hu).mono ?_;rintro e w' ⟨rfl,hw⟩;have hw:=hw.symm;subst hw;have x0:=hc0 _ hb1)
        | (go_at_call 63;refine (hin2 _ hb1).mono ?_;rintro e w2 ⟨rfl,hb2⟩;have bI:=hb1.trans (hb2.mono hb1.size);have x7:=gM _ bI)
        | go_in)
    have hbd:=(yab w2.heap.size w2).drew;have l6:=bI.trans (hbd.mono bI.size);have mh:=nZ _ bI;have kT:=nZ _ l6;go_region_held3 (fun w'=>w'.cell? ⟨S,15,none⟩=some (.slice (some ⟨I,0,none⟩) r.n.toNat r.n.toNat)) (go_keep)
      ((first
        | (go_at_call 64;refine (hnd _ l6).mono ?_;rintro en w3 ⟨rfl,hb3⟩;have jy:=l6.trans (hb3.mono l6.size);have v15:=nZ _ jy)
        | (go_at_call 65;refine (hidx _ jy).mono ?_;rintro en w' ⟨rfl,hw⟩;have hw:=hw.symm;subst hw)))
    all_goals
      have Bd:=iX _ jy;cases d1<;>cases d2<;>first|exact absurd hdd (by decide)|skip
      all_goals
        go_wp2_with fail;go_ret;exact ⟨rfl,jy⟩
end
end Go.Proofs
namespace Go.Proofs
open Go.Dw Go.RowKit Go.Maps Go.Sort Go.Deep
section
variable {fns gW:List Nat} {nw ji:Prop} {A A':Nat→Prop} {w w':World} {S P L Bs B I N:Nat} {r:Tryz.Rg} {s s':Tryz.DS} {g g':Nat→Int}
theorem Tryz.aQ.Nf (h:aQ fns nw A w S P L Bs B I N r s g) (j:Nat) (v:Value):Dw.Mv (· =S) w (w.setCell ⟨S,j,none⟩ v)∧ ∀b,b<w.heap.size→ ¬A b→(w.setCell ⟨S,j,none⟩ v).heap[b]? =w.heap[b]? :=by
 have hm:Dw.Mv (· =S) w (w.setCell ⟨S,j,none⟩ v):=zag (ah (yab _ _)) S j _ rfl;exact ⟨hm,fun b hb hn=>hm.block b hb fun e=>hn (by have e:b=S:=e;exact e▸h.aS)⟩
theorem Tryz.aQ.TW (h:aQ fns nw A w S P L Bs B I N r s g) {u:Value} {l:List Sg} (hu:bC A w u l):aQ fns nw A (w.setCell ⟨S,18,none⟩ u) S P L Bs B I N r { s with sg:=l } g:=by
 obtain ⟨hm,hk⟩:=h.Nf 18 u;obtain ⟨aT,aU,au,aj,h1,h2,h3,h4,h5,h6⟩:=h.ptr hk;exact h.Bc (hm.mono fun b e=> .inl e) (h.CG hm) ⟨aT,aU,u,aj,h1.set 18 u (by show 18<27;decide),h2,h3,h4,hu.aZ (fun _ _ q=>q) hk,h6⟩ rfl
theorem Tryz.aQ.TV (h:aQ fns nw A w S P L Bs B I N r s g) {u:Value} {l:List Pt} (hu:gV A w u l):aQ fns nw A (w.setCell ⟨S,19,none⟩ u) S P L Bs B I N r { s with pu:=l } g:=by
 obtain ⟨hm,hk⟩:=h.Nf 19 u;obtain ⟨aT,aU,au,aj,h1,h2,h3,h4,h5,h6⟩:=h.ptr hk;exact h.Bc (hm.mono fun b e=> .inl e) (h.CG hm) ⟨aT,aU,au,u,h1.set 19 u (by show 19<27;decide),h2,h3,h4,h5,hu.aZ (fun _ _ q=>q) hk⟩ rfl
theorem Tryz.aQ.TU (h:aQ fns nw A w S P L Bs B I N r s g) {u:Value} {e:DO} (hu:qD A w u e):aQ fns True A (w.setCell ⟨S,17,none⟩ u) S P L Bs B I N r { s with c:=e } g:=by
 obtain ⟨hm,hk⟩:=h.Nf 17 u;obtain ⟨aT,aU,au,aj,h1,h2,h3,h4,h5,h6⟩:=h.ptr hk;have hu2:=hu.aZ (A':=A) (fun _ _ q=>q) hk;obtain ⟨O,rfl,_⟩:=id hu;exact h.Bc (hm.mono fun b e=> .inl e) (h.CG hm) ⟨aT,_,au,aj,h1.set 17 _ (by show 17<27;decide),h2,rfl,fun _=>hu2,h5,h6⟩ rfl
theorem Tryz.OG {L:List DO} {e:DO} (k:Int):fA (L++ [e]) k=(match fA L k with|some x=>some x|none=>if e.id=k then some e else none):=by
 unfold fA;rw [List.find?_append];cases h:L.find? fun e=>e.id==k with
 | some x=>rfl
 | none=>
  by_cases q:e.id=k
  ·simp [q]
  ·simp [q]
theorem Tryz.mF.add {n:Nat} {l:List DO} {k:Nat} {u:Value} {t ct:Int} (h:mF A w I n l) (hno:kg l k=false) (aI:A I) (hk:k<n) (hu:qD A w u ⟨k,t,ct⟩):mF A (w.setCell ⟨I,k,none⟩ u) I n (l++ [⟨k,t,ct⟩]):=by
 obtain ⟨vs,h1,h2,h3⟩:=h;have hm:Dw.Mv (· =I) w (w.setCell ⟨I,k,none⟩ u):=zag (K:=(· =I)) (ah (yab _ _)) I k _ rfl;have hK: ∀b,b<w.heap.size→ ¬A b→(w.setCell ⟨I,k,none⟩ u).heap[b]? =w.heap[b]? :=fun b hb hn=>hm.block b hb fun q=>hn (by have q:b=I:=q;exact q▸aI);have hg0:fA l k=none:=by
  rw [←tC] at hno;exact Option.not_isSome_iff_eq_none.1 (by rw [hno];decide)
 refine ⟨vs.set k u,h1.set k _ (by omega),by rw [yc6];exact h2,fun j hj=> ?_⟩;rw [yc6] at hj;by_cases hjk:j=k
 ·subst hjk;refine ⟨fun q=> ?_,fun e he=> ?_⟩
  ·rw [←tC,OG,hg0] at q;simp at q
  ·rw [OG,hg0] at he;simp at he;subst he;simpa using hu.aZ (A':=A) (fun _ _ q=>q) hK
 ·have hne: ¬(k:Int)=j:=by omega
  rw [←tC,OG,List.getElem_set_ne (fun e=>hjk e.symm)];have hh:=h3 j hj;rw [←tC] at hh;cases hg:fA l (j:Int) with
  | some x=>
   simp only;rw [hg] at hh;exact ⟨hh.1,fun e he=>(hh.2 e he).aZ (fun _ _ q=>q) hK⟩
  | none=>
   simp only;rw [yah hne];rw [hg] at hh;exact ⟨fun _=>hh.1 rfl,fun e he=>by cases he⟩
end
end Go.Proofs
namespace Go.Proofs
open Go.Dw Go.RowKit Go.Maps Go.Sort Go.Deep
section
variable {fns gW:List Nat} {nw ji:Prop} {A A':Nat→Prop} {w w':World} {S P L Bs B I N:Nat} {r:Tryz.Rg} {s s':Tryz.DS} {g g':Nat→Int}
set_option maxRecDepth 100000 in
theorem Tryz.zrv (h:DW A w S P L Bs B I N r s g) {v:Value} {l:List Sg} (hv:bC A w v l) (hl:l.length≤100000) {t:Int} (l8:t<9223372036854775808) (aF:(di N r.n s t l).1=0) (nu:s.tab l=true):
    Calls prog 13 #[.pointer (some ⟨S,0,none⟩),.int .i64 t,v] w fun e w'=>e= .returned (.int .i64 0)∧DW A w' S P L Bs B I N r (di N r.n s t l).2 g∧Dw.Mv (fun b=>b=S∨b=I) w w':=by
  have hrd:=Ja h;unfold DS.A7 at hrd;have hN:=h.f.hN;have hF:=h.f.fit;have hbn:=h.f.rg.bnd;have hlt:=h.f.lG;obtain ⟨sa,c,oF,hok,_⟩:=id hv;subst oF;have hpb:=h.pb.off (N:=N) (t:=t) ⟨hbn.1,hbn.2⟩ l8 hok;have hin2:=fun (w1:World) (hb:Below w.heap.size w w1)=>Qg (h.f.mem.below hb) hN (by omega) (hv.below hb) (by omega);have hout:=JE h;have hany:=O3 s t;have hol:s.outs.length≤100000:=by
    unfold DS.outs;rw [ycu,yaK];have:=gT fun x hx=>(h.pb.el x hx).2.2.1;have:=h.pb.sum;have:=h.pb.own;omega
  have hcon: ∀(w1:World) (u:Value),af 3 1 w1 w.heap.size u s.outs.length (bA s.outs)→Calls prog 62 #[u,.int .i64 t] w1 fun e w'=>e= .returned (.bool (s.L.any fun e=>e.tk==t))∧w'=w1:=fun w1 u hu=>by
    obtain ⟨su,cu,rfl,hr⟩:=af.row hu;have:=Oi (w:=w1) (sa:=su) (c:=cu) (l:=s.outs) (by
      rcases hr with hr|⟨G,e,_,hr⟩
      · exact .inl (yde.1 hr)
      · exact .inr ⟨G,0,e,hr⟩) hol t
    rw [hany] at this;exact this
  clear hany;unfold di at aF hpb ⊢;by_cases hb:s.br=true
  · rw [yak hb] at aF;exact absurd aF (show¬(4:Int)=0 by decide)
  rw [yah hb] at hrd aF hpb ⊢;by_cases hp:s.ph≠0
  · rw [yak hp] at aF;exact absurd aF (show¬(8:Int)=0 by decide)
  rw [yah hp] at hrd aF hpb ⊢;by_cases htk:t<0∨(s.L.any fun e=>e.tk==t)=true
  · rw [yak htk] at aF;exact absurd aF (show¬(2:Int)=0 by decide)
  rw [yah htk] at aF hpb ⊢;have ht':decide (t<0)=false:=yao fun q=>htk (.inl q);have sM:(s.L.any fun e=>e.tk==t)=false:=by
    cases q:(s.L.any fun e=>e.tk==t) with
    | false=>rfl
    | true=>exact absurd (.inr q) htk
  rw [sM] at hcon;by_cases hin:iB N l≠0
  · rw [yak hin] at aF;exact absurd aF hin
  rw [yah hin] at aF hpb ⊢;rw [yaz.1 hin] at hin2;by_cases hl0:l.length=0
  · rw [yak hl0] at aF;exact absurd aF (show¬(2:Int)=0 by decide)
  rw [yah hl0] at aF hpb ⊢;have Gv:=(nS (yaz.1 hin)).1;have hbe:eD l=0:=by
    unfold eD;rw [(nS (yaz.1 hin)).2,yah (by decide),yah hl0]
  simp only at aF hpb ⊢;by_cases hfull:s.own<s.need l∨r.n≤(dD s.L r.n.toNat 0:Nat)
  · rw [yak hfull] at aF;exact absurd aF (show¬(7:Int)=0 by decide)
  rw [yah hfull] at aF hpb ⊢;clear aF;simp only at hpb ⊢;obtain ⟨T,hT⟩: ∃T,(s.tb&&decide ((1:Int)<l.length))=T:=⟨_,rfl⟩;have fG:s.tab l=T:=by
    unfold DS.tab;rw [←hT];congr 1;exact ya4.2 (by omega)
  have hTe:T=true:=fG.symm.trans nu;replace hTe:aA _:=⟨hTe⟩;clear nu;have bZ:s.need l=if T=true then 1 else (l.length:Int):=by unfold DS.need;rw [fG]
  have hnd:=fun w1 hb=>OB (w:=w1) (hv.below hb) T;simp only [yah (show¬eD l≠0 from fun q=>q hbe)] at hnd;rw [←bZ] at hnd;obtain ⟨ct,hct⟩: ∃ct,ct=s.need l:=⟨_,rfl⟩;obtain ⟨f1,f2,f3,f4⟩:=uX s.L r.n.toNat 0;have hidx:=fun w1 (hb:Below w.heap.size w w1)=>OJ (h.below hb).f.ids (by omega);rw [yak (show dD s.L r.n.toNat 0<r.n.toNat by omega)] at hidx;have hfree:=f4 (by omega);obtain ⟨id,hid⟩: ∃id:Nat,id=dD s.L r.n.toNat 0:=⟨_,rfl⟩;rw [←hid] at hidx hfree hfull hpb ⊢;rw [←hct] at hnd bZ hfull hpb ⊢;have Av:id<r.n.toNat:=by omega
  have yA:(id:Int)<r.n.toNat:=by omega
  have hidJ: ¬(r.n.toNat:Int)≤id:=by omega
  have hmx:max r.n 0=r.n:=by omega
  have aaL:(id:Int)<r.n:=by omega
  have uE:decide ((id:Int)<0)=false:=yao (by omega);have hown2:decide (s.own<ct)=false:=yao (by omega);have hown0:=h.pb.own;have Gn:1≤ct∧ct≤s.own:=⟨by rw [bZ];split<;>omega,by omega⟩;have jB:T=false→(l.length:Int)≤r.n:=fun q=>by
    rw [q] at bZ;have h1:=h.pb.sum;have h2:=gT fun x hx=>(h.pb.el x hx).2.2.1;simp at bZ;omega
  have GJ:IntKind.wrap .i64 (s.own-ct)=s.own-ct:=dV (by omega) (by have:=h.pb.sum;have:=gT fun x hx=>(h.pb.el x hx).2.2.1;omega);have kK:=h.f.obj;have hc0: ∀w1,Below w.heap.size w w1→w1.cell? ⟨S,0,none⟩=some (.pointer (some ⟨P,0,none⟩)):=fun w1 hb=>by
    obtain ⟨aT,aU,au,aj,h1,_⟩:=kK;exact (h1.below hb h1.lt).cell 0 _ rfl
  have gM: ∀w1,Below w.heap.size w w1→w1.cell? ⟨S,7,none⟩=some (.bool s.tb):=fun w1 hb=>by
    obtain ⟨aT,aU,au,aj,h1,_⟩:=kK;exact (h1.below hb h1.lt).cell 7 _ rfl
  have nZ: ∀w1,Below w.heap.size w w1→w1.cell? ⟨S,15,none⟩=some (.slice (some ⟨I,0,none⟩) r.n.toNat r.n.toNat):=fun w1 hb=>by
    obtain ⟨aT,aU,au,aj,h1,_⟩:=kK;exact (h1.below hb h1.lt).cell 15 _ rfl
  have iX: ∀w1,Below w.heap.size w w1→w1.cell? ⟨S,14,none⟩=some (.int .i64 s.own):=fun w1 hb=>by
    obtain ⟨aT,aU,au,aj,h1,_⟩:=kK;exact (h1.below hb h1.lt).cell 14 _ rfl
  have hl1:(1:Int)≤l.length:=by omega
  have e1:IntKind.wrap .u64 (id:Int)=id:=wrap_u64 _ (by omega) (by omega);have e2:IntKind.wrap .u64 ((id:Int)*1024)=(id:Int)*1024:=wrap_u64 _ (by omega) (by omega);have e3:IntKind.wrap .u64 (20000+(id:Int)*1024)=20000+(id:Int)*1024:=wrap_u64 _ (by omega) (by omega);have hb0:((l.length:Int)==0)=false:=by simpa using hl0
  have jU:s.ph=0:=yaz.1 hp;have hdF:fo s.ph= []:=by rw [jU];rfl
  replace jB:aA _:=⟨jB⟩;replace jU:aA _:=⟨jU⟩;have hput:aA (s.puts r.n id l=if T=true then [zip id s.nx (jF id) l.length s.nw] else dN r.n id s.nx s.nw l l.length):=⟨by unfold DS.puts;rw [fG]⟩;have lY:s.tb=true∨s.tb=false:=by cases s.tb<;>simp
  replace hbe:aA _:=⟨hbe⟩;replace hct:aA _:=⟨hct⟩;clear hb hp htk sM hin hl0 fG bZ hfull f1 f2 f3 f4 hid hol;have uj:(s.tb=true∧T=true)∨(s.tb=true∧T=false)∨(s.tb=false∧T=false):=by
    rcases lY with q|q
    · cases T
      · exact .inr (.inl ⟨q,rfl⟩)
      · exact .inl ⟨q,rfl⟩
    · rw [q,yb2] at hT;exact .inr (.inr ⟨q,hT.symm⟩)
  clear lY;rcases uj with ⟨htb,gD⟩|⟨htb,gD⟩|⟨htb,gD⟩
  · rw [htb] at hT gM;rw [ybr] at hT;subst gD;clear htb hTe;go_enter func13,ntmps13;go_wp2_with (first
      | (go_at_call 61;refine hrd.mono ?_;rintro e w' ⟨rfl,hw⟩;have hw:=hw.symm;subst hw)
      | (go_at_call 30;refine hout.mono ?_;rintro e w1 ⟨u,rfl,hu,hb1⟩)
      | (go_at_call 62;refine (hcon _ _ hu).mono ?_;rintro e w' ⟨rfl,hw⟩;have hw:=hw.symm;subst hw;have x0:=hc0 _ hb1)
      | (go_at_call 63;refine (hin2 _ hb1).mono ?_;rintro e w2 ⟨rfl,hb2⟩;have bI:=hb1.trans (hb2.mono hb1.size);have x7:=gM _ bI)
      | go_in)
    have hbd:=(yab w2.heap.size w2).drew;have l6:=bI.trans (hbd.mono bI.size);have mh:=nZ _ bI;have kT:=nZ _ l6;go_region_held3 (fun w'=>w'.cell? ⟨S,15,none⟩=some (.slice (some ⟨I,0,none⟩) r.n.toNat r.n.toNat)) (go_keep)
      ((first
        | (go_at_call 64;refine (hnd _ l6).mono ?_;rintro en w3 ⟨rfl,hb3⟩;have jy:=l6.trans (hb3.mono l6.size);have v15:=nZ _ jy)
        | (go_at_call 65;refine (hidx _ jy).mono ?_;rintro en w' ⟨rfl,hw⟩;have hw:=hw.symm;subst hw)))
    have Bd:=iX _ jy;have h3:=h.f.below jy;have hcl:=VY (hv.below jy) (by omega);have Dt:=jy.size;go_wp2_with (first
      | (go_at_call 66;refine hcl.mono ?_;rintro en w4 ⟨u4,rfl,nA,hb4⟩;have h4:=h3.below hb4;have Mk:=fM.Bb nA hok (A:=A) (fun b q1 q2=>by have:=h.f.lt b q2;omega);obtain ⟨uO,tX,hue,_⟩:=fM.slice nA;subst hue;obtain ⟨Nh,MH,abx,MR,o4,_⟩:=h4.obj;have x18:=o4.cell 18 _ rfl;have f18:=o4.free 18;have h5:=h4.TW Mk;have aH:=zag (Dw.Mv.refl (· =S) w4) S 18 (.slice uO l.length tX) rfl;have o5:=o4.set 18 (.slice uO l.length tX) (by show 18<27;decide))
      | go_in)
    generalize w4.setCell ⟨S,18,none⟩ (.slice uO l.length tX)=w5 at*;have iY:Dw.Mv (fun b=>b=S∨b=I) w w5:=((ah jy).trans (ah hb4)).trans (aH.mono fun b q=> .inl q);clear x18 f18 Bd x0 x7 mh kT v15 hcl hrd hin2 hout hcon hnd hidx kK hc0 gM nZ iX ht' hu uE hown2 hb1 hb2 bI hbd l6 hb3 h3 h4 o4 hb0;have ic:Cl w5 S (({ s with sg:=l }:DS).row r P I Nh MH (.slice uO l.length tX) MR):=o5;have x10:=ic.cell 10 (.int .i64 s.nx) rfl;have rE:=ic.cell 11 (.bool s.nw) rfl;have x2:=ic.cell 2 (.int .i64 r.n) rfl;have x9:=ic.cell 9 (.int .u64 20000) rfl;have aC:=ic.cell 19 _ rfl;have f19:=ic.free 19;have hone:=fun w'=>zuT (n:=r.n) (a:=s.nx) (id:=id) (m:=l.length) (ad:=20000+id*1024) (x:=s.nw) ⟨hbn.1,by omega⟩ h.pb.nx ⟨by omega,by omega⟩ ⟨by omega,by omega⟩ w';unfold bM at hone;generalize hfl:fZ 4 s.nw=fl at hone;replace hfl:aA _:=⟨hfl⟩;replace hlt:aA _:=⟨hlt⟩;go_wp2_with fail;go_cut [12,13] from 73 to 96 (fun z e wx=> ∃Zb,z= .pointer (some ⟨Zb,0,none⟩)∧e= .int .i64 0∧Cl wx Zb [.int .i64 s.nx,.int .u64 (20000+id*1024),.int .u32 (16*l.length),.int .u16 id,.int .u16 fl]∧Below w5.heap.size w5 wx)
    case first=>
      have uo:=(yab w5.heap.size w5).alloc (yaa _) (Obj.cells #[.int .i64 0,.int .u64 0,.int .u32 0,.int .u16 0,.int .u16 0] 139);have hbD:=(yab w5.heap.size w5).drew;have hS5:w5.heap.size≠S:=by have:=ic.lt;omega
      have hS6:S≠w5.heap.size:=fun q=>hS5 q.symm;have yu:=uo.drew;have od:=ic.below hbD ic.lt;have oz:=ic.below yu ic.lt;have d10:=od.cell 10 (.int .i64 s.nx) rfl;have d11:=od.cell 11 (.bool s.nw) rfl;have d2:=od.cell 2 (.int .i64 r.n) rfl;have d9:=od.cell 9 (.int .u64 20000) rfl;have g10:=oz.cell 10 (.int .i64 s.nx) rfl;have g11:=oz.cell 11 (.bool s.nw) rfl;have g2:=oz.cell 2 (.int .i64 r.n) rfl;have g9:=oz.cell 9 (.int .u64 20000) rfl;go_region_held3 (fun w'=>w'.cell? ⟨S,10,none⟩=some (.int .i64 s.nx)∧w'.cell? ⟨S,11,none⟩=some (.bool s.nw)∧w'.cell? ⟨S,2,none⟩=some (.int .i64 r.n)∧w'.cell? ⟨S,9,none⟩=some (.int .u64 20000)) (go_keep)
        ((first
          | (go_at_call 67;refine (hone (w5.drew)).mono ?_;rintro en w9 ⟨rfl,dI⟩;have fU:=hbD.trans (dI.mono (yaa _));have on:=od.below dI od.lt;have v10:=on.cell 10 (.int .i64 s.nx) rfl;have v11:=on.cell 11 (.bool s.nw) rfl;have v2:=on.cell 2 (.int .i64 r.n) rfl;have v9:=on.cell 9 (.int .u64 20000) rfl)
          | (go_at_call 67;refine (hone ((w5.alloc (Obj.cells #[.int .i64 0,.int .u64 0,.int .u32 0,.int .u16 0,.int .u16 0] 139)).drew)).mono ?_;rintro en w9 ⟨rfl,dI⟩;have fU:=yu.trans (dI.mono yu.size);have on:=oz.below dI oz.lt;have v10:=on.cell 10 (.int .i64 s.nx) rfl;have v11:=on.cell 11 (.bool s.nw) rfl;have v2:=on.cell 2 (.int .i64 r.n) rfl;have v9:=on.cell 9 (.int .u64 20000) rfl;have zc:=((Cl.new w5 #[.int .i64 0,.int .u64 0,.int .u32 0,.int .u16 0,.int .u16 0] 139).kept (w':=(w5.alloc (Obj.cells #[.int .i64 0,.int .u64 0,.int .u32 0,.int .u16 0,.int .u16 0] 139)).drew) rfl).below dI (by simp);have Nq:=zc.cell 0 _ rfl;have Oj:=zc.free 0;have Nr:=zc.cell 1 _ rfl;have Ol:=zc.free 1;have zc2:=zc.cell 2 _ rfl;have zf2:=zc.free 2;have zc3:=zc.cell 3 _ rfl;have zf3:=zc.free 3;have zc4:=zc.cell 4 _ rfl;have zf4:=zc.free 4)))
      all_goals
        go_wp2_with fail;go_meet
        first
          | exact ⟨w9.heap.size,rfl,rfl,Cl.new w9 _ _,fU.alloc fU.size _⟩
          | exact ⟨w5.heap.size,rfl,rfl,((((zc.set 0 _ (by simp)).set 1 _ (by simp)).set 2 _ (by simp)).set 3 _ (by simp)).set 4 _ (by simp),mU (aD (aD (aD (aD (aD (ah (K:=fun _=>False) fU) w5.heap.size 0 _ (.inr (yaa _))) w5.heap.size 1 _ (.inr (yaa _))) w5.heap.size 2 _ (.inr (yaa _))) w5.heap.size 3 _ (.inr (yaa _))) w5.heap.size 4 _ (.inr (yaa _)))⟩
    case rest=>
    obtain ⟨Zb,rfl,rfl,hZ,hb6⟩:=hcut;have a0:=hZ.cell 0 _ rfl;have a1:=hZ.cell 1 _ rfl;have a2:=hZ.cell 2 _ rfl;have a3:=hZ.cell 3 _ rfl;have a4:=hZ.cell 4 _ rfl;have h6:=h5.below hb6;have Am:=(yab wc.heap.size wc).alloc (yaa _) (Obj.cells #[.int .i64 s.nx,.int .u64 (20000+id*1024),.int .u32 (16*l.length),.int .u16 id,.int .u16 fl] 139);have kV:=Cl.new wc #[.int .i64 s.nx,.int .u64 (20000+id*1024),.int .u32 (16*l.length),.int .u16 id,.int .u16 fl] 139;have uh:gV A (wc.alloc (Obj.cells #[.int .i64 s.nx,.int .u64 (20000+id*1024),.int .u32 (16*l.length),.int .u16 id,.int .u16 fl] 139)) (.slice (some ⟨wc.heap.size,0,none⟩) 1 1) (s.puts r.n id l):=by
      rw [hput.out]
      first|rw [yak rfl]|rw [yak trivial]
      refine ⟨_,_,rfl,.inr ⟨wc.heap.size,0,rfl,fun q=>absurd (h6.lt _ q) (ybe _),fun j y hy=> ?_⟩⟩;rw [yaf];have e:dY [zip (id:Int) s.nx (jF id) l.length s.nw]= [.int .i64 s.nx,.int .u64 (20000+id*1024),.int .u32 (16*l.length),.int .u16 id,.int .u16 fl]:=by
        rw [←hfl.out];unfold dY zip jF Pt.cells;simp [ydu]
      rw [e] at hy;exact kV.cell j y hy
    have AX:=(ic.below hb6 ic.lt).below Am (ic.below hb6 ic.lt).lt;have m19:=AX.cell 19 _ rfl;have n19:=AX.free 19;have h7:=(h6.below Am).TV uh;have jR:=zag (Dw.Mv.refl (· =S) (wc.alloc (Obj.cells #[.int .i64 s.nx,.int .u64 (20000+id*1024),.int .u32 (16*l.length),.int .u16 id,.int .u16 fl] 139))) S 19 (.slice (some ⟨wc.heap.size,0,none⟩) 1 1) rfl;have LW:=((iY.trans (ah hb6)).trans (ah Am)).trans (jR.mono fun b q=> .inl q);clear x10 rE x2 x9 aC f19;have yt:=(yab ((wc.alloc (Obj.cells #[.int .i64 s.nx,.int .u64 (20000+id*1024),.int .u32 (16*l.length),.int .u16 id,.int .u16 fl] 139)).setCell ⟨S,19,none⟩ (.slice (some ⟨wc.heap.size,0,none⟩) 1 1)).heap.size ((wc.alloc (Obj.cells #[.int .i64 s.nx,.int .u64 (20000+id*1024),.int .u32 (16*l.length),.int .u16 id,.int .u16 fl] 139)).setCell ⟨S,19,none⟩ (.slice (some ⟨wc.heap.size,0,none⟩) 1 1))).alloc (yaa _) (Obj.cells #[.int .i64 id,.int .i64 t,.int .i64 ct] 145);obtain ⟨Eh,abj,Eg,Eb,o7,_⟩:=h7.obj;have yQ:=o7.below yt o7.lt;have El:=yQ.cell 17 _ rfl;have g17:=yQ.free 17;have kO:=Cl.new2 (w:=((wc.alloc (Obj.cells #[.int .i64 s.nx,.int .u64 (20000+id*1024),.int .u32 (16*l.length),.int .u16 id,.int .u16 fl] 139)).setCell ⟨S,19,none⟩ (.slice (some ⟨wc.heap.size,0,none⟩) 1 1))) (b:=(wc.heap.size+1)) (arr:= #[.int .i64 id,.int .i64 t,.int .i64 ct]) (t:=145) (by simp);have pJ: ¬A ((wc.heap.size+1)):=fun q=>absurd (h7.lt _ q) (by simp);have nk:qD A (((wc.alloc (Obj.cells #[.int .i64 s.nx,.int .u64 (20000+id*1024),.int .u32 (16*l.length),.int .u16 id,.int .u16 fl] 139)).setCell ⟨S,19,none⟩ (.slice (some ⟨wc.heap.size,0,none⟩) 1 1)).alloc (Obj.cells #[.int .i64 id,.int .i64 t,.int .i64 ct] 145)) (.pointer (some ⟨(wc.heap.size+1),0,none⟩)) ⟨id,t,ct⟩:=⟨(wc.heap.size+1),rfl,pJ,fun j y hy=>by rw [yaf];exact kO.cell j y hy⟩;have h8:=(h7.below yt).TU nk;have dm:=zag (Dw.Mv.refl (· =S) (((wc.alloc (Obj.cells #[.int .i64 s.nx,.int .u64 (20000+id*1024),.int .u32 (16*l.length),.int .u16 id,.int .u16 fl] 139)).setCell ⟨S,19,none⟩ (.slice (some ⟨wc.heap.size,0,none⟩) 1 1)).alloc (Obj.cells #[.int .i64 id,.int .i64 t,.int .i64 ct] 145))) S 17 (.pointer (some ⟨(wc.heap.size+1),0,none⟩)) rfl;have o8:=yQ.set 17 (.pointer (some ⟨(wc.heap.size+1),0,none⟩)) (by show 17<27;decide);have Li:=nk.aZ (A':=A) (fun _ _ q=>q) fun b hb hn=>dm.block b hb fun e=>hn (by have e:b=S:=e;exact e▸h.f.aS);have uL:Cl ((((wc.alloc (Obj.cells #[.int .i64 s.nx,.int .u64 (20000+id*1024),.int .u32 (16*l.length),.int .u16 id,.int .u16 fl] 139)).setCell ⟨S,19,none⟩ (.slice (some ⟨wc.heap.size,0,none⟩) 1 1)).alloc (Obj.cells #[.int .i64 id,.int .i64 t,.int .i64 ct] 145)).setCell ⟨S,17,none⟩ (.pointer (some ⟨(wc.heap.size+1),0,none⟩))) S (({ s with sg:=l,pu:=s.puts r.n id l,c:=⟨id,t,ct⟩ }:DS).row r P I Eh (.pointer (some ⟨(wc.heap.size+1),0,none⟩)) Eg Eb):=o8;replace hlt:aA _:=⟨hlt⟩;go_wp2_with fail;generalize ((((wc.alloc (Obj.cells #[.int .i64 s.nx,.int .u64 (20000+id*1024),.int .u32 (16*l.length),.int .u16 id,.int .u16 fl] 139)).setCell ⟨S,19,none⟩ (.slice (some ⟨wc.heap.size,0,none⟩) 1 1)).alloc (Obj.cells #[.int .i64 id,.int .i64 t,.int .i64 ct] 145)).setCell ⟨S,17,none⟩ (.pointer (some ⟨(wc.heap.size+1),0,none⟩)))=w8 at*;clear El g17;have kT:=uL.cell 15 _ rfl;have z17:=uL.cell 17 _ rfl;obtain ⟨vs,i1,i2,i3⟩:=h8.ids;have zI:=i1.cell id _ (yai (by omega));have fI:=i1.free id;have Aw:=mF.add ⟨vs,i1,i2,i3⟩ hfree h8.aI Av Li;clear i3;go_cut [] from 128 to 137 (fun wx=>aQ (fo s.ph) True A wx S P L Bs B I N r ({ s with sg:=l,pu:=s.puts r.n id l,c:=⟨id,t,ct⟩,L:=s.L++ [⟨id,t,ct⟩] }:DS) g∧Cl wx S (({ s with sg:=l,pu:=s.puts r.n id l,c:=⟨id,t,ct⟩ }:DS).row r P I Eh (.pointer (some ⟨(wc.heap.size+1),0,none⟩)) Eg Eb)∧Dw.Mv (· =I) w8 wx)
    case first=>
      go_region_law fail
      all_goals
        go_wp2_with fail;go_meet;have Dk:=(zag (Dw.Mv.refl (· =I) w8) I id (.pointer (some ⟨(wc.heap.size+1),0,none⟩)) rfl);have Dl:=Dk.trans (ah ((yab _ _).drew));exact ⟨(h8.Nc Dk Aw).below ((yab _ _).drew),uL.kept (Dl.block S uL.lt h.f.ne),Dl⟩
    case rest=>
      obtain ⟨h9,o9,mK⟩:=hcut;clear kT z17 zI fI;have yX:=o9.cell 14 _ rfl;have f14:=o9.free 14;have h10:=h9.setRow (s':= { s with sg:=l,pu:=s.puts r.n id l,c:=⟨id,t,ct⟩,L:=s.L++ [⟨id,t,ct⟩],own:=s.own-ct }) 14 (.int .i64 (s.own-ct)) (by decide) (fun _ _ _ _=>rfl) rfl rfl rfl rfl;have oh:=zag (Dw.Mv.refl (· =S) wc) S 14 (.int .i64 (s.own-ct)) rfl;generalize Dy:wc.setCell ⟨S,14,none⟩ (.int .i64 (s.own-ct))=oJ at h10 oh;have qO:=(yab oJ.heap.size oJ).alloc (yaa _) (Obj.cells #[.func (.func 70) #[.pointer (some ⟨S,0,none⟩)] #[],.func (.func 71) #[.pointer (some ⟨S,0,none⟩)] #[],.func (.func 72) #[.pointer (some ⟨S,0,none⟩)] #[],.func (.func 71) #[.pointer (some ⟨S,0,none⟩)] #[],.func (.func 73) #[.pointer (some ⟨S,0,none⟩)] #[]] 155);have hst:=jK.new (A:=A) (S:=S) (w:=oJ) (l:=fo 1) (cs:= #[.func (.func 70) #[.pointer (some ⟨S,0,none⟩)] #[],.func (.func 71) #[.pointer (some ⟨S,0,none⟩)] #[],.func (.func 72) #[.pointer (some ⟨S,0,none⟩)] #[],.func (.func 71) #[.pointer (some ⟨S,0,none⟩)] #[],.func (.func 73) #[.pointer (some ⟨S,0,none⟩)] #[]]) h10.lt 155 rfl;rw [show oJ.heap.size=wc.heap.size from by rw [←Dy];simp,show (fo 1).length=5 from rfl] at hst;have hbg:=zig (h10.below qO) hst 1 t 0 false false;subst Dy;go_wp2_with (first
        | (go_at_call 69;refine hbg.mono ?_;rintro e Hy ⟨rfl,h12,LX⟩)
        | go_in)
      go_ret;refine ⟨rfl,⟨(h12.AU fun _=>trivial).alt (fun _ _ _ _=>rfl) rfl rfl rfl rfl,hpb⟩,?_⟩;exact (((((LW.trans (ah yt)).trans (dm.mono fun b q=> .inl q)).trans (mK.mono fun b q=> .inr q)).trans (oh.mono fun b q=> .inl q)).trans (ah qO)).trans (LX.mono fun b q=> .inl q)
  · exact absurd (gD.symm.trans hTe.out) (by decide)
  · exact absurd (gD.symm.trans hTe.out) (by decide)
end
end Go.Proofs
namespace Go.Proofs
open Go.Dw Go.RowKit Go.Maps Go.Sort Go.Deep
structure Tryz.aac (A:Nat→Prop) (S:Nat) (w:World) (l:List Pt) (args:Array Value):Prop where
 h:Calls prog 68 args w fun e w'=>(∃u t,e= .returned (.tuple #[u,.int .i64 0])∧af t 5 w' w.heap.size u l.length (dY l))∧Below w.heap.size w w'
section
variable {fns gW:List Nat} {nw ji:Prop} {A A':Nat→Prop} {w w':World} {S P L Bs B I N:Nat} {r:Tryz.Rg} {s s':Tryz.DS} {g g':Nat→Int}
set_option maxRecDepth 100000 in
theorem Tryz.zrw (h:DW A w S P L Bs B I N r s g) {v:Value} {l:List Sg} (hv:bC A w v l) (hl:l.length≤100000) {t:Int} (l8:t<9223372036854775808) (aF:(di N r.n s t l).1=0) (nu:s.tab l=false):
    Calls prog 13 #[.pointer (some ⟨S,0,none⟩),.int .i64 t,v] w fun e w'=>e= .returned (.int .i64 0)∧DW A w' S P L Bs B I N r (di N r.n s t l).2 g∧Dw.Mv (fun b=>b=S∨b=I) w w':=by
  have hrd:=Ja h;unfold DS.A7 at hrd;have hN:=h.f.hN;have hF:=h.f.fit;have hbn:=h.f.rg.bnd;have hlt:=h.f.lG;obtain ⟨sa,c,oF,hok,_⟩:=id hv;subst oF;have hpb:=h.pb.off (N:=N) (t:=t) ⟨hbn.1,hbn.2⟩ l8 hok;have hin2:=fun (w1:World) (hb:Below w.heap.size w w1)=>Qg (h.f.mem.below hb) hN (by omega) (hv.below hb) (by omega);have hout:=JE h;have hany:=O3 s t;have hol:s.outs.length≤100000:=by
    unfold DS.outs;rw [ycu,yaK];have:=gT fun x hx=>(h.pb.el x hx).2.2.1;have:=h.pb.sum;have:=h.pb.own;omega
  have hcon: ∀(w1:World) (u:Value),af 3 1 w1 w.heap.size u s.outs.length (bA s.outs)→Calls prog 62 #[u,.int .i64 t] w1 fun e w'=>e= .returned (.bool (s.L.any fun e=>e.tk==t))∧w'=w1:=fun w1 u hu=>by
    obtain ⟨su,cu,rfl,hr⟩:=af.row hu;have:=Oi (w:=w1) (sa:=su) (c:=cu) (l:=s.outs) (by
      rcases hr with hr|⟨G,e,_,hr⟩
      · exact .inl (yde.1 hr)
      · exact .inr ⟨G,0,e,hr⟩) hol t
    rw [hany] at this;exact this
  clear hany;unfold di at aF hpb ⊢;by_cases hb:s.br=true
  · rw [yak hb] at aF;exact absurd aF (show¬(4:Int)=0 by decide)
  rw [yah hb] at hrd aF hpb ⊢;by_cases hp:s.ph≠0
  · rw [yak hp] at aF;exact absurd aF (show¬(8:Int)=0 by decide)
  rw [yah hp] at hrd aF hpb ⊢;by_cases htk:t<0∨(s.L.any fun e=>e.tk==t)=true
  · rw [yak htk] at aF;exact absurd aF (show¬(2:Int)=0 by decide)
  rw [yah htk] at aF hpb ⊢;have ht':decide (t<0)=false:=yao fun q=>htk (.inl q);have sM:(s.L.any fun e=>e.tk==t)=false:=by
    cases q:(s.L.any fun e=>e.tk==t) with
    | false=>rfl
    | true=>exact absurd (.inr q) htk
  rw [sM] at hcon;by_cases hin:iB N l≠0
  · rw [yak hin] at aF;exact absurd aF hin
  rw [yah hin] at aF hpb ⊢;rw [yaz.1 hin] at hin2;by_cases hl0:l.length=0
  · rw [yak hl0] at aF;exact absurd aF (show¬(2:Int)=0 by decide)
  rw [yah hl0] at aF hpb ⊢;have Gv:=(nS (yaz.1 hin)).1;have hbe:eD l=0:=by
    unfold eD;rw [(nS (yaz.1 hin)).2,yah (by decide),yah hl0]
  simp only at aF hpb ⊢;by_cases hfull:s.own<s.need l∨r.n≤(dD s.L r.n.toNat 0:Nat)
  · rw [yak hfull] at aF;exact absurd aF (show¬(7:Int)=0 by decide)
  rw [yah hfull] at aF hpb ⊢;clear aF;simp only at hpb ⊢;obtain ⟨T,hT⟩: ∃T,(s.tb&&decide ((1:Int)<l.length))=T:=⟨_,rfl⟩;have fG:s.tab l=T:=by
    unfold DS.tab;rw [←hT];congr 1;exact ya4.2 (by omega)
  have hTe:T=false:=fG.symm.trans nu;replace hTe:aA _:=⟨hTe⟩;clear nu;have bZ:s.need l=if T=true then 1 else (l.length:Int):=by unfold DS.need;rw [fG]
  have hnd:=fun w1 hb=>OB (w:=w1) (hv.below hb) T;simp only [yah (show¬eD l≠0 from fun q=>q hbe)] at hnd;rw [←bZ] at hnd;obtain ⟨ct,hct⟩: ∃ct,ct=s.need l:=⟨_,rfl⟩;obtain ⟨f1,f2,f3,f4⟩:=uX s.L r.n.toNat 0;have hidx:=fun w1 (hb:Below w.heap.size w w1)=>OJ (h.below hb).f.ids (by omega);rw [yak (show dD s.L r.n.toNat 0<r.n.toNat by omega)] at hidx;have hfree:=f4 (by omega);obtain ⟨id,hid⟩: ∃id:Nat,id=dD s.L r.n.toNat 0:=⟨_,rfl⟩;rw [←hid] at hidx hfree hfull hpb ⊢;rw [←hct] at hnd bZ hfull hpb ⊢;have Av:id<r.n.toNat:=by omega
  have yA:(id:Int)<r.n.toNat:=by omega
  have hidJ: ¬(r.n.toNat:Int)≤id:=by omega
  have hmx:max r.n 0=r.n:=by omega
  have aaL:(id:Int)<r.n:=by omega
  have uE:decide ((id:Int)<0)=false:=yao (by omega);have hown2:decide (s.own<ct)=false:=yao (by omega);have hown0:=h.pb.own;have Gn:1≤ct∧ct≤s.own:=⟨by rw [bZ];split<;>omega,by omega⟩;have jB:T=false→(l.length:Int)≤r.n:=fun q=>by
    rw [q] at bZ;have h1:=h.pb.sum;have h2:=gT fun x hx=>(h.pb.el x hx).2.2.1;simp at bZ;omega
  have GJ:IntKind.wrap .i64 (s.own-ct)=s.own-ct:=dV (by omega) (by have:=h.pb.sum;have:=gT fun x hx=>(h.pb.el x hx).2.2.1;omega);have kK:=h.f.obj;have hc0: ∀w1,Below w.heap.size w w1→w1.cell? ⟨S,0,none⟩=some (.pointer (some ⟨P,0,none⟩)):=fun w1 hb=>by
    obtain ⟨aT,aU,au,aj,h1,_⟩:=kK;exact (h1.below hb h1.lt).cell 0 _ rfl
  have gM: ∀w1,Below w.heap.size w w1→w1.cell? ⟨S,7,none⟩=some (.bool s.tb):=fun w1 hb=>by
    obtain ⟨aT,aU,au,aj,h1,_⟩:=kK;exact (h1.below hb h1.lt).cell 7 _ rfl
  have nZ: ∀w1,Below w.heap.size w w1→w1.cell? ⟨S,15,none⟩=some (.slice (some ⟨I,0,none⟩) r.n.toNat r.n.toNat):=fun w1 hb=>by
    obtain ⟨aT,aU,au,aj,h1,_⟩:=kK;exact (h1.below hb h1.lt).cell 15 _ rfl
  have iX: ∀w1,Below w.heap.size w w1→w1.cell? ⟨S,14,none⟩=some (.int .i64 s.own):=fun w1 hb=>by
    obtain ⟨aT,aU,au,aj,h1,_⟩:=kK;exact (h1.below hb h1.lt).cell 14 _ rfl
  have hl1:(1:Int)≤l.length:=by omega
  have e1:IntKind.wrap .u64 (id:Int)=id:=wrap_u64 _ (by omega) (by omega);have e2:IntKind.wrap .u64 ((id:Int)*1024)=(id:Int)*1024:=wrap_u64 _ (by omega) (by omega);have e3:IntKind.wrap .u64 (20000+(id:Int)*1024)=20000+(id:Int)*1024:=wrap_u64 _ (by omega) (by omega);have hb0:((l.length:Int)==0)=false:=by simpa using hl0
  have jU:s.ph=0:=yaz.1 hp;have hdF:fo s.ph= []:=by rw [jU];rfl
  replace jB:aA _:=⟨jB⟩;replace jU:aA _:=⟨jU⟩;have hput:aA (s.puts r.n id l=if T=true then [zip id s.nx (jF id) l.length s.nw] else dN r.n id s.nx s.nw l l.length):=⟨by unfold DS.puts;rw [fG]⟩;have lY:s.tb=true∨s.tb=false:=by cases s.tb<;>simp
  replace hbe:aA _:=⟨hbe⟩;replace hct:aA _:=⟨hct⟩;clear hb hp htk sM hin hl0 fG bZ hfull f1 f2 f3 f4 hid hol;have uj:(s.tb=true∧T=true)∨(s.tb=true∧T=false)∨(s.tb=false∧T=false):=by
    rcases lY with q|q
    · cases T
      · exact .inr (.inl ⟨q,rfl⟩)
      · exact .inl ⟨q,rfl⟩
    · rw [q,yb2] at hT;exact .inr (.inr ⟨q,hT.symm⟩)
  clear lY;rcases uj with ⟨htb,gD⟩|⟨htb,gD⟩|⟨htb,gD⟩
  · exact absurd (gD.symm.trans hTe.out) (by decide)
  all_goals
    rw [htb] at hT gM
    first|rw [ybr] at hT|skip
    subst gD;clear htb hTe;go_enter func13,ntmps13;go_wp2_with (first
      | (go_at_call 61;refine hrd.mono ?_;rintro e w' ⟨rfl,hw⟩;have hw:=hw.symm;subst hw)
      | (go_at_call 30;refine hout.mono ?_;rintro e w1 ⟨u,rfl,hu,hb1⟩)
      | (go_at_call 62;refine (hcon _ _ hu).mono ?_;rintro e w' ⟨rfl,hw⟩;have hw:=hw.symm;subst hw;have x0:=hc0 _ hb1)
      | (go_at_call 63;refine (hin2 _ hb1).mono ?_;rintro e w2 ⟨rfl,hb2⟩;have bI:=hb1.trans (hb2.mono hb1.size);have x7:=gM _ bI)
      | go_in)
    have hbd:=(yab w2.heap.size w2).drew;have l6:=bI.trans (hbd.mono bI.size);have mh:=nZ _ bI;have kT:=nZ _ l6;go_region_held3 (fun w'=>w'.cell? ⟨S,15,none⟩=some (.slice (some ⟨I,0,none⟩) r.n.toNat r.n.toNat)) (go_keep)
      ((first
        | (go_at_call 64;refine (hnd _ l6).mono ?_;rintro en w3 ⟨rfl,hb3⟩;have jy:=l6.trans (hb3.mono l6.size);have v15:=nZ _ jy)
        | (go_at_call 65;refine (hidx _ jy).mono ?_;rintro en w' ⟨rfl,hw⟩;have hw:=hw.symm;subst hw)))
    have Bd:=iX _ jy;have h3:=h.f.below jy;have hcl:=VY (hv.below jy) (by omega);have Dt:=jy.size;go_wp2_with (first
      | (go_at_call 66;refine hcl.mono ?_;rintro en w4 ⟨u4,rfl,nA,hb4⟩;have h4:=h3.below hb4;have Mk:=fM.Bb nA hok (A:=A) (fun b q1 q2=>by have:=h.f.lt b q2;omega);obtain ⟨uO,tX,hue,_⟩:=fM.slice nA;subst hue;obtain ⟨Nh,MH,abx,MR,o4,_⟩:=h4.obj;have x18:=o4.cell 18 _ rfl;have f18:=o4.free 18;have h5:=h4.TW Mk;have aH:=zag (Dw.Mv.refl (· =S) w4) S 18 (.slice uO l.length tX) rfl;have o5:=o4.set 18 (.slice uO l.length tX) (by show 18<27;decide))
      | go_in)
    generalize w4.setCell ⟨S,18,none⟩ (.slice uO l.length tX)=w5 at*;have iY:Dw.Mv (fun b=>b=S∨b=I) w w5:=((ah jy).trans (ah hb4)).trans (aH.mono fun b q=> .inl q);clear x18 f18 Bd x0 x7 mh kT v15 hcl hrd hin2 hout hcon hnd hidx kK hc0 gM nZ iX ht' hu uE hown2 hb1 hb2 bI hbd l6 hb3 h3 h4 o4 hb0;have ic:Cl w5 S (({ s with sg:=l }:DS).row r P I Nh MH (.slice uO l.length tX) MR):=o5;have x10:=ic.cell 10 (.int .i64 s.nx) rfl;have rE:=ic.cell 11 (.bool s.nw) rfl;have x2:=ic.cell 2 (.int .i64 r.n) rfl;have x9:=ic.cell 9 (.int .u64 20000) rfl;have aC:=ic.cell 19 _ rfl;have f19:=ic.free 19;have hv5:=hv.aZ (A':=A) (fun _ _ q=>q) fun b hb hn=>iY.block b hb fun e=>by
      rcases e with e|e
      · exact hn (e▸h.f.aS)
      · exact hn (e▸h.f.aI)
    have hpk:=fun w' (hb:Below w5.heap.size w5 w')=>zmN (A:=A) (w:=w') (n:=r.n) (id:=id) (a:=s.nx) (x:=s.nw) (hv5.below hb) hbe.out ⟨hbn.1,by omega⟩ (jB.out (by first|rfl|trivial)) h.pb.nx ⟨by omega,by omega⟩;unfold bM at hpk;replace hpk: ∀w',Below w5.heap.size w5 w'→aac A S w' (s.puts r.n id l) #[.agg #[.int .i64 s.nx,.bool s.nw],.int .i64 r.n,.int .i64 id,.slice sa l.length c]:=fun w' hb=>⟨by
      have:=hput.out
      first|rw [yah (show¬(false=true) from by decide)] at this|rw [yah (show¬False from id)] at this|skip
      rw [this];exact hpk w' hb⟩
    replace hlt:aA _:=⟨hlt⟩;go_wp2_with fail;go_cut [] from 102 to 119 (fun wx=>aQ (fo s.ph) False A wx S P L Bs B I N r ({ s with sg:=l,pu:=s.puts r.n id l }:DS) g∧Dw.Mv (· =S) w5 wx)
    case first=>
      have hbD:=(yab w5.heap.size w5).drew;have od:=ic.below hbD ic.lt;have d10:=od.cell 10 (.int .i64 s.nx) rfl;have d11:=od.cell 11 (.bool s.nw) rfl;have d2:=od.cell 2 (.int .i64 r.n) rfl;go_region_held3 (fun w'=>w'.cell? ⟨S,10,none⟩=some (.int .i64 s.nx)∧w'.cell? ⟨S,11,none⟩=some (.bool s.nw)∧w'.cell? ⟨S,2,none⟩=some (.int .i64 r.n)) (first|go_keep|(rw [yaN _ ⟨S,19,none⟩ ⟨S,10,none⟩ _ (by simp),yaN _ ⟨S,19,none⟩ ⟨S,11,none⟩ _ (by simp),yaN _ ⟨S,19,none⟩ ⟨S,2,none⟩ _ (by simp)];exact ⟨by assumption,by assumption,by assumption⟩))
        ((first
          | (go_at_call 68;refine (hpk (w5.drew) hbD).h.mono ?_;rintro en w9 ⟨⟨u9,t9,rfl,wI⟩,dI⟩;have fU:=hbD.trans (dI.mono (yaa _));have Dj:=af.lt wI;obtain ⟨rz,qF,Dv,iG⟩:=af.row wI;subst Dv;have on:=od.below dI od.lt;have v10:=on.cell 10 (.int .i64 s.nx) rfl;have v11:=on.cell 11 (.bool s.nw) rfl;have v2:=on.cell 2 (.int .i64 r.n) rfl;have v19:=on.cell 19 _ rfl;have u19:=on.free 19)))
      all_goals
        go_wp2_with fail;go_meet;have uh:gV A w9 (.slice rz (s.puts r.n id l).length qF) (s.puts r.n id l):=by
          refine ⟨rz,qF,rfl,?_⟩;rcases iG with iG|⟨G,e,e2,iG⟩
          · refine .inl ?_;cases hq:s.puts r.n id l with
            | nil=>rfl
            | cons x y=>rw [hq] at iG;simp [dY,Pt.cells] at iG
          · exact .inr ⟨G,0,e,fun q=>by have h1:=h5.lt _ q;have h2:=(Dj _ e2).1;have h3:w5.heap.size≤G:=h2;omega,iG⟩
        have mK:=(ah fU).trans (zag (Dw.Mv.refl (· =S) w9) S 19 (.slice rz (s.puts r.n id l).length qF) rfl);exact ⟨((h5.below fU).TV uh).AU False.elim,mK⟩
    case rest=>
    obtain ⟨h7,LZ⟩:=hcut;have LW:=iY.trans (LZ.mono fun b q=> .inl q);clear x10 rE x2 x9 aC f19;have yt:=(yab wc.heap.size wc).alloc (yaa _) (Obj.cells #[.int .i64 id,.int .i64 t,.int .i64 ct] 145);obtain ⟨Eh,abj,Eg,Eb,o7,_⟩:=h7.obj;have yQ:=o7.below yt o7.lt;have El:=yQ.cell 17 _ rfl;have g17:=yQ.free 17;have kO:=Cl.new2 (w:=wc) (b:=wc.heap.size) (arr:= #[.int .i64 id,.int .i64 t,.int .i64 ct]) (t:=145) (by simp);have pJ: ¬A (wc.heap.size):=fun q=>absurd (h7.lt _ q) (by simp);have nk:qD A (wc.alloc (Obj.cells #[.int .i64 id,.int .i64 t,.int .i64 ct] 145)) (.pointer (some ⟨wc.heap.size,0,none⟩)) ⟨id,t,ct⟩:=⟨wc.heap.size,rfl,pJ,fun j y hy=>by rw [yaf];exact kO.cell j y hy⟩;have h8:=(h7.below yt).TU nk;have dm:=zag (Dw.Mv.refl (· =S) (wc.alloc (Obj.cells #[.int .i64 id,.int .i64 t,.int .i64 ct] 145))) S 17 (.pointer (some ⟨wc.heap.size,0,none⟩)) rfl;have o8:=yQ.set 17 (.pointer (some ⟨wc.heap.size,0,none⟩)) (by show 17<27;decide);have Li:=nk.aZ (A':=A) (fun _ _ q=>q) fun b hb hn=>dm.block b hb fun e=>hn (by have e:b=S:=e;exact e▸h.f.aS);have uL:Cl ((wc.alloc (Obj.cells #[.int .i64 id,.int .i64 t,.int .i64 ct] 145)).setCell ⟨S,17,none⟩ (.pointer (some ⟨wc.heap.size,0,none⟩))) S (({ s with sg:=l,pu:=s.puts r.n id l,c:=⟨id,t,ct⟩ }:DS).row r P I Eh (.pointer (some ⟨wc.heap.size,0,none⟩)) Eg Eb):=o8;replace hlt:aA _:=⟨hlt⟩;go_wp2_with fail;generalize ((wc.alloc (Obj.cells #[.int .i64 id,.int .i64 t,.int .i64 ct] 145)).setCell ⟨S,17,none⟩ (.pointer (some ⟨wc.heap.size,0,none⟩)))=w8 at*;clear El g17;have kT:=uL.cell 15 _ rfl;have z17:=uL.cell 17 _ rfl;obtain ⟨vs,i1,i2,i3⟩:=h8.ids;have zI:=i1.cell id _ (yai (by omega));have fI:=i1.free id;have Aw:=mF.add ⟨vs,i1,i2,i3⟩ hfree h8.aI Av Li;clear i3;go_cut [] from 128 to 137 (fun wx=>aQ (fo s.ph) True A wx S P L Bs B I N r ({ s with sg:=l,pu:=s.puts r.n id l,c:=⟨id,t,ct⟩,L:=s.L++ [⟨id,t,ct⟩] }:DS) g∧Cl wx S (({ s with sg:=l,pu:=s.puts r.n id l,c:=⟨id,t,ct⟩ }:DS).row r P I Eh (.pointer (some ⟨wc.heap.size,0,none⟩)) Eg Eb)∧Dw.Mv (· =I) w8 wx)
    case first=>
      go_region_law fail
      all_goals
        go_wp2_with fail;go_meet;have Dk:=(zag (Dw.Mv.refl (· =I) w8) I id (.pointer (some ⟨wc.heap.size,0,none⟩)) rfl);have Dl:=Dk.trans (ah ((yab _ _).drew));exact ⟨(h8.Nc Dk Aw).below ((yab _ _).drew),uL.kept (Dl.block S uL.lt h.f.ne),Dl⟩
    case rest=>
      obtain ⟨h9,o9,mK⟩:=hcut;clear kT z17 zI fI;have yX:=o9.cell 14 _ rfl;have f14:=o9.free 14;have h10:=h9.setRow (s':= { s with sg:=l,pu:=s.puts r.n id l,c:=⟨id,t,ct⟩,L:=s.L++ [⟨id,t,ct⟩],own:=s.own-ct }) 14 (.int .i64 (s.own-ct)) (by decide) (fun _ _ _ _=>rfl) rfl rfl rfl rfl;have oh:=zag (Dw.Mv.refl (· =S) wc) S 14 (.int .i64 (s.own-ct)) rfl;generalize Dy:wc.setCell ⟨S,14,none⟩ (.int .i64 (s.own-ct))=oJ at h10 oh;have qO:=(yab oJ.heap.size oJ).alloc (yaa _) (Obj.cells #[.func (.func 70) #[.pointer (some ⟨S,0,none⟩)] #[],.func (.func 71) #[.pointer (some ⟨S,0,none⟩)] #[],.func (.func 72) #[.pointer (some ⟨S,0,none⟩)] #[],.func (.func 71) #[.pointer (some ⟨S,0,none⟩)] #[],.func (.func 73) #[.pointer (some ⟨S,0,none⟩)] #[]] 155);have hst:=jK.new (A:=A) (S:=S) (w:=oJ) (l:=fo 1) (cs:= #[.func (.func 70) #[.pointer (some ⟨S,0,none⟩)] #[],.func (.func 71) #[.pointer (some ⟨S,0,none⟩)] #[],.func (.func 72) #[.pointer (some ⟨S,0,none⟩)] #[],.func (.func 71) #[.pointer (some ⟨S,0,none⟩)] #[],.func (.func 73) #[.pointer (some ⟨S,0,none⟩)] #[]]) h10.lt 155 rfl;rw [show oJ.heap.size=wc.heap.size from by rw [←Dy];simp,show (fo 1).length=5 from rfl] at hst;have hbg:=zig (h10.below qO) hst 1 t 0 false false;subst Dy;go_wp2_with (first
        | (go_at_call 69;refine hbg.mono ?_;rintro e Hy ⟨rfl,h12,LX⟩)
        | go_in)
      go_ret;refine ⟨rfl,⟨(h12.AU fun _=>trivial).alt (fun _ _ _ _=>rfl) rfl rfl rfl rfl,hpb⟩,?_⟩;exact (((((LW.trans (ah yt)).trans (dm.mono fun b q=> .inl q)).trans (mK.mono fun b q=> .inr q)).trans (oh.mono fun b q=> .inl q)).trans (ah qO)).trans (LX.mono fun b q=> .inl q)
end
theorem Tryz.zt6 {A:Nat→Prop} {w:World} {S P L Bs B I N:Nat} {r:Rg} {s:DS} {g:Nat→Int} (h:DW A w S P L Bs B I N r s g) {v:Value} {l:List Sg} (hv:bC A w v l) (hl:l.length≤100000) {t:Int} (l8:t<9223372036854775808) (aF:(di N r.n s t l).1=0):
  Calls prog 13 #[.pointer (some ⟨S,0,none⟩),.int .i64 t,v] w fun e w'=>e= .returned (.int .i64 0)∧DW A w' S P L Bs B I N r (di N r.n s t l).2 g∧Dw.Mv (fun b=>b=S∨b=I) w w':=by
 cases hT:s.tab l with
 | true=>exact zrv h hv hl l8 aF hT
 | false=>exact zrw h hv hl l8 aF hT
end Go.Proofs
namespace Go.Proofs
open Go.Dw Go.RowKit Go.Maps Go.Sort Go.Deep
theorem Tryz.VZ (w:World) (t:TypeId) (sz:Nat):(w.alloc (Obj.cells #[] t)).ownsRow w.heap.size t sz (.slice (some ⟨w.heap.size,0,none⟩) 0 0) 0 []:=
 ⟨by simp,.inr ⟨_,0,_,rfl,yaa _,ycM w _,yaa _,yar _,by simp,by simp⟩⟩
set_option maxRecDepth 100000 in
theorem Tryz.zrQ {A:Nat→Prop} {w:World} {v:Value} {l:List Sg} (h:bC A w v l) (hl:l.length≤1000000):
    Calls prog 14 #[v] w fun e w'=> ∃u,e= .returned u∧fM w' w.heap.size u l∧Below w.heap.size w w':=by
  obtain ⟨sa,c,rfl,hok,hr⟩:=h;obtain ⟨i0,hi0,hz0,hz1,hzb⟩:=yba Ff;have pO:=Ep l;have hoe:=VZ w 137 3;have hb0:=(yab w.heap.size w).alloc (yaa _) (.cells #[] 137);cases sa with
  | none=>
    have h0:l= []:=by
      rcases hr with h|⟨R,o,h,_⟩
      · exact h
      · cases h
    subst h0;go_enter func14,ntmps14;go_wp2_with fail;go_ret;exact ⟨_,rfl,hoe,hb0⟩
  | some ad=>
    have hnews: ∀j u,(dA l)[j]? =some u→(w.alloc (.cells #[] 137)).cell? (ad.add j)=some u:=fun j u hj=>by
      rcases hr with h|⟨R,o,h,_,hr⟩
      · subst h;cases hj
      · cases h;have hlt:R<w.heap.size:=yan w _ (hr j u hj);rw [Dw.addr_add];exact (yal (a:=⟨R,o+j,none⟩) (ycd w _ R hlt)).trans (hr j u hj)
    have hlen:=yY l;go_enter func14,ntmps14;go_wp2_with (first
      | (at_builtin;go_loud (refine ybk _ rfl _ _ 49 rfl w.heap.size 137 i0 _ 3 16 (by kernel_rfl) hi0 hz0 hz1 hzb rfl (by decide) (.slice (some ⟨w.heap.size,0,none⟩) 0 0) 0 [] rfl hoe ad l.length c (dA l) rfl (by omega) hnews pO (by unfold maxLen;omega) (by omega) (by simp) ?_);intro u wa h2 h3 h4 h5;go_frame)
      | go_in)
    go_ret;have jA:Below w.heap.size w wa:=⟨h3.os,h3.tape,h3.output,yas hb0.size h3.size,fun b hb=>(h3.block b (by simp;omega) (fun e=>by simp [Value.ownBlock] at e;omega)).trans (hb0.block b hb)⟩;exact ⟨_,rfl,by unfold fM;simpa using h2,jA⟩
set_option maxRecDepth 100000 in
theorem Tryz.zt0 {w:World} {G o c:Nat} {xs:List Int} (hG:w.rangeAt G o (aN xs)) (hl:xs.length≤1000) (hl0:0<xs.length):
    Calls prog 23 #[.slice (some ⟨G,o,none⟩) xs.length c] w fun e w'=> ∃u,e= .returned u∧af 5 1 w' w.heap.size u xs.length (aN xs)∧Below w.heap.size w w':=by
  obtain ⟨i,hi,i1,i2,i3⟩:=yba FO;have hoe:=VZ w 5 1;have hlen:(aN xs).length=xs.length:=by simp [aN]
  have hone: ∀u∈aN xs,u.oneCell'=true:=fun u hu=>by
    obtain ⟨x,_,rfl⟩:=yaY.1 hu;rfl
  have mH:G<w.heap.size:=yan w _ (hG 0 _ (yai (by rw [hlen];exact hl0)));have hba:=(yab w.heap.size w).alloc (yaa _) (Obj.cells #[] 5);have hnews: ∀j u,(aN xs)[j]? =some u→(w.alloc (Obj.cells #[] 5)).cell? ((⟨G,o,none⟩:Addr).add j)=some u:=fun j u hj=>by
    rw [Dw.addr_add];exact (hba.cell (p:=⟨G,o+j,none⟩) mH).trans (hG j u hj)
  clear hl0;go_enter func23,ntmps23;go_wp2_with (first
    | (at_builtin;go_loud (refine ybk _ rfl _ _ 59 rfl w.heap.size 5 i _ 1 1 (by kernel_rfl) hi i1 i2 i3 rfl (by decide) (.slice (some ⟨w.heap.size,0,none⟩) 0 0) 0 [] rfl hoe ⟨G,o,none⟩ xs.length c (aN xs) rfl (by omega) hnews hone (by unfold maxLen;omega) (by omega) (by simp) ?_);intro u wa h2 h3 h4 h5;go_frame)
    | go_in)
  go_ret;have jA:Below w.heap.size w wa:=⟨h3.os,h3.tape,h3.output,yas hba.size h3.size,fun b hb=>(h3.block b (by simp;omega) (fun e=>by simp [Value.ownBlock] at e;omega)).trans (hba.block b hb)⟩;refine ⟨u,rfl,?_,jA⟩;unfold af;simpa using h2
set_option maxRecDepth 100000 in
theorem Tryz.zpv {x:Bool} (w:World):
  Calls prog 21 #[.int .u16 0,.bool x,.bool true] w fun e w'=>e= .returned (.int .u16 (if x then 32896 else 0))∧w'=w:=by
 cases x
 all_goals
  go_enter func21,ntmps21;go_wp2_with fail;go_ret;exact ⟨rfl,rfl⟩
theorem Tryz.Y9 {N:Nat} {n:Int} {s:DS} {t:Int} {l:List Sg} (h:(di N n s t l).1≠0):(di N n s t l).2=s:=by
 unfold di at h ⊢;split
 ·rfl
 ·split
  ·rfl
  ·split
   ·rfl
   ·split
    ·rfl
    ·split
     ·rfl
     ·rename_i h1 h2 h3 h4 h5;rw [yah h1,yah h2,yah h3,yah h4,yah h5] at h;simp only at h ⊢;split
      ·rfl
      ·rename_i h6;rw [yah h6] at h;exact absurd rfl h
section
variable {A:Nat→Prop} {w:World} {S P L Bs B I N b2:Nat} {r:Tryz.Rg} {s:Tryz.DS} {g:Nat→Int} {lv:Value}
theorem Tryz.zwD (h:DW A w S P L Bs B I N r s g) {v:Value} {l:List Sg} (hv:bC A w v l) (hl:l.length≤100000) {t:Int} (ht:t<9223372036854775808):
  Calls prog 13 #[.pointer (some ⟨S,0,none⟩),.int .i64 t,v] w fun e w'=>e= .returned (.int .i64 (di N r.n s t l).1)∧DW A w' S P L Bs B I N r (di N r.n s t l).2 g∧Dw.Mv (dK S I B) w w':=by
 by_cases h0:(di N r.n s t l).1=0
 ·rw [h0];exact (zt6 h hv hl ht h0).mono fun e w' hh=>⟨hh.1,hh.2.1,hh.2.2.mono fun b q=>q.elim .inl fun q=> .inr (.inl q)⟩
 ·have e:=Y9 h0;rw [e];exact (zt7 h hv hl h0).mono fun e w' hh=>⟨hh.1,h.below hh.2,ah hh.2⟩
theorem Tryz.zxM (h:YW A w S P L Bs B N b2 r s g lv) {v:Value} {l:List Sg} (hv:bC A w v l) (hl:l.length≤60000) {t:Int} (ht:t<9223372036854775808):
  Calls prog 15 #[.pointer (some ⟨S,0,none⟩),.int .i64 t,v] w fun e w'=>e= .returned (.int .i64 (di N r.n s t l).1)∧ ∃bG,YW A w' S P L Bs B N b2 r (di N r.n s t l).2 g bG∧(∀b,bG.ownBlock=some b→lv.ownBlock=some b∨w.heap.size≤b)∧Dw.Mv (fun b=>b=S∨b=B∨lv.ownBlock=some b) w w':=by
 by_cases h0:(di N r.n s t l).1=0
 ·rw [h0];refine (zvW h hv hl ht h0).mono fun e w' hh=> ?_;obtain ⟨h1,⟨bG,h2,h3⟩,h4⟩:=hh;exact ⟨h1,bG,h2,h3,h4.mono fun b q=>q.elim .inl fun q=> .inr (.inr q)⟩
 ·have e:=Y9 h0;rw [e];exact (zv0 h hv hl h0).mono fun e w' hh=>⟨hh.1,lv,h.below hh.2,fun b q=> .inl q,ah hh.2⟩
end
section
variable {n0:Nat} {Z Z':Nat→Prop} {w0 w w':World} {d:Tryz.fB} {r:Tryz.Rg} {s1 s1':Tryz.DS} {g1 g1':Nat→Int} {s2 s2':Tryz.DS} {g2 g2':Nat→Int}
theorem Tryz.Duo.abD (h:Duo n0 Z w d r s1 g1 s2 g2): ∀b,d.A b∨Z b→n0≤b:=fun b q=>by
 rcases q with q|q
 ·exact yc2 fun e=>h.st.ne.2.2.2.2.2 b e (.inl q)
 ·exact h.zl b q
theorem Tryz.zuu (h:Duo n0 Z w d r s1 g1 s2 g2) (hb:Below w.heap.size w w') {v:Value} {l:List Sg} (hv:bC (fun b=>b<w.heap.size) w' v l) (hl:l.length≤100000) {t:Int} (ht:t<9223372036854775808):
  Calls prog 13 #[.pointer (some ⟨d.S,0,none⟩),.int .i64 t,v] w' fun e w2=>e= .returned (.int .i64 (di 60000 r.n s1 t l).1)∧Duo n0 Z w2 d r (di 60000 r.n s1 t l).2 g1 s2 g2∧Dw.Mv (fun b=>n0≤b∧ ¬Z b) w' w2:=by
 obtain ⟨lv,h1,h2,h3⟩:=h.ex;have hlt:=h1.f.lt;exact (zwD (h1.below hb) (hv.aZ (fun b _ q=>hlt b q) fun _ _ _=>rfl) hl ht).mono fun e w2 hh=>⟨hh.1,(h.below hb).Nj (h2.below hb) (fun b e=>⟨(h3 b e).1,(h3 b e).2.1,yae (h3 b e).2.2 hb.size⟩) hh.2.1 hh.2.2⟩
theorem Tryz.zut (h:Duo n0 Z w d r s1 g1 s2 g2) {v:Value} {l:List Sg} (hv:bC (fun b=>n0≤b) w v l) (hl:l.length≤60000) {t:Int} (ht:t<9223372036854775808):
  Calls prog 15 #[.pointer (some ⟨d.S2,0,none⟩),.int .i64 t,v] w fun e w2=>e= .returned (.int .i64 (di 60000 r.n s2 t l).1)∧Duo n0 Z w2 d r s1 g1 (di 60000 r.n s2 t l).2 g2∧Dw.Mv (fun b=>n0≤b∧ ¬Z b) w w2:=by
 obtain ⟨lv,h1,h2,h3⟩:=h.ex;have hy:=h.abD;exact (zxM h2 (hv.aZ (fun b _ q=>hy b q) fun _ _ _=>rfl) hl ht).mono fun e w2 hh=>by
  obtain ⟨e1,bG,q1,q2,q3⟩:=hh;exact ⟨e1,h.Nk h1 h3 q1 q2 q3⟩
end
end Go.Proofs
namespace Go.Proofs
open Go.Dw Go.RowKit Go.Maps Go.Sort Go.Deep
set_option maxRecDepth 100000 in
theorem Tryz.zuC {W0 w:World} {n:Nat} {d:fB} {r:Rg} {av:Value} {j aC:Nat} {E:Int} {c:Dc} {s:DS} {g:Nat→Int} {tm:Array Value} (hf:Rf n d av j E aC tm) (jN:tm.getD 90 undef= .int .i64 0) (hw:Rw W0 d n r aC c w s g s g (jD 0 0 0) (jD 0 0 0)) (hI:DI s) (hco:c.ok W0) (hsl:c.sl.length≤100):
    (bS prog [1,0,1,1,0,0,1,0,0,1,0,1,1,1,1,1,1,1,1,1,1,3]).wp prog (zC W0 n d r av j aC c) ⟨tm,[]⟩ w:=by
  have hal:=hf.sz;obtain ⟨jf,dR⟩:=BR (t:=tm) hf.sz hf.t0 hf.t2 hf.t7 hf.t8 hf.t10 hf.t12 hf.t14 hf.t15 hf.t16 hf.t17 hf.t18 hf.t19 hf.t20 hf.t21 jN;rw [dR];clear dR hal hf jN;obtain ⟨sa,cs,hsv,l7,hsr⟩:=hco.sv;have htk:=hco.tk;have c1:=hw.act.cell 1 _ rfl;have c2:=hw.act.cell 2 _ rfl;rw [hsv] at c2;have hv0: ∀ {w'},Below W0.heap.size W0 w'→bC (fun b=>W0.heap.size≤b) w' (.slice sa c.sl.length cs) c.sl:=fun {w'} hb=>bC.aZ (A:=fun _=>False) (w:=W0) ⟨sa,cs,rfl,l7,hsr⟩ (fun b hb' q=>absurd q (by omega)) (fun b hb' _=>hb.block b hb');have hwd:=hw.below ((yab w.heap.size w).drew);clear hsv hsr hco;refine mr (c':=(ax 1 (ax 0 (ax 1 (ax 1 (ax 0 (ax 0 (ax 1 (ax 0 (ax 0 (ax 1 (ax 0 (ax 1 (ax 1 (ax 1 (ax 1 (ax 1 (ax 1 (ax 1 (ax 1 (ax 1 (ax 1 (match (f3).body with|some c=>c|none=> .skip))))))))))))))))))))))) (by kernel_rfl) ?_
  dsimp only [f3,ax]
  go_wp2_with fail;go_region_held3 (fun w'=>w'.cell? ⟨aC,1,none⟩=some (.int .i64 c.tk)∧w'.cell? ⟨aC,2,none⟩=some (.slice sa c.sl.length cs)) (go_keep)
    ((first
      | (go_at_call 14;refine (zrQ (hv0 hwd.old) (by omega)).mono ?_;rintro en w1 ⟨u,rfl,hu,hb1⟩;have hr1:=hwd.below hb1;have z1:=hr1.act.cell 1 _ rfl;have z2:=(hb1.cell (p:=⟨aC,2,none⟩) hwd.act.lt).trans c2;have hsu:=fM.Bb hu l7 (A:=fun b=>b<w.drew.heap.size) (fun b q1 q2=>by omega))
      | (go_at_call 13;refine (zuu hwd.duo hb1 hsu (by omega) htk.2).mono ?_;rintro en w2 ⟨rfl,hd2,hm2⟩;have hr2:=hr1.turn hd2 hm2;have y1:=hr2.act.cell 1 _ rfl;have y2:=(yal (a:=⟨aC,2,none⟩) (hm2.block _ hr1.act.lt (fun q=>q.2 (.inr (.inl rfl))))).trans z2)
      | (go_at_call 15;refine (zut hd2 (hv0 hr2.old) (by omega) htk.2).mono ?_;rintro en w3 ⟨rfl,hd3,jg⟩;have hr3:=hr2.turn hd3 jg;have x1:=hr3.act.cell 1 _ rfl;have x2:=(yal (a:=⟨aC,2,none⟩) (jg.block _ hr2.act.lt (fun q=>q.2 (.inr (.inl rfl))))).trans y2)))
  all_goals (go_wp2_with fail)
  exact ⟨rfl,_,_,g,0,0,0,⟨rfl,rfl,rfl,rfl,rfl,rfl,rfl,rfl,rfl,rfl,rfl,rfl,rfl,rfl,rfl⟩,hr3,hI.off⟩
set_option maxRecDepth 100000 in
theorem Tryz.zuB {W0 w:World} {n:Nat} {d:fB} {r:Rg} {av:Value} {j aC:Nat} {E:Int} {c:Dc} {s:DS} {g:Nat→Int} {tm:Array Value} (hf:Rf n d av j E aC tm) (jN:tm.getD 90 undef= .int .i64 1) (hw:Rw W0 d n r aC c w s g s g (jD 0 0 0) (jD 0 0 0)) (hI:DI s):
    (bS prog [1,0,1,1,0,0,1,0,0,1,0,1,1,1,1,1,1,1,1,1,1,3]).wp prog (zC W0 n d r av j aC c) ⟨tm,[]⟩ w:=by
  have hal:=hf.sz;obtain ⟨jf,dR⟩:=BR (t:=tm) hf.sz hf.t0 hf.t2 hf.t7 hf.t8 hf.t10 hf.t12 hf.t14 hf.t15 hf.t16 hf.t17 hf.t18 hf.t19 hf.t20 hf.t21 jN;rw [dR];clear dR hal hf jN;refine mr (c':=(ax 1 (ax 0 (ax 1 (ax 1 (ax 0 (ax 0 (ax 1 (ax 0 (ax 0 (ax 1 (ax 0 (ax 1 (ax 1 (ax 1 (ax 1 (ax 1 (ax 1 (ax 1 (ax 1 (ax 1 (ax 1 (match (f3).body with|some c=>c|none=> .skip))))))))))))))))))))))) (by kernel_rfl) ?_
  dsimp only [f3,ax]
  go_wp2_with (first
    | (go_at_call 16;refine (QK hw.duo fun A h=>(zmF h).mono fun e w' hh=>⟨hh.1,hh.2.1,vR hh.2.2⟩).mono ?_;rintro e w1 ⟨rfl,hd1,hm1⟩)
    | (go_at_call 17;refine (QJ hd1 fun A lv h=>(zvU h).mono fun e w' hh=>⟨hh.1,lv,hh.2.1,fun _ q=> .inl q,hh.2.2.mono fun _ q=>q.imp_right .inl⟩).mono ?_;rintro e w2 ⟨rfl,hd2,hm2⟩)
    | go_in)
  exact ⟨rfl,_,_,g,0,0,0,⟨rfl,rfl,rfl,rfl,rfl,rfl,rfl,rfl,rfl,rfl,rfl,rfl,rfl,rfl,rfl⟩,(hw.turn hd1 hm1).turn hd2 hm2,hI.Ho⟩
set_option maxRecDepth 100000 in
theorem Tryz.zuA {W0 w:World} {n:Nat} {d:fB} {r:Rg} {av:Value} {j aC:Nat} {E:Int} {c:Dc} {s:DS} {g:Nat→Int} {tm:Array Value} (hf:Rf n d av j E aC tm) (jN:tm.getD 90 undef= .int .i64 2) (hw:Rw W0 d n r aC c w s g s g (jD 0 0 0) (jD 0 0 0)) (hI:DI s) (hx:d.X7<aC∧W0.heap.size≤aC):
    (bS prog [1,0,1,1,0,0,1,0,0,1,0,1,1,1,1,1,1,1,1,1,1,3]).wp prog (zC W0 n d r av j aC c) ⟨tm,[]⟩ w:=by
  have hal:=hf.sz;obtain ⟨jf,dR⟩:=BR (t:=tm) hf.sz hf.t0 hf.t2 hf.t7 hf.t8 hf.t10 hf.t12 hf.t14 hf.t15 hf.t16 hf.t17 hf.t18 hf.t19 hf.t20 hf.t21 jN;rw [dR];clear dR hal hf jN;obtain ⟨hg,hpb⟩:=hw.duo.facts;obtain ⟨x,y,z,hacc⟩:=Wm (r:=r) s g;have hst:=QK hw.duo fun A h=>Yi h hI;have gy: ∀ {w1 g1},Duo W0.heap.size (iE d aC) w1 d r (dZ r s g).2.2.1 g1 s g→Calls prog 26 #[.pointer (some ⟨d.S2,0,none⟩)] w1 fun e w'=>e= .returned (.tuple #[(dZ r s g).1,.int .i64 (dZ r s g).2.1])∧Duo W0.heap.size (iE d aC) w' d r (dZ r s g).2.2.1 g1 (dZ r s g).2.2.1 (dZ r s g).2.2.2∧Dw.Mv (fun b=>W0.heap.size≤b∧ ¬iE d aC b) w1 w':=fun hd=>QJ hd fun A lv h=>(Va h hI).mono fun e w' hh=>by
    obtain ⟨e1,bG,q1,q2,q3⟩:=hh;exact ⟨e1,bG,q1,q2,q3.mono fun _ q=>q.imp_right .inl⟩
  have hIs:=hI.step (g:=g) hpb;rw [hacc] at hst gy;generalize hS':(dZ r s g).2.2.1=s' at hst gy hIs;generalize hG':(dZ r s g).2.2.2=g' at hst gy;generalize hE':(dZ r s g).2.1=e' at hst gy;clear hS' hG' hE' hacc hg hpb;refine mr (c':=(ax 1 (ax 0 (ax 1 (ax 1 (ax 0 (ax 0 (ax 1 (ax 0 (ax 0 (ax 1 (ax 0 (ax 1 (ax 1 (ax 1 (ax 1 (ax 1 (ax 1 (ax 1 (ax 1 (ax 1 (ax 1 (match (f3).body with|some c=>c|none=> .skip))))))))))))))))))))))) (by kernel_rfl) ?_
  dsimp only [f3,ax]
  go_wp2_with (first
    | (go_at_call 25;refine hst.mono ?_;rintro e w1 ⟨rfl,hd1,hm1⟩;have hr1:=hw.turn hd1 hm1;have z0:=hr1.k20.cell 0 _ rfl;have z1:=hr1.k20.cell 1 _ rfl;have z2:=hr1.k20.cell 2 _ rfl;have f0:=hr1.k20.free 0;have f1:=hr1.k20.free 1;have f2:=hr1.k20.free 2;have hq1:=JO (x:= .int .i64 x) (y:= .int .i64 y) (z:= .int .i64 z) hr1.k20 rfl;have hr2:=hr1.Tx hx hq1.2 hq1.1)
    | (go_at_call 26;refine (gy hr2.duo).mono ?_;rintro e w3 ⟨rfl,hd3,jg⟩;have hr3:=hr2.turn hd3 jg;clear z0 z1 z2 f0 f1 f2;have z0:=hr3.k21.cell 0 _ rfl;have z1:=hr3.k21.cell 1 _ rfl;have z2:=hr3.k21.cell 2 _ rfl;have f0:=hr3.k21.free 0;have f1:=hr3.k21.free 1;have f2:=hr3.k21.free 2;have hq3:=JO (x:= .int .i64 x) (y:= .int .i64 y) (z:= .int .i64 z) hr3.k21 rfl;have hr4:=hr3.Ty hx hq3.2 hq3.1)
    | go_in)
  exact ⟨rfl,_,_,_,x,y,z,⟨rfl,rfl,rfl,rfl,rfl,rfl,rfl,rfl,rfl,rfl,rfl,rfl,rfl,rfl,rfl⟩,hr4,hIs⟩
set_option maxRecDepth 100000 in
theorem Tryz.zuz {W0 w:World} {n:Nat} {d:fB} {r:Rg} {av:Value} {j aC:Nat} {E:Int} {c:Dc} {s:DS} {g:Nat→Int} {tm:Array Value} (hf:Rf n d av j E aC tm) (jN:tm.getD 90 undef= .int .i64 3) (hw:Rw W0 d n r aC c w s g s g (jD 0 0 0) (jD 0 0 0)) (hI:DI s) (hx:d.X7<aC∧W0.heap.size≤aC):
    (bS prog [1,0,1,1,0,0,1,0,0,1,0,1,1,1,1,1,1,1,1,1,1,3]).wp prog (zC W0 n d r av j aC c) ⟨tm,[]⟩ w:=by
  have hal:=hf.sz;obtain ⟨jf,dR⟩:=BR (t:=tm) hf.sz hf.t0 hf.t2 hf.t7 hf.t8 hf.t10 hf.t12 hf.t14 hf.t15 hf.t16 hf.t17 hf.t18 hf.t19 hf.t20 hf.t21 jN;rw [dR];clear dR hal hf jN;obtain ⟨hg,hpb⟩:=hw.duo.facts;obtain ⟨x,y,z,hacc⟩:=Wm (r:=r) s g;have hst:=QK hw.duo fun A h=>Yi h hI;have gy: ∀ {w1 g1},Duo W0.heap.size (iE d aC) w1 d r (dZ r s g).2.2.1 g1 s g→Calls prog 26 #[.pointer (some ⟨d.S2,0,none⟩)] w1 fun e w'=>e= .returned (.tuple #[(dZ r s g).1,.int .i64 (dZ r s g).2.1])∧Duo W0.heap.size (iE d aC) w' d r (dZ r s g).2.2.1 g1 (dZ r s g).2.2.1 (dZ r s g).2.2.2∧Dw.Mv (fun b=>W0.heap.size≤b∧ ¬iE d aC b) w1 w':=fun hd=>QJ hd fun A lv h=>(Va h hI).mono fun e w' hh=>by
    obtain ⟨e1,bG,q1,q2,q3⟩:=hh;exact ⟨e1,bG,q1,q2,q3.mono fun _ q=>q.imp_right .inl⟩
  have hIs:=hI.step (g:=g) hpb;rw [hacc] at hst gy;generalize hS':(dZ r s g).2.2.1=s' at hst gy hIs;generalize hG':(dZ r s g).2.2.2=g' at hst gy;generalize hE':(dZ r s g).2.1=e' at hst gy;clear hS' hG' hE' hacc hg hpb;refine mr (c':=(ax 1 (ax 0 (ax 1 (ax 1 (ax 0 (ax 0 (ax 1 (ax 0 (ax 0 (ax 1 (ax 0 (ax 1 (ax 1 (ax 1 (ax 1 (ax 1 (ax 1 (ax 1 (ax 1 (ax 1 (ax 1 (match (f3).body with|some c=>c|none=> .skip))))))))))))))))))))))) (by kernel_rfl) ?_
  dsimp only [f3,ax]
  go_wp2_with (first
    | (go_at_call 25;refine hst.mono ?_;rintro e w1 ⟨rfl,hd1,hm1⟩;have hr1:=hw.turn hd1 hm1;have z0:=hr1.k20.cell 0 _ rfl;have z1:=hr1.k20.cell 1 _ rfl;have z2:=hr1.k20.cell 2 _ rfl;have f0:=hr1.k20.free 0;have f1:=hr1.k20.free 1;have f2:=hr1.k20.free 2;have hq1:=JO (x:= .int .i64 x) (y:= .int .i64 y) (z:= .int .i64 z) hr1.k20 rfl;have hr2:=hr1.Tx hx hq1.2 hq1.1)
    | (go_at_call 26;refine (gy hr2.duo).mono ?_;rintro e w3 ⟨rfl,hd3,jg⟩;have hr3:=hr2.turn hd3 jg;clear z0 z1 z2 f0 f1 f2;have z0:=hr3.k21.cell 0 _ rfl;have z1:=hr3.k21.cell 1 _ rfl;have z2:=hr3.k21.cell 2 _ rfl;have f0:=hr3.k21.free 0;have f1:=hr3.k21.free 1;have f2:=hr3.k21.free 2;have hq3:=JO (x:= .int .i64 x) (y:= .int .i64 y) (z:= .int .i64 z) hr3.k21 rfl;have hr4:=hr3.Ty hx hq3.2 hq3.1)
    | go_in)
  exact ⟨rfl,_,_,_,x,y,z,⟨rfl,rfl,rfl,rfl,rfl,rfl,rfl,rfl,rfl,rfl,rfl,rfl,rfl,rfl,rfl⟩,hr4,hIs⟩
section
variable {n0:Nat} {Z:Nat→Prop} {d:Tryz.fB} {r:Tryz.Rg} {w w':World} {s1:Tryz.DS} {g1:Nat→Int} {s2:Tryz.DS} {g2:Nat→Int}
theorem Tryz.abA {xs:List Int} {G o a c:Nat} (hd:Duo n0 Z w d r s1 g1 s2 g2) (hG:w.rangeAt G o (aN xs)) (hx:xs.length=8) (hb: ∀x∈xs,0≤x∧x<256) (ha:a+8≤60000):
  Calls prog 22 #[.pointer (some ⟨d.P,0,none⟩),.int .u64 a,.slice (some ⟨G,o,none⟩) xs.length c] w fun e w'=>e= .returned (.int .i64 0)∧Duo n0 Z w' d r s1 (eY g1 a xs) s2 g2∧Dw.Mv (fun b=>n0≤b∧ ¬Z b) w w':=
 zyb hd fun hg=>wT d.P d.L d.Bs d.B 60000 a G o c xs g1 w hg (by decide) (by omega) (by omega) hb hG (yan w _ (hG 0 _ (yai (by simp [aN];omega))))
theorem Tryz.abB {xs:List Int} {G o a c:Nat} (hd:Duo n0 Z w d r s1 g1 s2 g2) (hG:w.rangeAt G o (aN xs)) (hx:xs.length=8) (hb: ∀x∈xs,0≤x∧x<256) (ha:a+8≤60000):
  Calls prog 24 #[.pointer (some ⟨d.P2,0,none⟩),.int .u64 a,.slice (some ⟨G,o,none⟩) xs.length c] w fun e w'=>e= .returned (.int .i64 0)∧Duo n0 Z w' d r s1 g1 s2 (eY g2 a xs)∧Dw.Mv (fun b=>n0≤b∧ ¬Z b) w w':=
 zya hd fun hg=>I6 d.P2 d.L2 d.iC d.B2 60000 a G o c xs g2 w hg (by decide) (by omega) (by omega) hb hG (yan w _ (hG 0 _ (yai (by simp [aN];omega))))
end
set_option maxRecDepth 100000 in
theorem Tryz.zuy {W0 w:World} {n:Nat} {d:fB} {r:Rg} {av:Value} {j aC:Nat} {E:Int} {c:Dc} {s:DS} {g:Nat→Int} {tm:Array Value} (hf:Rf n d av j E aC tm) (jN:tm.getD 90 undef= .int .i64 4) (hw:Rw W0 d n r aC c w s g s g (jD 0 0 0) (jD 0 0 0)) (hI:DI s) (hco:c.ok W0) (hn:1≤n∧n≤16):
    (bS prog [1,0,1,1,0,0,1,0,0,1,0,1,1,1,1,1,1,1,1,1,1,3]).wp prog (zC W0 n d r av j aC c) ⟨tm,[]⟩ w:=by
  have hal:=hf.sz;obtain ⟨jf,dR⟩:=BR (t:=tm) hf.sz hf.t0 hf.t2 hf.t7 hf.t8 hf.t10 hf.t12 hf.t14 hf.t15 hf.t16 hf.t17 hf.t18 hf.t19 hf.t20 hf.t21 jN;rw [dR];clear dR hal hf jN;have x3:=hw.act.cell 3 _ rfl;have x4:=hw.act.cell 4 _ rfl;have x7:=hw.x7.cell 2 _ rfl;have e1:IntKind.wrap .i64 (8+16*(n:Int))=8+16*n:=dV (by omega) (by omega);have e2:IntKind.wrap .i64 (8+16*(n:Int)-2)=6+16*n:=by rw [dV (by omega) (by omega)];omega
  obtain ⟨q,hq,hq2⟩: ∃q:Nat,c.n%(6+16*(n:Int))=q∧q<6+16*n:=by
    have h0:0≤c.n%(6+16*(n:Int)):=ybI _ (by omega);have h1:c.n%(6+16*(n:Int))<6+16*(n:Int):=ybC _ (by omega);exact ⟨(c.n%(6+16*(n:Int))).toNat,by omega,by omega⟩
  have e3:IntKind.wrap .u64 (q:Int)=q:=wrap_u64 _ (by omega) (by omega);obtain ⟨a,ha,ha2⟩: ∃a:Nat,(a:Int)=4096+(q:Int)∧a+2≤60000:=⟨4096+q,by omega,by omega⟩;have e4:IntKind.wrap .u64 (4096+(q:Int))=(a:Int):=by rw [wrap_u64 _ (by omega) (by omega)];omega
  clear hq2 ha;have hM: ∀ {w1:World} (v:Int),Duo W0.heap.size (iE d aC) w1 d r s g s g→Calls prog 18 #[.pointer (some ⟨d.P,0,none⟩),.int .u64 a,.int .i64 2,.int .u64 v] w1 fun e w'=>e= .returned (.int .i64 0)∧Duo W0.heap.size (iE d aC) w' d r s (iK g a 2 v) s g∧Dw.Mv (fun b=>W0.heap.size≤b∧ ¬iE d aC b) w1 w':=fun v hd=>zyb hd fun hg=>uZ _ _ _ _ 60000 a 2 v _ _ hg (by decide) (by decide) ha2;have hR: ∀ {w1:World} {g1:Nat→Int} (v:Int),Duo W0.heap.size (iE d aC) w1 d r s g1 s g→Calls prog 19 #[.pointer (some ⟨d.P2,0,none⟩),.int .u64 a,.int .i64 2,.int .u64 v] w1 fun e w'=>e= .returned (.int .i64 0)∧Duo W0.heap.size (iE d aC) w' d r s g1 s (iK g a 2 v)∧Dw.Mv (fun b=>W0.heap.size≤b∧ ¬iE d aC b) w1 w':=fun v hd=>zya hd fun hg=>uS _ _ _ _ 60000 a 2 v _ _ hg (by decide) (by decide) ha2;have hwd:=hw.below ((yab w.heap.size w).drew);refine mr (c':=(ax 1 (ax 0 (ax 1 (ax 1 (ax 0 (ax 0 (ax 1 (ax 0 (ax 0 (ax 1 (ax 0 (ax 1 (ax 1 (ax 1 (ax 1 (ax 1 (ax 1 (ax 1 (ax 1 (ax 1 (ax 1 (match (f3).body with|some c=>c|none=> .skip))))))))))))))))))))))) (by kernel_rfl) ?_
  dsimp only [f3,ax]
  go_wp2_with fail;go_region_held3 (fun w'=>w'.cell? ⟨aC,3,none⟩=some (.int .i64 c.n)∧w'.cell? ⟨d.X7,2,none⟩=some (.int .u64 4096)) (go_keep)
    ((first
      | (go_at_call 7;refine (ES c.n (6+16*n) (by omega) _).mono ?_;rintro en w3 ⟨rfl,hw3⟩;have hw3:=hw3.symm;subst hw3;rw [hq])))
  clear e1 e2 e3 e4 hq ha2 hco hn
  all_goals (go_wp2_with (first
    | (go_at_call 18;refine (hM _ hwd.duo).mono ?_;rintro en w1 ⟨rfl,hd1,hm1⟩;have hr1:=hwd.turn hd1 hm1;have z3:=hr1.act.cell 3 _ rfl;have z4:=hr1.act.cell 4 _ rfl)
    | (go_at_call 19;refine (hR _ hd1).mono ?_;rintro en w2 ⟨rfl,hd2,hm2⟩;have hr2:=hr1.turn hd2 hm2)
    | go_in))
  exact ⟨rfl,_,_,_,0,0,0,⟨rfl,rfl,rfl,rfl,rfl,rfl,rfl,rfl,rfl,rfl,rfl,rfl,rfl,rfl,rfl⟩,hr2,hI⟩
end Go.Proofs
namespace Go.Proofs
open Go.Dw Go.RowKit Go.Maps Go.Sort Go.Deep
theorem Tryz.zrH {x:Bool} (w:World):Calls prog 21 #[.int .u16 0,.bool x,.bool true] w fun e w'=> ∃f',e= .returned (.int .u16 f')∧(0≤f'∧f'<65536)∧w'=w:=
 (zpv w).mono fun e w' hh=>⟨_,hh.1,by split<;>decide,hh.2⟩
theorem Tryz.zyt {w:World} {b2:Nat} {u:Value} {xs:List Int} (h:af 5 1 w b2 u xs.length (aN xs)) (hx:xs.length=16): ∃G c,u= .slice (some ⟨G,0,none⟩) 16 c∧16≤c∧(b2≤G∧G<w.heap.size)∧w.rangeAt G 8 (aN (xs.drop 8)):=by
 obtain ⟨sa,c,e,hr⟩:=af.row h;rcases hr with hr|⟨G,e2,ho,hG⟩
 ·have:=yaB List.length hr;simp [aN] at this;rw [this] at hx;cases hx
 ·have hl:=af.lt h G ho;rcases h.2 with ⟨_,h2⟩|⟨G2,c2,cur,e3,h3,h4,h5,h6,h7,h8⟩
  ·omega
  ·rw [e] at e3;cases e3;refine ⟨G,c,by rw [e,e2,hx],by omega,hl,fun i y hy=> ?_⟩;have q2:(aN xs)[8+i]? =some y→_:=hG (8+i) y;rw [yaf] at q2;refine q2 ?_;unfold aN at hy ⊢;rw [List.map_drop,ybN] at hy;exact hy
set_option maxRecDepth 100000 in
theorem Tryz.zux {W0 w:World} {n:Nat} {d:fB} {r:Rg} {av:Value} {j aC:Nat} {E:Int} {c:Dc} {s:DS} {g:Nat→Int} {tm:Array Value} (hf:Rf n d av j E aC tm) (jN:tm.getD 90 undef= .int .i64 5) (hw:Rw W0 d n r aC c w s g s g (jD 0 0 0) (jD 0 0 0)) (hI:DI s) (hco:c.ok W0) (hn:1≤n∧n≤16) (hrn:KI r.n n):
    (bS prog [1,0,1,1,0,0,1,0,0,1,0,1,1,1,1,1,1,1,1,1,1,3]).wp prog (zC W0 n d r av j aC c) ⟨tm,[]⟩ w:=by
  have hal:=hf.sz;obtain ⟨jf,dR⟩:=BR (t:=tm) hf.sz hf.t0 hf.t2 hf.t7 hf.t8 hf.t10 hf.t12 hf.t14 hf.t15 hf.t16 hf.t17 hf.t18 hf.t19 hf.t20 hf.t21 jN;rw [dR];clear dR hal hf jN;obtain ⟨hg,hpb⟩:=hw.duo.facts;have hsx:=hpb.sx;rw [hrn.eq] at hsx;have hcv:=hco.v;have hW0:=hw.old.size;have e1:IntKind.wrap .u64 s.sx=s.sx:=wrap_u64 _ (by omega) (by omega);have e2:IntKind.wrap .u64 (16*s.sx)=16*s.sx:=wrap_u64 _ (by omega) (by omega);have e3:IntKind.wrap .u64 (4096+16*s.sx)=4096+16*s.sx:=wrap_u64 _ (by omega) (by omega);obtain ⟨a,ha,ha2⟩: ∃a:Nat,(a:Int)=4096+16*s.sx+8∧a+8≤60000:=⟨(4096+16*s.sx+8).toNat,by omega,by omega⟩;have e4:IntKind.wrap .u64 (4096+16*s.sx+8)=(a:Int):=by rw [wrap_u64 _ (by omega) (by omega)];omega
  have e5:IntKind.wrap .i64 ((n:Int)+1)=n+1:=dV (by omega) (by omega);obtain ⟨q,hq,hq2⟩: ∃q:Int,c.n%((n:Int)+1)=q∧(0≤q∧q<65536):=by
    have h0:0≤c.n%((n:Int)+1):=ybI _ (by omega);have h1:c.n%((n:Int)+1)<(n:Int)+1:=ybC _ (by omega);exact ⟨_,rfl,h0,by omega⟩
  have e6:IntKind.wrap .u16 q=q:=by unfold IntKind.wrap;simp [IntKind.signed,IntKind.bits];omega
  clear ha hsx hg hpb;have c3:=hw.act.cell 3 _ rfl;have c4:=hw.act.cell 4 _ rfl;have c5:=hw.act.cell 5 _ rfl;have c13:=hw.duo.seen.2.1;have hb0:=(yab w.heap.size w).drew;have hS2:=hw.duo.seen.2.2.2.2;refine mr (c':=(ax 1 (ax 0 (ax 1 (ax 1 (ax 0 (ax 0 (ax 1 (ax 0 (ax 0 (ax 1 (ax 0 (ax 1 (ax 1 (ax 1 (ax 1 (ax 1 (ax 1 (ax 1 (ax 1 (ax 1 (ax 1 (match (f3).body with|some c=>c|none=> .skip))))))))))))))))))))))) (by kernel_rfl) ?_
  dsimp only [f3,ax]
  go_wp2_with fail;go_region_held3 (fun w'=>w'.cell? ⟨aC,3,none⟩=some (.int .i64 c.n)∧w'.cell? ⟨aC,4,none⟩=some (.int .u32 c.v)∧w'.cell? ⟨aC,5,none⟩=some (.bool c.gd)∧w'.cell? ⟨d.S2,13,none⟩=some (.bool s.sw)) (go_keep)
    ((first
      | (go_at_call 7;refine (ES c.n (n+1) (by omega) _).mono ?_;rintro en w3 ⟨rfl,hw3⟩;have hw3:=hw3.symm;subst hw3;rw [hq])
      | (go_at_call 21;refine (zrH _).mono ?_;rintro en w4 ⟨f',rfl,hf',hw4⟩;have hw4:=hw4.symm;subst hw4)
      | (go_at_call 20;refine (N9 ⟨0,0,c.v,q,f'⟩ ⟨⟨by show (0:Int)≤0;decide,by show (0:Int)<_;decide⟩,hcv,hq2,hf'⟩ _).mono ?_;rintro en w6 ⟨u,rfl,hu,hb6⟩;have RJ:=hb0.trans (hb6.mono (yaa _));have sG:=hw.below RJ;have z3:=sG.act.cell 3 _ rfl;have z4:=sG.act.cell 4 _ rfl;have z5:=sG.act.cell 5 _ rfl;have wR:=sG.duo.seen.2.1)))
  all_goals (go_wp2_with fail)
  have hx16:=Pt.jv ⟨0,0,c.v,q,f'⟩;have hbb:=Pt.zT ⟨0,0,c.v,q,f'⟩;obtain ⟨ys,hys⟩: ∃ys,ys=Pt.bytes ⟨0,0,c.v,q,f'⟩:=⟨_,rfl⟩;rw [←hys] at hu hx16 hbb;obtain ⟨G,cp,rfl,hcp,mH,hG⟩:=zyt hu hx16;obtain ⟨xs,hxs⟩: ∃xs,xs=ys.drop 8:=⟨_,rfl⟩;rw [←hxs] at hG;have yJ:xs.length=8:=by rw [hxs,yb1,hx16]
  have hbx: ∀x∈xs,0≤x∧x<256:=fun x hx=>hbb x (ybi (hxs▸hx));have hc8: ¬cp=8:=by omega
  have hn0:W0.heap.size≤w.heap.size:=hw.old.size;have hGn:w.heap.size≤G:=mH.1;have hD6:=hw.duo.more hn0 RJ (Z':=fun b=>iE d aC b∨b=G) (fun b q=>q.imp id (fun e=>⟨by omega,by omega⟩));have aaZ:=sG.below ((yab _ w6).drew);have aam:=hD6.below ((yab _ w6).drew);have Rs:w6.drew.rangeAt G 8 (aN xs):=fun j v hv=>hG j v hv;have x7:=sG.x7.cell 2 _ rfl;have rF:=sG.duo.seen.1;have hown:=fun {w':World} (q:w'.rangeAt G 8 (aN xs)) (cc:Nat)=>(by have q2:=zt0 (c:=cc) q (by omega) (by omega);rw [yJ] at q2;exact q2:Calls prog 23 #[.slice (some ⟨G,8,none⟩) 8 cc] w' fun e w2=> ∃u,e= .returned u∧af 5 1 w2 w'.heap.size u 8 (aN xs)∧Below w'.heap.size w' w2);have hrw:=fun {w':World} {g1:Nat→Int} (hd:Duo W0.heap.size (fun b=>iE d aC b∨b=G) w' d r s g1 s g) (q:w'.rangeAt G 8 (aN xs)) (cc:Nat)=>(by have q2:=abB (c:=cc) hd q yJ hbx ha2;rw [yJ] at q2;exact q2:Calls prog 24 #[.pointer (some ⟨d.P2,0,none⟩),.int .u64 a,.slice (some ⟨G,8,none⟩) 8 cc] w' fun e w2=>e= .returned (.int .i64 0)∧Duo W0.heap.size (fun b=>iE d aC b∨b=G) w2 d r s g1 s (eY g a xs)∧Dw.Mv (fun b=>W0.heap.size≤b∧ ¬(iE d aC b∨b=G)) w' w2);have hrm:=fun {w':World} {g1:Nat→Int} {G2 cc:Nat} (hd:Duo W0.heap.size (fun b=>iE d aC b∨b=G) w' d r s g s g1) (q:w'.rangeAt G2 0 (aN xs))=>(by have q2:=abA (c:=cc) hd q yJ hbx ha2;rw [yJ] at q2;exact q2:Calls prog 22 #[.pointer (some ⟨d.P,0,none⟩),.int .u64 a,.slice (some ⟨G2,0,none⟩) 8 cc] w' fun e w2=>e= .returned (.int .i64 0)∧Duo W0.heap.size (fun b=>iE d aC b∨b=G) w2 d r s (eY g a xs) s g1∧Dw.Mv (fun b=>W0.heap.size≤b∧ ¬(iE d aC b∨b=G)) w' w2);have hrow: ∀ {w':World} {b2:Nat} {u:Value},af 5 1 w' b2 u 8 (aN xs)→ ∃G2 c2,u= .slice (some ⟨G2,0,none⟩) 8 c2∧w'.rangeAt G2 0 (aN xs):=fun {w' b2 u} q=>by
    obtain ⟨sa,c,e,hr⟩:=af.row q;rcases hr with hr|⟨G2,e2,ho,hG2⟩
    · have:=yaB List.length hr;simp [aN] at this;rw [this] at yJ;cases yJ
    · exact ⟨G2,c,by rw [e,e2],hG2⟩
  clear hys hxs hbb hx16 hu hcp hG z3 z4 z5 wR hq hq2 hcv hco hb6 hb0;go_region_held3 (fun w'=>w'.cell? ⟨d.X7,2,none⟩=some (.int .u64 4096)∧w'.cell? ⟨d.S2,12,none⟩=some (.int .i64 s.sx)) (go_keep)
    ((first
      | (go_at_call 23;refine (hown Rs _).mono ?_;rintro en w7 ⟨u2,rfl,hu2,iW⟩;obtain ⟨G2,c2,rfl,hG2⟩:=hrow hu2;have hD7:=aam.below iW;have Ta:=aaZ.below iW;have x77:=Ta.x7.cell 2 _ rfl;have x97:=hD7.seen.1;have hG7:=aX Rs (iW.block G mH.2))
      | (go_at_call 22;refine (hrm hD7 hG2).mono ?_;rintro en w8 ⟨rfl,K9,dm⟩;have Tc:=Ta.Ue (fun b q=> .inl q) K9 dm;have x78:=Tc.x7.cell 2 _ rfl;have x98:=K9.seen.1;have hG8:=aX hG7 (dm.block G (yae mH.2 iW.size) (fun q=>q.2 (.inr rfl))))))
  all_goals (go_wp2_with fail)
  have aa0:=Tc.below ((yab _ w8).drew);have aan:=K9.below ((yab _ w8).drew);have aap:w8.drew.rangeAt G 8 (aN xs):=fun j v hv=>hG8 j v hv;go_region_held3 (fun w'=>w'.cell? ⟨d.X7,2,none⟩=some (.int .u64 4096)∧w'.cell? ⟨d.S2,12,none⟩=some (.int .i64 s.sx)) (go_keep)
    ((first
      | (go_at_call 24;refine (hrw aan aap _).mono ?_;rintro en w9 ⟨rfl,Ro,mK⟩;have iG:=aa0.Ue (fun b q=> .inl q) Ro mK;have x79:=iG.x7.cell 2 _ rfl;have x99:=Ro.seen.1)))
  all_goals (go_wp2_with fail)
  exact ⟨rfl,_,_,_,0,0,0,⟨rfl,rfl,rfl,rfl,rfl,rfl,rfl,rfl,rfl,rfl,rfl,rfl,rfl,rfl,rfl⟩,iG,hI⟩
structure Tryz.Rg0 (n:Nat) (d:fB) (av:Value) (j:Nat) (E:Int) (tm:Array Value):Prop where
 sz:tm.size=267
 t0:tm.getD 0 undef= .int .i64 n
 t2:tm.getD 2 undef=av
 t7:tm.getD 7 undef= .pointer (some ⟨d.X7,0,none⟩)
 t8:tm.getD 8 undef= .int .u64 (8+16*n)
 t10:tm.getD 10 undef= .pointer (some ⟨d.P,0,none⟩)
 t12:tm.getD 12 undef= .pointer (some ⟨d.P2,0,none⟩)
 t14:tm.getD 14 undef= .pointer (some ⟨d.S,0,none⟩)
 t15:tm.getD 15 undef= .int .i64 E
 t16:tm.getD 16 undef= .pointer (some ⟨d.S2,0,none⟩)
 t17:tm.getD 17 undef= .int .i64 E
 t18:tm.getD 18 undef= .int .i64 j
structure Tryz.RI (w0:World) (n:Nat) (d:fB) (r:Rg) (av:Value) (j:Nat) (a:Act) (w:World):Prop where
 df:a.defers= []
 ex: ∃(E:Int) (s:DS) (g:Nat→Int),Rg0 n d av j E a.tmps∧Duo w0.heap.size (fun b=>b=d.X7) w d r s g s g∧DI s
 x7:Cl w d.X7 (WX n)
 old:Below w0.heap.size w0 w
set_option maxRecDepth 100000 in
theorem Tryz.zuw {w wr:World} {n:Nat} {d:fB} {r:Rg} {aa:Option Addr} {ca:Nat} {acts:List Dc} {j:Nat} {a1:Act} (hr:RI w n d r (.slice aa acts.length ca) j a1 wr) (hj:j≤acts.length) (hA:rW w (.slice aa acts.length ca) acts) (Ab:acts.length≤60∧ ∀x∈acts,x.sl.length≤100) (hd:d.ok w.heap.size) (hn:1≤n∧n≤16) (gZ:gU r) (hrn:KI r.n n):
    (bS prog [0,0,1,0,1,1,1,1,1,1,1,1,1,1,3]).wp prog (fun ex a' w'=>match ex with| .normal=>RI w n d r (.slice aa acts.length ca) (j+1) a' w'∧j<acts.length| .exit i=>i=0∧RI w n d r (.slice aa acts.length ca) j a' w'|_=>False) a1 wr:=by
  obtain ⟨hdf,⟨E,s,g,hf,hD,hI⟩,hX,hold⟩:=hr;obtain ⟨tm,ds⟩:=a1;have hdf:ds= []:=hdf;subst hdf;obtain ⟨jf,dR⟩:=JA (t:=tm) hf.sz hf.t0 hf.t2 hf.t7 hf.t8 hf.t10 hf.t12 hf.t14 hf.t15 hf.t16 hf.t17 hf.t18 rfl rfl rfl;generalize tm.getD 19 undef=MU at dR;generalize tm.getD 20 undef=MV at dR;generalize tm.getD 21 undef=MW at dR;rw [dR];clear dR hf;have F9:=hA.ok;have Ag:acts= []∨ ∃R o,aa=some ⟨R,o,none⟩∧ ∀(i:Nat) (hi:i<acts.length),w.rangeAt R (o+6*i) acts[i].cells:=by
    obtain ⟨aa',c',e,h⟩:=hA.val;cases e;exact h
  refine mr (c':=(ax 0 (ax 0 (ax 1 (ax 0 (ax 1 (ax 1 (ax 1 (ax 1 (ax 1 (ax 1 (ax 1 (ax 1 (ax 1 (ax 1 (match (f3).body with|some c=>c|none=> .skip)))))))))))))))) (by kernel_rfl) ?_
  dsimp only [f3,ax]
  by_cases hjl:j<acts.length
  · have LQ:(j:Int)<acts.length:=by omega
    obtain ⟨R,o,hra,hrow⟩: ∃R o,aa=some ⟨R,o,none⟩∧ ∀(i:Nat) (hi:i<acts.length),w.rangeAt R (o+6*i) acts[i].cells:=by
      rcases Ag with q|⟨R,o,q1,q2⟩
      · rw [q] at hjl;simp at hjl
      · exact ⟨R,o,q1,q2⟩
    have hco:=F9 acts[j] (yaA hjl);have F8:=Ab.2 acts[j] (yaA hjl);have hcw:=hrow j hjl;have hRl:R<w.heap.size:=yan w _ (hcw 0 _ rfl);have hcr:=aX hcw (hold.block R hRl);obtain ⟨c,hc⟩: ∃c,c=acts[j]:=⟨_,rfl⟩;rw [←hc] at hco F8 hcr;rw [ybz 6 j] at hcr;obtain ⟨sa,cs,hsv,l7,hsr⟩:=hco.sv;have a0:=hcr 0 _ rfl;have a1:=hcr 1 _ rfl;have a2:=hcr 2 _ rfl;have a3:=hcr 3 _ rfl;have a4:=hcr 4 _ rfl;have a5:=hcr 5 _ rfl;rw [hsv] at a2;simp only [yaF] at a0;have K4:c.sl.length≤100:=F8;have hce:c.cells= [.int .i64 c.k,.int .i64 c.tk,.slice sa c.sl.length cs,.int .i64 c.n,.int .u32 c.v,.bool c.gd]:=by unfold Dc.cells;rw [hsv]
    have abZ:j<60:=yae hjl Ab.1;clear hc hcr hcw hrow Ag F9 hA hsv l7 hsr;subst hra;go_upto_block 2 with (first
      | (go_at_call 7;refine (ES c.k 6 (by decide) _).mono ?_;rintro e w3 ⟨rfl,rfl⟩)
      | go_in)
    have hbW:=(((yab wr.heap.size wr).alloc (yaa _) (Obj.cells #[.int .i64 c.k,.int .i64 c.tk,.slice sa c.sl.length cs,.int .i64 c.n,.int .u32 c.v,.bool c.gd] 52)).alloc (by simp) (Obj.cells #[.int .i64 0,.int .i64 0,.int .i64 0] 54)).alloc (by simp;omega) (Obj.cells #[.int .i64 0,.int .i64 0,.int .i64 0] 54);have acj:=hold.size;have hxl:=hX.lt;have hdn:=hd.ne.2.2.2.2.1.2;have yj:Rw w d n r wr.heap.size c _ s g s g (jD 0 0 0) (jD 0 0 0):=⟨hD.more hold.size hbW (fun b q=>by
        rcases q with q|q|q|q
        · exact .inl q
        · exact .inr (by simp;omega)
        · exact .inr (by simp;omega)
        · exact .inr (by simp;omega)),hX.below hbW hX.lt,
      by rw [hce];exact ((Cl.new wr _ _).alloc _).alloc _,
      (Cl.new2 (by simp)).alloc _,Cl.new2 (by simp),hold.trans (hbW.mono hold.size)⟩
    refine mr (c':=bS prog [1,0,1,1,0,0,1,0,0,1,0,1,1,1,1,1,1,1,1,1,1,3]) (by kernel_rfl) ?_;refine ybu (?_:Code.wp _ _ (zC w n d r (.slice (some ⟨R,o,none⟩) acts.length ca) j wr.heap.size c) _ _) ?_
    · have hm:c.k%6=0∨c.k%6=1∨c.k%6=2∨c.k%6=3∨c.k%6=4∨c.k%6=5:=by omega
      rcases hm with h|h|h|h|h|h
      · exact zuC (E:=E) ⟨rfl,rfl,rfl,rfl,rfl,rfl,rfl,rfl,rfl,rfl,rfl,rfl,rfl,rfl,rfl⟩ (yaB (Value.int .i64) h) yj hI hco K4
      · exact zuB (E:=E) ⟨rfl,rfl,rfl,rfl,rfl,rfl,rfl,rfl,rfl,rfl,rfl,rfl,rfl,rfl,rfl⟩ (yaB (Value.int .i64) h) yj hI
      · exact zuA (E:=E) ⟨rfl,rfl,rfl,rfl,rfl,rfl,rfl,rfl,rfl,rfl,rfl,rfl,rfl,rfl,rfl⟩ (yaB (Value.int .i64) h) yj hI ⟨by omega,by omega⟩
      · exact zuz (E:=E) ⟨rfl,rfl,rfl,rfl,rfl,rfl,rfl,rfl,rfl,rfl,rfl,rfl,rfl,rfl,rfl⟩ (yaB (Value.int .i64) h) yj hI ⟨by omega,by omega⟩
      · exact zuy (E:=E) ⟨rfl,rfl,rfl,rfl,rfl,rfl,rfl,rfl,rfl,rfl,rfl,rfl,rfl,rfl,rfl⟩ (yaB (Value.int .i64) h) yj hI hco hn
      · exact zux (E:=E) ⟨rfl,rfl,rfl,rfl,rfl,rfl,rfl,rfl,rfl,rfl,rfl,rfl,rfl,rfl,rfl⟩ (yaB (Value.int .i64) h) yj hI hco hn hrn
    · rename_i K1 hK1 K0 hK;intro ex a' w' hpost;cases ex with
      | normal=>
        obtain ⟨hds,E',s',g',px,py,pz,hf',hw',hI'⟩:=hpost;obtain ⟨tm',ds'⟩:=a';have hds:ds'= []:=hds;subst hds;refine hK _ _ (mr (c':=bS prog [1,1,1,0,0,1,0,0,1,0,1,1,1,1,1,1,1,1,1,1,3]) (by kernel_rfl) (ybu (zw5 hf' hw' gZ) ?_));intro ex2 a2 w2 Dg;obtain ⟨rfl,LD,hf2,hw2⟩:=Dg;obtain ⟨Uc,ds2⟩:=a2;have LD:ds2= []:=LD;subst LD;obtain ⟨jf2,LP⟩:=JA (t:=Uc) hf2.sz hf2.t0 hf2.t2 hf2.t7 hf2.t8 hf2.t10 hf2.t12 hf2.t14 hf2.t15 hf2.t16 hf2.t17 hf2.t18 hf2.t19 hf2.t20 hf2.t21;have LP:Uc=_:=LP;rw [LP];refine hK1 _ _ ?_;clear hK hK1 hbW yj;go_wp2_with fail;exact ⟨rfl,⟨E',s',g',⟨rfl,rfl,rfl,rfl,rfl,rfl,rfl,rfl,rfl,rfl,rfl,rfl⟩,hw2.duo.set (fun b q=> .inl q),hI'⟩,hw2.x7,hw2.old⟩
      | _=>exact hpost.elim
  · have LQ: ¬(j:Int)<acts.length:=by omega
    go_wp2_with fail;exact ⟨rfl,⟨E,s,g,⟨rfl,rfl,rfl,rfl,rfl,rfl,rfl,rfl,rfl,rfl,rfl,rfl⟩,hD,hI⟩,hX,hold⟩
end Go.Proofs
end
