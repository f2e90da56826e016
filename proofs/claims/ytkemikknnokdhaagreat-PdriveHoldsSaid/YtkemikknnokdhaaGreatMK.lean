/-
  Proved: laws on the way to 'PdriveHoldsProof' (VeK); no condition.
-/
import Derived.Test.YtkemikknnokdhaaGreatMH
import Derived.Test.YtkemikknnokdhaaGreatMI
import Derived.Test.YtkemikknnokdhaaGreatMJ
set_option linter.unusedSimpArgs false
set_option linter.unusedVariables false
set_option maxHeartbeats 4000000
noncomputable section
namespace Go.Proofs
open Go.Dw Go.RowKit Go.Maps Go.Sort Go.Deep
set_option maxRecDepth 100000 in
theorem Tryz.zsA {W0 w:World} {n:Nat} {ev tb pk:Bool} {d:Hd} {r:Rg} {aa:Option Addr} {ca:Nat} {acts:List Tn} {j:Nat} {a:Act} (hI:HoI W0 n ev tb pk d r (.slice aa acts.length ca) j a w) (hA:TnsV W0 (.slice aa acts.length ca) acts) (hj:j≤acts.length) (h60:acts.length≤60∧ ∀x∈acts,x.sl.length≤100) (hn:1≤n∧n≤16) (hrk:PgOk r) (hrn:EqI r.n n):
  (zbb prog [0,0,1,0,1,1,1,1,1,1,1,1,1,1,4]).wp prog (fun ex a' w'=>match ex with| .normal=>HoI W0 n ev tb pk d r (.slice aa acts.length ca) (j+1) a' w'∧j<acts.length| .exit i=>i=2∧HoI W0 n ev tb pk d r (.slice aa acts.length ca) j a' w'|_=>False) a w:=by
 obtain ⟨hdf,s,g,ov,tk,hf,hw,hs⟩:=hI;obtain ⟨tm,ds⟩:=a;have hdf:ds= []:=hdf;subst hdf;have go: ∀ {c:Code} {Q:Exit→Act→World→Prop},j<acts.length→c.wp prog (zn5 W0 n ev tb pk d r (.slice aa acts.length ca) j) ⟨tm,[]⟩ w→c.wp prog (fun ex a' w'=>match ex with| .normal=>HoI W0 n ev tb pk d r (.slice aa acts.length ca) (j+1) a' w'∧j<acts.length| .exit i=>i=2∧HoI W0 n ev tb pk d r (.slice aa acts.length ca) j a' w'|_=>False) ⟨tm,[]⟩ w:=fun {c Q} hj h=>wp_mono h fun ex a' w' hh=>by
  cases ex with
  | normal=>exact ⟨hh,hj⟩
  | _=>exact hh.elim
 by_cases hjl:j<acts.length
 ·cases hbk:acts[j].bk with
  | true=>exact go (Q:=fun _ _ _=>True) hjl (zuw hf hw hs hA hjl h60.1 hbk hn hrk hrn)
  | false=>
   have h100:=h60.2 acts[j] (List.getElem_mem hjl);by_cases hy:(za3 60000 r.n s tk acts[j].sl).1=0
   ·exact go (Q:=fun _ _ _=>True) hjl (zvx hf hw hs hA hjl h60.1 hbk h100 hn hrk hrn hy)
   ·exact go (Q:=fun _ _ _=>True) hjl (zvU hf hw hs hA hjl h60.1 hbk h100 hn hrk hrn hy)
 ·have hjl': ¬(j:Int)<acts.length:=by omega
  clear go;obtain ⟨jf,hjf⟩:=zhv (t:=tm) hf.sz hf.t0 hf.t2 hf.t4 hf.t8 hf.t9 hf.t10 hf.t12 hf.t13 hf.t14 hf.t15 hf.t16 hf.t17;rw [hjf];clear hjf hf;refine zaD (c':=(zae 0 (zae 0 (zae 1 (zae 0 (zae 1 (zae 1 (zae 1 (zae 1 (zae 1 (zae 1 (zae 1 (zae 1 (zae 1 (zae 1 (match (f4).body with|some c=>c|none=> .skip)))))))))))))))) (by kernel_rfl) ?_
  dsimp only [f4,zae]
  go_wp2_with fail;exact ⟨rfl,s,g,ov,tk,⟨rfl,rfl,rfl,rfl,rfl,rfl,rfl,rfl,rfl,rfl,rfl,rfl,rfl⟩,hw,hs⟩
set_option maxRecDepth 100000 in
theorem Tryz.holds_walk (hlives: ∀w,Calls prog 5 #[] w fun e w'=>e= .returned (.bool true)∧Below w.heap.size w w') {w:World} {av:Value} {acts:List Tn} (hA:TnsV w av acts) (size:Int) (ev tb pk:Bool):
    Calls prog 4 #[.int .i64 size,.agg #[.bool ev,.bool tb,.bool pk],av] w fun e w'=>e= .returned (.bool true)∧Below w.heap.size w w':=by
  obtain ⟨aa,ca,hav,hacts⟩:=hA.val;obtain ⟨k,hk1,hk2⟩: ∃k:Nat,size%16=k∧k<16:=by
    have h0:0≤size%16:=Int.emod_nonneg _ (by decide);have h1:size%16<16:=Int.emod_lt_of_pos _ (by decide);exact ⟨(size%16).toNat,by omega,by omega⟩
  have hn:1≤k+1∧k+1≤16:=by omega
  have hwk:IntKind.wrap .i64 (1+(k:Int))=((k+1:Nat):Int):=by rw [zaT (by omega) (by omega)];omega
  generalize hm:k+1=n at hwk hn;clear hm;have hrk:=zfy hn;have hst: ∀w:World,Calls prog 38 #[.int .i64 n,.agg #[.bool ev,.bool tb,.bool pk]] w fun e w'=> ∃S P L Bs B I,e= .returned (.tuple #[.pointer (some ⟨P,0,none⟩),.pointer (some ⟨S,0,none⟩),.agg #[.bool true,.int .i64 n,.int .u64 4096,.int .u64 (4096+16*n),.int .u64 (4100+16*n)],.bool true])∧
      DW (dK S I B) w' S P L Bs B I 60000 (zcG n) (DS.fresh ev tb (zcG n).n) (fun _=>0)∧Below w.heap.size w w'∧(w.heap.size≤S∧w.heap.size≤I∧w.heap.size≤B∧w.heap.size≤P∧w.heap.size≤L∧w.heap.size≤Bs):=fun w=>zlD hn ev tb pk w
  obtain ⟨r,hr⟩: ∃r,r=zcG n:=⟨_,rfl⟩;rw [←hr] at hrk hst;have hrn:EqI r.n n:=⟨by rw [hr];rfl⟩;clear hr;have hps:=zfx 39 (.inr rfl);subst hav;by_cases h60:acts.length≤60
  · have h60': ¬(acts.length:Int)>60:=by omega
    go_enter func4,ntmps4;go_wp2_with (first
      | (go_at_call 5;refine (hlives _).mono ?_;rintro e w1 ⟨rfl,hb1⟩;have ka:=(Cl.new w _ _).below hb1 (by simp))
      | go_in)
    have hbl:Below w.heap.size w w1:=(Below.alloc (Below.refl w.heap.size w) (Nat.le_refl _) (Obj.cells #[Value.bool ev,Value.bool tb,Value.bool pk] 23)).trans (hb1.mono (by simp));have hkw:=ka.lt;go_loopw [7] (fun i wr=>wr=w1∧ ∃q:Nat,q≤acts.length∧i= .int .i64 q∧ ∀(z:Nat) (hz:z<acts.length),z<q→acts[z].sl.length≤100) (fun i _=>acts.length-(RowKit.intOf i).toNat)
    case atStart=>exact ⟨rfl,0,Nat.zero_le _,rfl,fun z hz h=>absurd h (by omega)⟩
    case round=>
      obtain ⟨rfl,q,hq,rfl,hall⟩:=hrel;by_cases hql:q<acts.length
      · have hql':(q:Int)<acts.length:=by omega
        obtain ⟨R,o,hra,hrow⟩: ∃R o,aa=some ⟨R,o,none⟩∧ ∀(i:Nat) (hi:i<acts.length),w.rangeAt R (o+4*i) acts[i].cells:=by
          rcases hacts with q|⟨R,o,q1,q2⟩
          · rw [q] at hql;simp at hql
          · exact ⟨R,o,q1,q2⟩
        have hcw:=hrow q hql;have hRl:R<w.heap.size:=World.block_lt_of_cell? w _ (hcw 0 _ rfl);have hcr:=zag hcw (hbl.block R hRl);obtain ⟨sa,cs,hsv,hsok,hsr⟩:=(hA.ok acts[q] (List.getElem_mem hql)).sv;have hnext:acts[q].sl.length≤100→ ∀(z:Nat) (hz:z<acts.length),z<q+1→acts[z].sl.length≤100:=fun h z hz hz2=>by
          by_cases e:z=q
          · subst e;exact h
          · exact hall z hz (by omega)
        obtain ⟨c,hc⟩: ∃c,c=acts[q]:=⟨_,rfl⟩;rw [←hc] at hcr hsv hsok hsr hnext;rw [Nat.mul_comm 4 q] at hcr;have a1:=hcr 1 _ rfl;rw [hsv] at a1;clear hc hcr hcw hrow hsr hsv hall hacts hA;subst hra;by_cases h1:c.sl.length≤100
        · have h1': ¬(c.sl.length:Int)>100:=by omega
          have hnx:=hnext h1;clear hnext;go_wp2_with fail;exact ⟨⟨trivial,q+1,by omega,by push_cast;rfl,hnx⟩,by simp only [RowKit.intOf];omega⟩
        · have h1':(c.sl.length:Int)>100:=by omega
          clear hnext;go_wp2_with fail;exact zcZ (fn:=f4) (Post:=fun e w'=>e= .returned (.bool true)∧RowKit.Below w.heap.size w w') rfl rfl rfl ⟨rfl,hbl⟩
      · have hql': ¬(q:Int)<acts.length:=by omega
        have h100: ∀x∈acts,x.sl.length≤100:=fun x hx=>by
          obtain ⟨z,hz,rfl⟩:=List.mem_iff_getElem.1 hx;exact hall z hz (by omega)
        have hH:=HidQ.mk (And.intro h60 h100);clear hall hacts h60 h100;have b0:=ka.cell 0 _ rfl;have b1:=ka.cell 1 _ rfl;have b2:=ka.cell 2 _ rfl;go_wp2_with (first
          | (go_at_call 7;refine (zm7 size 16 (by decide) _).mono ?_;rintro e w3 ⟨rfl,rfl⟩;rw [hk1])
          | (go_at_call 38;refine (hst _).mono ?_;rintro e w4 ⟨S,P,L,Bs,B,I,rfl,hD,hb4,hlo⟩)
          | (go_at_call 39;have hz:=hb5;refine (hps _).mono ?_;rintro e w6 ⟨rfl,hb6⟩)
          | (go_at_call 39;refine (hps _).mono ?_;rintro e w5 ⟨rfl,hb5⟩)
          | go_in)
        rename_i K hK;have hsz3:=hbl.size;have hb45:=((Below.refl w4.heap.size w4).alloc (Nat.le_refl _) (Obj.cells #[.bool true,.int .i64 n,.int .u64 4096,.int .u64 (4096+16*n),.int .u64 (4100+16*n)] 30)).trans (hb5.mono (by simp));have hb46:=hb45.trans (hb6.mono hb45.size);have hb6f:=((Below.refl w6.heap.size w6).alloc (Nat.le_refl _) (Obj.cells #[.int .i64 0,.bool true] 64)).alloc (by simp) (Obj.cells #[.int .i64 0,.bool true] 64);have hb4f:=hb46.trans (hb6f.mono hb46.size);have hb3f:=hb4.trans (hb4f.mono hb4.size);have h45:w4.heap.size+1≤w5.heap.size:=by have:=hb5.size;simpa using this
        have h56:=hb6.size;have h34:=hb4.size;have kX:=((Cl.new w4 #[.bool true,.int .i64 n,.int .u64 4096,.int .u64 (4096+16*n),.int .u64 (4100+16*n)] 30).below hb5 (by simp)).below (hb6.trans (hb6f.mono hb6.size)) (by omega);have k13:=(Cl.new w6 #[.int .i64 0,.bool true] 64).alloc (Obj.cells #[.int .i64 0,.bool true] 64);have k14:=Cl.new2 (b:=w6.heap.size+1) (arr:= #[.int .i64 0,.bool true]) (t:=64) (w:=w6.alloc (Obj.cells #[.int .i64 0,.bool true] 64)) (by simp);have hsf:((w6.alloc (Obj.cells #[.int .i64 0,.bool true] 64)).alloc (Obj.cells #[.int .i64 0,.bool true] 64)).heap.size=w6.heap.size+2:=by simp
        have hmono:=hD.mono;have hpl:=hD.f.mem.pl;have hll:=hD.f.mem.ll;have hsl:=hD.f.mem.sl;obtain ⟨lo1,lo2,lo3,lo4,lo5,lo6⟩:=hlo;obtain ⟨mo1,mo2,mo3⟩:=hmono;obtain ⟨d,hd⟩: ∃d:Hd,d=⟨w.heap.size,S,P,L,Bs,B,I,w4.heap.size,w6.heap.size,w6.heap.size+1⟩:=⟨_,rfl⟩;have hok:d.ok w.heap.size:=by
          rw [hd];exact ⟨w3.heap.size,w4.heap.size,Nat.le_refl _,hkw,⟨lo1,lo4,lo5,lo6,lo3,lo2⟩,⟨mo1,hpl,hll,hsl,mo3,mo2⟩,Nat.le_refl _,by show w4.heap.size<w6.heap.size;omega,by show w6.heap.size<w6.heap.size+1;omega⟩
        have hW:HoW w n ev tb pk d r ((w6.alloc (Obj.cells #[.int .i64 0,.bool true] 64)).alloc (Obj.cells #[.int .i64 0,.bool true] 64)) (DS.fresh ev tb r.n) (fun _=>0) (.slice none 0 0) [.int .i64 (DS.fresh ev tb r.n).nx,.bool (DS.fresh ev tb r.n).nw] [.int .i64 (DS.fresh ev tb r.n).sx,.bool (DS.fresh ev tb r.n).sw] (DS.fresh ev tb r.n).L:=by
          subst hd;refine ⟨hD.keepA (K:=fun _=>False) (fun b hb q=> ?_) (.inl (.inl rfl)) (.inl (.inr (.inl rfl))) (.inl (.inr (.inr rfl))) (fun b q=> ?_) (zaa hb4f) (fun b q=>q.elim) ⟨id,id,id,id,id,id⟩,ka.below hb3f ka.lt,kX,k13,k14,⟨95,OwnR.nil _ _ _ _⟩,hbl.trans (hb3f.mono hbl.size),hok⟩
          · rcases q with q|q|q|q
            · exact q
            · have q:b=w6.heap.size:=q;omega
            · have q:b=w6.heap.size+1:=q;omega
            · cases q
          · rw [hsf];rcases q with q|q|q|q
            · rcases q with q|q|q
              · have q:b=S:=q;omega
              · have q:b=I:=q;omega
              · have q:b=B:=q;omega
            · have q:b=w6.heap.size:=q;omega
            · have q:b=w6.heap.size+1:=q;omega
            · cases q
        have hA':TnsV w (.slice aa acts.length ca) acts:=hA;have hF: ∀ {tm:Array Value},True:=fun {_}=>trivial;clear hF kX k13 k14 hb45 hb46 hb6f hb4f hb3f hsf lo1 lo2 lo3 lo4 lo5 lo6 mo1 mo2 mo3 hpl hll hsl hD hb4 hb5 hz hb6 h45 h56 h34 hst hps hok hlives ka b0 b1 b2;have hS0:HoS (DS.fresh ev tb r.n) tb 0 0:=⟨rfl,rfl,rfl,DI.fresh ev tb r.n,fun e he=>(by cases he),Int.le_refl _,by decide⟩;refine zaD (c':= .loop (zbb prog [0,0,1,0,1,1,1,1,1,1,1,1,1,1,4])) (by kernel_rfl) ?_;refine zhi (fun (j:Nat) a' w'=>j≤acts.length∧HoI w n ev tb pk d r (.slice aa acts.length ca) j a' w') (fun j=>acts.length-j) (fun j a1 w1 hI=> ?_) 0 _ _ ⟨Nat.zero_le _,rfl,_,_,_,0,(by subst hd;exact ⟨rfl,rfl,rfl,rfl,rfl,rfl,rfl,rfl,rfl,rfl,rfl,congrArg (Value.int .i64) hrn.eq.symm,rfl⟩),hW,hS0⟩;refine wp_mono (zsA hI.2 hA' hI.1 hH.out hn hrk hrn) fun ex a2 w2 hh=> ?_;clear hW hI;cases ex with
        | normal=>exact ⟨j+1,by have:=hh.2;omega,by have:=hh.2;omega,hh.1⟩
        | exit i=>
          obtain ⟨rfl,hR⟩:=hh;show K a2 w2;refine hK _ _ ?_;clear hK;obtain ⟨hdf,s,g,ov,tk,hf,hw2,hs⟩:=hR;obtain ⟨tm,ds⟩:=a2;have hdf:ds= []:=hdf;subst hdf;obtain ⟨jf,hjf⟩:=zhv (t:=tm) hf.sz hf.t0 hf.t2 hf.t4 hf.t8 hf.t9 hf.t10 hf.t12 hf.t13 hf.t14 hf.t15 hf.t16 hf.t17;rw [hjf];clear hjf hf hd hA hA' hH hkw hsz3 hbl hwk;obtain ⟨t12,hO⟩:=hw2.row;obtain ⟨sov,cov,hov,_⟩:=OwnR.row hO;subst hov;have hout:=zi7 hw2.dr;have hlen:s.outs.length=s.L.length:=by unfold DS.outs;rw [List.length_mergeSort,List.length_map]
          rw [hlen] at hout;have herr:=fun {w':World} (q:HoW w n ev tb pk d r w' s g (.slice sov s.L.length cov) [.int .i64 s.nx,.bool s.nw] [.int .i64 s.sx,.bool s.sw] s.L)=>(by
            have q1:=zhz q.dr;rw [hs.br] at q1;exact q1:Calls prog 34 #[.pointer (some ⟨d.S,0,none⟩)] w' fun e w9=>e= .returned (.int .i64 0)∧w9=w')
          clear hlen hO;go_wp2_with (first
            | (go_at_call 30;refine hout.mono ?_;rintro en w3 ⟨v,rfl,hv,hb3⟩;obtain ⟨sv,cv,hve,hj3⟩:=OwnR.row hv;clear hj3;subst hve;have hw3:=hw2.below hb3)
            | (go_at_call 34;refine (herr hw3).mono ?_;rintro en w4 ⟨rfl,hw4⟩;have hw4:=hw4.symm;subst hw4)
            | go_in)
          exact zcZ (fn:=f4) (Post:=fun e w'=>e= .returned (.bool true)∧RowKit.Below w.heap.size w w') rfl rfl rfl ⟨rfl,hw3.old⟩
        | _=>exact hh.elim
  · have h60':(acts.length:Int)>60:=by omega
    go_enter func4,ntmps4;go_wp2_with (first
      | (go_at_call 5;refine (hlives _).mono ?_;rintro e w1 ⟨rfl,hb1⟩;have ka:=(Cl.new w _ _).below hb1 (by simp))
      | go_in)
    have hbl:=(Below.alloc (Below.refl w.heap.size w) (Nat.le_refl _) (Obj.cells #[Value.bool ev,Value.bool tb,Value.bool pk] 23)).trans (hb1.mono (by simp));exact zcZ (fn:=f4) (Post:=fun e w'=>e= .returned (.bool true)∧RowKit.Below w.heap.size w w') rfl rfl rfl ⟨rfl,hbl⟩
end Go.Proofs
end
