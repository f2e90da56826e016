/-
  Proved: laws on the way to 'PdriveScriptProof' (texts VaQ VaR VaS VaT VdG VdL VdL0 VdL1 VaU VaV VaW VaX VaY VaZ VbB VbC VbD VbE VbF VbG VbH VbI); no condition.
-/
import Derived.Test.YtkemikknnokdhaaGreatM4
import Derived.Laws.BytesArg
import Derived.Sort.OwnSortedInts
set_option linter.unusedSimpArgs false
set_option linter.unusedVariables false
set_option maxHeartbeats 4000000
noncomputable section
namespace Go.Proofs
open Go.Dw Go.RowKit Go.Maps Go.Sort Go.Deep
theorem Tryz.U5 (p:Pt): ∀(l:List Pt) (k:Nat) (g:Nat→Int),lg k (l++ [p]) g=zy (lg k l g) (k+l.length) p
 | [], _,_=>rfl
 | x::r,k,g=>by
  rw [List.cons_append,lg,lg,U5 p r,yaX,show k+1+r.length=k+(r.length+1) by omega]
theorem Tryz.H7 {l:List Pt} {i:Nat} {g:Nat→Int} (h:i<l.length):lg 0 (l.take (i+1)) g=zy (lg 0 (l.take i) g) i (l[i]'(h)):=by
 have h1:(l.take i).length=i:=by rw [ya1];omega
 rw [List.take_add_one,yai h];show lg 0 (l.take i++ [l[i]'(h)]) g=_;rw [U5,h1,yaf]
theorem Tryz.UM (l:List Sg): ∀x∈dh l,0≤x∧x<256:=fun x hx=>by
 unfold dh at hx;obtain ⟨s,_,hs⟩:=ydx.1 hx;exact Pt.zT _ x hs
theorem Tryz.qc (p:Pt):(p.bytes.take 14).length=14:=by rw [ya1,Pt.jv];rfl
theorem Tryz.NM {w:World} {X:Nat} {p:Pt} (h:Cl w X (p.bytes.map (Value.int .u8))):w.rangeAt X 0 ((p.bytes.take 14).map (Value.int .u8)):=fun j y hy=>by
 rw [yaf];rw [List.map_take] at hy;have hj:j<14:=by
  have:=(yat.1 hy).1;rw [ya1] at this;omega
 rw [ybD hj] at hy;exact h.cell j y hy
section
variable {fns gW:List Nat} {nw ji:Prop} {A A':Nat→Prop} {w w':World} {S P L Bs B I N:Nat} {r:Tryz.Rg} {s s':Tryz.DS} {g g':Nat→Int}
set_option maxRecDepth 100000 in
theorem Tryz.zsA (h:aQ fns nw A w S P L Bs B I N r s g) (hnw:nw) (hid:0≤s.c.id∧s.c.id<r.n) (hp:0<s.pu.length) (Mc:s.pu.length≤16) (hps: ∀p∈s.pu,p.ok∧0≤p.aG∧p.aG<r.n) (hsg:s.sg.length≤64) (hse:eD s.sg=0):
    Calls prog 70 #[.pointer (some ⟨S,0,none⟩)] w fun e w'=>e= .returned (.tuple #[.agg #[.int .i64 1,.int .i64 0,.int .i64 0],.bool true])∧aQ fns nw A w' S P L Bs B I N r s (Co s g)∧Dw.Mv (· =B) w w':=by
  have hlt:=h.lG;have hb:=h.rg.bnd;have hd:=h.rg.d;have hN:=h.hN;have hF:=h.fit;replace hps:aA (∀p∈s.pu,p.ok∧0≤p.aG∧p.aG<r.n):=⟨hps⟩;have mI:w.heap.size≠B:=by omega
  have hbx:=(yab w.heap.size w).alloc (yaa _) (Obj.cells #[.int .i64 0,.int .i64 0,.int .i64 0] 54);have kW:=Cl.new w #[.int .i64 0,.int .i64 0,.int .i64 0] 54;have hW:=h.box (Obj.cells #[.int .i64 0,.int .i64 0,.int .i64 0] 54);have Ay:=ah (K:=(· =B)) hbx;unfold Co;obtain ⟨aT,aU,au,aj,oW,_,_,Dn,hsv,dS⟩:=hW.obj;have c7:=oW.cell 7 _ rfl;have c18:=oW.cell 18 _ rfl;by_cases htb:s.tab s.sg=true
  · rw [yak htb];have Mj:s.tb=true∧(1:Int)<s.sg.length:=by
      unfold DS.tab at htb;simp only [ybd,yaL] at htb;exact ⟨htb.1,by omega⟩
    obtain ⟨sK,hsl⟩:=Mj;rw [sK] at c7;have hpt:=zpA hsv hsg hse;have htl:(dh s.sg).length=16*s.sg.length:=HZ _;have Du: ∀x∈dh s.sg,0≤x∧x<256:=UM _;obtain ⟨ssa,sc,rfl,hq1,hq2⟩:=hsv;clear hq1 hq2;obtain ⟨O,rfl,pJ,hOr⟩:=Dn hnw;have hOB:O≠B:=fun q=>pJ (.inl (q▸h.aB));have Ae:O<(w.alloc (Obj.cells #[.int .i64 0,.int .i64 0,.int .i64 0] 54)).heap.size:=fJ hOr (by simp [DO.cells]);obtain ⟨ta,ha,ha2⟩: ∃ta:Nat,(ta:Int)=20000+s.c.id*1024∧ta+1024≤N:=⟨(20000+s.c.id*1024).toNat,by omega,by omega⟩;have ea:(jF s.c.id).toNat=ta:=by unfold jF;omega
    rw [ea];have e1:IntKind.wrap .u64 s.c.id=s.c.id:=wrap_u64 _ (by omega) (by omega);have e2:IntKind.wrap .u64 (s.c.id*1024)=s.c.id*1024:=wrap_u64 _ (by omega) (by omega);have e3:IntKind.wrap .u64 (20000+s.c.id*1024)=20000+s.c.id*1024:=wrap_u64 _ (by omega) (by omega);go_enter func70,ntmps70;go_wp2_with (first
      | (go_at_call 116;refine hpt.mono ?_;rintro en w2 ⟨⟨u,rfl,hu⟩,hb2⟩;have h2:=hW.below hb2;have o2:=oW.below hb2 oW.lt;have k2:=kW.below hb2 kW.lt;have n2:=aX hOr (hb2.block O Ae);have hp2:gV (fun b=>A b∨b=w.heap.size) w2 aj s.pu:=gV.aZ dS (fun _ _ q=>q) fun b hb' _=>hb2.block b hb')
      | go_in)
    obtain ⟨pX,c2,rfl,hrow⟩:=af.row hu;obtain ⟨G,rfl,_,hG⟩:=hrow.resolve_left (by intro e;have:=yaB List.length e;rw [aN,yaK,htl] at this;simp at this;omega);have mH:G<w2.heap.size:=fJ hG (by intro e;have:=yaB List.length e;rw [aN,yaK,htl] at this;simp at this;omega);have hbd:=(yab w2.heap.size w2).drew;have hwr:=wT P L Bs B N ta G 0 c2 (dh s.sg) g w2.drew (h2.below hbd).mem h.hN (by omega) (by omega) Du (aX (w':=w2.drew) hG rfl) mH;rw [ha] at hwr;have x0:=o2.cell 0 _ rfl;have x9:=o2.cell 9 _ rfl;have x17:=o2.cell 17 _ rfl;have xO:=n2 0 _ rfl;rw [yaF] at xO;have d2:=o2.kept (w':=w2.drew) rfl;have Tz:=aX (w':=w2.drew) n2 rfl;have y0:=d2.cell 0 _ rfl;have y9:=d2.cell 9 _ rfl;have El:=d2.cell 17 _ rfl;have yO:=Tz 0 _ rfl;rw [yaF] at yO;clear hu hG hpt hse ha ha2 ea htl Du hsl htb c7 c18 hid hb hd hN hF hrow;go_region_held3 (fun w'=>w'.cell? ⟨S,0,none⟩=some (.pointer (some ⟨P,0,none⟩))∧w'.cell? ⟨S,9,none⟩=some (.int .u64 20000)∧w'.cell? ⟨S,17,none⟩=some (.pointer (some ⟨O,0,none⟩))∧w'.cell? ⟨O,0,none⟩=some (.int .i64 s.c.id)) (go_keep)
      ((first
        | (go_at_call 22;refine hwr.mono ?_;rintro en wt ⟨rfl,hg5,aH⟩;have ny:=ku aH;have o5:=d2.kept (aH.block S o2.lt h.sd.2.2.2);have k5:=(k2.kept (w':=w2.drew) rfl).kept (aH.block _ k2.lt mI);have n5:=aX Tz (aH.block O (yae Ae hb2.size) hOB);have z0:=o5.cell 0 _ rfl;have z9:=o5.cell 9 _ rfl;have z17:=o5.cell 17 _ rfl;have zO:=n5 0 _ rfl;rw [yaF] at zO)))
    all_goals
      have RF:=(h2.below hbd).sP ny hg5;have SX:gV (fun b=>A b∨b=w.heap.size) wt aj s.pu:=gV.aZ (gV.aZ hp2 (fun _ _ q=>q) (fun b hb' _=>hbd.block b hb')) (fun _ _ q=>q) fun b hb' hn=>aH.block b hb' fun e=>hn (by have e:b=B:=e;exact .inl (e▸h.aB));have SH:=((Ay.trans (ah hb2)).trans (ah hbd)).trans ny;clear oW dS kW hW Ay hOr y0 y9 El yO x0 x9 x17 xO z0 z9 z17 zO hp2 aH hg5 hwr e1 e2 e3;have hW:=RF;have dS:=SX;have Ay:=SH;have oW:=o5;have kW:=k5;clear RF SX SH o5 k5;have hb:=h.rg.bnd;have hd:=h.rg.d;have hN:=h.hN;have hF:=h.fit;have hR': ∃R o cp,aj= .slice (some ⟨R,o,none⟩) s.pu.length cp∧ ¬(A R∨R=w.heap.size)∧wt.rangeAt R o (dY s.pu):=by
        obtain ⟨sa,c,e,hr⟩:=dS;rcases hr with hr|⟨R,o,e1,hA,h2⟩
        · rw [hr] at hp;exact absurd hp (by decide)
        · exact ⟨R,o,c,by rw [e,e1],hA,h2⟩
      obtain ⟨R,o,cp,rfl,je,hRr⟩:=hR';have qJ:R≠B:=fun q=>je (.inl (q▸h.aB));have RB:R≠w.heap.size:=fun q=>je (.inr q);have hRl:R<wt.heap.size:=fJ hRr (EC (by intro e;rw [e] at hp;exact absurd hp (by decide)));replace hRr:aA (wt.rangeAt R o (dY s.pu)):=⟨hRr⟩;have c19:=oW.cell 19 _ rfl;clear dS;go_wp2_with fail;go_loopw [55] (fun c wr=> ∃i:Nat,i≤s.pu.length∧c= .int .i64 i∧GM wr P L Bs B N (lg 0 (s.pu.take i) (eY g ta (dh s.sg)))∧Dw.Mv (· =B) wt wr) (fun c _=>s.pu.length-(RowKit.intOf c).toNat)
      case atStart=>exact ⟨0,yar _,rfl,hW.mem,Dw.Mv.refl (· =B) _⟩
      case round=>
        obtain ⟨i,hi,rfl,hg,hmr⟩:=hrel;by_cases hik:i<s.pu.length
        · have hcs:=aX (BH hRr.out i hik) (hmr.block R hRl qJ);have hstep:=H7 (g:=(eY g ta (dh s.sg))) hik;obtain ⟨hok,hat⟩:=hps.out _ (yaA hik);generalize s.pu[i]'(hik)=p at hcs hok hat hstep;have hD:=hW.sP hmr hg;have oR:=oW.kept (hmr.block S oW.lt h.sd.2.2.2);rw [ybz 5 i] at hcs;have hrs:=hmr.size;have RD:=hW.lG;have hBr:wr.heap.size≠B:=by omega
          obtain ⟨a,ha,ha2⟩: ∃a:Nat,(a:Int)=r.d+16*p.aG∧a+16≤N:=⟨(r.d+16*p.aG).toNat,by omega,by omega⟩;have ea:(4096+16*p.aG).toNat=a:=by omega
          unfold zy at hstep;rw [ea] at hstep;have bJ:=(yab wr.heap.size wr).alloc (yaa _) (Obj.cells #[.int .i64 p.aG,.int .u64 p.a,.int .u32 p.ln,.int .u16 p.f,.int .u16 p.nx] 139);have y2:=Cl.new wr #[.int .i64 p.aG,.int .u64 p.a,.int .u32 p.ln,.int .u16 p.f,.int .u16 p.nx] 139;have hpb:=fun w'=>IB p hok w';have hgb:=hD.mem.byte;generalize lg 0 (s.pu.take i) (eY g ta (dh s.sg))=gi at hg hstep hD hgb;have gN:=Pt.jv p;have jT:=Pt.zT p;have vV:(aN p.bytes).length=16:=by rw [aN,yaK,gN]
          by_cases hi0:i=0
          · rw [yak hi0] at hstep;subst hi0;rw [ydr,yaF] at hcs;have r0:=hcs 0 _ rfl;have r1:=hcs 1 _ rfl;have r2:=hcs 2 _ rfl;have r3:=hcs 3 _ rfl;have r4:=hcs 4 _ rfl;rw [yaF] at r0;replace hstep:aA _:=⟨hstep⟩;go_wp2_with (first
              | (go_at_call 117;refine (hpb _).mono ?_;rintro en w3 ⟨X,CW,rfl,eO,hb3⟩;have hbw:Below wr.heap.size wr w3:=bJ.trans (hb3.mono (by simp));have y3:=y2.below hb3 y2.lt;have o3:=oR.below hbw oR.lt;have hD3:=hD.below hbw;have hpl:=fun {w'} (q:Below w3.heap.size w3 w')=>tq (hD3.below q) hat;have lD:=hD3.mem;have Em:=y3.cell 0 _ rfl;have D8:=o3.cell 0 _ rfl)
              | go_in)
            have hbd:=(yab w3.heap.size w3).drew;have qL:=eO.lt;have hwr:=wT P L Bs B N a X 0 16 (p.bytes.take 14) gi w3.drew (lD.below hbd) h.hN (by rw [qc p];decide) (by rw [qc p];omega) (fun x hx=>jT x (ybP hx)) (NM (eO.kept (w':=w3.drew) rfl)) qL;rw [qc p] at hwr;clear hgb gN jT vV hpb hcs;rw [show (r.d+16*p.aG)=(a:Int) from ha.symm] at hpl;have d30:=(o3.kept (w':=w3.drew) rfl).cell 0 _ rfl;have z30:=(y3.kept (w':=w3.drew) rfl).cell 0 _ rfl;clear hg lD hD3 hD hps hsg  ha ea ha2;go_region_held3 (fun w'=>w'.cell? ⟨S,0,none⟩=some (.pointer (some ⟨P,0,none⟩))∧w'.cell? ⟨wr.heap.size,0,none⟩=some (.int .i64 p.aG)) (go_keep)
              ((first
                | (go_at_call 57;refine (hpl hbd).mono ?_;rintro en w4 ⟨rfl,hw4⟩;have hw4:=hw4.symm;subst hw4)
                | (go_at_call 22;refine hwr.mono ?_;rintro en w5 ⟨rfl,hg5,aH⟩;have ny:=ku aH;have o5:=(o3.kept (w':=w3.drew) rfl).kept (aH.block S o3.lt h.sd.2.2.2);have y5:=(y3.kept (w':=w3.drew) rfl).kept (aH.block _ y3.lt hBr);have Ei:=o5.cell 0 _ rfl;have Ej:=y5.cell 0 _ rfl)))
            all_goals
              go_wp2_with fail;have oo:=(((hmr.trans (ah hbw)).trans (ah hbd)).trans ny);rw [←hstep.out] at hg5;exact ⟨⟨0+1,by omega,by push_cast;rfl,hg5,oo⟩,by simp only [RowKit.intOf];omega⟩
          · rw [yah hi0] at hstep;have hb0:((i:Int)==0)=false:=by simpa using hi0
            have r0:=hcs 0 _ rfl;have r1:=hcs 1 _ rfl;have r2:=hcs 2 _ rfl;have r3:=hcs 3 _ rfl;have r4:=hcs 4 _ rfl;rw [yaF] at r0;replace hstep:aA _:=⟨hstep⟩;go_wp2_with (first
              | (go_at_call 117;refine (hpb _).mono ?_;rintro en w3 ⟨X,CW,rfl,eO,hb3⟩;have hbw:Below wr.heap.size wr w3:=bJ.trans (hb3.mono (by simp));have y3:=y2.below hb3 y2.lt;have o3:=oR.below hbw oR.lt;have hD3:=hD.below hbw;have hpl:=fun {w'} (q:Below w3.heap.size w3 w')=>tq (hD3.below q) hat;have lD:=hD3.mem;have Em:=y3.cell 0 _ rfl;have D8:=o3.cell 0 _ rfl)
              | go_in)
            have hbd:=(yab w3.heap.size w3).drew;have qL:=eO.lt;have hwr:=wT P L Bs B N a X 0 16 p.bytes gi w3.drew (lD.below hbd) h.hN (by rw [gN];decide) (by rw [gN];omega) jT (fun j y hy=>by rw [yaf];exact (eO.kept (w':=w3.drew) rfl).cell j y hy) qL;rw [gN] at hwr;clear hgb gN jT vV hpb hi0 hb0 hcs;rw [show (r.d+16*p.aG)=(a:Int) from ha.symm] at hpl;have d30:=(o3.kept (w':=w3.drew) rfl).cell 0 _ rfl;have z30:=(y3.kept (w':=w3.drew) rfl).cell 0 _ rfl;clear hg lD hD3 hD hps hsg  ha ea ha2;go_region_held3 (fun w'=>w'.cell? ⟨S,0,none⟩=some (.pointer (some ⟨P,0,none⟩))∧w'.cell? ⟨wr.heap.size,0,none⟩=some (.int .i64 p.aG)) (go_keep)
              ((first
                | (go_at_call 57;refine (hpl hbd).mono ?_;rintro en w4 ⟨rfl,hw4⟩;have hw4:=hw4.symm;subst hw4)
                | (go_at_call 22;refine hwr.mono ?_;rintro en w5 ⟨rfl,hg5,aH⟩;have ny:=ku aH;have o5:=(o3.kept (w':=w3.drew) rfl).kept (aH.block S o3.lt h.sd.2.2.2);have y5:=(y3.kept (w':=w3.drew) rfl).kept (aH.block _ y3.lt hBr);have Ei:=o5.cell 0 _ rfl;have Ej:=y5.cell 0 _ rfl)))
            all_goals
              go_wp2_with fail;have oo:=(((hmr.trans (ah hbw)).trans (ah hbd)).trans ny);rw [←hstep.out] at hg5;exact ⟨⟨i+1,by omega,by push_cast;rfl,hg5,oo⟩,by simp only [RowKit.intOf];omega⟩
        · have hik':i=s.pu.length:=by omega
          subst hik';rw [ybE] at hg;have hD:=hW.sP hmr hg;have kR:=kW.kept (hmr.block _ kW.lt mI);have hmv:=Ay.trans hmr;have b0:=kR.cell 0 _ rfl;have q0:=kR.free 0;have b1:=kR.cell 1 _ rfl;have q1:=kR.free 1;have b2:=kR.cell 2 _ rfl;have q2:=kR.free 2;go_wp2_with fail;have kA:=(((kR.set 0 (.int .i64 1) (by simp)).set 1 (.int .i64 0) (by simp)).set 2 (.int .i64 0) (by simp));refine yap (bU rfl _ _ w.heap.size [.int .i64 1,.int .i64 0,.int .i64 0] _ rfl (fun j y hy=>by rw [yaf];exact kA.cell j y hy) underlying54 rfl (by kernel_rfl)) rfl ?_;exact ⟨rfl,hD.fin h.aS h.aI h.aB ⟨by omega,by omega,by omega,by omega,by omega,by omega⟩ (zag (zag (zag (ah (K:=(· =w.heap.size)) (yab _ _)) w.heap.size 0 _ rfl) w.heap.size 1 _ rfl) w.heap.size 2 _ rfl),aD (aD (aD (hmv) w.heap.size 0 _ (.inr (yaa _))) w.heap.size 1 _ (.inr (yaa _))) w.heap.size 2 _ (.inr (yaa _))⟩
  · rw [yah htb];have hbr:(s.tb&&decide ((1:Int)<s.sg.length))=false:=by
      cases q:s.tb with
      | false=>rfl
      | true=>
        unfold DS.tab at htb;rw [q] at htb;simp only [ybr,yaL] at htb;simp only [ybr,yaR];omega
    obtain ⟨ssa,sc,rfl,hq1,hq2⟩:=hsv;clear hq1 hq2;go_enter func70,ntmps70;cases sK:s.tb
    · rw [sK] at c7;have hR': ∃R o cp,aj= .slice (some ⟨R,o,none⟩) s.pu.length cp∧ ¬(A R∨R=w.heap.size)∧(w.alloc (Obj.cells #[.int .i64 0,.int .i64 0,.int .i64 0] 54)).rangeAt R o (dY s.pu):=by
        obtain ⟨sa,c,e,hr⟩:=dS;rcases hr with hr|⟨R,o,e1,hA,h2⟩
        · rw [hr] at hp;exact absurd hp (by decide)
        · exact ⟨R,o,c,by rw [e,e1],hA,h2⟩
      obtain ⟨R,o,cp,rfl,je,hRr⟩:=hR';have qJ:R≠B:=fun q=>je (.inl (q▸h.aB));have RB:R≠w.heap.size:=fun q=>je (.inr q);have hRl:R<(w.alloc (Obj.cells #[.int .i64 0,.int .i64 0,.int .i64 0] 54)).heap.size:=fJ hRr (EC (by intro e;rw [e] at hp;exact absurd hp (by decide)));replace hRr:aA ((w.alloc (Obj.cells #[.int .i64 0,.int .i64 0,.int .i64 0] 54)).rangeAt R o (dY s.pu)):=⟨hRr⟩;have c19:=oW.cell 19 _ rfl;clear dS;go_wp2_with fail;go_loopw [55] (fun c wr=> ∃i:Nat,i≤s.pu.length∧c= .int .i64 i∧GM wr P L Bs B N (lg 0 (s.pu.take i) g)∧Dw.Mv (· =B) (w.alloc (Obj.cells #[.int .i64 0,.int .i64 0,.int .i64 0] 54)) wr) (fun c _=>s.pu.length-(RowKit.intOf c).toNat)
      case atStart=>exact ⟨0,yar _,rfl,hW.mem,Dw.Mv.refl (· =B) _⟩
      case round=>
        obtain ⟨i,hi,rfl,hg,hmr⟩:=hrel;by_cases hik:i<s.pu.length
        · have hcs:=aX (BH hRr.out i hik) (hmr.block R hRl qJ);have hstep:=H7 (g:=g) hik;obtain ⟨hok,hat⟩:=hps.out _ (yaA hik);generalize s.pu[i]'(hik)=p at hcs hok hat hstep;have hD:=hW.sP hmr hg;have oR:=oW.kept (hmr.block S oW.lt h.sd.2.2.2);rw [ybz 5 i] at hcs;have hrs:=hmr.size;have RD:=hW.lG;have hBr:wr.heap.size≠B:=by omega
          obtain ⟨a,ha,ha2⟩: ∃a:Nat,(a:Int)=r.d+16*p.aG∧a+16≤N:=⟨(r.d+16*p.aG).toNat,by omega,by omega⟩;have ea:(4096+16*p.aG).toNat=a:=by omega
          unfold zy at hstep;rw [ea] at hstep;have bJ:=(yab wr.heap.size wr).alloc (yaa _) (Obj.cells #[.int .i64 p.aG,.int .u64 p.a,.int .u32 p.ln,.int .u16 p.f,.int .u16 p.nx] 139);have y2:=Cl.new wr #[.int .i64 p.aG,.int .u64 p.a,.int .u32 p.ln,.int .u16 p.f,.int .u16 p.nx] 139;have hpb:=fun w'=>IB p hok w';have hgb:=hD.mem.byte;generalize lg 0 (s.pu.take i) g=gi at hg hstep hD hgb;have gN:=Pt.jv p;have jT:=Pt.zT p;have vV:(aN p.bytes).length=16:=by rw [aN,yaK,gN]
          by_cases hi0:i=0
          · rw [yak hi0] at hstep;subst hi0;rw [ydr,yaF] at hcs;have r0:=hcs 0 _ rfl;have r1:=hcs 1 _ rfl;have r2:=hcs 2 _ rfl;have r3:=hcs 3 _ rfl;have r4:=hcs 4 _ rfl;rw [yaF] at r0;replace hstep:aA _:=⟨hstep⟩;go_wp2_with (first
              | (go_at_call 117;refine (hpb _).mono ?_;rintro en w3 ⟨X,CW,rfl,eO,hb3⟩;have hbw:Below wr.heap.size wr w3:=bJ.trans (hb3.mono (by simp));have y3:=y2.below hb3 y2.lt;have o3:=oR.below hbw oR.lt;have hD3:=hD.below hbw;have hpl:=fun {w'} (q:Below w3.heap.size w3 w')=>tq (hD3.below q) hat;have lD:=hD3.mem;have Em:=y3.cell 0 _ rfl;have D8:=o3.cell 0 _ rfl)
              | go_in)
            have hbd:=(yab w3.heap.size w3).drew;have qL:=eO.lt;have hwr:=wT P L Bs B N a X 0 16 (p.bytes.take 14) gi w3.drew (lD.below hbd) h.hN (by rw [qc p];decide) (by rw [qc p];omega) (fun x hx=>jT x (ybP hx)) (NM (eO.kept (w':=w3.drew) rfl)) qL;rw [qc p] at hwr;clear hgb gN jT vV hpb hcs;rw [show (r.d+16*p.aG)=(a:Int) from ha.symm] at hpl;have d30:=(o3.kept (w':=w3.drew) rfl).cell 0 _ rfl;have z30:=(y3.kept (w':=w3.drew) rfl).cell 0 _ rfl;clear hg lD hD3 hD hps hsg hse hid Dn ha ea ha2;go_region_held3 (fun w'=>w'.cell? ⟨S,0,none⟩=some (.pointer (some ⟨P,0,none⟩))∧w'.cell? ⟨wr.heap.size,0,none⟩=some (.int .i64 p.aG)) (go_keep)
              ((first
                | (go_at_call 57;refine (hpl hbd).mono ?_;rintro en w4 ⟨rfl,hw4⟩;have hw4:=hw4.symm;subst hw4)
                | (go_at_call 22;refine hwr.mono ?_;rintro en w5 ⟨rfl,hg5,aH⟩;have ny:=ku aH;have o5:=(o3.kept (w':=w3.drew) rfl).kept (aH.block S o3.lt h.sd.2.2.2);have y5:=(y3.kept (w':=w3.drew) rfl).kept (aH.block _ y3.lt hBr);have Ei:=o5.cell 0 _ rfl;have Ej:=y5.cell 0 _ rfl)))
            all_goals
              go_wp2_with fail;have oo:=(((hmr.trans (ah hbw)).trans (ah hbd)).trans ny);rw [←hstep.out] at hg5;exact ⟨⟨0+1,by omega,by push_cast;rfl,hg5,oo⟩,by simp only [RowKit.intOf];omega⟩
          · rw [yah hi0] at hstep;have hb0:((i:Int)==0)=false:=by simpa using hi0
            have r0:=hcs 0 _ rfl;have r1:=hcs 1 _ rfl;have r2:=hcs 2 _ rfl;have r3:=hcs 3 _ rfl;have r4:=hcs 4 _ rfl;rw [yaF] at r0;replace hstep:aA _:=⟨hstep⟩;go_wp2_with (first
              | (go_at_call 117;refine (hpb _).mono ?_;rintro en w3 ⟨X,CW,rfl,eO,hb3⟩;have hbw:Below wr.heap.size wr w3:=bJ.trans (hb3.mono (by simp));have y3:=y2.below hb3 y2.lt;have o3:=oR.below hbw oR.lt;have hD3:=hD.below hbw;have hpl:=fun {w'} (q:Below w3.heap.size w3 w')=>tq (hD3.below q) hat;have lD:=hD3.mem;have Em:=y3.cell 0 _ rfl;have D8:=o3.cell 0 _ rfl)
              | go_in)
            have hbd:=(yab w3.heap.size w3).drew;have qL:=eO.lt;have hwr:=wT P L Bs B N a X 0 16 p.bytes gi w3.drew (lD.below hbd) h.hN (by rw [gN];decide) (by rw [gN];omega) jT (fun j y hy=>by rw [yaf];exact (eO.kept (w':=w3.drew) rfl).cell j y hy) qL;rw [gN] at hwr;clear hgb gN jT vV hpb hi0 hb0 hcs;rw [show (r.d+16*p.aG)=(a:Int) from ha.symm] at hpl;have d30:=(o3.kept (w':=w3.drew) rfl).cell 0 _ rfl;have z30:=(y3.kept (w':=w3.drew) rfl).cell 0 _ rfl;clear hg lD hD3 hD hps hsg hse hid Dn ha ea ha2;go_region_held3 (fun w'=>w'.cell? ⟨S,0,none⟩=some (.pointer (some ⟨P,0,none⟩))∧w'.cell? ⟨wr.heap.size,0,none⟩=some (.int .i64 p.aG)) (go_keep)
              ((first
                | (go_at_call 57;refine (hpl hbd).mono ?_;rintro en w4 ⟨rfl,hw4⟩;have hw4:=hw4.symm;subst hw4)
                | (go_at_call 22;refine hwr.mono ?_;rintro en w5 ⟨rfl,hg5,aH⟩;have ny:=ku aH;have o5:=(o3.kept (w':=w3.drew) rfl).kept (aH.block S o3.lt h.sd.2.2.2);have y5:=(y3.kept (w':=w3.drew) rfl).kept (aH.block _ y3.lt hBr);have Ei:=o5.cell 0 _ rfl;have Ej:=y5.cell 0 _ rfl)))
            all_goals
              go_wp2_with fail;have oo:=(((hmr.trans (ah hbw)).trans (ah hbd)).trans ny);rw [←hstep.out] at hg5;exact ⟨⟨i+1,by omega,by push_cast;rfl,hg5,oo⟩,by simp only [RowKit.intOf];omega⟩
        · have hik':i=s.pu.length:=by omega
          subst hik';rw [ybE] at hg;have hD:=hW.sP hmr hg;have kR:=kW.kept (hmr.block _ kW.lt mI);have hmv:=Ay.trans hmr;have b0:=kR.cell 0 _ rfl;have q0:=kR.free 0;have b1:=kR.cell 1 _ rfl;have q1:=kR.free 1;have b2:=kR.cell 2 _ rfl;have q2:=kR.free 2;go_wp2_with fail;have kA:=(((kR.set 0 (.int .i64 1) (by simp)).set 1 (.int .i64 0) (by simp)).set 2 (.int .i64 0) (by simp));refine yap (bU rfl _ _ w.heap.size [.int .i64 1,.int .i64 0,.int .i64 0] _ rfl (fun j y hy=>by rw [yaf];exact kA.cell j y hy) underlying54 rfl (by kernel_rfl)) rfl ?_;exact ⟨rfl,hD.fin h.aS h.aI h.aB ⟨by omega,by omega,by omega,by omega,by omega,by omega⟩ (zag (zag (zag (ah (K:=(· =w.heap.size)) (yab _ _)) w.heap.size 0 _ rfl) w.heap.size 1 _ rfl) w.heap.size 2 _ rfl),aD (aD (aD (hmv) w.heap.size 0 _ (.inr (yaa _))) w.heap.size 1 _ (.inr (yaa _))) w.heap.size 2 _ (.inr (yaa _))⟩
    · rw [sK] at c7 hbr;have hs1: ¬(1:Int)<s.sg.length:=by simpa using hbr
      have hR': ∃R o cp,aj= .slice (some ⟨R,o,none⟩) s.pu.length cp∧ ¬(A R∨R=w.heap.size)∧(w.alloc (Obj.cells #[.int .i64 0,.int .i64 0,.int .i64 0] 54)).rangeAt R o (dY s.pu):=by
        obtain ⟨sa,c,e,hr⟩:=dS;rcases hr with hr|⟨R,o,e1,hA,h2⟩
        · rw [hr] at hp;exact absurd hp (by decide)
        · exact ⟨R,o,c,by rw [e,e1],hA,h2⟩
      obtain ⟨R,o,cp,rfl,je,hRr⟩:=hR';have qJ:R≠B:=fun q=>je (.inl (q▸h.aB));have RB:R≠w.heap.size:=fun q=>je (.inr q);have hRl:R<(w.alloc (Obj.cells #[.int .i64 0,.int .i64 0,.int .i64 0] 54)).heap.size:=fJ hRr (EC (by intro e;rw [e] at hp;exact absurd hp (by decide)));replace hRr:aA ((w.alloc (Obj.cells #[.int .i64 0,.int .i64 0,.int .i64 0] 54)).rangeAt R o (dY s.pu)):=⟨hRr⟩;have c19:=oW.cell 19 _ rfl;clear dS;go_wp2_with fail;go_loopw [55] (fun c wr=> ∃i:Nat,i≤s.pu.length∧c= .int .i64 i∧GM wr P L Bs B N (lg 0 (s.pu.take i) g)∧Dw.Mv (· =B) (w.alloc (Obj.cells #[.int .i64 0,.int .i64 0,.int .i64 0] 54)) wr) (fun c _=>s.pu.length-(RowKit.intOf c).toNat)
      case atStart=>exact ⟨0,yar _,rfl,hW.mem,Dw.Mv.refl (· =B) _⟩
      case round=>
        obtain ⟨i,hi,rfl,hg,hmr⟩:=hrel;by_cases hik:i<s.pu.length
        · have hcs:=aX (BH hRr.out i hik) (hmr.block R hRl qJ);have hstep:=H7 (g:=g) hik;obtain ⟨hok,hat⟩:=hps.out _ (yaA hik);generalize s.pu[i]'(hik)=p at hcs hok hat hstep;have hD:=hW.sP hmr hg;have oR:=oW.kept (hmr.block S oW.lt h.sd.2.2.2);rw [ybz 5 i] at hcs;have hrs:=hmr.size;have RD:=hW.lG;have hBr:wr.heap.size≠B:=by omega
          obtain ⟨a,ha,ha2⟩: ∃a:Nat,(a:Int)=r.d+16*p.aG∧a+16≤N:=⟨(r.d+16*p.aG).toNat,by omega,by omega⟩;have ea:(4096+16*p.aG).toNat=a:=by omega
          unfold zy at hstep;rw [ea] at hstep;have bJ:=(yab wr.heap.size wr).alloc (yaa _) (Obj.cells #[.int .i64 p.aG,.int .u64 p.a,.int .u32 p.ln,.int .u16 p.f,.int .u16 p.nx] 139);have y2:=Cl.new wr #[.int .i64 p.aG,.int .u64 p.a,.int .u32 p.ln,.int .u16 p.f,.int .u16 p.nx] 139;have hpb:=fun w'=>IB p hok w';have hgb:=hD.mem.byte;generalize lg 0 (s.pu.take i) g=gi at hg hstep hD hgb;have gN:=Pt.jv p;have jT:=Pt.zT p;have vV:(aN p.bytes).length=16:=by rw [aN,yaK,gN]
          by_cases hi0:i=0
          · rw [yak hi0] at hstep;subst hi0;rw [ydr,yaF] at hcs;have r0:=hcs 0 _ rfl;have r1:=hcs 1 _ rfl;have r2:=hcs 2 _ rfl;have r3:=hcs 3 _ rfl;have r4:=hcs 4 _ rfl;rw [yaF] at r0;replace hstep:aA _:=⟨hstep⟩;go_wp2_with (first
              | (go_at_call 117;refine (hpb _).mono ?_;rintro en w3 ⟨X,CW,rfl,eO,hb3⟩;have hbw:Below wr.heap.size wr w3:=bJ.trans (hb3.mono (by simp));have y3:=y2.below hb3 y2.lt;have o3:=oR.below hbw oR.lt;have hD3:=hD.below hbw;have hpl:=fun {w'} (q:Below w3.heap.size w3 w')=>tq (hD3.below q) hat;have lD:=hD3.mem;have Em:=y3.cell 0 _ rfl;have D8:=o3.cell 0 _ rfl)
              | go_in)
            have hbd:=(yab w3.heap.size w3).drew;have qL:=eO.lt;have hwr:=wT P L Bs B N a X 0 16 (p.bytes.take 14) gi w3.drew (lD.below hbd) h.hN (by rw [qc p];decide) (by rw [qc p];omega) (fun x hx=>jT x (ybP hx)) (NM (eO.kept (w':=w3.drew) rfl)) qL;rw [qc p] at hwr;clear hgb gN jT vV hpb hcs;rw [show (r.d+16*p.aG)=(a:Int) from ha.symm] at hpl;have d30:=(o3.kept (w':=w3.drew) rfl).cell 0 _ rfl;have z30:=(y3.kept (w':=w3.drew) rfl).cell 0 _ rfl;clear hg lD hD3 hD hps hsg hse hid Dn ha ea ha2;go_region_held3 (fun w'=>w'.cell? ⟨S,0,none⟩=some (.pointer (some ⟨P,0,none⟩))∧w'.cell? ⟨wr.heap.size,0,none⟩=some (.int .i64 p.aG)) (go_keep)
              ((first
                | (go_at_call 57;refine (hpl hbd).mono ?_;rintro en w4 ⟨rfl,hw4⟩;have hw4:=hw4.symm;subst hw4)
                | (go_at_call 22;refine hwr.mono ?_;rintro en w5 ⟨rfl,hg5,aH⟩;have ny:=ku aH;have o5:=(o3.kept (w':=w3.drew) rfl).kept (aH.block S o3.lt h.sd.2.2.2);have y5:=(y3.kept (w':=w3.drew) rfl).kept (aH.block _ y3.lt hBr);have Ei:=o5.cell 0 _ rfl;have Ej:=y5.cell 0 _ rfl)))
            all_goals
              go_wp2_with fail;have oo:=(((hmr.trans (ah hbw)).trans (ah hbd)).trans ny);rw [←hstep.out] at hg5;exact ⟨⟨0+1,by omega,by push_cast;rfl,hg5,oo⟩,by simp only [RowKit.intOf];omega⟩
          · rw [yah hi0] at hstep;have hb0:((i:Int)==0)=false:=by simpa using hi0
            have r0:=hcs 0 _ rfl;have r1:=hcs 1 _ rfl;have r2:=hcs 2 _ rfl;have r3:=hcs 3 _ rfl;have r4:=hcs 4 _ rfl;rw [yaF] at r0;replace hstep:aA _:=⟨hstep⟩;go_wp2_with (first
              | (go_at_call 117;refine (hpb _).mono ?_;rintro en w3 ⟨X,CW,rfl,eO,hb3⟩;have hbw:Below wr.heap.size wr w3:=bJ.trans (hb3.mono (by simp));have y3:=y2.below hb3 y2.lt;have o3:=oR.below hbw oR.lt;have hD3:=hD.below hbw;have hpl:=fun {w'} (q:Below w3.heap.size w3 w')=>tq (hD3.below q) hat;have lD:=hD3.mem;have Em:=y3.cell 0 _ rfl;have D8:=o3.cell 0 _ rfl)
              | go_in)
            have hbd:=(yab w3.heap.size w3).drew;have qL:=eO.lt;have hwr:=wT P L Bs B N a X 0 16 p.bytes gi w3.drew (lD.below hbd) h.hN (by rw [gN];decide) (by rw [gN];omega) jT (fun j y hy=>by rw [yaf];exact (eO.kept (w':=w3.drew) rfl).cell j y hy) qL;rw [gN] at hwr;clear hgb gN jT vV hpb hi0 hb0 hcs;rw [show (r.d+16*p.aG)=(a:Int) from ha.symm] at hpl;have d30:=(o3.kept (w':=w3.drew) rfl).cell 0 _ rfl;have z30:=(y3.kept (w':=w3.drew) rfl).cell 0 _ rfl;clear hg lD hD3 hD hps hsg hse hid Dn ha ea ha2;go_region_held3 (fun w'=>w'.cell? ⟨S,0,none⟩=some (.pointer (some ⟨P,0,none⟩))∧w'.cell? ⟨wr.heap.size,0,none⟩=some (.int .i64 p.aG)) (go_keep)
              ((first
                | (go_at_call 57;refine (hpl hbd).mono ?_;rintro en w4 ⟨rfl,hw4⟩;have hw4:=hw4.symm;subst hw4)
                | (go_at_call 22;refine hwr.mono ?_;rintro en w5 ⟨rfl,hg5,aH⟩;have ny:=ku aH;have o5:=(o3.kept (w':=w3.drew) rfl).kept (aH.block S o3.lt h.sd.2.2.2);have y5:=(y3.kept (w':=w3.drew) rfl).kept (aH.block _ y3.lt hBr);have Ei:=o5.cell 0 _ rfl;have Ej:=y5.cell 0 _ rfl)))
            all_goals
              go_wp2_with fail;have oo:=(((hmr.trans (ah hbw)).trans (ah hbd)).trans ny);rw [←hstep.out] at hg5;exact ⟨⟨i+1,by omega,by push_cast;rfl,hg5,oo⟩,by simp only [RowKit.intOf];omega⟩
        · have hik':i=s.pu.length:=by omega
          subst hik';rw [ybE] at hg;have hD:=hW.sP hmr hg;have kR:=kW.kept (hmr.block _ kW.lt mI);have hmv:=Ay.trans hmr;have b0:=kR.cell 0 _ rfl;have q0:=kR.free 0;have b1:=kR.cell 1 _ rfl;have q1:=kR.free 1;have b2:=kR.cell 2 _ rfl;have q2:=kR.free 2;go_wp2_with fail;have kA:=(((kR.set 0 (.int .i64 1) (by simp)).set 1 (.int .i64 0) (by simp)).set 2 (.int .i64 0) (by simp));refine yap (bU rfl _ _ w.heap.size [.int .i64 1,.int .i64 0,.int .i64 0] _ rfl (fun j y hy=>by rw [yaf];exact kA.cell j y hy) underlying54 rfl (by kernel_rfl)) rfl ?_;exact ⟨rfl,hD.fin h.aS h.aI h.aB ⟨by omega,by omega,by omega,by omega,by omega,by omega⟩ (zag (zag (zag (ah (K:=(· =w.heap.size)) (yab _ _)) w.heap.size 0 _ rfl) w.heap.size 1 _ rfl) w.heap.size 2 _ rfl),aD (aD (aD (hmv) w.heap.size 0 _ (.inr (yaa _))) w.heap.size 1 _ (.inr (yaa _))) w.heap.size 2 _ (.inr (yaa _))⟩
end
end Go.Proofs
namespace Go.Proofs
open Go.Dw Go.RowKit Go.Maps Go.Sort Go.Deep
section
variable {fns gW:List Nat} {nw ji:Prop} {A A':Nat→Prop} {w w':World} {S P L Bs B I N:Nat} {r:Tryz.Rg} {s s':Tryz.DS} {g g':Nat→Int}
theorem Tryz.aQ.AU (h:aQ fns nw A w S P L Bs B I N r s g) (hn:ji→nw):aQ fns ji A w S P L Bs B I N r s g:=by
 obtain ⟨aT,aU,au,aj,h1,h2,h3,h4,h5,h6⟩:=h.obj;exact ⟨⟨aT,aU,au,aj,h1,h2,h3,fun q=>h4 (hn q),h5,h6⟩,h.ids,h.mem,h.ne,h.aS,h.aI,h.aB,h.lt,h.rg,h.hN,h.fit,h.sd,h.md⟩
set_option maxRecDepth 100000 in
theorem Tryz.zig (h:aQ fns nw A w S P L Bs B I N r s g) {aT:Value} (hs:jK A w S aT gW) (op tok wr:Int) (nn kk:Bool):
  Calls prog 69 #[.pointer (some ⟨S,0,none⟩),.agg #[.int .i64 op,.bool nn,.int .i64 tok,.int .u32 wr,.bool kk],aT] w fun e w'=>e= .returned (.tuple #[])∧aQ gW nw A w' S P L Bs B I N r { s with op:=op,nn:=nn,tok:=tok,wr:=wr,kk:=kk,dn:=false } g∧Dw.Mv (· =S) w w':=by
 have hlt:=h.lG;have hbx:=(yab w.heap.size w).alloc (yaa _) (Obj.cells #[.int .i64 op,.bool nn,.int .i64 tok,.int .u32 wr,.bool kk] 67);have k2:=Cl.new w #[.int .i64 op,.bool nn,.int .i64 tok,.int .u32 wr,.bool kk] 67;have hX:=h.below hbx;have hsX:jK A (w.alloc (Obj.cells #[.int .i64 op,.bool nn,.int .i64 tok,.int .u32 wr,.bool kk] 67)) S aT gW:=hs.aZ (fun _ _ q=>q) fun b hb _=>hbx.block b hb;have hSX:S≠w.heap.size:=by omega
 have iU:w.heap.size≠S:=by omega
 obtain ⟨acp,aU,au,aj,oX,_⟩:=hX.obj;have Uj:=oX.cell 16 _ rfl;have f16:=oX.free 16;have x20:=oX.cell 20 _ rfl;have f20:=oX.free 20;have x21:=oX.cell 21 _ rfl;have f21:=oX.free 21;have x22:=oX.cell 22 _ rfl;have f22:=oX.free 22;have x23:=oX.cell 23 _ rfl;have f23:=oX.free 23;have x24:=oX.cell 24 _ rfl;have f24:=oX.free 24;have x25:=oX.cell 25 _ rfl;have f25:=oX.free 25;have b0:=k2.cell 0 _ rfl;have b1:=k2.cell 1 _ rfl;have b2:=k2.cell 2 _ rfl;have b3:=k2.cell 3 _ rfl;have b4:=k2.cell 4 _ rfl;have hst:=hs;obtain ⟨sa,sc,rfl,hs1,hs2⟩:=hs;replace hst:aA _:=⟨hst⟩;clear hlt hs1 hs2 hsX;go_enter func69,ntmps69;go_wp2_with fail;go_end0;have gX:=zag (K:=(· =S)) (zag (K:=(· =S)) (zag (K:=(· =S)) (zag (K:=(· =S)) (zag (K:=(· =S)) (zag (K:=(· =S)) (ah (K:=(· =S)) hbx) S 20 (.int .i64 op) rfl) S 21 (.bool nn) rfl) S 22 (.int .i64 tok) rfl) S 23 (.int .u32 wr) rfl) S 24 (.bool kk) rfl) S 25 (.bool false) rfl;refine ⟨rfl,((((((hX.setRow (s':= { s with op:=op }) 20 (.int .i64 op) (by decide) (fun _ _ _ _=>rfl) rfl rfl rfl rfl).setRow (s':= { s with op:=op,nn:=nn }) 21 (.bool nn) (by decide) (fun _ _ _ _=>rfl) rfl rfl rfl rfl).setRow (s':= { s with op:=op,nn:=nn,tok:=tok }) 22 (.int .i64 tok) (by decide) (fun _ _ _ _=>rfl) rfl rfl rfl rfl).setRow (s':= { s with op:=op,nn:=nn,tok:=tok,wr:=wr }) 23 (.int .u32 wr) (by decide) (fun _ _ _ _=>rfl) rfl rfl rfl rfl).setRow (s':= { s with op:=op,nn:=nn,tok:=tok,wr:=wr,kk:=kk }) 24 (.bool kk) (by decide) (fun _ _ _ _=>rfl) rfl rfl rfl rfl).setRow (s':= { s with op:=op,nn:=nn,tok:=tok,wr:=wr,kk:=kk,dn:=false }) 25 (.bool false) (by decide) (fun _ _ _ _=>rfl) rfl rfl rfl rfl).yT (hst.out.aZ (fun _ _ q=>q) fun b hb hn=>gX.block b hb fun e=>hn (by have e:b=S:=e;exact e▸h.aS)),zag (K:=(· =S)) gX S 16 _ rfl⟩
theorem Tryz.aQ.alt (h:aQ fns nw A w S P L Bs B I N r s g) (hr: ∀aT aU au aj,s.row r P I aT aU au aj=s'.row r P I aT aU au aj) (hc:s'.c=s.c) (hsg:s'.sg=s.sg) (dS:s'.pu=s.pu) (hL:s'.L=s.L):aQ fns nw A w S P L Bs B I N r s' g:=by
 obtain ⟨aT,aU,au,aj,h1,h2,h3,h4,h5,h6⟩:=h.obj;exact ⟨⟨aT,aU,au,aj,hr aT aU au aj▸h1,h2,h3,fun q=>hc▸h4 q,hsg▸h5,dS▸h6⟩,hL▸h.ids,h.mem,h.ne,h.aS,h.aI,h.aB,h.lt,h.rg,h.hN,h.fit,h.sd,h.md⟩
set_option maxRecDepth 100000 in
theorem Tryz.zmF (h:DW A w S P L Bs B I N r s g):Calls prog 16 #[.pointer (some ⟨S,0,none⟩)] w fun e w'=>e= .returned (.int .i64 (mX s).1)∧DW A w' S P L Bs B I N r (mX s).2 g∧Dw.Mv (· =S) w w':=by
  have hrd:=Ja h;unfold DS.A7 at hrd;by_cases hb:s.br=true
  · have e1:mX s=(4,s):=by unfold mX;rw [yak hb]
    rw [e1];rw [yak hb] at hrd;clear e1 hb;go_enter func16,ntmps16;go_wp2_with (first
      | (go_at_call 61;refine hrd.mono ?_;rintro e w' ⟨rfl,hw⟩;have hw:=hw.symm;subst hw)
      | go_in)
    go_ret;exact ⟨rfl,h,Dw.Mv.refl (· =S) _⟩
  · by_cases hp:s.ph=0
    · have hpb:=h.pb.Ho;have e1:mX s=(0,{ s with ph:=11,dn:=false,op:=2,nn:=false,tok:=0,wr:=0,kk:=false }):=by unfold mX;rw [yah hb,yah (by simp [hp])]
      rw [e1] at hpb ⊢;rw [yah hb,yah (by simp [hp])] at hrd;have hbx:=(yab w.heap.size w).alloc (yaa _) (Obj.cells #[.func (.func 79) #[.pointer (some ⟨S,0,none⟩)] #[]] 155);have hX:=h.f.below hbx;have hst:=jK.new (A:=A) (S:=S) (w:=w) (l:=fo 11) (cs:= #[.func (.func 79) #[.pointer (some ⟨S,0,none⟩)] #[]]) h.f.lt 155 rfl;have hbg:=zig hX hst 2 0 0 false false;clear e1 hb;go_enter func16,ntmps16;go_wp2_with (first
        | (go_at_call 61;refine hrd.mono ?_;rintro e w' ⟨rfl,hw⟩;have hw:=hw.symm;subst hw)
        | (go_at_call 69;refine hbg.mono ?_;rintro e w2 ⟨rfl,h2,hm2⟩)
        | go_in)
      go_ret;exact ⟨rfl,⟨(h2.AU (ji:=1≤11∧11≤5) fun q=>absurd q.2 (by decide)).alt (s':= { s with ph:=11,dn:=false,op:=2,nn:=false,tok:=0,wr:=0,kk:=false }) (fun _ _ _ _=>rfl) rfl rfl rfl rfl,hpb⟩,(ah (K:=(· =S)) hbx).trans hm2⟩
    · have e1:mX s=(8,s):=by unfold mX;rw [yah hb,yak hp]
      rw [e1];rw [yah hb,yak hp] at hrd;clear e1 hb hp;go_enter func16,ntmps16;go_wp2_with (first
        | (go_at_call 61;refine hrd.mono ?_;rintro e w' ⟨rfl,hw⟩;have hw:=hw.symm;subst hw)
        | go_in)
      go_ret;exact ⟨rfl,h,Dw.Mv.refl (· =S) _⟩
end
end Go.Proofs
namespace Go.Proofs
open Go.Dw Go.RowKit Go.Maps Go.Sort Go.Deep
section
variable {fns gW:List Nat} {nw ji:Prop} {A A':Nat→Prop} {w w':World} {S P L Bs B I N:Nat} {r:Tryz.Rg} {s s':Tryz.DS} {g g':Nat→Int}
set_option maxRecDepth 100000 in
theorem Tryz.zqm (hd:DW A w S P L Bs B I N r s g) (hb:s.br=false) (hp:s.ph≠0) {fn:Nat} {rest:List Nat} (hen: ∀args w,(callFunc fn args).run prog w= .ok (.enter fn args) w) (hf:fo s.ph=fn::rest) {k wh i:Int} {bY:List Nat} {pU:Prop} {s1:DS} {g1:Nat→Int}
    (hcall: ∀A1 w1,aQ rest (1≤s.ph∧s.ph≤5) A1 w1 S P L Bs B I N r s g→Calls prog fn #[.pointer (some ⟨S,0,none⟩)] w1 fun e w'=>e= .returned (.tuple #[.agg #[.int .i64 k,.int .i64 wh,.int .i64 i],.bool true])∧aQ bY pU A1 w' S P L Bs B I N r s1 g1∧Dw.Mv (dK S I B) w1 w'):
    Calls prog 25 #[.pointer (some ⟨S,0,none⟩)] w fun e w'=>e= .returned (.tuple #[.agg #[.int .i64 k,.int .i64 wh,.int .i64 i],.int .i64 0])∧aQ bY pU A w' S P L Bs B I N r { s1 with dn:=decide (bY.length=0) } g1∧Dw.Mv (dK S I B) w w':=by
  have h:=hd.f;have hlt:=h.lG;have hbx:=(yab w.heap.size w).alloc (yaa _) (Obj.cells #[.int .i64 0,.int .i64 0,.int .i64 0] 54);have k2:=Cl.new w #[.int .i64 0,.int .i64 0,.int .i64 0] 54;have he:=EU (hd.below hbx);have hz:=BD (hd.below hbx);rw [hb,yah (by decide)] at he;rw [yaH hp] at hz;have hX:=h.box (Obj.cells #[.int .i64 0,.int .i64 0,.int .i64 0] 54);obtain ⟨aT,aU,au,aj,oX,Mh,hrest⟩:=hX.obj;obtain ⟨sa,c,rfl,hsc,hsr⟩:=Mh;rw [hf] at hsc;rw [hf,yaX] at oX;obtain ⟨R,o,rfl,je,hRr⟩:=hsr.resolve_left (by rw [hf];intro e;cases e);rw [hf] at hRr;have hRS:R≠S:=fun q=>je (.inl (q▸h.aS));rw [yaX] at hsc;obtain ⟨o1,c1,ho1⟩: ∃o1 c1,(c=1∧o1=o∧c1=0)∨(c≠1∧o1=o+1∧c1=c-1):=by
    by_cases q:c=1
    · exact ⟨o,0,.inl ⟨q,rfl,rfl⟩⟩
    · exact ⟨o+1,c-1,.inr ⟨q,rfl,rfl⟩⟩
  have gy:jK (fun b=>A b∨b=w.heap.size) (w.alloc (Obj.cells #[.int .i64 0,.int .i64 0,.int .i64 0] 54)) S (.slice (some ⟨R,o1,none⟩) rest.length c1) rest:=⟨_,_,rfl,by omega,by
    rcases ho1 with ⟨q,_,_⟩|⟨_,q,_⟩
    · exact .inl (ybG.1 (by omega))
    · refine .inr ⟨R,o1,rfl,je,fun j y hy=> ?_⟩;have:=hRr (j+1) y (by rw [yaU,yaG];exact hy)
      rwa [q,show o+1+j=o+(j+1) by omega]⟩
  have h2:=hX.yT gy;have bD:Dw.Mv (· =S) (w.alloc (Obj.cells #[.int .i64 0,.int .i64 0,.int .i64 0] 54)) ((w.alloc (Obj.cells #[.int .i64 0,.int .i64 0,.int .i64 0] 54)).setCell ⟨S,16,none⟩ (.slice (some ⟨R,o1,none⟩) rest.length c1)):=zag (K:=(· =S)) (ah (yab _ _)) S 16 _ rfl;have Uj:=oX.cell 16 _ rfl;have f16:=oX.free 16;have r0:(w.alloc (Obj.cells #[.int .i64 0,.int .i64 0,.int .i64 0] 54)).cell? ⟨R,o,none⟩=some (.func (.func fn) #[.pointer (some ⟨S,0,none⟩)] #[]):=hRr 0 _ rfl;have hsz:w.heap.size<(w.alloc (Obj.cells #[.int .i64 0,.int .i64 0,.int .i64 0] 54)).heap.size:=by simp
  have hne:w.heap.size≠S∧w.heap.size≠I∧w.heap.size≠P∧w.heap.size≠L∧w.heap.size≠Bs∧w.heap.size≠B:=⟨by omega,by omega,by omega,by omega,by omega,by omega⟩;have k3:=k2.kept (bD.block _ k2.lt hne.1);have hc1:(0:Int)<(rest.length:Int)+1:=by omega
  have hc2:(1:Int)≤(rest.length:Int)+1:=by omega
  have hc3:(rest.length:Int)+1≤(c:Int):=by omega
  have hh:=hcall _ _ h2;have LC: ∀b,b<(w.alloc (Obj.cells #[.int .i64 0,.int .i64 0,.int .i64 0] 54)).heap.size→b≠S→b≠I→b≠B→ ∀ {w3:World},Dw.Mv (dK S I B) ((w.alloc (Obj.cells #[.int .i64 0,.int .i64 0,.int .i64 0] 54)).setCell ⟨S,16,none⟩ (.slice (some ⟨R,o1,none⟩) rest.length c1)) w3→w3.heap[b]? =((w.alloc (Obj.cells #[.int .i64 0,.int .i64 0,.int .i64 0] 54)).setCell ⟨S,16,none⟩ (.slice (some ⟨R,o1,none⟩) rest.length c1)).heap[b]? :=fun b hb1 n1 n2 n3 {w3} hm=>hm.block b (by have:=bD.size;omega) fun q=>by rcases q with q|q|q<;>contradiction
  have LA:=ah (K:=dK S I B) hbx;clear hRr gy hX hsr hrest hcall hf hlt hsz hbx hsc;rcases ho1 with ⟨rfl,rfl,rfl⟩|⟨hc4,rfl,rfl⟩
  all_goals
    go_enter func25,ntmps25;go_wp2_with (first
      | (go_at_call 34;refine he.mono ?_;rintro e w' ⟨rfl,hw⟩;have hw:=hw.symm;subst hw)
      | (go_at_call 33;refine hz.mono ?_;rintro e w' ⟨rfl,hw⟩;have hw:=hw.symm;subst hw)
      | (refine hh.mono ?_;rintro en w3 ⟨rfl,h3,jg⟩;have k4:=k3.kept (LC _ k2.lt hne.1 hne.2.1 hne.2.2.2.2.2 jg);have bJ:=(yab w3.heap.size w3).alloc (yaa _) (Obj.cells #[.int .i64 k,.int .i64 wh,.int .i64 i] 54);have h4:=h3.below bJ;have y4:=Cl.new w3 #[.int .i64 k,.int .i64 wh,.int .i64 i] 54;have k5:=k4.below bJ k4.lt;have hyn:w3.heap.size≠w.heap.size:=fun q=>ybe _ (q▸k4.lt);have Ms:w3.heap.size≠S:=fun q=>ybe _ (q▸h3.lt S h3.aS);obtain ⟨abz,abh,abw,abp,o4,⟨sa1,cc1,rfl,hz1,hz2⟩,hz3⟩:=h4.obj;clear hz1 hz2 hz3;have v16:=o4.cell 16 _ rfl;have v25:=o4.cell 25 _ rfl;have abR:=o4.free 25;have h5:=h4.setRow (s':= { s1 with dn:=((bY.length:Int)==0) }) 25 (.bool ((bY.length:Int)==0)) (by decide) (fun _ _ _ _=>rfl) rfl rfl rfl rfl;have aH:Dw.Mv (· =S) (w3.alloc (Obj.cells #[.int .i64 k,.int .i64 wh,.int .i64 i] 54)) ((w3.alloc (Obj.cells #[.int .i64 k,.int .i64 wh,.int .i64 i] 54)).setCell ⟨S,25,none⟩ (.bool ((bY.length:Int)==0))):=zag (K:=(· =S)) (ah (yab _ _)) S 25 _ rfl;have k6:=k5.kept (aH.block _ k5.lt hne.1);have y6:=y4.kept (aH.block _ y4.lt Ms);have z0:=y6.cell 0 _ rfl;have z1:=y6.cell 1 _ rfl;have z2:=y6.cell 2 _ rfl;have b0:=k6.cell 0 _ rfl;have b1:=k6.cell 1 _ rfl;have b2:=k6.cell 2 _ rfl;have q0:=k6.free 0;have q1:=k6.free 1;have q2:=k6.free 2;have hmv:=(((LA.trans (bD.mono fun b q=> .inl q)).trans jg).trans (ah bJ)).trans (aH.mono fun b q=> .inl q))
      | go_in)
    have hq:((bY.length:Int)==0)=decide (bY.length=0):=by rw [ybS];simp
    have h5f:=h5.alt (s':= { s1 with dn:=decide (bY.length=0) }) (fun _ _ _ _=>by unfold DS.row;simp only [hq]) rfl rfl rfl rfl;have kA:=(((k6.set 0 (.int .i64 k) (by simp)).set 1 (.int .i64 wh) (by simp)).set 2 (.int .i64 i) (by simp));refine yap (bU rfl _ _ w.heap.size [.int .i64 k,.int .i64 wh,.int .i64 i] _ rfl (fun j y hy=>by rw [yaf];exact kA.cell j y hy) underlying54 rfl (by kernel_rfl)) rfl ?_;exact ⟨rfl,h5f.fin h.aS h.aI h.aB ⟨by omega,by omega,by omega,by omega,by omega,by omega⟩ (zag (zag (zag (ah (K:=(· =w.heap.size)) (yab _ _)) w.heap.size 0 _ rfl) w.heap.size 1 _ rfl) w.heap.size 2 _ rfl),aD (aD (aD (hmv) w.heap.size 0 _ (.inr (yaa _))) w.heap.size 1 _ (.inr (yaa _))) w.heap.size 2 _ (.inr (yaa _))⟩
set_option maxRecDepth 100000 in
theorem Tryz.zqn (hd:DW A w S P L Bs B I N r s g) (hb:s.br=false) (hp:s.ph≠0) {fn:Nat} {rest:List Nat} (hen: ∀args w,(callFunc fn args).run prog w= .ok (.enter fn args) w) (hf:fo s.ph=fn::rest) {k wh i:Int} {bY:List Nat} {pU:Prop} {s1:DS} {g1:Nat→Int}
    (hcall: ∀A1 w1,aQ rest (1≤s.ph∧s.ph≤5) A1 w1 S P L Bs B I N r s g→Calls prog fn #[.pointer (some ⟨S,0,none⟩)] w1 fun e w'=>e= .returned (.tuple #[.agg #[.int .i64 k,.int .i64 wh,.int .i64 i],.bool false])∧aQ bY pU A1 w' S P L Bs B I N r s1 g1∧Dw.Mv (dK S I B) w1 w'):
    Calls prog 25 #[.pointer (some ⟨S,0,none⟩)] w fun e w'=>e= .returned (.tuple #[.agg #[.int .i64 k,.int .i64 wh,.int .i64 i],.int .i64 4])∧aQ [] pU A w' S P L Bs B I N r { s1 with br:=true,op:=0,nn:=false,tok:=0,wr:=0,kk:=false } g1∧Dw.Mv (dK S I B) w w':=by
  have h:=hd.f;have hlt:=h.lG;have hbx:=(yab w.heap.size w).alloc (yaa _) (Obj.cells #[.int .i64 0,.int .i64 0,.int .i64 0] 54);have k2:=Cl.new w #[.int .i64 0,.int .i64 0,.int .i64 0] 54;have he:=EU (hd.below hbx);have hz:=BD (hd.below hbx);rw [hb,yah (by decide)] at he;rw [yaH hp] at hz;have hX:=h.box (Obj.cells #[.int .i64 0,.int .i64 0,.int .i64 0] 54);obtain ⟨aT,aU,au,aj,oX,Mh,hrest⟩:=hX.obj;obtain ⟨sa,c,rfl,hsc,hsr⟩:=Mh;rw [hf] at hsc;rw [hf,yaX] at oX;obtain ⟨R,o,rfl,je,hRr⟩:=hsr.resolve_left (by rw [hf];intro e;cases e);rw [hf] at hRr;have hRS:R≠S:=fun q=>je (.inl (q▸h.aS));rw [yaX] at hsc;obtain ⟨o1,c1,ho1⟩: ∃o1 c1,(c=1∧o1=o∧c1=0)∨(c≠1∧o1=o+1∧c1=c-1):=by
    by_cases q:c=1
    · exact ⟨o,0,.inl ⟨q,rfl,rfl⟩⟩
    · exact ⟨o+1,c-1,.inr ⟨q,rfl,rfl⟩⟩
  have gy:jK (fun b=>A b∨b=w.heap.size) (w.alloc (Obj.cells #[.int .i64 0,.int .i64 0,.int .i64 0] 54)) S (.slice (some ⟨R,o1,none⟩) rest.length c1) rest:=⟨_,_,rfl,by omega,by
    rcases ho1 with ⟨q,_,_⟩|⟨_,q,_⟩
    · exact .inl (ybG.1 (by omega))
    · refine .inr ⟨R,o1,rfl,je,fun j y hy=> ?_⟩;have:=hRr (j+1) y (by rw [yaU,yaG];exact hy)
      rwa [q,show o+1+j=o+(j+1) by omega]⟩
  have h2:=hX.yT gy;have bD:Dw.Mv (· =S) (w.alloc (Obj.cells #[.int .i64 0,.int .i64 0,.int .i64 0] 54)) ((w.alloc (Obj.cells #[.int .i64 0,.int .i64 0,.int .i64 0] 54)).setCell ⟨S,16,none⟩ (.slice (some ⟨R,o1,none⟩) rest.length c1)):=zag (K:=(· =S)) (ah (yab _ _)) S 16 _ rfl;have Uj:=oX.cell 16 _ rfl;have f16:=oX.free 16;have r0:(w.alloc (Obj.cells #[.int .i64 0,.int .i64 0,.int .i64 0] 54)).cell? ⟨R,o,none⟩=some (.func (.func fn) #[.pointer (some ⟨S,0,none⟩)] #[]):=hRr 0 _ rfl;have hsz:w.heap.size<(w.alloc (Obj.cells #[.int .i64 0,.int .i64 0,.int .i64 0] 54)).heap.size:=by simp
  have hne:w.heap.size≠S∧w.heap.size≠I∧w.heap.size≠P∧w.heap.size≠L∧w.heap.size≠Bs∧w.heap.size≠B:=⟨by omega,by omega,by omega,by omega,by omega,by omega⟩;have k3:=k2.kept (bD.block _ k2.lt hne.1);have hc1:(0:Int)<(rest.length:Int)+1:=by omega
  have hc2:(1:Int)≤(rest.length:Int)+1:=by omega
  have hc3:(rest.length:Int)+1≤(c:Int):=by omega
  have hh:=hcall _ _ h2;have LC: ∀b,b<(w.alloc (Obj.cells #[.int .i64 0,.int .i64 0,.int .i64 0] 54)).heap.size→b≠S→b≠I→b≠B→ ∀ {w3:World},Dw.Mv (dK S I B) ((w.alloc (Obj.cells #[.int .i64 0,.int .i64 0,.int .i64 0] 54)).setCell ⟨S,16,none⟩ (.slice (some ⟨R,o1,none⟩) rest.length c1)) w3→w3.heap[b]? =((w.alloc (Obj.cells #[.int .i64 0,.int .i64 0,.int .i64 0] 54)).setCell ⟨S,16,none⟩ (.slice (some ⟨R,o1,none⟩) rest.length c1)).heap[b]? :=fun b hb1 n1 n2 n3 {w3} hm=>hm.block b (by have:=bD.size;omega) fun q=>by rcases q with q|q|q<;>contradiction
  have LA:=ah (K:=dK S I B) hbx;clear hRr gy hX hsr hrest hcall hf hlt hsz hbx hsc;rcases ho1 with ⟨rfl,rfl,rfl⟩|⟨hc4,rfl,rfl⟩
  all_goals
    go_enter func25,ntmps25;go_wp2_with (first
      | (go_at_call 34;refine he.mono ?_;rintro e w' ⟨rfl,hw⟩;have hw:=hw.symm;subst hw)
      | (go_at_call 33;refine hz.mono ?_;rintro e w' ⟨rfl,hw⟩;have hw:=hw.symm;subst hw)
      | (refine hh.mono ?_;rintro en w3 ⟨rfl,h3,jg⟩;have k4:=k3.kept (LC _ k2.lt hne.1 hne.2.1 hne.2.2.2.2.2 jg);have bJ:=(yab w3.heap.size w3).alloc (yaa _) (Obj.cells #[.int .i64 k,.int .i64 wh,.int .i64 i] 54);have h4:=h3.below bJ;have y4:=Cl.new w3 #[.int .i64 k,.int .i64 wh,.int .i64 i] 54;have k5:=k4.below bJ k4.lt;have hyn:w3.heap.size≠w.heap.size:=fun q=>ybe _ (q▸k4.lt);have Ms:w3.heap.size≠S:=fun q=>ybe _ (q▸h3.lt S h3.aS);obtain ⟨abz,abh,abw,abp,o4,⟨sa1,cc1,rfl,hz1,hz2⟩,hz3⟩:=h4.obj;clear hz1 hz2 hz3;have v16:=o4.cell 16 _ rfl;have abL:=o4.free 16;have v20:=o4.cell 20 _ rfl;have abM:=o4.free 20;have v21:=o4.cell 21 _ rfl;have abN:=o4.free 21;have v22:=o4.cell 22 _ rfl;have abO:=o4.free 22;have v23:=o4.cell 23 _ rfl;have abP:=o4.free 23;have v24:=o4.cell 24 _ rfl;have abQ:=o4.free 24;have v26:=o4.cell 26 _ rfl;have abS:=o4.free 26;have h5:=(((((((h4.setRow (s':= { s1 with br:=true }) 26 (.bool true) (by decide) (fun _ _ _ _=>rfl) rfl rfl rfl rfl).yT (yV:= .slice none 0 0) (gW:= []) ⟨none,0,rfl,yaa _,.inl rfl⟩).setRow (s':= { s1 with br:=true,op:=0 }) 20 (.int .i64 0) (by decide) (fun _ _ _ _=>rfl) rfl rfl rfl rfl).setRow (s':= { s1 with br:=true,op:=0,nn:=false }) 21 (.bool false) (by decide) (fun _ _ _ _=>rfl) rfl rfl rfl rfl).setRow (s':= { s1 with br:=true,op:=0,nn:=false,tok:=0 }) 22 (.int .i64 0) (by decide) (fun _ _ _ _=>rfl) rfl rfl rfl rfl).setRow (s':= { s1 with br:=true,op:=0,nn:=false,tok:=0,wr:=0 }) 23 (.int .u32 0) (by decide) (fun _ _ _ _=>rfl) rfl rfl rfl rfl).setRow (s':= { s1 with br:=true,op:=0,nn:=false,tok:=0,wr:=0,kk:=false }) 24 (.bool false) (by decide) (fun _ _ _ _=>rfl) rfl rfl rfl rfl);have aH:Dw.Mv (· =S) (w3.alloc (Obj.cells #[.int .i64 k,.int .i64 wh,.int .i64 i] 54)) ((((((((w3.alloc (Obj.cells #[.int .i64 k,.int .i64 wh,.int .i64 i] 54)).setCell ⟨S,26,none⟩ (.bool true)).setCell ⟨S,16,none⟩ (.slice none 0 0)).setCell ⟨S,20,none⟩ (.int .i64 0)).setCell ⟨S,21,none⟩ (.bool false)).setCell ⟨S,22,none⟩ (.int .i64 0)).setCell ⟨S,23,none⟩ (.int .u32 0)).setCell ⟨S,24,none⟩ (.bool false)):=zag (K:=(· =S)) (zag (K:=(· =S)) (zag (K:=(· =S)) (zag (K:=(· =S)) (zag (K:=(· =S)) (zag (K:=(· =S)) (zag (K:=(· =S)) (ah (K:=(· =S)) (yab (w3.alloc (Obj.cells #[.int .i64 k,.int .i64 wh,.int .i64 i] 54)).heap.size (w3.alloc (Obj.cells #[.int .i64 k,.int .i64 wh,.int .i64 i] 54)))) S 26 (.bool true) rfl) S 16 (.slice none 0 0) rfl) S 20 (.int .i64 0) rfl) S 21 (.bool false) rfl) S 22 (.int .i64 0) rfl) S 23 (.int .u32 0) rfl) S 24 (.bool false) rfl;have k6:=k5.kept (aH.block _ k5.lt hne.1);have y6:=y4.kept (aH.block _ y4.lt Ms);have z0:=y6.cell 0 _ rfl;have z1:=y6.cell 1 _ rfl;have z2:=y6.cell 2 _ rfl;have b0:=k6.cell 0 _ rfl;have b1:=k6.cell 1 _ rfl;have b2:=k6.cell 2 _ rfl;have q0:=k6.free 0;have q1:=k6.free 1;have q2:=k6.free 2;have hmv:=(((LA.trans (bD.mono fun b q=> .inl q)).trans jg).trans (ah bJ)).trans (aH.mono fun b q=> .inl q))
      | go_in)
    have kA:=(((k6.set 0 (.int .i64 k) (by simp)).set 1 (.int .i64 wh) (by simp)).set 2 (.int .i64 i) (by simp));refine yap (bU rfl _ _ w.heap.size [.int .i64 k,.int .i64 wh,.int .i64 i] _ rfl (fun j y hy=>by rw [yaf];exact kA.cell j y hy) underlying54 rfl (by kernel_rfl)) rfl ?_;exact ⟨rfl,h5.fin h.aS h.aI h.aB ⟨by omega,by omega,by omega,by omega,by omega,by omega⟩ (zag (zag (zag (ah (K:=(· =w.heap.size)) (yab _ _)) w.heap.size 0 _ rfl) w.heap.size 1 _ rfl) w.heap.size 2 _ rfl),aD (aD (aD (hmv) w.heap.size 0 _ (.inr (yaa _))) w.heap.size 1 _ (.inr (yaa _))) w.heap.size 2 _ (.inr (yaa _))⟩
end
end Go.Proofs
namespace Go.Proofs
open Go.Dw Go.RowKit Go.Maps Go.Sort Go.Deep
structure Tryz.DI (s:DS):Prop where
 se:1≤s.ph→s.ph≤5→eD s.sg=0
 kk:1≤s.ph→s.ph≤5→s.kk=false
theorem Tryz.DI.fresh (ev tb:Bool) (n:Int):DI (DS.fresh ev tb n):=⟨fun h=>absurd h (by show¬1≤0;decide),fun h=>absurd h (by show¬1≤0;decide)⟩
theorem Tryz.DI.late {s:DS} (h:s.ph=0∨6≤s.ph):DI s:=⟨fun h1 h2=>by omega,fun h1 h2=>by omega⟩
theorem Tryz.DI.Ho {s:DS} (h:DI s):DI (mX s).2:=by
 unfold mX;split
 ·exact h
 ·split
  ·exact h
  ·exact DI.late (.inr (by show 6≤11;decide))
theorem Tryz.DI.off {s:DS} {N:Nat} {n t:Int} {l:List Sg} (h:DI s):DI (di N n s t l).2:=by
 unfold di;split
 ·exact h
 ·split
  ·exact h
  ·split
   ·exact h
   ·split
    ·exact h
    ·rename_i hin;split
     ·exact h
     ·rename_i hl0;simp only;split
      ·exact h
      ·refine ⟨fun _ _=> ?_,fun _ _=>rfl⟩;show eD l=0;have h1:=(nS (yaz.1 hin)).2;unfold eD;rw [h1,yah (by decide),yah hl0]
theorem Tryz.DI.step {r:Rg} {s:DS} {g:Nat→Int} (h:DI s) (hb:DB r s):DI (dZ r s g).2.2.1:=by
 unfold dZ;split
 ·exact h
 ·split
  ·exact h
  ·rename_i hb0 hp;have GK:=hb.ph;have hcs:s.ph=1∨s.ph=2∨s.ph=3∨s.ph=4∨s.ph=5∨s.ph=11∨s.ph=12∨s.ph=13∨s.ph=14∨s.ph=15∨s.ph=16:=by omega
   have go: ∀k,(1≤s.ph∧s.ph≤5)→DI (s.goto k):=fun k q=>⟨fun _ _=>h.se q.1 q.2,fun _ _=>h.kk q.1 q.2⟩;rcases hcs with q|q|q|q|q|q|q|q|q|q|q<;>rw [q]<;>unfold Cf<;>simp only
   ·exact go 2 (by omega)
   ·exact go 3 (by omega)
   ·exact go 4 (by omega)
   ·exact go 5 (by omega)
   ·exact DI.late (.inl rfl)
   ·split
    ·exact DI.late (.inr (by show 6≤15;decide))
    ·split
     ·exact DI.late (.inr (by show 6≤12;decide))
     ·exact DI.late (.inl rfl)
   ·exact DI.late (.inr (by show 6≤13;decide))
   ·exact DI.late (.inr (by show 6≤14;decide))
   ·split
    ·exact DI.late (.inr (by show 6≤15;decide))
    ·exact DI.late (.inl rfl)
   ·exact DI.late (.inr (by show 6≤16;decide))
   ·split
    ·exact DI.late (.inl rfl)
    ·exact DI.late (.inl rfl)
section
variable {fns gW:List Nat} {nw ji:Prop} {A A':Nat→Prop} {w w':World} {S P L Bs B I N:Nat} {r:Tryz.Rg} {s s':Tryz.DS} {g g':Nat→Int}
set_option maxRecDepth 100000 in
theorem Tryz.Xm (h:DW A w S P L Bs B I N r s g) (hb:s.br=true∨s.ph=0):
    Calls prog 25 #[.pointer (some ⟨S,0,none⟩)] w fun e w'=>e= .returned (.tuple #[.agg #[.int .i64 0,.int .i64 0,.int .i64 0],.int .i64 (if s.br then 4 else 8)])∧DW A w' S P L Bs B I N r s g∧Dw.Mv (dK S I B) w w':=by
  have hbx:=(yab w.heap.size w).alloc (yaa _) (Obj.cells #[.int .i64 0,.int .i64 0,.int .i64 0] 54);have k2:=Cl.new w #[.int .i64 0,.int .i64 0,.int .i64 0] 54;have hX:=h.below hbx;have he:=EU hX;have hz:=BD hX;have hm2:=ah (K:=dK S I B) hbx;by_cases hbr:s.br=true
  · rw [hbr] at he ⊢;go_enter func25,ntmps25;go_wp2_with (first
      | (go_at_call 34;refine he.mono ?_;rintro e w' ⟨rfl,hw⟩;have hw:=hw.symm;subst hw)
      | go_in)
    refine yap (bU rfl _ _ w.heap.size [.int .i64 0,.int .i64 0,.int .i64 0] _ rfl (fun j y hy=>by rw [yaf];exact k2.cell j y hy) underlying54 rfl (by kernel_rfl)) rfl ?_;exact ⟨rfl,hX,hm2⟩
  · have hbf:s.br=false:=by simpa using hbr
    have hp:s.ph=0:=hb.resolve_left hbr;rw [hbf] at he ⊢;rw [hp] at hz;clear hb hbr hbf hp;go_enter func25,ntmps25;go_wp2_with (first
      | (go_at_call 34;refine he.mono ?_;rintro e w' ⟨rfl,hw⟩;have hw:=hw.symm;subst hw)
      | (go_at_call 33;refine hz.mono ?_;rintro e w' ⟨rfl,hw⟩;have hw:=hw.symm;subst hw)
      | go_in)
    refine yap (bU rfl _ _ w.heap.size [.int .i64 0,.int .i64 0,.int .i64 0] _ rfl (fun j y hy=>by rw [yaf];exact k2.cell j y hy) underlying54 rfl (by kernel_rfl)) rfl ?_;exact ⟨rfl,hX,hm2⟩
theorem Tryz.vR {w w':World} (h:Dw.Mv (· =S) w w'):Dw.Mv (dK S I B) w w':=h.mono fun _ q=> .inl q
theorem Tryz.KT {w w':World} (h:Dw.Mv (· =B) w w'):Dw.Mv (dK S I B) w w':=h.mono fun _ q=> .inr (.inr q)
set_option maxRecDepth 100000 in
theorem Tryz.Yi (h:DW A w S P L Bs B I N r s g) (hi:DI s):
  Calls prog 25 #[.pointer (some ⟨S,0,none⟩)] w fun e w'=>e= .returned (.tuple #[(dZ r s g).1,.int .i64 (dZ r s g).2.1])∧DW A w' S P L Bs B I N r (dZ r s g).2.2.1 (dZ r s g).2.2.2∧Dw.Mv (dK S I B) w w':=by
 have hbn:=h.f.rg.bnd;have hpb:=h.pb.step (g:=g) h.f.mem.byte ⟨hbn.1,by omega⟩;unfold dZ at hpb ⊢;by_cases hb:s.br=true
 ·have:=Xm h (.inl hb);rw [yak hb]
  rwa [yak hb] at this
 ·rw [yah hb] at hpb ⊢;by_cases hp:s.ph=0
  ·have:=Xm h (.inr hp);rw [yak hp]
   rwa [yah hb] at this
  ·rw [yah hp] at hpb ⊢;have hbf:s.br=false:=by simpa using hb
   have GK:=h.pb.ph;have hcs:s.ph=1∨s.ph=2∨s.ph=3∨s.ph=4∨s.ph=5∨s.ph=11∨s.ph=12∨s.ph=13∨s.ph=14∨s.ph=15∨s.ph=16:=by omega
   have hgen:=fun {fn:Nat} {rest:List Nat} hen hf {k wh i:Int} {bY:List Nat} {pU:Prop} {s1:DS} {g1:Nat→Int} hcall=>zqm (fn:=fn) (rest:=rest) (k:=k) (wh:=wh) (i:=i) (bY:=bY) (pU:=pU) (s1:=s1) (g1:=g1) h hbf hp hen hf hcall;have fin: ∀ {k wh i:Int} {bY:List Nat} {pU:Prop} {s1 s2:DS} {g1:Nat→Int},DB r s2→bY=fo s2.ph→(1≤s2.ph∧s2.ph≤5→pU)→s2= { s1 with dn:=decide (bY.length=0),ph:=s2.ph }→Calls prog 25 #[.pointer (some ⟨S,0,none⟩)] w (fun e w'=>e= .returned (.tuple #[.agg #[.int .i64 k,.int .i64 wh,.int .i64 i],.int .i64 0])∧aQ bY pU A w' S P L Bs B I N r { s1 with dn:=decide (bY.length=0) } g1∧Dw.Mv (dK S I B) w w')→Calls prog 25 #[.pointer (some ⟨S,0,none⟩)] w fun e w'=>e= .returned (.tuple #[.agg #[.int .i64 k,.int .i64 wh,.int .i64 i],.int .i64 0])∧DW A w' S P L Bs B I N r s2 g1∧Dw.Mv (dK S I B) w w':=fun {k wh i bY pU s1 s2 g1} q1 q2 q3 q4 hc=>hc.mono fun e w' hh=>by
    obtain ⟨a,b,c⟩:=hh;refine ⟨a,⟨?_,q1⟩,c⟩;rw [←q2];exact (b.AU q3).alt (fun _ _ _ _=>by rw [q4];rfl) (by rw [q4]) (by rw [q4]) (by rw [q4]) (by rw [q4])
   rcases hcs with q|q|q|q|q|q|q|q|q|q|q
   all_goals
    rw [q] at hpb ⊢;unfold Cf at hpb ⊢;simp only at hpb ⊢
   ·have hc:=h.pb.c (by omega) (by omega);have dS:=h.pb.pu (by omega) (by omega);exact fin hpb rfl (fun z=>⟨by omega,by omega⟩) rfl (hgen (fn:=70) (fun args w=>Dw.lM (w:=w) (Dw.enters_of (by kernel_rfl)) args) (by rw [q];rfl) (s1:=s) (bY:=fo 2) fun A1 w1 h1=>(zsA h1 (by omega) (h.pb.el _ hc).1 dS.1 dS.2 h.pb.ps h.pb.sg.1 (hi.se (by omega) (by omega))).mono fun e w' hh=>⟨hh.1,hh.2.1,KT hh.2.2⟩)
   ·exact fin hpb rfl (fun z=>⟨by omega,by omega⟩) rfl (hgen (fn:=71) (fun args w=>Dw.lM (w:=w) (Dw.enters_of (by kernel_rfl)) args) (by rw [q];rfl) (s1:=s) (bY:=fo 3) fun A1 w1 h1=>(Ik S w1).mono fun e w' hh=>⟨hh.1,h1.below hh.2,ah hh.2⟩)
   ·have dS:=(h.pb.pu (by omega) (by omega)).1;have h0:s.l9∈s.pu:=by
     have:=OW s.pu dS ⟨0,0,0,0,0⟩;have e:s.l9=s.pu[0]:=this.symm;rw [e];exact yaA dS
    exact fin hpb rfl (fun z=>⟨by omega,by omega⟩) rfl (hgen (fn:=72) (fun args w=>Dw.lM (w:=w) (Dw.enters_of (by kernel_rfl)) args) (by rw [q];rfl) (s1:=s) (bY:=fo 4) fun A1 w1 h1=>(zsb h1 dS (h.pb.ps _ h0)).mono fun e w' hh=>⟨hh.1,hh.2.1,KT hh.2.2⟩)
   ·exact fin hpb rfl (fun z=>⟨by omega,by omega⟩) rfl (hgen (fn:=71) (fun args w=>Dw.lM (w:=w) (Dw.enters_of (by kernel_rfl)) args) (by rw [q];rfl) (s1:=s) (bY:=fo 5) fun A1 w1 h1=>(Ik S w1).mono fun e w' hh=>⟨hh.1,h1.below hh.2,ah hh.2⟩)
   ·have hc:=(h.pb.el _ (h.pb.c (by omega) (by omega))).2.2;exact fin hpb rfl (fun z=>absurd z.1 (by show¬1≤0;decide)) rfl (hgen (fn:=73) (fun args w=>Dw.lM (w:=w) (Dw.enters_of (by kernel_rfl)) args) (by rw [q];rfl) (bY:=fo 0) fun A1 w1 h1=>(zuj h1 (by omega) h.pb.nx hc (hi.kk (by omega) (by omega))).mono fun e w' hh=>⟨hh.1,hh.2.1,vR hh.2.2⟩)
   ·by_cases hu:iO g s=true
    ·rw [yak hu] at hpb ⊢;exact fin hpb rfl (fun z=>absurd z.2 (by show¬15≤5;decide)) rfl (hgen (fn:=79) (fun args w=>Dw.lM (w:=w) (Dw.enters_of (by kernel_rfl)) args) (by rw [q];rfl) (s1:=s) (bY:=fo 15) fun A1 w1 h1=>(O6 h1 h.pb.sx (.inl ⟨hu,rfl,rfl⟩)).mono fun e w' hh=>⟨hh.1,hh.2.1,vR hh.2.2⟩)
    ·rw [yah hu] at hpb ⊢;have GQ:iO g s=false:=by simpa using hu
     by_cases hv:s.ev=true
     ·rw [yak hv] at hpb ⊢;exact fin hpb rfl (fun z=>absurd z.2 (by show¬12≤5;decide)) rfl (hgen (fn:=79) (fun args w=>Dw.lM (w:=w) (Dw.enters_of (by kernel_rfl)) args) (by rw [q];rfl) (s1:=s) (bY:=fo 12) fun A1 w1 h1=>(O6 h1 h.pb.sx (.inr (.inl ⟨GQ,hv,rfl,rfl⟩))).mono fun e w' hh=>⟨hh.1,hh.2.1,vR hh.2.2⟩)
     ·rw [yah hv] at hpb ⊢;have hvf:s.ev=false:=by simpa using hv
      exact fin hpb rfl (fun z=>absurd z.1 (by show¬1≤0;decide)) rfl (hgen (fn:=79) (fun args w=>Dw.lM (w:=w) (Dw.enters_of (by kernel_rfl)) args) (by rw [q];rfl) (s1:= { s with nn:=true }) (bY:= []) fun A1 w1 h1=>(O6 h1 h.pb.sx (.inr (.inr ⟨GQ,hvf,rfl,rfl⟩))).mono fun e w' hh=>⟨hh.1,hh.2.1,vR hh.2.2⟩)
   ·exact fin hpb rfl (fun z=>absurd z.2 (by show¬13≤5;decide)) rfl (hgen (fn:=127) (fun args w=>Dw.lM (w:=w) (Dw.enters_of (by kernel_rfl)) args) (by rw [q];rfl) (s1:=s) (bY:=fo 13) fun A1 w1 h1=>(zsf h1 h.pb.sx).mono fun e w' hh=>⟨hh.1,hh.2.1,KT hh.2.2⟩)
   ·exact fin hpb rfl (fun z=>absurd z.2 (by show¬14≤5;decide)) rfl (hgen (fn:=71) (fun args w=>Dw.lM (w:=w) (Dw.enters_of (by kernel_rfl)) args) (by rw [q];rfl) (s1:=s) (bY:=fo 14) fun A1 w1 h1=>(Ik S w1).mono fun e w' hh=>⟨hh.1,h1.below hh.2,ah hh.2⟩)
   ·by_cases hu:iO g s=true
    ·rw [yak hu] at hpb ⊢;exact fin hpb rfl (fun z=>absurd z.2 (by show¬15≤5;decide)) rfl (hgen (fn:=128) (fun args w=>Dw.lM (w:=w) (Dw.enters_of (by kernel_rfl)) args) (by rw [q];rfl) (s1:=s) (bY:=fo 15) fun A1 w1 h1=>(X0 h1 h.pb.sx (.inl ⟨hu,rfl,rfl⟩)).mono fun e w' hh=>⟨hh.1,hh.2.1,vR hh.2.2⟩)
    ·rw [yah hu] at hpb ⊢;have GQ:iO g s=false:=by simpa using hu
     exact fin hpb rfl (fun z=>absurd z.1 (by show¬1≤0;decide)) rfl (hgen (fn:=128) (fun args w=>Dw.lM (w:=w) (Dw.enters_of (by kernel_rfl)) args) (by rw [q];rfl) (s1:= { s with nn:=true }) (bY:= []) fun A1 w1 h1=>(X0 h1 h.pb.sx (.inr ⟨GQ,rfl,rfl⟩)).mono fun e w' hh=>⟨hh.1,hh.2.1,vR hh.2.2⟩)
   ·exact fin hpb rfl (fun z=>absurd z.2 (by show¬16≤5;decide)) rfl (hgen (fn:=71) (fun args w=>Dw.lM (w:=w) (Dw.enters_of (by kernel_rfl)) args) (by rw [q];rfl) (s1:=s) (bY:=fo 16) fun A1 w1 h1=>(Ik S w1).mono fun e w' hh=>⟨hh.1,h1.below hh.2,ah hh.2⟩)
   ·cases hget:fA s.L (bW g (4096+16*s.sx+8).toNat 8/4294967296%65536) with
    | none=>
     rw [hget] at hpb;simp only at hpb ⊢;have hdn:s.dn=false:=h.pb.dn (.inl hp);refine (zqn (fn:=126) (rest:= []) h hbf hp (fun args w=>Dw.lM (w:=w) (Dw.enters_of (by kernel_rfl)) args) (by rw [q];rfl) (s1:=s) fun A1 w1 h1=>(zlX h1 h.pb.sx (fun e he=>(h.pb.el e he).1.2) hget).mono fun e w' hh=>⟨hh.1,hh.2.1,vR hh.2.2⟩).mono fun e w' hh=> ?_;exact ⟨hh.1,⟨(hh.2.1.AU fun z=>absurd z.1 (by show¬1≤0;decide)).alt (fun _ _ _ _=>by unfold DS.row DS.brk;rw [hdn]) rfl rfl rfl rfl,hpb⟩,hh.2.2⟩
    | some e=>
     rw [hget] at hpb;simp only at hpb ⊢;obtain ⟨hm,hid⟩:=yZ hget;have hel:=h.pb.el e hm;have hown:=h.pb.own;have hsum:=h.pb.sum;have hdel:=OH hm h.pb.nd;have hpos:0≤((dJ s.L e.id).map (·.ct)).sum:=by
      have:=gT (L:=dJ s.L e.id) fun x hx=>(h.pb.el x ((IW _ _).subset hx)).2.2.1;omega
     exact fin hpb rfl (fun z=>absurd z.1 (by show¬1≤0;decide)) rfl (hgen (fn:=126) (fun args w=>Dw.lM (w:=w) (Dw.enters_of (by kernel_rfl)) args) (by rw [q];rfl) (bY:= []) fun A1 w1 h1=>(zlW h1 h.pb.sx h.pb.nd ⟨hel.1,hel.2.2⟩ ⟨hown,by omega⟩ hget rfl).mono fun e w' hh=>⟨hh.1,hh.2.1,hh.2.2.mono fun b z=>z.elim .inl fun z=> .inr (.inl z)⟩)
end
end Go.Proofs
namespace Go.Proofs
open Go.Dw Go.RowKit Go.Maps Go.Sort Go.Deep
structure Tryz.KI (a b:Int):Prop where
 eq:a=b
structure Tryz.Rf (n:Nat) (d:fB) (av:Value) (j:Nat) (E:Int) (aC:Nat) (tm:Array Value):Prop where
 sz:tm.size=267
 t0:tm.getD 0 undef= .int .i64 n
 t2:tm.getD 2 undef=av
 t7:tm.getD 7 undef= .pointer (some ⟨d.X7,0,none⟩)
 t8:tm.getD 8 undef= .int .u64 (8+16*n)
 t10:tm.getD 10 undef= .pointer (some ⟨d.P,0,none⟩)
 t12:tm.getD 12 undef= .pointer (some ⟨d.P2,0,none⟩)
 t14:tm.getD 14 undef= .pointer (some ⟨d.S,0,none⟩)
 t15:tm.getD 15 undef= .int .i64 E
 t16:tm.getD 16 undef= .pointer (some ⟨d.S2,0,none⟩)
 t17:tm.getD 17 undef= .int .i64 E
 t18:tm.getD 18 undef= .int .i64 j
 t19:tm.getD 19 undef= .pointer (some ⟨aC,0,none⟩)
 t20:tm.getD 20 undef= .pointer (some ⟨aC+1,0,none⟩)
 t21:tm.getD 21 undef= .pointer (some ⟨aC+1+1,0,none⟩)
def Tryz.iE (d:fB) (aC b:Nat):Prop:=b=d.X7∨b=aC∨b=aC+1∨b=aC+1+1
def Tryz.WX (n:Nat):List Value:= [.bool true,.int .i64 n,.int .u64 4096,.int .u64 (4096+16*n),.int .u64 (4100+16*n)]
def Tryz.jD (x y z:Int):List Value:= [.int .i64 x,.int .i64 y,.int .i64 z]
structure Tryz.Rw (W0:World) (d:fB) (n:Nat) (r:Rg) (aC:Nat) (c:Dc) (w:World) (s1:DS) (g1:Nat→Int) (s2:DS) (g2:Nat→Int) (p1 p2:List Value):Prop where
 duo:Duo W0.heap.size (iE d aC) w d r s1 g1 s2 g2
 x7:Cl w d.X7 (WX n)
 act:Cl w aC c.cells
 k20:Cl w (aC+1) p1
 k21:Cl w (aC+1+1) p2
 old:Below W0.heap.size W0 w
section
variable {W0:World} {n:Nat} {d:Tryz.fB} {r:Tryz.Rg} {aC:Nat} {c:Tryz.Dc} {w w':World} {s1 s1':Tryz.DS} {g1 g1':Nat→Int} {s2 s2':Tryz.DS} {g2 g2':Nat→Int} {p1 p2 MN TH:List Value}
theorem Tryz.Rw.below (h:Rw W0 d n r aC c w s1 g1 s2 g2 p1 p2) (hb:Below w.heap.size w w'):Rw W0 d n r aC c w' s1 g1 s2 g2 p1 p2:=
 ⟨h.duo.below hb,h.x7.below hb h.x7.lt,h.act.below hb h.act.lt,h.k20.below hb h.k20.lt,h.k21.below hb h.k21.lt,h.old.trans (hb.mono h.old.size)⟩
theorem Tryz.Rw.turn (h:Rw W0 d n r aC c w s1 g1 s2 g2 p1 p2) (hd:Duo W0.heap.size (iE d aC) w' d r s1' g1' s2' g2') (hm:Dw.Mv (fun b=>W0.heap.size≤b∧ ¬iE d aC b) w w'):Rw W0 d n r aC c w' s1' g1' s2' g2' p1 p2:=
 ⟨hd,h.x7.kept (hm.block _ h.x7.lt fun q=>q.2 (.inl rfl)),h.act.kept (hm.block _ h.act.lt fun q=>q.2 (.inr (.inl rfl))),h.k20.kept (hm.block _ h.k20.lt fun q=>q.2 (.inr (.inr (.inl rfl)))),h.k21.kept (hm.block _ h.k21.lt fun q=>q.2 (.inr (.inr (.inr rfl)))),
  ⟨hm.os.trans h.old.os,hm.tape.trans h.old.tape,hm.output.trans h.old.output,yas h.old.size hm.size,fun b hb=>(hm.block b (yae hb h.old.size) fun q=>absurd q.1 (by omega)).trans (h.old.block b hb)⟩⟩
theorem Tryz.Rw.Ue {Z:Nat→Prop} (h:Rw W0 d n r aC c w s1 g1 s2 g2 p1 p2) (hz: ∀b,iE d aC b→Z b) (hd:Duo W0.heap.size Z w' d r s1' g1' s2' g2') (hm:Dw.Mv (fun b=>W0.heap.size≤b∧ ¬Z b) w w'):Rw W0 d n r aC c w' s1' g1' s2' g2' p1 p2:=
 h.turn (hd.set hz) (hm.mono fun b q=>⟨q.1,fun q2=>q.2 (hz b q2)⟩)
theorem Tryz.Duo.facts {n0:Nat} {Z:Nat→Prop} (h:Duo n0 Z w d r s1 g1 s2 g2):(∀j,0≤g1 j∧g1 j<256)∧DB r s1:=by
 obtain ⟨lv,h1,_,_⟩:=h.ex;exact ⟨h1.f.mem.byte,h1.pb⟩
theorem Tryz.Duo.seen {n0:Nat} {Z:Nat→Prop} (h:Duo n0 Z w d r s1 g1 s2 g2):w.cell? ⟨d.S2,12,none⟩=some (.int .i64 s2.sx)∧w.cell? ⟨d.S2,13,none⟩=some (.bool s2.sw)∧w.cell? ⟨d.S2,14,none⟩=some (.int .i64 s2.own)∧w.cell? ⟨d.S2,16,none⟩=some (.int .i64 s2.ph)∧d.S2<w.heap.size:=by
 obtain ⟨lv,_,h2,_⟩:=h.ex;obtain ⟨au,aj,q1,_⟩:=h2.obj;exact ⟨q1.cell 12 _ rfl,q1.cell 13 _ rfl,q1.cell 14 _ rfl,q1.cell 16 _ rfl,q1.lt⟩
theorem Tryz.Rw.Tx (h:Rw W0 d n r aC c w s1 g1 s2 g2 p1 p2) (hx:d.X7<aC∧W0.heap.size≤aC) (hm:Dw.Mv (· =aC+1) w w') (hk:Cl w' (aC+1) MN):Rw W0 d n r aC c w' s1 g1 s2 g2 MN p2:=
 ⟨h.duo.own (hm.mono fun b e=> .inr (.inr (.inl e))),h.x7.kept (hm.block _ h.x7.lt (by show¬d.X7=aC+1;omega)),h.act.kept (hm.block _ h.act.lt (by show¬aC=aC+1;omega)),hk,h.k21.kept (hm.block _ h.k21.lt (by show¬aC+1+1=aC+1;omega)),
  ⟨hm.os.trans h.old.os,hm.tape.trans h.old.tape,hm.output.trans h.old.output,yas h.old.size hm.size,fun b hb=>(hm.block b (yae hb h.old.size) (by show¬b=aC+1;omega)).trans (h.old.block b hb)⟩⟩
theorem Tryz.Rw.Ty (h:Rw W0 d n r aC c w s1 g1 s2 g2 p1 p2) (hx:d.X7<aC∧W0.heap.size≤aC) (hm:Dw.Mv (· =aC+1+1) w w') (hk:Cl w' (aC+1+1) TH):Rw W0 d n r aC c w' s1 g1 s2 g2 p1 TH:=
 ⟨h.duo.own (hm.mono fun b e=> .inr (.inr (.inr e))),h.x7.kept (hm.block _ h.x7.lt (by show¬d.X7=aC+1+1;omega)),h.act.kept (hm.block _ h.act.lt (by show¬aC=aC+1+1;omega)),h.k20.kept (hm.block _ h.k20.lt (by show¬aC+1=aC+1+1;omega)),hk,
  ⟨hm.os.trans h.old.os,hm.tape.trans h.old.tape,hm.output.trans h.old.output,yas h.old.size hm.size,fun b hb=>(hm.block b (yae hb h.old.size) (by show¬b=aC+1+1;omega)).trans (h.old.block b hb)⟩⟩
theorem Tryz.JO {b:Nat} {x y z:Value} {l:List Value} (h:Cl w b l) (hl:l.length=3):Cl (((w.setCell ⟨b,0,none⟩ x).setCell ⟨b,1,none⟩ y).setCell ⟨b,2,none⟩ z) b [x,y,z]∧Dw.Mv (· =b) w (((w.setCell ⟨b,0,none⟩ x).setCell ⟨b,1,none⟩ y).setCell ⟨b,2,none⟩ z):=by
 match l,hl with
 | [u0,u1,u2],_=>exact ⟨((h.set 0 x (by simp)).set 1 y (by simp)).set 2 z (by simp),zag (K:=(· =b)) (zag (K:=(· =b)) (zag (K:=(· =b)) (ah (yab _ _)) b 0 x rfl) b 1 y rfl) b 2 z rfl⟩
def Tryz.zC (W0:World) (n:Nat) (d:fB) (r:Rg) (av:Value) (j aC:Nat) (c:Dc):Exit→Act→World→Prop:=fun ex a' w'=>match ex with
 | .normal=>a'.defers= []∧ ∃(E':Int) (s':DS) (g':Nat→Int) (px py pz:Int),Rf n d av j E' aC a'.tmps∧Rw W0 d n r aC c w' s' g' s' g' (jD px py pz) (jD px py pz)∧DI s'
 | _=>False
theorem Tryz.Wm (s:DS) (g:Nat→Int): ∃x y z:Int,(dZ r s g).1= .agg #[.int .i64 x,.int .i64 y,.int .i64 z]:=by
  unfold dZ;split
  · exact ⟨_,_,_,rfl⟩
  · split
    · exact ⟨_,_,_,rfl⟩
    · unfold Cf;split
      all_goals first
        | exact ⟨_,_,_,rfl⟩
        | (simp only;split<;>exact ⟨_,_,_,rfl⟩)
theorem Tryz.DS.abm (s:DS): ∃(op:Int) (nn:Bool) (tk wr:Int) (kk:Bool),s.out= .agg #[.int .i64 op,.bool nn,.int .i64 tk,.int .u32 wr,.bool kk]:=by
 unfold DS.out;split
 ·exact ⟨_,_,_,_,_,rfl⟩
 ·exact ⟨_,_,_,_,_,rfl⟩
theorem Tryz.af.keepD {t:TypeId} {sz n:Nat} {b2:Nat} {v:Value} {cs:List Value} (h:af t sz w b2 v n cs) (hb:Below w.heap.size w w'):af t sz w' b2 v n cs:=af.kept h fun b e=>hb.block b (af.lt h b e).2
end
end Go.Proofs
namespace Go.Proofs
open Go.Dw Go.RowKit Go.Maps Go.Sort Go.Deep
def Tryz.Fx (g:Nat→Int):ByteArray:=strOfNums ((List.range 60000).map g)
theorem Tryz.zuI {w:World} {G c:Nat} {g:Nat→Int} (h:w.rangeAt G 0 (row g 0 60000)):(convert 59 9 (.slice (some ⟨G,0,none⟩) 60000 c)).run prog w= .ok (.string (Fx g)) w:=
 run_convert_bytes_arg (P:=prog) w 59 5 (by kernel_rfl) (by kernel_rfl) G 0 60000 c ((List.range 60000).map g) (by rw [yaK,List.length_range]) (fun i hi=>by
  have hx:(row g 0 60000)[i]? =some (.int .u8 (g i)):=by
   unfold row;rw [ybf,ycI hi];simp only [yaJ,yaf]
  have hy:((List.range 60000).map g).getD i 0=g i:=by
   rw [yaw,ybf,ycI hi];rfl
  rw [hy];exact h i _ hx) 9 (by kernel_rfl)
theorem Tryz.zrs {w':World} {b2:Nat} {v:Value} {g:Nat→Int} (h:w'.ownsRow b2 5 1 v 60000 (row g 0 60000)): ∃G c,v= .slice (some ⟨G,0,none⟩) 60000 c∧ ∀w2,Below w'.heap.size w' w2→(convert 59 9 (.slice (some ⟨G,0,none⟩) 60000 c)).run prog w2= .ok (.string (Fx g)) w2:=by
 have h1:af 5 1 w' b2 v 60000 (row g 0 60000):=h;obtain ⟨sa,c,rfl,hr⟩:=af.row h1;rcases hr with hr|⟨G,rfl,ho,hG⟩
 ·have:=yaB List.length hr;rw [Ou] at this;exact absurd this (by decide)
 ·exact ⟨G,c,rfl,fun w2 hb=>zuI (aX hG (hb.block G (af.lt h1 G ho).2))⟩
section
variable {n0:Nat} {Z:Nat→Prop} {d:Tryz.fB} {r:Tryz.Rg} {w:World} {s1:Tryz.DS} {g1:Nat→Int} {s2:Tryz.DS} {g2:Nat→Int}
theorem Tryz.zyv (hd:Duo n0 Z w d r s1 g1 s2 g2):Calls prog 36 #[.pointer (some ⟨d.P,0,none⟩)] w fun e w'=> ∃G c,e= .returned (.slice (some ⟨G,0,none⟩) 60000 c)∧(∀w2,Below w'.heap.size w' w2→(convert 59 9 (.slice (some ⟨G,0,none⟩) 60000 c)).run prog w2= .ok (.string (Fx g1)) w2)∧Below w.heap.size w w':=by
 obtain ⟨lv,h1,_,_⟩:=hd.ex;refine (zr1 d.P d.L d.Bs d.B 60000 g1 w h1.f.mem (by decide) (by decide)).mono ?_;rintro e w' ⟨v,rfl,hv,hb⟩;obtain ⟨G,c,rfl,hc⟩:=zrs hv;exact ⟨G,c,rfl,hc,hb⟩
theorem Tryz.zyu (hd:Duo n0 Z w d r s1 g1 s2 g2):Calls prog 37 #[.pointer (some ⟨d.P2,0,none⟩)] w fun e w'=> ∃G c,e= .returned (.slice (some ⟨G,0,none⟩) 60000 c)∧(∀w2,Below w'.heap.size w' w2→(convert 59 9 (.slice (some ⟨G,0,none⟩) 60000 c)).run prog w2= .ok (.string (Fx g2)) w2)∧Below w.heap.size w w':=by
 obtain ⟨lv,_,h2,_⟩:=hd.ex;refine (zpw d.P2 d.L2 d.iC d.B2 60000 g2 w h2.rm (by decide) (by decide)).mono ?_;rintro e w' ⟨v,rfl,hv,hb⟩;obtain ⟨G,c,rfl,hc⟩:=zrs hv;exact ⟨G,c,rfl,hc,hb⟩
end
end Go.Proofs
namespace Go.Proofs
open Go.Dw
def Tryz.WV:List bL:= []
def Tryz.Yw:List Sh:= [.ro [.int .u64 (.lit 0),.int .u64 (.lit 60000)]]
def Tryz.WW:List AV:= [.sl 1 0 1 (.known 1)]
def Tryz.ztp:List (SB×Bool):= []
def Tryz.ZP:List Leaf:= [
 ⟨.aK [.ptr 4 0,.int .i64 (.lit 0)],[(3,[.int .u64 (.lit 0),.int .u64 (.lit 60000)]),(4,[.sl 3 0 1 (.upto 0),.sl 7 0 1 (.upto 0)]),(5,(List.replicate 60000 (.int .u8 (.lit 0)))),(7,[.sl 5 0 60000 (.known 60000)])],[],0,[3,4,5,7]⟩]
def Tryz.zv1:List (List (SB×Bool)×Nat):= [
 ([], 0)]
theorem Tryz.zto:(ev prog (dW WV) 100000 (.call 10 WW (dP 0 Yw) (jc ZP 0))).ways ztp=some zv1:=by kernel_rfl
theorem Tryz.zv2:(fe Yw&&eZ WV&&AV.dX WW&&jm ZP)=true:=by kernel_rfl
open Go.RowKit
theorem Tryz.Xh {ρ:Val} {lc:Nat→Dw.Loc}: ∀n:Nat,AV.bK ρ lc (List.replicate n (.int .u8 (.lit 0)))=List.replicate n (.int .u8 0)
 | 0=>rfl
 | n+1=>by
  rw [List.replicate_succ,List.replicate_succ,←Xh n];rfl
set_option maxRecDepth 10000 in
theorem Tryz.zqN {w:World} {R:Nat} (c0:w.cell? ⟨R,0,none⟩=some (.int .u64 0)) (c1:w.cell? ⟨R,1,none⟩=some (.int .u64 60000)):
  Calls prog 10 #[.slice (some ⟨R,0,none⟩) 1 1] w fun e w'=> ∃P L Bs B,e= .returned (.tuple #[.pointer (some ⟨P,0,none⟩),.int .i64 0])∧aV w' P L Bs B 60000 (fun _=>0)∧Below w.heap.size w w'∧w.heap.size≤P∧w.heap.size≤L∧w.heap.size≤Bs∧w.heap.size≤B:=by
 obtain ⟨ρ,hρ⟩: ∃ρ:Val,ρ=dO [] [] []:=⟨_,rfl⟩;have hj1:cB [(R,0)] 1=some ⟨R,0,0,none⟩:=rfl;have r2:w.rangeAt R 0 [.int .u64 0,.int .u64 60000]:=fun j v hv=>by
  match j,hv with
  | 0,hv=>cases hv;exact c0
  | 1,hv=>cases hv;exact c1
 refine ya7 (mR (ρ:=ρ) (K:=fun _=>False) (g:=bO.none) (bl:= [(R,0)]) (vals:= [.slice (some ⟨R,0,none⟩) 1 1]) mixed zto zv2 (fun b h=>h.elim)
  ⟨rG r2 (by simp) (ay (aO rfl) (ay (aO rfl) RL.nil)) (fun h=>h),trivial⟩ ⟨fun hh=>(by cases hh),trivial⟩ ja trivial (ay ⟨⟨R,0,0,none⟩,hj1,by simp [zyg],rfl⟩ RL.nil) (zap.2 trivial)) fun e w' hh=> ?_
 obtain ⟨_,j,he⟩:=BS hh;have hb:=j4 he (fun _ h=>h);have hr:=he.ret;simp only [AV.val,AV.bK,bF] at hr;have n4:=he.names 4 (by simp [AV.names,AV.nD]);obtain ⟨f4,o4⟩:=he.fresh 4 (by simp) _ n4;have rw4:=he.rows.2.1 _ n4;have n3:=he.MX.2.1 _ n4 3 (by simp [AV.names,AV.nD]);have n7:=he.MX.2.1 _ n4 7 (by simp [AV.names,AV.nD]);obtain ⟨f3,o3⟩:=he.fresh 3 (by simp) _ n3;obtain ⟨f7,o7⟩:=he.fresh 7 (by simp) _ n7;have n5:=he.MX.2.2.2.1 _ n7 5 (by simp [AV.names,AV.nD]);obtain ⟨f5,o5⟩:=he.fresh 5 (by simp) _ n5;have w3:=(he.rows.1 _ n3).2 f3 o3;have w4:=rw4.2 f4 o4;have w7:=(he.rows.2.2.2.1 _ n7).2 f7 o7;have w5:=(he.rows.2.2.1 _ n5).2 f5 o5;simp only [AV.val,AV.bK,bF,o3,o5,o7] at w3 w4 w7;rw [show (5,List.replicate 60000 (AV.int IntKind.u8 (SE.lit 0))).2=List.replicate 60000 (AV.int IntKind.u8 (SE.lit 0)) from rfl,Xh] at w5;rw [o4] at hr;have z: ∀ {n m:Nat} (hn: ∃r∈ [(3,[AV.int IntKind.u64 (SE.lit 0),AV.int IntKind.u64 (SE.lit 60000)]),(4,[AV.sl 3 0 1 (jI.upto 0),AV.sl 7 0 1 (jI.upto 0)]),(5,List.replicate 60000 (AV.int IntKind.u8 (SE.lit 0))),(7,[AV.sl 5 0 60000 (jI.known 60000)])],r.1=n) (hm: ∃r∈ [(3,[AV.int IntKind.u64 (SE.lit 0),AV.int IntKind.u64 (SE.lit 60000)]),(4,[AV.sl 3 0 1 (jI.upto 0),AV.sl 7 0 1 (jI.upto 0)]),(5,List.replicate 60000 (AV.int IntKind.u8 (SE.lit 0))),(7,[AV.sl 5 0 60000 (jI.known 60000)])],r.1=m),n≠m→j n=some (fq j n)→j m=some (fq j m)→w.heap.size≤(fq j n).blk→(fq j n).blk≠(fq j m).blk:=fun hn hm hne h1 h2 h3 e=>by
  obtain ⟨r,hr,rfl⟩:=hn;obtain ⟨r',hr',rfl⟩:=hm;exact he.apart r hr r' hr' hne _ _ h1 h2 e (.inl h3)
 have g3:w.heap.size≤(fq j 3).blk:=f3.elim id False.elim;have g4:w.heap.size≤(fq j 4).blk:=f4.elim id False.elim;have g5:w.heap.size≤(fq j 5).blk:=f5.elim id False.elim;have g7:w.heap.size≤(fq j 7).blk:=f7.elim id False.elim;have q45:=z ⟨_,.tail _ (.head _),rfl⟩ ⟨_,.tail _ (.tail _ (.head _)),rfl⟩ (show (4:Nat)≠5 by decide) n4 n5 g4;have yS:=z ⟨_,.head _,rfl⟩ ⟨_,.tail _ (.tail _ (.head _)),rfl⟩ (show (3:Nat)≠5 by decide) n3 n5 g3;have q75:=z ⟨_,.tail _ (.tail _ (.tail _ (.head _))),rfl⟩ ⟨_,.tail _ (.tail _ (.head _)),rfl⟩ (show (7:Nat)≠5 by decide) n7 n5 g7;refine ⟨(fq j 4).blk,(fq j 3).blk,(fq j 7).blk,(fq j 5).blk,hr,⟨⟨_,Bl w4 (i:=0) rfl⟩,⟨_,Bl w4 (i:=1) rfl⟩,Bl w3 (i:=0) rfl,Bl w3 (i:=1) rfl,Bl w7 (i:=0) rfl,fun i hi=> ?_,fun i hi=> ?_,fun i=>⟨ybY _,by decide⟩,q45,yS,q75,FD w5⟩,hb,g4,g3,g7,g5⟩
 ·exact Bl w5 (i:=i) (by rw [List.getElem?_replicate];simp [hi])
 ·obtain ⟨arr,t,e1,_⟩:=w5;simp [World.frozen?,e1]
open Go.Maps Go.Sort Go.Deep
def Tryz.zyn (w:World) (sa:Option Addr) (l:List Int):Prop:=l= []∨ ∃G o,sa=some ⟨G,o,none⟩∧w.rangeAt G o (bA l)
set_option maxRecDepth 100000 in
theorem Tryz.zr0 {w:World} {sa:Option Addr} {c:Nat} {l:List Int} (h:zyn w sa l) (hl:l.length≤100000) (t:Int):
  Calls prog 105 #[.slice sa l.length c,.int .i64 t] w fun e w'=> ∃i:Int,e= .returned (.int .i64 i)∧(decide (0≤i)=l.any fun x=>x==t)∧w'=w:=by
 go_enter func105,ntmps105;go_wp2_with fail;go_loopw [8] (fun x wr=>wr=w∧ ∃k:Nat,k≤l.length∧x= .int .i64 k∧((l.take k).any fun x=>x==t)=false) (fun x _=>l.length-(RowKit.intOf x).toNat)
 case atStart=>exact ⟨rfl,0,yar _,rfl,by simp⟩
 case round=>
  obtain ⟨rfl,k,hk,rfl,hno⟩:=hrel;by_cases hkl:k<l.length
  ·have hkl':(k:Int)<l.length:=by omega
   obtain ⟨G,o,rfl,hr⟩:=h.resolve_left (by intro e;rw [e] at hkl;exact absurd hkl (by simp));have e1:=hr k (.int .i64 l[k]) (by simp [bA,hkl]);have ht:((l.take (k+1)).any fun x=>x==t)=(l[k]==t):=by
    rw [ybv hkl,List.any_append,hno];simp
   have hall:l[k]=t→(l.any fun x=>x==t)=true:=fun q=>ybF.2 ⟨l[k],yaA hkl,by simp [q]⟩;generalize l[k]=x at e1 ht hall;replace hno:aA _:=⟨hno⟩;by_cases hx:t=x
   ·have ha:=hall hx.symm;subst hx;clear ht hall hr;go_wp2;go_ret;exact ⟨_,rfl,by rw [ha];simp,rfl⟩
   ·have hx2:(t==x)=false:=by simpa using hx
    have hx3:(x==t)=false:=by simpa using fun q:x=t=>hx q.symm
    rw [hx3] at ht;replace ht:aA _:=⟨ht⟩;clear hall hr hx3;go_wp2;exact ⟨⟨trivial,k+1,by omega,by push_cast;rfl,ht.out⟩,by simp only [RowKit.intOf];omega⟩
  ·have hkl': ¬(k:Int)<l.length:=by omega
   have hkq:k=l.length:=by omega
   subst hkq;rw [ybE] at hno;replace hno:aA _:=⟨hno⟩;go_wp2;go_ret;exact ⟨_,rfl,by rw [hno.out];rfl,rfl⟩
set_option maxRecDepth 100000 in
theorem Tryz.Oi {w:World} {sa:Option Addr} {c:Nat} {l:List Int} (h:zyn w sa l) (hl:l.length≤100000) (t:Int):
    Calls prog 62 #[.slice sa l.length c,.int .i64 t] w fun e w'=>e= .returned (.bool (l.any fun x=>x==t))∧w'=w:=by
  have hi:=zr0 (c:=c) h hl t;go_enter func62,ntmps62;go_wp2_with (first
    | (go_at_call 105;refine hi.mono ?_;rintro e w' ⟨i,rfl,hd,hw⟩;have hw:=hw.symm;subst hw)
    | go_in)
  go_ret;exact ⟨by rw [←hd];rfl,rfl⟩
theorem Tryz.zng (a:Addr) (w:World):(binOp .eql 127 (.pointer none) (.pointer (some a))).run prog w= .ok (.bool false) w:=by
 show (do pure (Value.bool (←Op.equal 127 (.pointer none) (.pointer (some a)))):Sem Value).run prog w=_;unfold Op.equal Op.maxDepth Op.equalIn;simp only [yad,run_underlying underlying127,yac,yag];rfl
theorem Tryz.zpU (w:World):(binOp .eql 127 (.pointer none) (.pointer none)).run prog w= .ok (.bool true) w:=by
 show (do pure (Value.bool (←Op.equal 127 (.pointer none) (.pointer none))):Sem Value).run prog w=_;unfold Op.equal Op.maxDepth Op.equalIn;simp only [yad,run_underlying underlying127,yac,yag];rfl
section
variable {fns gW:List Nat} {nw ji:Prop} {A A':Nat→Prop} {w w':World} {S P L Bs B I N:Nat} {r:Tryz.Rg} {s s':Tryz.DS} {g g':Nat→Int}
set_option maxRecDepth 100000 in
theorem Tryz.OJ {n:Nat} {L:List DO} (h:mF A w I n L) (hn:n≤32768):
  Calls prog 65 #[.slice (some ⟨I,0,none⟩) n n,.pointer none] w fun e w'=>e= .returned (.int .i64 (if dD L n 0<n then ((dD L n 0:Nat):Int) else-1))∧w'=w:=by
 obtain ⟨vs,h1,h2,h3⟩:=h;obtain ⟨f1,f2,f3,f4⟩:=uX L n 0;obtain ⟨R,hR⟩: ∃R,R=dD L n 0:=⟨_,rfl⟩;rw [←hR] at f1 f2 f3 f4 ⊢;clear hR;obtain ⟨res,hres⟩: ∃res:Int,res=(if R<n then ((R:Nat):Int) else-1):=⟨_,rfl⟩;rw [←hres];replace hres:aA (res=(if R<n then ((R:Nat):Int) else-1)):=⟨hres⟩;go_enter func65,ntmps65;go_wp2_with fail;go_loopw [8] (fun x wr=>wr=w∧ ∃k:Nat,k≤n∧x= .int .i64 k∧k≤R) (fun x _=>n-(RowKit.intOf x).toNat)
 case atStart=>exact ⟨rfl,0,yar _,rfl,yar _⟩
 case round=>
  obtain ⟨rfl,k,hk,rfl,hkR⟩:=hrel;by_cases hkn:k<n
  ·have hkn':(k:Int)<n:=by omega
   have c0:=h1.cell k _ (yai (by omega));by_cases Sv:k<R
   ·have hh:=f3 k (yar _) Sv;rw [←tC] at hh;obtain ⟨e,he⟩:=ydX.1 hh;obtain ⟨O,hO,_⟩:=(h3 k (by omega)).2 e he;rw [hO] at c0;have hn0:=zng ⟨O,0,none⟩ wr;clear hh he hO;go_wp2;exact ⟨⟨trivial,k+1,by omega,by push_cast;rfl,by omega⟩,by simp only [RowKit.intOf];omega⟩
   ·have hkq:k=R:=by omega
    have h0:=(h3 k (by omega)).1 (by rw [hkq];exact f4 (by omega));rw [h0] at c0;have hr:=hres.out;rw [yak (by omega),←hkq] at hr;subst hr;have hn0:=zpU wr;clear h0 f1 f2 f3 f4 hkq Sv hkR hres h3;go_wp2;go_ret;exact ⟨rfl,rfl⟩
  ·have hkn': ¬(k:Int)<n:=by omega
   have hr:=hres.out;rw [yah (by omega)] at hr;subst hr;clear f1 f2 f3 f4;go_wp2;go_ret;exact ⟨rfl,rfl⟩
set_option maxRecDepth 100000 in
theorem Tryz.OB {v:Value} {l:List Sg} (h:bC A w v l) (tb:Bool):
    Calls prog 64 #[v,.bool tb] w fun e w'=>e= .returned (.int .i64 (if eD l≠0 then 0 else if tb then 1 else l.length))∧Below w.heap.size w w':=by
  have hck:=NK h;obtain ⟨sa,c,rfl,hok,hr⟩:=h;clear hok hr;unfold eD;generalize gJ l=e at hck;by_cases he:e=0
  · subst he;rw [yah (show¬(0:Int)≠0 by decide)];by_cases hl:l.length=0
    · rw [yak hl,yak (by decide)];have hb:((l.length:Int)==0)=true:=by simpa using hl
      clear hl;go_enter func64,ntmps64;go_wp2_with (first
        | (go_at_call 106;refine hck.mono ?_;rintro en w1 ⟨rfl,hb1⟩)
        | go_in)
      go_ret;exact ⟨rfl,hb1⟩
    · rw [yah hl,yah (show¬(0:Int)≠0 by decide)];have hb:((l.length:Int)==0)=false:=by simpa using hl
      clear hl;cases tb
      all_goals
        go_enter func64,ntmps64;go_wp2_with (first
          | (go_at_call 106;refine hck.mono ?_;rintro en w1 ⟨rfl,hb1⟩)
          | go_in)
        go_ret;exact ⟨rfl,hb1⟩
  · rw [yak he,yak he];have hb:(e==0)=false:=by simpa using he
    go_enter func64,ntmps64;go_wp2_with (first
      | (go_at_call 106;refine hck.mono ?_;rintro en w1 ⟨rfl,hb1⟩)
      | go_in)
    go_ret;exact ⟨rfl,hb1⟩
end
end Go.Proofs
namespace Go.Proofs
open Go.Dw Go.RowKit Go.Maps Go.Sort Go.Deep
set_option maxRecDepth 100000 in
theorem Tryz.XF {f:Int} {x:Bool} (hf:f=0∨f=1∨f=2∨f=3∨f=4) (w:World):
  Calls prog 111 #[.int .u16 f,.bool x,.bool false] w fun e w'=>e= .returned (.int .u16 (fZ f x))∧w'=w:=by
 rcases hf with rfl|rfl|rfl|rfl|rfl<;>cases x
 all_goals
  go_enter func111,ntmps111;go_wp2;go_ret;exact ⟨rfl,rfl⟩
set_option maxRecDepth 100000 in
theorem Tryz.zxO {x:Bool} (w:World):
  Calls prog 21 #[.int .u16 4,.bool x,.bool false] w fun e w'=>e= .returned (.int .u16 (fZ 4 x))∧w'=w:=by
 cases x
 all_goals
  go_enter func21,ntmps21;go_wp2;go_ret;exact ⟨rfl,rfl⟩
theorem Tryz.zne {w:World} {R X:Nat} (hX:Cl w X [.bool false]) (hr:w.rangeAt R 0 [(iR.mk false X).val]) (hR:R<w.heap.size):
  Calls prog 107 #[.slice (some ⟨R,0,none⟩) 1 1] w fun e w'=>e= .returned (.int .i64 0)∧Below w.heap.size w w':=
 OO (w:=w) (c:=1) [⟨false,X⟩] [0] rfl hr (by show 1≤64;decide) hR fun k hk w' hb=>by
  have hk0:k=0:=by simp at hk;omega
  subst hk0;exact PE ((hX.below hb hX.lt).cell 0 _ rfl)
theorem Tryz.zsd {w:World} {R X Y:Nat} {A:Nat→Prop} {v:Value} {l:List Sg} (hY:Cl w Y [v]) (hv:bC A w v l) (he:eD l=0) (hX:Cl w X [.bool false]) (hr:w.rangeAt R 0 [(iR.mk true Y).val,(iR.mk false X).val]) (hR:R<w.heap.size):
  Calls prog 107 #[.slice (some ⟨R,0,none⟩) 2 2] w fun e w'=>e= .returned (.int .i64 0)∧Below w.heap.size w w':=by
 have:=OO (w:=w) (c:=2) [⟨true,Y⟩,⟨false,X⟩] [eD l,0] rfl hr (by show 2≤64;decide) hR fun k hk w' hb=>by
  have hk0:k=0∨k=1:=by simp at hk;omega
  rcases hk0 with rfl|rfl
  ·exact V7 (hY.below hb hY.lt) (hv.below hb)
  ·exact PE ((hX.below hb hX.lt).cell 0 _ rfl)
 have e0:rM [eD l,0]=0:=by rw [he];rfl
 rw [e0] at this;exact this
set_option maxRecDepth 100000 in
theorem Tryz.zue {m:Int} (hm:1≤m∧m≤64) (w:World):Calls prog 110 #[.int .i64 m] w fun e w'=>e= .returned (.bool true)∧w'=w:=by
 obtain ⟨h1,h2⟩:=hm;go_enter func110,ntmps110;go_wp2;go_ret;exact ⟨by simp [h1,h2],rfl⟩
set_option maxRecDepth 100000 in
theorem Tryz.zuT {n a id m ad:Int} {x:Bool} (hn:1≤n∧n≤32768) (ha:0≤a∧a<n) (hid:0≤id∧id<n) (hm:1≤m∧m≤64) (w:World):
    Calls prog 67 #[bM a x,.int .i64 n,.int .i64 id,.int .u64 ad,.int .i64 m] w fun e w'=>e= .returned (.tuple #[.agg #[.int .i64 a,.int .u64 ad,.int .u32 (16*m),.int .u16 id,.int .u16 (fZ 4 x)],.int .i64 0])∧Below w.heap.size w w':=by
  have hck:=fun w'=>P6 (x:=x) hn ha.1 w';simp only [yak ha.2] at hck;have hmk:=fun w'=>XF (f:=4) (x:=x) (by decide) w';have hmy:=fun w'=>zue hm w';generalize fZ 4 x=fl at hmk ⊢;have h0:decide (id<0)=false:=yao (by omega);have h1:decide (n≤id)=false:=yao (by omega);have e1:IntKind.wrap .i64 (16*m)=16*m:=dV (by omega) (by omega);have e2:IntKind.wrap .u32 (16*m)=16*m:=by unfold IntKind.wrap;simp [IntKind.signed,IntKind.bits];omega
  have e3:IntKind.wrap .u16 id=id:=tN (by omega) (by omega);unfold bM at hck ⊢;have hb1:=(yab w.heap.size w).alloc (yaa _) (Obj.cells #[.int .i64 a,.bool x] 64);have hb2:=hb1.alloc (by simp) (Obj.cells #[.int .i64 0,.int .u64 0,.int .u32 0,.int .u16 0,.int .u16 0] 139);have k0:=(Cl.new w #[.int .i64 a,.bool x] 64).alloc (Obj.cells #[.int .i64 0,.int .u64 0,.int .u32 0,.int .u16 0,.int .u16 0] 139);have k1:=Cl.new2 (w:=w.alloc (Obj.cells #[.int .i64 a,.bool x] 64)) (b:=w.heap.size+1) (arr:= #[.int .i64 0,.int .u64 0,.int .u32 0,.int .u16 0,.int .u16 0]) (t:=139) (by simp);clear hn ha hid hm;go_enter func67,ntmps67;go_wp2_with (first
    | (go_at_call 109;refine (hck _).mono ?_;rintro en w3 ⟨rfl,hb3⟩;have j0:=k0.below hb3 k0.lt;have j1:=k1.below hb3 k1.lt)
    | (go_at_call 110;refine (hmy _).mono ?_;rintro en w' ⟨rfl,hw⟩;have hw:=hw.symm;subst hw)
    | (go_at_call 108;refine (Ij _ false).mono ?_;rintro en w' ⟨rfl,hw⟩;have hw:=hw.symm;subst hw)
    | (go_at_call 107;refine (zne ((Cl.new w3 #[.bool false] 4).alloc _) (fun j y hy=>by
         have:=(Cl.new (w3.alloc (Obj.cells #[.bool false] 4)) #[(iR.mk false w3.heap.size).val] 57).cell j y hy;rw [fw] at this;rwa [yaf]) (by simp)).mono ?_;rintro en w4 ⟨rfl,hb4⟩
       have yo:=((yab w3.heap.size w3).alloc (yaa _) (Obj.cells #[.bool false] 4)).alloc (by simp) (Obj.cells #[(iR.mk false w3.heap.size).val] 57);have Gl:=yo.trans (hb4.mono yo.size))
    | go_in)
  have hbd:=(yab w4.heap.size w4).drew;have hs2:=hb2.size;have hs3:=hb3.size;have hs5:=Gl.size;have hbw:Below w.heap.size w w4:=((hb2.trans (hb3.mono (by omega))).trans (Gl.mono (by omega)));clear hs2 hs3 hs5;have i0:=(j0.below Gl j0.lt);have i1:=(j1.below Gl j1.lt);have d0:=i0.below hbd i0.lt;have d1:=i1.below hbd i1.lt;have x0:=i0.cell 0 _ rfl;have x1:=i0.cell 1 _ rfl;have y0:=d0.cell 0 _ rfl;have y1:=d0.cell 1 _ rfl;have z0:=i1.cell 0 _ rfl;have q0:=i1.free 0;have z1:=i1.cell 1 _ rfl;have q1:=i1.free 1;have z2:=i1.cell 2 _ rfl;have q2:=i1.free 2;have z3:=i1.cell 3 _ rfl;have q3:=i1.free 3;have z4:=i1.cell 4 _ rfl;have q4:=i1.free 4;go_region_law (first
    | (go_simp;go_at_call 111;refine (hmk _).mono ?_;rintro en w' ⟨rfl,hw⟩;have hw:=hw.symm;subst hw))
  all_goals
    go_wp2_with fail;have LY:=aD (aD (aD (aD (aD (ah (K:=fun _=>False) hbw) (w.heap.size+1) 0 (.int .i64 a) (.inr (by omega))) (w.heap.size+1) 1 (.int .u64 ad) (.inr (by omega))) (w.heap.size+1) 2 (.int .u32 (16*m)) (.inr (by omega))) (w.heap.size+1) 3 (.int .u16 id) (.inr (by omega))) (w.heap.size+1) 4 (.int .u16 fl) (.inr (by omega));have cO:=mU (LY.trans (ah ((yab _ _).drew)));have kF:=Cl.kept (w':=(((((w4.setCell ⟨w.heap.size+1,0,none⟩ (.int .i64 a)).setCell ⟨w.heap.size+1,1,none⟩ (.int .u64 ad)).setCell ⟨w.heap.size+1,2,none⟩ (.int .u32 (16*m))).setCell ⟨w.heap.size+1,3,none⟩ (.int .u16 id)).setCell ⟨w.heap.size+1,4,none⟩ (.int .u16 fl)).drew) (((((i1.set 0 (.int .i64 a) (by simp)).set 1 (.int .u64 ad) (by simp)).set 2 (.int .u32 (16*m)) (by simp)).set 3 (.int .u16 id) (by simp)).set 4 (.int .u16 fl) (by simp)) rfl;refine yap (bU rfl _ _ (w.heap.size+1) [.int .i64 a,.int .u64 ad,.int .u32 (16*m),.int .u16 id,.int .u16 fl] _ rfl (fun j y hy=>by rw [yaf];exact kF.cell j y hy) underlying139 rfl (by kernel_rfl)) rfl ?_;exact ⟨rfl,cO⟩
def Tryz.nJ (wr more:Bool):Int:=(if wr then 2 else 0)+if more then 1 else 0
theorem Tryz.zvL (wr more:Bool):nJ wr more=0∨nJ wr more=1∨nJ wr more=2∨nJ wr more=3∨nJ wr more=4:=by cases wr<;>cases more<;>decide
set_option maxRecDepth 100000 in
theorem Tryz.zuf {id a ln:Int} {x wr more:Bool} (hid:0≤id∧id<65536) (w:World):
    Calls prog 196 #[.agg #[.int .u64 0,.int .u32 0,.int .u16 0,.int .u16 0,.int .i64 id,.bool x],.agg #[.int .u64 a,.int .u32 ln,.bool wr],.bool more] w fun e w'=>e= .returned (.iface 187 (.agg #[.int .u64 a,.int .u32 ln,.int .u16 id,.int .u16 (fZ (nJ wr more) x),.int .i64 id,.bool x]))∧Below w.heap.size w w':=by
  have hmk:=fun w'=>XF (x:=x) (zvL wr more) w';have e3:IntKind.wrap .u16 id=id:=tN (by omega) (by omega);clear hid;cases wr<;>cases more
  all_goals
    unfold nJ at hmk ⊢;simp only [ycD,ybW,yaW,Int.add_zero,Int.zero_add] at hmk ⊢;go_enter func196,ntmps196;go_wp2_with (first
      | (go_at_call 111;refine (hmk _).mono ?_;rintro en w' ⟨rfl,hw⟩;have hw:=hw.symm;subst hw)
      | go_in)
    go_ret;exact ⟨rfl,((yab w.heap.size w).alloc (yaa _) _).alloc (by simp) _⟩
def Tryz.oL (ps:List (Int×Bool)):List Value:=ps.flatMap fun p=> [.int .i64 p.1,.bool p.2]
theorem Tryz.NN: ∀ps:List (Int×Bool),(oL ps).length=ps.length*2
 | [] => rfl
 | p::r=>by
  have:=NN r;unfold oL at this ⊢;rw [ycc,yaC,this,yaX];simp;omega
theorem Tryz.Og: ∀(ps:List (Int×Bool)) (i:Nat) (hi:i<ps.length),(oL ps)[i*2]? =some (.int .i64 ps[i].1)∧(oL ps)[i*2+1]? =some (.bool ps[i].2)
 | p::r,0,_=>⟨rfl,rfl⟩
 | p::r,i+1,hi=>by
  have q:=Og r i (by simpa using hi);have e1:oL (p::r)= .int .i64 p.1:: .bool p.2::oL r:=rfl;rw [e1,show (i+1)*2=i*2+1+1 by omega];simpa using q
set_option maxRecDepth 100000 in
theorem Tryz.zmO {w:World} {X6 zR G k n c:Nat} {id:Int} {x:Bool} (h6:Cl w X6 [.int .i64 id]) (h11:Cl w zR [.slice (some ⟨G,0,none⟩) n c]) (hk:k<n) (hx:w.cell? ⟨G,k*2+1,none⟩=some (.bool x)):
  Calls prog 115 #[.int .i64 k,.pointer (some ⟨X6,0,none⟩),.pointer (some ⟨zR,0,none⟩)] w fun e w'=>e= .returned (.agg #[.int .u64 0,.int .u32 0,.int .u16 0,.int .u16 0,.int .i64 id,.bool x])∧Below w.heap.size w w':=by
 have hk':(k:Int)<n:=by omega
 have hb1:=(yab w.heap.size w).alloc (yaa _) (Obj.cells #[.int .u64 0,.int .u32 0,.int .u16 0,.int .u16 0,.int .i64 0,.bool false] 187);have hG:G<w.heap.size:=yan w _ hx;have k1:=Cl.new w #[.int .u64 0,.int .u32 0,.int .u16 0,.int .u16 0,.int .i64 0,.bool false] 187;have q6:=h6.below hb1 h6.lt;have Hf:=h11.below hb1 h11.lt;have qx:=(hb1.cell (p:=⟨G,k*2+1,none⟩) hG).trans hx;have a6:=q6.cell 0 _ rfl;have a11:=Hf.cell 0 _ rfl;have z0:=k1.cell 0 _ rfl;have f0:=k1.free 0;have z1:=k1.cell 1 _ rfl;have f1:=k1.free 1;have z2:=k1.cell 2 _ rfl;have f2:=k1.free 2;have z3:=k1.cell 3 _ rfl;have f3:=k1.free 3;have z4:=k1.cell 4 _ rfl;have f4:=k1.free 4;have z5:=k1.cell 5 _ rfl;have f5:=k1.free 5;clear hk hb1 hG;go_enter func115,ntmps115;go_wp2_with fail;go_region_law fail
 all_goals
  go_wp2_with fail;have kF:=(Cl.new w #[.int .u64 0,.int .u32 0,.int .u16 0,.int .u16 0,.int .i64 id,.bool x] 187).kept (w':=(w.alloc (Obj.cells #[.int .u64 0,.int .u32 0,.int .u16 0,.int .u16 0,.int .i64 id,.bool x] 187)).drew) rfl;refine yap (Qd rfl _ _ w.heap.size [.int .u64 0,.int .u32 0,.int .u16 0,.int .u16 0,.int .i64 id,.bool x] _ rfl (fun j y hy=>by rw [yaf];exact kF.cell j y hy) underlying187 rfl (by kernel_rfl)) rfl ?_;exact ⟨rfl,((yab w.heap.size w).alloc (yaa _) _).drew⟩
set_option maxRecDepth 100000 in
theorem Tryz.zx5:(prog.info? 187).map (fun i=>(i.zero,i.size,i.bytes))=some (some (.agg #[.int .u64 0,.int .u32 0,.int .u16 0,.int .u16 0,.int .i64 0,.bool false]),6,32):=by kernel_rfl
def Tryz.rP (id:Int) (ps:List (Int×Bool)) (l:List Sg) (k:Nat):List Value:=
 [.int .u64 (l.getD k ⟨0,0,false⟩).bB,.int .u32 (l.getD k ⟨0,0,false⟩).len,.int .u16 id,.int .u16 (fZ (nJ (l.getD k ⟨0,0,false⟩).wr (decide (k+1<l.length))) (ps.getD k (0,false)).2),.int .i64 id,.bool (ps.getD k (0,false)).2]
def Tryz.vo (id:Int) (ps:List (Int×Bool)) (l:List Sg) (k:Nat):List Value:=(List.range k).flatMap (rP id ps l)
theorem Tryz.NP (id:Int) (ps:List (Int×Bool)) (l:List Sg) (k:Nat):vo id ps l (k+1)=vo id ps l k++rP id ps l k:=by simp [vo,ycF]
set_option maxRecDepth 100000 in
theorem Tryz.zp0 {A:Nat→Prop} {w:World} {v:Value} {l:List Sg} {X6 zR G c2:Nat} {id:Int} {ps:List (Int×Bool)} (h:bC A w v l) (hl:l.length≤16) (hid:0≤id∧id<65536) (hps:ps.length=l.length) (h6:Cl w X6 [.int .i64 id]) (h11:Cl w zR [.slice (some ⟨G,0,none⟩) ps.length c2]) (hG:w.rangeAt G 0 (oL ps)):
    Calls prog 114 #[v,.func (.func 115) #[] #[.pointer (some ⟨X6,0,none⟩),.pointer (some ⟨zR,0,none⟩)]] w fun e w'=>(∃u t,e= .returned u∧af t 6 w' w.heap.size u l.length (vo id ps l l.length))∧Below w.heap.size w w':=by
  obtain ⟨sa,c,rfl,hok,hr⟩:=h;have hinfo:=zx5;cases hi:prog.info? 187 with
  | none=>rw [hi] at hinfo;cases hinfo
  | some i0=>
  rw [hi] at hinfo;simp only [yaJ,ybH,ycX] at hinfo;obtain ⟨j1,j2,j3⟩:=hinfo;have hU:prog.underlying 184=some (.slice 187):=by kernel_rfl
  obtain ⟨w1,hmk,hown0,Au⟩:=run_make_own (P:=prog) (w:=w) w.heap.size 184 187 i0 (.agg #[.int .u64 0,.int .u32 0,.int .u16 0,.int .u16 0,.int .i64 0,.bool false]) 6 hU hi j1 j2 .i64 .i64 l.length (by rw [j3];omega) (by unfold maxLen;omega) (yaa _);have hb1:Below w.heap.size w w1:=⟨Au.os,Au.tape,Au.output,Au.size,fun b hb=>Au.block b hb (fun e=>by cases e)⟩;replace hok:aA (∀x∈l,x.ok):=⟨hok⟩;replace hr:aA (l= []∨ ∃R o,sa=some ⟨R,o,none⟩∧ ¬A R∧w.rangeAt R o (dA l)):=⟨hr⟩;replace hG:aA _:=⟨hG⟩;replace hps:aA _:=⟨hps⟩;clear Au;have SI : ∀ (v : Value) (w : World), (method 356 187 v "dumbwaiter/build.made").run prog w = .ok (196, v) w := fun _ _ => by kernel_rfl
  have abV: ∀(v:Value) (w:World),(Instr.typeAssert (.iface 187 v) 214 187 false).run prog w= .ok v w:=fun _ _=>by kernel_rfl
  go_enter func114,ntmps114;go_wp2_with fail;clear hmk;go_loopw [5,13] (fun cv x wr=> ∃(q:Nat) (t:TypeId),q≤l.length∧x= .int .i64 q∧af t 6 wr w.heap.size cv q (vo id ps l q)∧Below w.heap.size w wr) (fun _ x _=>l.length-(RowKit.intOf x).toNat)
  case atStart=>exact ⟨0,_,yar _,rfl,hown0,hb1⟩
  case round=>
    obtain ⟨q,ty,hq,rfl,ho,hb⟩:=hrel;by_cases dx:q<l.length
    · have GL:(q:Int)<l.length:=by omega
      obtain ⟨R,o,rfl,hA,hrg⟩:=hr.out.resolve_left (by intro e;rw [e] at dx;exact absurd dx (by simp));have hsg:=aX (xq hrg q dx) (hb.block R (tO hrg (by intro e;rw [e] at dx;exact absurd dx (by simp))));have GN:q<ps.length:=by rw [hps.out];exact dx
      have mH:G<w.heap.size:=fJ hG.out (by intro e;have:=yaB List.length e;rw [NN] at this;simp only [ybm] at this;omega);have hxw:=hG.out _ _ (Og ps q GN).2;rw [yaf] at hxw;have Mr:wr.cell? ⟨G,q*2+1,none⟩=_:=(hb.cell (p:=⟨G,q*2+1,none⟩) mH).trans hxw;have hcell:rP id ps l q= [.int .u64 l[q].bB,.int .u32 l[q].len,.int .u16 id,.int .u16 (fZ (nJ l[q].wr (decide (q+1<l.length))) ps[q].2),.int .i64 id,.bool ps[q].2]:=by
        unfold rP;rw [show l.getD q ⟨0,0,false⟩=l[q] from by simp [yaw,dx],show ps.getD q (0,false)=ps[q] from by simp [yaw,GN]]
      have hsucc:=NP id ps l q;rw [hcell] at hsucc;clear hcell;generalize l[q]'(dx)=s at hsg hsucc;generalize (ps[q]'(GN)).2=x at Mr hsucc hxw;obtain ⟨sat,dM,rA⟩:=s;have hmore:decide (q+1<l.length)=decide ((q:Int)+1<l.length):=ya4.2 (by omega);rw [hmore] at hsucc;have hw1:IntKind.wrap .i64 ((q:Int)+1)=(q:Int)+1:=dV (by omega) (by omega);rw [ybz 3 q] at hsg;have s0:=hsg 0 _ rfl;have s1:=hsg 1 _ rfl;have s2:=hsg 2 _ rfl;rw [yaF] at s0;have hbz:=(yab wr.heap.size wr).alloc (yaa _) (Obj.cells #[.int .u64 sat,.int .u32 dM,.bool rA] 137);have vX:=hbz.drew;have kz:=(Cl.new wr #[.int .u64 sat,.int .u32 dM,.bool rA] 137);have DX:=kz.kept (w':=(wr.alloc (Obj.cells #[.int .u64 sat,.int .u32 dM,.bool rA] 137)).drew) rfl;have hG6:=((h6.below hb h6.lt).below vX (h6.below hb h6.lt).lt);have aao:=((h11.below hb h11.lt).below vX (h11.below hb h11.lt).lt);have aaq:G<wr.heap.size:=yae mH hb.size;have Rx:=(vX.cell (p:=⟨G,q*2+1,none⟩) aaq).trans Mr;have hc1:=zmO (k:=q) hG6 aao GN Rx;have hc2:=fun w'=>zuf (a:=sat) (ln:=dM) (x:=x) (wr:=rA) (more:=decide ((q:Int)+1<l.length)) hid w';have ho2:=af.kept ho (w':=(wr.alloc (Obj.cells #[.int .u64 sat,.int .u32 dM,.bool rA] 137)).drew) fun b e=>vX.block b (af.lt ho b e).2;have z0:=kz.cell 0 _ rfl;have z1:=kz.cell 1 _ rfl;have z2:=kz.cell 2 _ rfl;have y0:=DX.cell 0 _ rfl;have y1:=DX.cell 1 _ rfl;have y2:=DX.cell 2 _ rfl;obtain ⟨su,cu,hcv,_⟩:=af.row ho;subst hcv;generalize fZ (nJ rA (decide ((q:Int)+1<l.length))) x=fl at hc2 hsucc;clear Mr hxw Rx hrg hmore hok hr hG hps;go_wp2_with fail;go_region_held3 (fun w'=>w'.cell? ⟨wr.heap.size,0,none⟩=some (.int .u64 sat)∧w'.cell? ⟨wr.heap.size,1,none⟩=some (.int .u32 dM)∧w'.cell? ⟨wr.heap.size,2,none⟩=some (.bool rA)) (go_keep)
        ((first
          | (go_at_call 115;refine hc1.mono ?_;rintro en w3 ⟨rfl,hb3⟩;have DT:=DX.below hb3 DX.lt;have v0:=DT.cell 0 _ rfl;have v1:=DT.cell 1 _ rfl;have v2:=DT.cell 2 _ rfl)
          | (go_at_call 196;refine (hc2 _).mono ?_;rintro en w4 ⟨rfl,hb4⟩;have DU:=DT.below hb4 DT.lt;have u0:=DU.cell 0 _ rfl;have u1:=DU.cell 1 _ rfl;have u2:=DU.cell 2 _ rfl;have yo:=hb3.trans (hb4.mono hb3.size);have Dp:=af.kept ho2 (w':=w4) fun b e=>yo.block b (af.lt ho2 b e).2;have jA:=(yab w4.heap.size w4).alloc (yaa _) (Obj.cells #[.int .u64 sat,.int .u32 dM,.int .u16 id,.int .u16 fl,.int .i64 id,.bool x] 187);have L9:=af.kept Dp (w':=w4.alloc (Obj.cells #[.int .u64 sat,.int .u32 dM,.int .u16 id,.int .u16 fl,.int .i64 id,.bool x] 187)) fun b e=>jA.block b (af.lt Dp b e).2;have Mw:=Cl.new w4 #[.int .u64 sat,.int .u32 dM,.int .u16 id,.int .u16 fl,.int .i64 id,.bool x] 187;have DV:=DU.below jA DU.lt;have t0:=DV.cell 0 _ rfl;have t1:=DV.cell 1 _ rfl;have t2:=DV.cell 2 _ rfl;have hbase:w.heap.size≤(w4.alloc (Obj.cells #[.int .u64 sat,.int .u32 dM,.int .u16 id,.int .u16 fl,.int .i64 id,.bool x] 187)).heap.size:=yas hb.size (yas vX.size (yas yo.size jA.size)))
          | (refine nR (P0:=prog) (by rfl) _ _ _ (by rfl) w.heap.size 187 ty i0 _ 6 32 hU hi j1 j2 j3 rfl (by decide) (.slice su q cu) q (vo id ps l q) (by rfl) L9 (some ⟨w4.heap.size,0,none⟩) ⟨w4.heap.size,0,none⟩ rfl 1 1 [.int .u64 sat,.int .u32 dM,.int .u16 id,.int .u16 fl,.int .i64 id,.bool x] (by rfl) rfl
               (fun j u hu=>by rw [Dw.addr_add];exact Mw.cell (0+j) u (by rw [yaf];exact hu)) (fun u hu=>by simp only [yaj,yaq,yaZ] at hu;rcases hu with rfl|rfl|rfl|rfl|rfl|rfl<;>rfl) (by unfold maxLen;omega) (by omega) hbase ?_
             intro v6 w6 t6 hown6 mJ aav;have Mx:=DV.kept (w':=w6) (mJ.block _ DV.lt (fun e=>by have:=(af.lt ho _ e.symm).2;omega));have r0:=Mx.cell 0 _ rfl;have r1:=Mx.cell 1 _ rfl;have r2:=Mx.cell 2 _ rfl)))
      all_goals
        go_wp2_with fail;refine ⟨⟨q+1,t6,by omega,by push_cast;rfl,by rw [hsucc];exact hown6,?_⟩,by simp only [RowKit.intOf];omega⟩;have hbw:=(((hb.trans (vX.mono hb.size)).trans (yo.mono (yas hb.size vX.size))).trans (jA.mono (yas hb.size (yas vX.size yo.size))));exact ⟨mJ.os.trans hbw.os,mJ.tape.trans hbw.tape,mJ.output.trans hbw.output,yas hbw.size mJ.size,fun b hh=>(mJ.block b (yae hh hbw.size) (fun e=>by have:=(af.lt ho b e.symm).1;omega)).trans (hbw.block b hh)⟩
    · have hqq:q=l.length:=by omega
      subst hqq;go_wp2;go_ret;exact ⟨⟨_,ty,rfl,ho⟩,hb⟩
def Tryz.kQ (n a:Int) (x:Bool) (k:Nat):List (Int×Bool):=(List.range k).map (bf n a x)
theorem Tryz.ztV (n a:Int) (x:Bool) (k:Nat):(kQ n a x k).length=k:=by simp [kQ]
theorem Tryz.zrn (n a:Int) (x:Bool) (k:Nat):oL (kQ n a x (k+1))=oL (kQ n a x k)++ [.int .i64 (bf n a x k).1,.bool (bf n a x k).2]:=by
 unfold kQ oL;rw [ycF,ybA,ycJ];simp
set_option maxRecDepth 100000 in
theorem Tryz.zwR:(prog.info? 64).map (fun i=>(i.zero,i.size,i.bytes))=some (some (.agg #[.int .i64 0,.bool false]),2,16):=by kernel_rfl
set_option maxRecDepth 100000 in
theorem Tryz.zul:(prog.info? 139).map (fun i=>(i.zero,i.size,i.bytes))=some (some (.agg #[.int .i64 0,.int .u64 0,.int .u32 0,.int .u16 0,.int .u16 0]),5,24):=by kernel_rfl
theorem Tryz.VT (id:Int) (ps:List (Int×Bool)) (l:List Sg): ∀(n k:Nat),k<n→ ∀j,j<6→(vo id ps l n)[k*6+j]? =(rP id ps l k)[j]?
 | 0,k,hk,_,_=>absurd hk (ydF _)
 | n+1,k,hk,j,hj=>by
  have hlen: ∀m,(vo id ps l m).length=m*6:=fun m=>by
   induction m with
   | zero=>rfl
   | succ m ih=>rw [NP,yaC,ih];simp [rP];omega
  rw [NP];by_cases hkn:k<n
  ·rw [yaP (by rw [hlen];omega)];exact VT id ps l n k hkn j hj
  ·have hq:k=n:=by omega
   subst hq;rw [yaV (by rw [hlen];omega),hlen,show k*6+j-k*6=j by omega]
set_option maxRecDepth 100000 in
theorem Tryz.zmN {A:Nat→Prop} {w:World} {v:Value} {l:List Sg} {n id a:Int} {x:Bool} (h:bC A w v l) (he:eD l=0) (hn:1≤n∧n≤16) (hln:(l.length:Int)≤n) (ha:0≤a∧a<n) (hid:0≤id∧id<n):
    Calls prog 68 #[bM a x,.int .i64 n,.int .i64 id,v] w fun e w'=>(∃u t,e= .returned (.tuple #[u,.int .i64 0])∧af t 5 w' w.heap.size u (dN n id a x l l.length).length (dY (dN n id a x l l.length)))∧Below w.heap.size w w':=by
  have hv:=h;have hl0:0<l.length:=by
    unfold eD at he;by_cases q:l.length=0
    · rw [yak q] at he;split at he
      · rename_i z;exact absurd he z
      · cases he
    · omega
  have hck:=fun w'=>P6 (n:=n) (x:=x) ⟨hn.1,by omega⟩ ha.1 w';simp only [yak ha.2] at hck;have h0:decide (id<0)=false:=yao (by omega);have h1:decide (n≤id)=false:=yao (by omega);have h2:decide (n<(l.length:Int))=false:=yao (by omega);have hb2:=((yab w.heap.size w).alloc (yaa _) (Obj.cells #[.int .i64 a,.bool x] 64)).alloc (by simp) (Obj.cells #[.int .i64 id] 3);have k4:=(Cl.new w #[.int .i64 a,.bool x] 64).alloc (Obj.cells #[.int .i64 id] 3);have k6:=Cl.new2 (w:=(w.alloc (Obj.cells #[.int .i64 a,.bool x] 64))) (b:=w.heap.size+1) (arr:= #[.int .i64 id]) (t:=3) (by simp);have hv2:bC A ((w.alloc (Obj.cells #[.int .i64 a,.bool x] 64)).alloc (Obj.cells #[.int .i64 id] 3)) v l:=h.below hb2;obtain ⟨sa,c,rfl,hok,hr⟩:=h;replace hok:aA (∀x∈l,x.ok):=⟨hok⟩;clear hr;replace hv:aA _:=⟨hv⟩;replace he:aA _:=⟨he⟩;unfold bM at hck ⊢;go_enter func68,ntmps68;go_wp2_with fail;generalize ((w.alloc (Obj.cells #[.int .i64 a,.bool x] 64)).alloc (Obj.cells #[.int .i64 id] 3))=w2 at*;have hbd:=(yab w2.heap.size w2).drew;have d4:=k4.below hbd k4.lt;have d6:=k6.below hbd k6.lt;have x0:=k4.cell 0 _ rfl;have x1:=k4.cell 1 _ rfl;have x6:=k6.cell 0 _ rfl;have z0:=d4.cell 0 _ rfl;have z1:=d4.cell 1 _ rfl;have z6:=d6.cell 0 _ rfl;go_region_held3 (fun w'=>w'.cell? ⟨w.heap.size,0,none⟩=some (.int .i64 a)∧w'.cell? ⟨w.heap.size,1,none⟩=some (.bool x)∧w'.cell? ⟨w.heap.size+1,0,none⟩=some (.int .i64 id)) (go_keep)
    ((first
      | (go_at_call 112;refine (zjp _ _ rfl).mono ?_;rintro en w3 ⟨rfl,hw3⟩;have hb3:Below w2.drew.heap.size w2.drew w3:=(by rw [hw3];exact (yab _ _).alloc (yaa _) _);have kB:Cl w3 w2.drew.heap.size [.slice sa l.length c]:=(by rw [hw3];exact Cl.new _ _ _);clear hw3;have p4:=d4.below hb3 d4.lt;have p6:=d6.below hb3 d6.lt;have y0:=p4.cell 0 _ rfl;have y1:=p4.cell 1 _ rfl;have y6:=p6.cell 0 _ rfl)
      | (go_at_call 109;refine (hck _).mono ?_;rintro en w4 ⟨rfl,hb4⟩;have sN:=kB.below hb4 kB.lt;have q4:=p4.below hb4 p4.lt;have q6:=p6.below hb4 p6.lt;have v0:=q4.cell 0 _ rfl;have v1:=q4.cell 1 _ rfl;have v6:=q6.cell 0 _ rfl)
      | (go_at_call 108;refine (Ij _ false).mono ?_;rintro en w5 ⟨rfl,Mq⟩;have hb5:Below w4.heap.size w4 w5:=(by rw [Mq];exact (yab _ _).alloc (yaa _) _);have kW:Cl w5 w4.heap.size [.bool false]:=(by rw [Mq];exact Cl.new _ _ _);clear Mq;have qO:=(yab w5.heap.size w5).alloc (yaa _) (Obj.cells #[(iR.mk true w2.drew.heap.size).val,(iR.mk false w4.heap.size).val] 57);have kF:=Cl.new w5 #[(iR.mk true w2.drew.heap.size).val,(iR.mk false w4.heap.size).val] 57;have Tp:=sN.below hb5 sN.lt;have kB6:=Tp.below qO Tp.lt;have kW6:=kW.below qO kW.lt;have r4:=q4.below hb5 q4.lt;have r6:=q6.below hb5 q6.lt;have s4:=r4.below qO r4.lt;have s6:=r6.below qO r6.lt;have u0:=r4.cell 0 _ rfl;have u1:=r4.cell 1 _ rfl;have u6:=r6.cell 0 _ rfl;have t0:=s4.cell 0 _ rfl;have t1:=s4.cell 1 _ rfl;have t6:=s6.cell 0 _ rfl;have hsz:w.heap.size≤w2.heap.size:=(by have:=k4.lt;omega);have Lr:Below w2.heap.size w2 (w5.alloc (Obj.cells #[(iR.mk true w2.drew.heap.size).val,(iR.mk false w4.heap.size).val] 57)):=(((hbd.trans hb3).trans (hb4.mono hb3.size)).trans (hb5.mono (yas hb3.size hb4.size))).trans (qO.mono (yas hb3.size (yas hb4.size hb5.size)));have hv6:=hv2.below Lr;have hfi:=zsd (R:=w5.heap.size) kB6 hv6 he.out kW6 (fun j y hy=>by rw [yaf];exact kF.cell j y hy) (by simp))
      | (go_at_call 107;refine hfi.mono ?_;rintro en w7 ⟨rfl,iW⟩;have m4:=s4.below iW s4.lt;have m6:=s6.below iW s6.lt;have n0:=m4.cell 0 _ rfl;have n1:=m4.cell 1 _ rfl;have n6:=m6.cell 0 _ rfl)))
  all_goals
    have RP:=Lr.trans (iW.mono Lr.size);have RV:=hb2.trans (RP.mono (by have:=k4.lt;omega));clear x0 x1 x6 z0 z1 z6 y0 y1 y6 v0 v1 v6 u0 u1 u6 t0 t1 t6 n0 n1 n6 hfi hck;obtain ⟨ip,gF,p1,p2,p3⟩:=yba zwR;obtain ⟨iq,hiq,g1,g2,g3⟩:=yba zul;have hz7:w.heap.size+1<w7.heap.size:=by have:=RP.size;have:=k6.lt;omega
    have hok2: ∀(k:Nat) (hk:k<l.length),l[k].ok:=fun k hk=>hok.out _ (yaA hk);have hn1:1≤n∧n≤32768:=⟨hn.1,by omega⟩;go_wp2_with fail;go_loopw [44] (fun y wr=> ∃(q:Nat) (v:Value),q≤l.length∧y= .int .i64 q∧Cl wr w.heap.size [.int .i64 (bf n a x q).1,.bool (bf n a x q).2]∧Cl wr (w.heap.size+1) [.int .i64 id]∧Cl wr w7.heap.size [v]∧af 64 2 wr (w7.heap.size+1) v q (oL (kQ n a x q))∧Below w.heap.size w wr) (fun y _=>l.length-(RowKit.intOf y).toNat)
    case atStart=>
      have jA:=(yab w7.heap.size w7).alloc (yaa _) (Obj.cells #[.slice none 0 0] 183);exact ⟨0,_,yar _,rfl,m4.below jA m4.lt,m6.below jA m6.lt,Cl.new w7 #[.slice none 0 0] 183,by simpa [kQ,oL] using af.nil 64 2 _ (w7.heap.size+1),RV.trans (jA.mono RV.size)⟩
    case round=>
      obtain ⟨q,cv,hq,rfl,c4,c6,c11,ho,hb⟩:=hrel;by_cases dx:q<l.length
      · have GL:(q:Int)<l.length:=by omega
        have hin:=BQ (n:=n) (a:=a) (x:=x) ha q;have hgo:=fun w'=>Qk (n:=n) (a:=(bf n a x q).1) (c:=1) (x:=(bf n a x q).2) hn1 hin ⟨by decide,hn.1⟩ w';have pQ:=zrn n a x q;obtain ⟨u,hu⟩: ∃u,u=bf n a x (q+1):=⟨_,rfl⟩;have Sl:dF n (bf n a x q).1 (bf n a x q).2 1=u:=hu.symm;rw [Sl] at hgo;replace hu:aA _:=⟨hu⟩;clear Sl;generalize (bf n a x q).1=pa at*;generalize (bf n a x q).2=px at*;unfold bM at hgo;have hol:=af.lt ho;have hrs:w7.heap.size<wr.heap.size:=c11.lt;have hbn:=(yab wr.heap.size wr).alloc (yaa _) (Obj.cells #[.int .i64 pa,.bool px] 64);have ho2:=af.kept ho (w':=wr.alloc (Obj.cells #[.int .i64 pa,.bool px] 64)) fun b e=>hbn.block b (hol b e).2;have kn:=Cl.new wr #[.int .i64 pa,.bool px] 64;have hnews: ∀j u,([.int .i64 pa,.bool px]:List Value)[j]? =some u→(wr.alloc (Obj.cells #[.int .i64 pa,.bool px] 64)).cell? ((⟨wr.heap.size,0,none⟩:Addr).add j)=some u:=fun j u hu=>by
          rw [Dw.addr_add];exact kn.cell (0+j) u (by rw [yaf];exact hu)
        have x40:=c4.cell 0 _ rfl;have x41:=c4.cell 1 _ rfl;have rE:=c11.cell 0 _ rfl;have ab4:=c4.lt;have ab5:=c6.lt;clear dx hin;go_wp2_with (first
          | (at_builtin;go_loud (refine ybk _ rfl _ _ 183 rfl (w7.heap.size+1) 64 ip _ 2 16 (by kernel_rfl) gF p1 p2 p3 rfl (by decide) cv q (oL (kQ n a x q)) rfl ho2 ⟨wr.heap.size,0,none⟩ 1 1 [.int .i64 pa,.bool px] rfl rfl hnews (by intro y hy;simp only [yaj,yaq,yaZ] at hy;rcases hy with rfl|rfl<;>rfl) (by unfold maxLen;omega) (by omega) (by simp;omega) ?_);intro v2 w9 h2 h3 h4 h5;obtain ⟨pX,zV,hvx,uF⟩:=af.row (show af 64 2 w9 (w7.heap.size+1) v2 (q+1) _ from h2);clear uF;subst hvx;have hgb: ∀b,b<(wr.alloc (Obj.cells #[.int .i64 pa,.bool px] 64)).heap.size→b≤w7.heap.size→w9.heap[b]? =(wr.alloc (Obj.cells #[.int .i64 pa,.bool px] 64)).heap[b]? :=fun b hb1 hb2=>h3.block b hb1 fun e=>by have:=(hol b e.symm).1;omega
             have e4:=(c4.below hbn c4.lt).kept (w':=w9) (hgb _ (c4.below hbn c4.lt).lt (by omega));have e6:=(c6.below hbn c6.lt).kept (w':=w9) (hgb _ (c6.below hbn c6.lt).lt (by omega));have e11:=(c11.below hbn c11.lt).kept (w':=w9) (hgb _ (c11.below hbn c11.lt).lt (yaa _));have y40:=e4.cell 0 _ rfl;have y41:=e4.cell 1 _ rfl;have y11:=e11.cell 0 _ rfl;have f11:=e11.free 0;have i11:=e11.set 0 (Value.slice pX (q+1) zV) (by simp);have uG:=zag (K:=(· =w7.heap.size)) (Dw.Mv.refl (· =w7.heap.size) w9) w7.heap.size 0 (Value.slice pX (q+1) zV) rfl;have i4:=e4.kept (uG.block _ e4.lt (by show¬w.heap.size=w7.heap.size;omega));have i6:=e6.kept (uG.block _ e6.lt (by show¬w.heap.size+1=w7.heap.size;omega));have z40:=i4.cell 0 _ rfl;have z41:=i4.cell 1 _ rfl;go_frame)
          | (go_at_call 113;refine (hgo _).mono ?_;rintro en oJ ⟨rfl,Ah⟩;have n4:=i4.below Ah i4.lt;have n6:=i6.below Ah i6.lt;have n11:=i11.below Ah i11.lt;have a40:=n4.cell 0 _ rfl;have a41:=n4.cell 1 _ rfl;have f40:=n4.free 0;have f41:=n4.free 1)
          | go_in)
        have o4:=(n4.set 0 (.int .i64 u.1) (by simp)).set 1 (.bool u.2) (by simp);have jS:=zag (zag (Dw.Mv.refl (· =w.heap.size) oJ) w.heap.size 0 (.int .i64 u.1) rfl) w.heap.size 1 (.bool u.2) rfl;have o6:=n6.kept (jS.block _ n6.lt (by show¬w.heap.size+1=w.heap.size;omega));have G5:=n11.kept (jS.block _ n11.lt (by show¬w7.heap.size=w.heap.size;omega));have hl2: ∀b,(Value.slice pX (q+1) zV).ownBlock=some b→w7.heap.size+1≤b∧b<w9.heap.size:=af.lt h2;have ho3:=af.kept (show af 64 2 w9 (w7.heap.size+1) (.slice pX (q+1) zV) (q+1) _ from h2) (w':=(oJ.setCell ⟨w.heap.size,0,none⟩ (.int .i64 u.1)).setCell ⟨w.heap.size,1,none⟩ (.bool u.2)) fun b e=>by
          have:=hl2 b e;exact (jS.block b (by have:=Ah.size;simp at this;omega) (by show¬b=w.heap.size;omega)).trans ((Ah.block b (by simp;omega)).trans (uG.block b this.2 (by show¬b=w7.heap.size;omega)))
        have hbg:Below w.heap.size w w9:=by
          have h9:=hb.trans (hbn.mono hb.size);exact ⟨h3.os.trans h9.os,h3.tape.trans h9.tape,h3.output.trans h9.output,yas h9.size h3.size,fun b hh=>(hgb b (yae hh h9.size) (by omega)).trans (h9.block b hh)⟩
        have oo:Dw.Mv (fun _=>False) w ((oJ.setCell ⟨w.heap.size,0,none⟩ (.int .i64 u.1)).setCell ⟨w.heap.size,1,none⟩ (.bool u.2)):=aD (aD ((aD (ah (K:=fun _=>False) hbg) w7.heap.size 0 (Value.slice pX (q+1) zV) (.inr (by omega))).trans (ah Ah)) w.heap.size 0 _ (.inr (yaa _))) w.heap.size 1 _ (.inr (yaa _));exact ⟨⟨q+1,.slice pX (q+1) zV,by omega,by push_cast;rfl,by rw [←hu.out];exact o4,o6,G5,by rw [pQ];exact ho3,mU oo⟩,by simp only [RowKit.intOf];omega⟩
      · have hqq:q=l.length:=by omega
        subst hqq;have hpl:=ztV n a x l.length;obtain ⟨sa1,c1,rfl,hrow⟩:=af.row ho;obtain ⟨G,rfl,iT,hG⟩:=hrow.resolve_left (by intro e;have:=yaB List.length e;rw [NN,hpl] at this;simp only [ybm] at this;omega);have mH:=(af.lt ho G iT).2;have hvr:=hv.out.below hb;have hch:=zp0 (c2:=c1) (G:=G) (id:=id) (ps:=kQ n a x l.length) hvr (by omega) ⟨hid.1,by omega⟩ hpl c6 (by rw [hpl];exact c11) hG;clear hrow;go_wp2_with (first
          | (go_at_call 114;refine hch.mono ?_;rintro en w9 ⟨⟨u,tu,rfl,hu⟩,dI⟩;obtain ⟨su,cu,rfl,Ti⟩:=af.row hu)
          | go_in)
        have hpk:aA (∀(k:Nat) (hk:k<l.length) (j:Nat),j<6→(vo id (kQ n a x l.length) l l.length)[k*6+j]? =(rP id (kQ n a x l.length) l k)[j]?):=⟨fun k hk j hj=>VT id _ l l.length k hk j hj⟩;obtain ⟨Gu,rfl,aas,Rv⟩:=Ti.resolve_left (by intro e;have:=hpk.out 0 hl0 0 (by decide);rw [e] at this;simp [rP] at this);have aar:=(af.lt hu Gu aas).2;have Gc:=aX hG (dI.block G mH);have CQ:G<w9.heap.size:=yae mH dI.size;have c119:=c11.below dI c11.lt;have RN:=hb.trans (dI.mono hb.size);have Tm:=RN.size;clear hch Ti hG;go_loopw [12,61] (fun cv y w'=> ∃(q:Nat) (t:TypeId),q≤l.length∧y= .int .i64 q∧af t 5 w' w9.heap.size cv q (dY (dN n id a x l q))∧Below w9.heap.size w9 w') (fun _ y _=>l.length-(RowKit.intOf y).toNat)
        case atStart=>exact ⟨0,139,yar _,rfl,by simpa [dN,dY] using af.nil 139 5 _ w9.heap.size,yab _ _⟩
        case round=>
          obtain ⟨q,ty,hq,rfl,hop,hbp⟩:=hrel;by_cases dx:q<l.length
          · have GL:(q:Int)<l.length:=by omega
            have hcell:rP id (kQ n a x l.length) l q= [.int .u64 l[q].bB,.int .u32 l[q].len,.int .u16 id,.int .u16 (fZ (nJ l[q].wr (decide (q+1<l.length))) (bf n a x q).2),.int .i64 id,.bool (bf n a x q).2]:=by
              unfold rP;rw [show l.getD q ⟨0,0,false⟩=l[q] from by simp [yaw,dx],show (kQ n a x l.length).getD q (0,false)=bf n a x q from by simp [kQ,yaw,dx]]
            have hgu:=fun j hj v (hv':(rP id (kQ n a x l.length) l q)[j]? =some v)=>(hbp.cell (p:=⟨Gu,0+(q*6+j),none⟩) aar).trans (Rv (q*6+j) v (by rw [hpk.out q dx j hj];exact hv'));have hpos:=(hbp.cell (p:=⟨G,0+(q*2),none⟩) CQ).trans (Gc (q*2) _ (Og (kQ n a x l.length) q (by rw [hpl];exact dx)).1);rw [show (kQ n a x l.length)[q]'(by rw [hpl];exact dx)=bf n a x q from by simp [kQ]] at hpos;have hpp:dY (dN n id a x l (q+1))=dY (dN n id a x l q)++ [.int .i64 (bf n a x q).1,.int .u64 l[q].bB,.int .u32 l[q].len,.int .u16 id,.int .u16 (fZ (nJ l[q].wr (decide (q+1<l.length))) (bf n a x q).2)]:=by
              rw [WK];unfold dY;rw [ycJ];simp only [ycc,List.flatMap_nil,List.append_nil];congr 1;unfold iJ Pt.cells nJ;rw [show l.getD q ⟨0,0,false⟩=l[q] from by simp [yaw,dx]];simp
            rw [hcell] at hgu;clear hcell;generalize l[q]'(dx)=s at hgu hpp;generalize fZ (nJ s.wr (decide (q+1<l.length))) (bf n a x q).2=fl at hgu hpp;generalize (bf n a x q).1=pa at hpos hpp;generalize (bf n a x q).2=px at hgu;have u0:=hgu 0 (by decide) _ rfl;have u1:=hgu 1 (by decide) _ rfl;have u2:=hgu 2 (by decide) _ rfl;have u3:=hgu 3 (by decide) _ rfl;have u4:=hgu 4 (by decide) _ rfl;have u5:=hgu 5 (by decide) _ rfl;simp only [yaf,yaF] at u0 u1 u2 u3 u4 u5 hpos;have hcz:=c119.below hbp c119.lt;have rE:=hcz.cell 0 _ rfl;have hol:=af.lt hop;have jA:=(yab wr.heap.size wr).alloc (yaa _) (Obj.cells #[.int .u64 s.bB,.int .u32 s.len,.int .u16 id,.int .u16 fl,.int .i64 id,.bool px] 187);have hbD:=jA.drew;have k14:=Cl.new wr #[.int .u64 s.bB,.int .u32 s.len,.int .u16 id,.int .u16 fl,.int .i64 id,.bool px] 187;have kd:=k14.kept (w':=(wr.alloc (Obj.cells #[.int .u64 s.bB,.int .u32 s.len,.int .u16 id,.int .u16 fl,.int .i64 id,.bool px] 187)).drew) rfl;have hdz:=hcz.below hbD hcz.lt;have Ld:G<wr.heap.size:=yae CQ hbp.size;have aaX:=(hbD.cell (p:=⟨G,q*2,none⟩) Ld).trans hpos;have acd:=(jA.cell (p:=⟨G,q*2,none⟩) Ld).trans hpos;have aaE:=hcz.below jA hcz.lt;have a0:=k14.cell 0 _ rfl;have a1:=k14.cell 1 _ rfl;have a2:=k14.cell 2 _ rfl;have a3:=k14.cell 3 _ rfl;have a11:=aaE.cell 0 _ rfl;have d0:=kd.cell 0 _ rfl;have d1:=kd.cell 1 _ rfl;have d2:=kd.cell 2 _ rfl;have d3:=kd.cell 3 _ rfl;have d11:=hdz.cell 0 _ rfl;have Dp:=af.kept hop (w':=(wr.alloc (Obj.cells #[.int .u64 s.bB,.int .u32 s.len,.int .u16 id,.int .u16 fl,.int .i64 id,.bool px] 187)).drew) fun b e=>hbD.block b (hol b e).2;have Al:=(yab (wr.alloc (Obj.cells #[.int .u64 s.bB,.int .u32 s.len,.int .u16 id,.int .u16 fl,.int .i64 id,.bool px] 187)).drew.heap.size (wr.alloc (Obj.cells #[.int .u64 s.bB,.int .u32 s.len,.int .u16 id,.int .u16 fl,.int .i64 id,.bool px] 187)).drew).alloc (yaa _) (Obj.cells #[.int .i64 pa,.int .u64 s.bB,.int .u32 s.len,.int .u16 id,.int .u16 fl] 139);have L9:=af.kept Dp (w':=(wr.alloc (Obj.cells #[.int .u64 s.bB,.int .u32 s.len,.int .u16 id,.int .u16 fl,.int .i64 id,.bool px] 187)).drew.alloc (Obj.cells #[.int .i64 pa,.int .u64 s.bB,.int .u32 s.len,.int .u16 id,.int .u16 fl] 139)) fun b e=>Al.block b (af.lt Dp b e).2;have Mw:=Cl.new2 (w:=(wr.alloc (Obj.cells #[.int .u64 s.bB,.int .u32 s.len,.int .u16 id,.int .u16 fl,.int .i64 id,.bool px] 187)).drew) (b:=wr.heap.size+1) (arr:= #[.int .i64 pa,.int .u64 s.bB,.int .u32 s.len,.int .u16 id,.int .u16 fl]) (t:=139) (by simp);have AJ:=kd.below Al kd.lt;have sD:=hdz.below Al hdz.lt;have aaW:=(Al.cell (p:=⟨G,q*2,none⟩) (yae Ld hbD.size)).trans aaX;have f0:=AJ.cell 0 _ rfl;have f1:=AJ.cell 1 _ rfl;have f2:=AJ.cell 2 _ rfl;have f3:=AJ.cell 3 _ rfl;have f11:=sD.cell 0 _ rfl;have hbase:w9.heap.size≤((wr.alloc (Obj.cells #[.int .u64 s.bB,.int .u32 s.len,.int .u16 id,.int .u16 fl,.int .i64 id,.bool px] 187)).drew.alloc (Obj.cells #[.int .i64 pa,.int .u64 s.bB,.int .u32 s.len,.int .u16 id,.int .u16 fl] 139)).heap.size:=yas hbp.size (yas hbD.size Al.size);obtain ⟨sp,cp,rfl,_⟩:=af.row hop;clear hgu hpk Rv dx;go_wp2_with fail;go_region_held3 (fun w'=>w'.cell? ⟨w7.heap.size,0,none⟩=some (.slice (some ⟨G,0,none⟩) l.length c1)∧w'.cell? ⟨G,q*2,none⟩=some (.int .i64 pa)∧w'.cell? ⟨wr.heap.size,0,none⟩=some (.int .u64 s.bB)∧w'.cell? ⟨wr.heap.size,1,none⟩=some (.int .u32 s.len)∧w'.cell? ⟨wr.heap.size,2,none⟩=some (.int .u16 id)∧w'.cell? ⟨wr.heap.size,3,none⟩=some (.int .u16 fl)) (go_keep)
              ((first
                | (refine nR (P0:=prog) (by rfl) _ _ _ (by rfl) w9.heap.size 139 ty iq _ 5 24 (by kernel_rfl) hiq g1 g2 g3 rfl (by decide) (.slice sp q cp) q (dY (dN n id a x l q)) (by rfl) L9 (some ⟨wr.heap.size+1,0,none⟩) ⟨wr.heap.size+1,0,none⟩ rfl 1 1 [.int .i64 pa,.int .u64 s.bB,.int .u32 s.len,.int .u16 id,.int .u16 fl] (by rfl) rfl
                     (fun j u hu=>by rw [Dw.addr_add];exact Mw.cell (0+j) u (by rw [yaf];exact hu)) (fun u hu=>by simp only [yaj,yaq,yaZ] at hu;rcases hu with rfl|rfl|rfl|rfl|rfl<;>rfl) (by unfold maxLen;omega) (by omega) hbase ?_
                   intro v6 w6 t6 hown6 mJ aav;have GX:=AJ.kept (w':=w6) (mJ.block _ AJ.lt (fun e=>by have:=(hol _ e.symm).2;omega));have hc6:=sD.kept (w':=w6) (mJ.block _ sD.lt (fun e=>by have:=(hol _ e.symm).1;have:=c119.lt;omega));have ab9:=(yal (a:=⟨G,q*2,none⟩) (mJ.block G (yae CQ hbase) (fun e=>by have:=(hol _ e.symm).1;omega))).trans aaW;have r0:=GX.cell 0 _ rfl;have r1:=GX.cell 1 _ rfl;have r2:=GX.cell 2 _ rfl;have r3:=GX.cell 3 _ rfl;have r11:=hc6.cell 0 _ rfl)))
            all_goals
              go_wp2_with fail;refine ⟨⟨q+1,t6,by omega,by push_cast;rfl,by rw [hpp];exact hown6,?_⟩,by simp only [RowKit.intOf];omega⟩;have hbw:=(hbp.trans (hbD.mono hbp.size)).trans (Al.mono (yas hbp.size hbD.size));exact ⟨mJ.os.trans hbw.os,mJ.tape.trans hbw.tape,mJ.output.trans hbw.output,yas hbw.size mJ.size,fun b hh=>(mJ.block b (yae hh hbw.size) (fun e=>by have:=(hol b e.symm).1;omega)).trans (hbw.block b hh)⟩
          · have hqq:q=l.length:=by omega
            subst hqq;go_wp2;go_ret2;exact ⟨⟨_,ty,rfl,by rw [BI];exact af.mono hop Tm⟩,RN.trans (hbp.mono Tm)⟩
open Go.Shelf
def Tryz.iw (L:List DO) (q:Nat):List Int:=(List.range q).filterMap fun (k:Nat)=>(fA L (k:Int)).map (·.tk)
theorem Tryz.zqf (L:List DO) (q:Nat):iw L (q+1)=iw L q++(match fA L (q:Int) with|none=> []|some e=> [e.tk]):=by
 unfold iw;rw [ycF,List.filterMap_append];cases h:fA L (q:Int)<;>simp [h]
theorem Tryz.zsh {L:List DO} (hnd:(L.map (·.id)).Nodup) {e:DO} (he:e∈L):fA L e.id=some e:=by
 induction L with
 | nil=>cases he
 | cons x r ih=>
  rw [yaU,ycG] at hnd;unfold fA at ih ⊢;rcases yaj.1 he with h|h
  ·rw [List.find?_cons_of_pos (by simp [h]),h]
  ·have hne:x.id≠e.id:=fun q=>hnd.1 (q▸yaY.2 ⟨e,h,rfl⟩);rw [List.find?_cons_of_neg (by simpa using hne)];exact ih hnd.2 h
theorem Tryz.zqg {L:List DO} {n:Nat} (hnd:(L.map (·.id)).Nodup) (hin: ∀e∈L,0≤e.id∧e.id<n):(iw L n).Perm (L.map (·.tk)):=by
 have h1:iw L n=((List.range n).filterMap fun (k:Nat)=>fA L (k:Int)).map (·.tk):=by
  unfold iw;rw [List.map_filterMap]
 rw [h1];refine List.Perm.map _ ((List.perm_ext_iff_of_nodup ?_ ?_).2 fun e=> ?_)
 ·refine List.Pairwise.filterMap (R:=fun a b=>a≠b) _ (fun a b hab x hx y hy hxy=> ?_) List.nodup_range;have q1:=(yZ hx).2;have q2:=(yZ hy).2;rw [hxy] at q1;omega
 ·exact (ydp.1 hnd).imp fun h e=>h (yaB (·.id) e)
 ·rw [List.mem_filterMap];constructor
  ·rintro ⟨k,_,hk⟩;exact (yZ hk).1
  ·intro he;have hi:=hin e he;refine ⟨e.id.toNat,List.mem_range.2 (by omega),?_⟩;rw [show ((e.id.toNat:Nat):Int)=e.id by omega];exact zsh hnd he
theorem Tryz.zwz {s:DS} {n:Nat} (hnd:(s.L.map (·.id)).Nodup) (hin: ∀e∈s.L,0≤e.id∧e.id<n):(iw s.L n).mergeSort leI=s.outs:=mergeSort_of_perm_i (zqg hnd hin)
section
variable {fns gW:List Nat} {nw ji:Prop} {A A':Nat→Prop} {w w':World} {S P L Bs B I N:Nat} {r:Tryz.Rg} {s s':Tryz.DS} {g g':Nat→Int}
set_option maxRecDepth 100000 in
theorem Tryz.JE (h:DW A w S P L Bs B I N r s g):Calls prog 30 #[.pointer (some ⟨S,0,none⟩)] w fun e w'=> ∃v,e= .returned v∧af 3 1 w' w.heap.size v s.outs.length (bA s.outs)∧Below w.heap.size w w':=by
  have hm:=EI h.f;have hbn:=h.f.rg.bnd;obtain ⟨aT,aU,au,aj,h1,_⟩:=h.f.obj;have c15:=h1.cell 15 _ rfl;obtain ⟨vs,i1,i2,i3⟩:=h.f.ids;obtain ⟨n,hn,hn16⟩: ∃n:Nat,r.n.toNat=n∧n≤16:=⟨r.n.toNat,rfl,by omega⟩;have hout:aA ((iw s.L n).mergeSort leI=s.outs):=⟨zwz h.pb.nd fun e he=>by have:=(h.pb.el e he).1;omega⟩;have hol:s.outs.length=(iw s.L n).length:=by rw [←hout.out,ycu]
  have htl: ∀q,(iw s.L q).length≤q:=fun q=>by
    unfold iw;exact yas (List.length_filterMap_le _ _) (by simp)
  rw [hn] at c15 i2;replace i3:aA _:=⟨i3⟩;obtain ⟨i0,hi0,j1,j2,j3⟩:=yba QT;have hone: ∀l:List Int,∀u∈bA l,u.oneCell'=true:=fun l u hu=>by
    obtain ⟨x,_,rfl⟩:=yaY.1 hu;rfl
  replace hone:aA _:=⟨hone⟩;clear hbn hn;go_enter func30,ntmps30;go_wp2_with (first
    | (go_at_call 89;refine hm.mono ?_;rintro e w' ⟨rfl,hw⟩;have hw:=hw.symm;subst hw)
    | go_in)
  go_loopw [2,13] (fun c y wr=> ∃(q:Nat) (cv:Value),cv=c∧q≤n∧y= .int .i64 q∧af 3 1 wr w.heap.size cv (iw s.L q).length (bA (iw s.L q))∧Below w.heap.size w wr) (fun _ y _=>n-(RowKit.intOf y).toNat)
  case atStart=>exact ⟨0,_,rfl,yar _,rfl,by simpa [iw,bA] using af.nil 3 1 _ w.heap.size,yab _ _⟩
  case round=>
    obtain ⟨q,cv,hcv,hq,rfl,ho,hb⟩:=hrel;subst hcv;by_cases dx:q<n
    · have GL:(q:Int)<n:=by omega
      have Mf:q<vs.length:=by omega
      have pQ:=zqf s.L q;have hql:=htl q;have c0:=(hb.cell (p:=⟨I,q,none⟩) i1.lt).trans (i1.cell q _ (yai Mf));cases hg:fA s.L (q:Int) with
      | none=>
        have hv:=(i3.out q Mf).1 (by rw [←tC,hg];rfl);rw [hv] at c0;rw [hg] at pQ;simp only [List.append_nil] at pQ;replace pQ:aA _:=⟨pQ⟩;clear hv hg;go_wp2;exact ⟨⟨q+1,_,rfl,by omega,by push_cast;rfl,by rw [pQ.out];exact ho,hb⟩,by simp only [RowKit.intOf];omega⟩
      | some e=>
        obtain ⟨O,hO,pJ,hOr⟩:=(i3.out q Mf).2 e hg;rw [hO] at c0;rw [hg] at pQ;simp only at pQ;have Ae:=fJ hOr (by simp [DO.cells]);have t1:=(aX hOr (hb.block O Ae)) 1 _ rfl;rw [yaf] at t1;have hol:=af.lt ho;have hbn:=(yab wr.heap.size wr).alloc (yaa _) (Obj.cells #[.int .i64 e.tk] 3);have ho2:=af.kept ho (w':=wr.alloc (Obj.cells #[.int .i64 e.tk] 3)) fun b q=>hbn.block b (hol b q).2;have kn:=Cl.new wr #[.int .i64 e.tk] 3;have hnews: ∀j u,([.int .i64 e.tk]:List Value)[j]? =some u→(wr.alloc (Obj.cells #[.int .i64 e.tk] 3)).cell? ((⟨wr.heap.size,0,none⟩:Addr).add j)=some u:=fun j u hu=>by
          rw [Dw.addr_add];exact kn.cell (0+j) u (by rw [yaf];exact hu)
        have hbs:=hb.size;replace pQ:aA _:=⟨pQ⟩;clear hg hO dx;go_wp2_with (first
          | (at_builtin;go_loud (refine ybk _ rfl _ _ 82 rfl w.heap.size 3 i0 _ 1 8 (by kernel_rfl) hi0 j1 j2 j3 rfl (by decide) cv (iw s.L q).length (bA (iw s.L q)) rfl ho2 ⟨wr.heap.size,0,none⟩ 1 1 [.int .i64 e.tk] rfl rfl hnews (by intro y hy;simp only [yaj,yaq,yaZ] at hy;subst hy;rfl) (by unfold maxLen;omega) (by omega) (by simp;omega) ?_);intro v2 w9 h2 h3 h4 h5;go_frame)
          | go_in)
        refine ⟨⟨q+1,_,rfl,by omega,by push_cast;rfl,?_,?_⟩,by simp only [RowKit.intOf];omega⟩
        · rw [pQ.out,yaC,show bA (iw s.L q++ [e.tk])=bA (iw s.L q)++ [.int .i64 e.tk] from ybA];exact h2
        · have hbw:=hb.trans (hbn.mono hbs);exact ⟨h3.os.trans hbw.os,h3.tape.trans hbw.tape,h3.output.trans hbw.output,yas hbw.size h3.size,fun b hh=>(h3.block b (yae hh hbw.size) (fun e=>by have:=(hol b e.symm).1;omega)).trans (hbw.block b hh)⟩
    · have hqq:q=n:=by omega
      subst hqq;have GL: ¬(q:Int)<q:=by omega
      have hrow:=ho;obtain ⟨hc0,hrow2⟩:=hrow;rcases hrow2 with ⟨hv0,hl0⟩|⟨G,cap,cur,rfl,hbase,hbk,h1',h2',h3',h4'⟩
      · subst hv0;have hts:iw s.L q= []:=ybG.1 hl0;have hc:=AnyM.slices_Sort_int_none zxy none 0 wr;have hc:Calls prog 90 #[.slice none 0 0] wr _:=hc;replace hol:aA _:=⟨hol⟩;replace hts:aA _:=⟨hts⟩;clear ho hc0 hl0;go_wp2_with (first
          | (go_at_call 90;refine hc.mono ?_;rintro e w' ⟨rfl,hw⟩;have hw:=hw.symm;subst hw)
          | go_in)
        go_ret;rw [hol.out,←hout.out,hts.out];exact ⟨_,rfl,by simpa [bA] using af.nil 3 1 _ w.heap.size,hb⟩
      · have hH:Holds (Value.int .i64) wr G 0 (iw s.L q).toArray:=holds_of_blockI hbk (by simpa [bA] using h4');have hgl:G<wr.heap.size:=(yax.1 hbk).1;have hql:=htl q;have hc:=AnyM.slices_Sort_int zxy G 0 cap (iw s.L q) wr hH hgl (by omega);have hc:Calls prog 90 #[.slice (some ⟨G,0,none⟩) (iw s.L q).length cap] wr _:=hc;replace hol:aA _:=⟨hol⟩;go_wp2_with (first
          | (go_at_call 90;refine hc.mono ?_;rintro e w' ⟨rfl,nn,os,rfl⟩)
          | go_in)
        go_ret;rw [hol.out,←hout.out];refine ⟨_,rfl,?_,hb.grown (grownBy_sortedI _) hb.size (fun j hj=>by cases hj;exact hbase)⟩;have:=ownsRow_sortedI (w:=wr) (n:=nn) (os:=os) (ts:=(iw s.L q).mergeSort fun x y=>decide (x≤y)) (ss:=iw s.L q) (e:=3) (by simp) hbase hbk h1' h2' h3';exact this
end
end Go.Proofs
namespace Go.Proofs
open Go.Dw Go.RowKit Go.Maps Go.Sort Go.Deep
set_option maxRecDepth 100000 in
theorem Tryz.zqF {A:Nat→Prop} {w:World} {S P L Bs B N b2:Nat} {r:Rg} {s:DS} {g:Nat→Int} {lv:Value} (h:YW A w S P L Bs B N b2 r s g lv) (hb:s.br=false) (hp:s.ph=2) (hpb:DB r (s.goto 3)):
  Calls prog 26 #[.pointer (some ⟨S,0,none⟩)] w fun e w'=>e= .returned (.tuple #[.agg #[.int .i64 4,.int .i64 0,.int .i64 0],.int .i64 0])∧YW A w' S P L Bs B N b2 r (s.goto 3) g lv∧Dw.Mv (fun b=>b=S∨b=B) w w':=by
 obtain ⟨au,aj,q1,q2,q3⟩:=h.obj;have hlt:=h.oH;have hdn:s.dn=false:=h.pb.dn (.inl (by omega));have hbx:=(yab w.heap.size w).alloc (yaa _) (Obj.cells #[.int .i64 0,.int .i64 0,.int .i64 0] 54);have k2:=Cl.new w #[.int .i64 0,.int .i64 0,.int .i64 0] 54;have oX:=q1.below hbx q1.lt;have c16:=oX.cell 16 _ rfl;have c23:=oX.cell 23 _ rfl;have f16:=oX.free 16;rw [hp] at c16;rw [hb] at c23;have hm2:Dw.Mv (fun b=>b=S∨b=B) w ((w.alloc (Obj.cells #[.int .i64 0,.int .i64 0,.int .i64 0] 54)).setCell ⟨S,16,none⟩ (.int .i64 3)):=aD (ah hbx) S 16 _ (.inl (.inl rfl));have bD:Dw.Mv (· =S) (w.alloc (Obj.cells #[.int .i64 0,.int .i64 0,.int .i64 0] 54)) ((w.alloc (Obj.cells #[.int .i64 0,.int .i64 0,.int .i64 0] 54)).setCell ⟨S,16,none⟩ (.int .i64 3)):=zag (K:=(· =S)) (ah (yab _ _)) S 16 _ rfl;have o2:=oX.set 16 (.int .i64 3) (by simp [DS.aM]);have hr2:=(h.rm.below hbx).jW bD h.sd;have kk:=k2.kept (bD.block _ k2.lt (by show¬w.heap.size=S;omega));have u16:=o2.cell 16 _ rfl;have b0:=kk.cell 0 _ rfl;have b1:=kk.cell 1 _ rfl;have b2':=kk.cell 2 _ rfl;have g0:=kk.free 0;have g1:=kk.free 1;have g2:=kk.free 2;obtain ⟨cO,gu,fF,fV⟩:=oU hm2 kk o2 hr2 hlt (.int .i64 4) (.int .i64 0) (.int .i64 0);have hrow:(s.aM r P lv au aj).set 16 (.int .i64 3)=(s.goto 3).aM r P lv au aj:=by
  unfold DS.aM;rw [hdn];rfl
 rw [hrow] at fF;have hY:=h.fin cO fV fF q2 q3 rfl rfl rfl hpb;clear hlt hdn hbx hrow;go_enter func26,ntmps26;go_wp2_with fail;refine yap (bU rfl _ _ w.heap.size [.int .i64 4,.int .i64 0,.int .i64 0] _ rfl (fun j y hy=>by rw [yaf];exact gu.cell j y hy) underlying54 rfl (by kernel_rfl)) rfl ?_;exact ⟨rfl,hY,cO⟩
set_option maxRecDepth 100000 in
theorem Tryz.zqD {A:Nat→Prop} {w:World} {S P L Bs B N b2:Nat} {r:Rg} {s:DS} {g:Nat→Int} {lv:Value} (h:YW A w S P L Bs B N b2 r s g lv) (hb:s.br=false) (hp:s.ph=4) (hpb:DB r (s.goto 5)):
  Calls prog 26 #[.pointer (some ⟨S,0,none⟩)] w fun e w'=>e= .returned (.tuple #[.agg #[.int .i64 4,.int .i64 0,.int .i64 0],.int .i64 0])∧YW A w' S P L Bs B N b2 r (s.goto 5) g lv∧Dw.Mv (fun b=>b=S∨b=B) w w':=by
 obtain ⟨au,aj,q1,q2,q3⟩:=h.obj;have hlt:=h.oH;have hdn:s.dn=false:=h.pb.dn (.inl (by omega));have hbx:=(yab w.heap.size w).alloc (yaa _) (Obj.cells #[.int .i64 0,.int .i64 0,.int .i64 0] 54);have k2:=Cl.new w #[.int .i64 0,.int .i64 0,.int .i64 0] 54;have oX:=q1.below hbx q1.lt;have c16:=oX.cell 16 _ rfl;have c23:=oX.cell 23 _ rfl;have f16:=oX.free 16;rw [hp] at c16;rw [hb] at c23;have hm2:Dw.Mv (fun b=>b=S∨b=B) w ((w.alloc (Obj.cells #[.int .i64 0,.int .i64 0,.int .i64 0] 54)).setCell ⟨S,16,none⟩ (.int .i64 5)):=aD (ah hbx) S 16 _ (.inl (.inl rfl));have bD:Dw.Mv (· =S) (w.alloc (Obj.cells #[.int .i64 0,.int .i64 0,.int .i64 0] 54)) ((w.alloc (Obj.cells #[.int .i64 0,.int .i64 0,.int .i64 0] 54)).setCell ⟨S,16,none⟩ (.int .i64 5)):=zag (K:=(· =S)) (ah (yab _ _)) S 16 _ rfl;have o2:=oX.set 16 (.int .i64 5) (by simp [DS.aM]);have hr2:=(h.rm.below hbx).jW bD h.sd;have kk:=k2.kept (bD.block _ k2.lt (by show¬w.heap.size=S;omega));have u16:=o2.cell 16 _ rfl;have b0:=kk.cell 0 _ rfl;have b1:=kk.cell 1 _ rfl;have b2':=kk.cell 2 _ rfl;have g0:=kk.free 0;have g1:=kk.free 1;have g2:=kk.free 2;obtain ⟨cO,gu,fF,fV⟩:=oU hm2 kk o2 hr2 hlt (.int .i64 4) (.int .i64 0) (.int .i64 0);have hrow:(s.aM r P lv au aj).set 16 (.int .i64 5)=(s.goto 5).aM r P lv au aj:=by
  unfold DS.aM;rw [hdn];rfl
 rw [hrow] at fF;have hY:=h.fin cO fV fF q2 q3 rfl rfl rfl hpb;clear hlt hdn hbx hrow;go_enter func26,ntmps26;go_wp2_with fail;refine yap (bU rfl _ _ w.heap.size [.int .i64 4,.int .i64 0,.int .i64 0] _ rfl (fun j y hy=>by rw [yaf];exact gu.cell j y hy) underlying54 rfl (by kernel_rfl)) rfl ?_;exact ⟨rfl,hY,cO⟩
set_option maxRecDepth 100000 in
theorem Tryz.zqE {A:Nat→Prop} {w:World} {S P L Bs B N b2:Nat} {r:Rg} {s:DS} {g:Nat→Int} {lv:Value} (h:YW A w S P L Bs B N b2 r s g lv) (hb:s.br=false) (hp:s.ph=3) (hpb:DB r (s.goto 4)):
    Calls prog 26 #[.pointer (some ⟨S,0,none⟩)] w fun e w'=>e= .returned (.tuple #[.agg #[.int .i64 3,.int .i64 1,.int .i64 s.l9.aG],.int .i64 0])∧YW A w' S P L Bs B N b2 r (s.goto 4) (iK g (4096+16*s.l9.aG+14).toNat 2 s.l9.nx) lv∧Dw.Mv (fun b=>b=S∨b=B) w w':=by
  obtain ⟨au,aj,q1,q2,q3⟩:=h.obj;have hlt:=h.oH;have hbn:=h.rg.bnd;have hd:=h.rg.d;have hN:=h.hN;have hF:=h.fit;have hdn:s.dn=false:=h.pb.dn (.inl (by omega));have hpl:=(h.pb.pu (by omega) (by omega)).1;obtain ⟨p,hpp⟩: ∃p,p=s.l9:=⟨_,rfl⟩;have Me:s.pu[0]'(hpl)=p:=by rw [hpp];exact OW s.pu hpl _
  obtain ⟨hok,hat⟩:=h.pb.ps p (by rw [←Me];exact yaA hpl);rw [←hpp];have hnx:=hok.nx;have hq3:=q3;obtain ⟨sa,cp,rfl,hr⟩:=q3;obtain ⟨R,o,rfl,je,hR⟩:=hr.resolve_left (by intro e;rw [e] at hpl;exact absurd hpl (by decide));have hR0:=BH hR 0 hpl;rw [Me,ydt,yaF] at hR0;have hRl:R<w.heap.size:=fJ hR0 (by simp [Pt.cells]);have hRS:R≠S:=fun e=>je (.inl (e▸h.aS));have qJ:R≠B:=fun e=>je (.inl (e▸h.aB));have hbx:=(yab w.heap.size w).alloc (yaa _) (Obj.cells #[.int .i64 0,.int .i64 0,.int .i64 0] 54);have k2:=Cl.new w #[.int .i64 0,.int .i64 0,.int .i64 0] 54;have oX:=q1.below hbx q1.lt;have c16:=oX.cell 16 _ rfl;have c23:=oX.cell 23 _ rfl;have f16:=oX.free 16;rw [hp] at c16;rw [hb] at c23;have hm2:Dw.Mv (fun b=>b=S∨b=B) w ((w.alloc (Obj.cells #[.int .i64 0,.int .i64 0,.int .i64 0] 54)).setCell ⟨S,16,none⟩ (.int .i64 4)):=aD (ah hbx) S 16 _ (.inl (.inl rfl));have bD:Dw.Mv (· =S) (w.alloc (Obj.cells #[.int .i64 0,.int .i64 0,.int .i64 0] 54)) ((w.alloc (Obj.cells #[.int .i64 0,.int .i64 0,.int .i64 0] 54)).setCell ⟨S,16,none⟩ (.int .i64 4)):=zag (K:=(· =S)) (ah (yab _ _)) S 16 _ rfl;have hrow:(s.aM r P lv au (.slice (some ⟨R,o,none⟩) s.pu.length cp)).set 16 (.int .i64 4)=(s.goto 4).aM r P lv au (.slice (some ⟨R,o,none⟩) s.pu.length cp):=by
    unfold DS.aM;rw [hdn];rfl
  have o2:=oX.set 16 (.int .i64 4) (by simp [DS.aM]);rw [hrow] at o2;have hr2:=(h.rm.below hbx).jW bD h.sd;have kk:=k2.kept (bD.block _ k2.lt (by show¬w.heap.size=S;omega));have n2:=aX hR0 (hm2.block R hRl (by rintro (e|e)<;>contradiction));have u16:=o2.cell 16 (.int .i64 4) rfl;obtain ⟨a,ha,ha2⟩: ∃a:Nat,(a:Int)=r.d+16*p.aG+14∧a+2≤N:=⟨(r.d+16*p.aG+14).toNat,by omega,by omega⟩;have e3:IntKind.wrap .u64 (r.d+16*p.aG+14)=(a:Int):=by rw [wrap_u64 _ (by omega) (by omega)];omega
  have ea:(4096+16*p.aG+14).toNat=a:=by omega
  have e4:IntKind.wrap .u64 p.nx=p.nx:=wrap_u64 _ (by omega) (by omega);rw [ea];have mM:=fun (w':World) (q:w'.cell? ⟨S,3,none⟩=some (.int .u64 r.d))=>wV q ⟨by omega,by omega⟩ ⟨hat.1,by omega⟩;have hst:=fun (w':World) (q:aV w' P L Bs B N g)=>uS P L Bs B N a 2 p.nx g _ q h.hN (by decide) ha2;have hp0:(0:Int)<s.pu.length:=by omega
  have hp1: ¬s.pu= []:=fun e=>by rw [e] at hp0;exact absurd hp0 (by decide)
  have hp2:0<s.pu.length:=by omega
  have mI:w.heap.size≠B:=by omega
  have qK:=h.sd.2.2.2;clear bD hok hat hbn hd hN hF ha ha2 ea hnx hbx hR hR0 Me hpl hpp hp hb hdn oX hrow k2;replace hlt:aA _:=⟨hlt⟩;go_enter func26,ntmps26;go_wp2_with fail;clear c16 c23 f16;generalize ((w.alloc (Obj.cells #[.int .i64 0,.int .i64 0,.int .i64 0] 54)).setCell ⟨S,16,none⟩ (.int .i64 4))=w2 at*;have hbd:=(yab w2.heap.size w2).drew;have od:=o2.below hbd o2.lt;have kd:=kk.below hbd kk.lt;have rd:=hr2.below hbd;have nd:=aX (w':=w2.drew) n2 rfl;have d3:=od.cell 3 _ rfl;have y0:=o2.cell 0 _ rfl;have y28:=o2.cell 28 _ rfl;have r0:=n2 0 _ rfl;have r4:=n2 4 _ rfl;rw [yaF] at r0;have z0:=od.cell 0 _ rfl;have z28:=od.cell 28 _ rfl;have s0:=nd 0 _ rfl;have s4:=nd 4 _ rfl;rw [yaF] at s0;have CU:R<w2.drew.heap.size:=fJ nd (by simp [Pt.cells]);go_region_held3 (fun w'=>w'.cell? ⟨S,0,none⟩=some (.pointer (some ⟨P,0,none⟩))∧w'.cell? ⟨S,28,none⟩=some (.slice (some ⟨R,o,none⟩) s.pu.length cp)∧w'.cell? ⟨R,o,none⟩=some (.int .i64 p.aG)∧w'.cell? ⟨R,o+4,none⟩=some (.int .u16 p.nx)) (go_keep)
    ((first
      | (go_at_call 60;refine (mM _ d3).mono ?_;rintro en w3 ⟨rfl,hw3⟩;have hw3:=hw3.symm;subst hw3)
      | (go_at_call 19;refine (hst _ rd).mono ?_;rintro en w5 ⟨rfl,hg5,aH⟩;have p5:=od.kept (aH.block S od.lt qK);have k5:=kd.kept (aH.block _ kd.lt mI);have n5:=aX nd (aH.block _ CU qJ);have x0:=p5.cell 0 _ rfl;have x28:=p5.cell 28 _ rfl;have x1:=n5 0 _ rfl;have x4:=n5 4 _ rfl;rw [yaF] at x1)))
  all_goals
    have hmv:Dw.Mv (fun b=>b=S∨b=B) w w5:=(hm2.trans (ah hbd)).trans ((ku aH).mono fun b q=> .inr q);obtain ⟨cO,gu,fF,fV⟩:=oU hmv k5 p5 hg5 hlt.out (.int .i64 3) (.int .i64 1) (.int .i64 p.aG);have b0:=k5.cell 0 _ rfl;have b1:=k5.cell 1 _ rfl;have b2':=k5.cell 2 _ rfl;have g0:=k5.free 0;have g1:=k5.free 1;have g2:=k5.free 2;go_wp2_with fail;refine yap (bU rfl _ _ w.heap.size [.int .i64 3,.int .i64 1,.int .i64 p.aG] _ rfl (fun j y hy=>by rw [yaf];exact gu.cell j y hy) underlying54 rfl (by kernel_rfl)) rfl ?_;exact ⟨rfl,h.fin cO fV fF q2 hq3 rfl rfl rfl hpb,cO⟩
set_option maxRecDepth 100000 in
theorem Tryz.zv9 {n us ct f:Int} {uw:Bool} (hn:1≤n∧n≤32768) (hu:0≤us∧us<n) (hc:0≤ct∧ct≤n) (hf:0≤f∧f<4294967296) (w:World):
    Calls prog 87 #[.int .u64 f,bM us uw,.int .i64 ct,.int .i64 n] w fun e w'=>e= .returned (.bool (qo n us uw ct f false))∧Below w.heap.size w w':=by
  have h1:=fun w'=>ztg hf w';have h2:=fun w'=>ztj (f:=f%65536) (n:=n) (by omega) hn w';have h3:=fun (q:f%32768<n) w'=>zqO (n:=n) (a:=f%32768) (b:=us) (c:=ct) (x:=decide (f/32768%2=1)) (y:=uw) hn ⟨by omega,q⟩ hu hc w';have e1:f%65536%32768=f%32768:=by omega
  have e2:f%65536/32768%2=f/32768%2:=by omega
  rw [e1,e2] at h2;clear e1 e2;have t1:(f/65536).tmod 4=f/65536%4:=ybK (by omega);have hb0:=(yab w.heap.size w).alloc (yaa _) (Obj.cells #[.int .i64 us,.bool uw] 64);unfold qo;by_cases k0:f/65536%4=0
  · rw [yak k0];go_enter func87,ntmps87;unfold bM;go_wp2_with (first
      | (go_at_call 135;refine (h1 _).mono ?_;rintro en w1 ⟨rfl,hb1⟩)
      | go_in)
    go_ret;exact ⟨rfl,(hb0.trans (hb1.mono (by simp))).alloc (by have:=hb1.size;simp at this;omega) _⟩
  · rw [yah k0];by_cases k2:f/65536%4=2
    · rw [yak k2];by_cases kn:f%32768<n
      · rw [yak kn];have h3:=h3 kn;simp only [yak kn] at h2;unfold bM at h2 h3;generalize vD n (f%32768) (decide (f/32768%2=1)) us uw ct=res at h3 ⊢;go_enter func87,ntmps87;unfold bM;go_wp2_with (first
          | (go_at_call 135;refine (h1 _).mono ?_;rintro en w1 ⟨rfl,hb1⟩;have k5:=((Cl.new w #[.int .i64 us,.bool uw] 64).below hb1 (by simp)).alloc (Obj.cells #[.int .u16 (f%65536),.int .u16 (f/65536)] 192))
          | (go_at_call 136;refine (h2 _).mono ?_;rintro en w2 ⟨rfl,hb2⟩;have j5:=(k5.below hb2 k5.lt).alloc (Obj.cells #[.int .i64 (f%32768),.bool (decide (f/32768%2=1))] 64);have c50:=j5.cell 0 _ rfl;have c51:=j5.cell 1 _ rfl)
          | (go_at_call 137;refine (h3 _).mono ?_;rintro en w3 ⟨rfl,hb3⟩)
          | go_in)
        go_ret;have s1:=hb1.size;have s2:=hb2.size;have s3:=hb3.size;simp at s1 s2 s3;exact ⟨rfl,((((hb0.trans (hb1.mono (by simp))).alloc (by omega) _).trans (hb2.mono (by simp;omega))).alloc (by omega) _).trans (hb3.mono (by simp;omega))⟩
      · rw [yah kn];simp only [yah kn] at h2;unfold bM at h2;clear h3;go_enter func87,ntmps87;unfold bM;go_wp2_with (first
          | (go_at_call 135;refine (h1 _).mono ?_;rintro en w1 ⟨rfl,hb1⟩)
          | (go_at_call 136;refine (h2 _).mono ?_;rintro en w2 ⟨rfl,hb2⟩)
          | go_in)
        go_ret;have s1:=hb1.size;have s2:=hb2.size;simp at s1 s2;exact ⟨rfl,(((hb0.trans (hb1.mono (by simp))).alloc (by omega) _).trans (hb2.mono (by simp;omega))).alloc (by omega) _⟩
    · rw [yah k2];go_enter func87,ntmps87;unfold bM;go_wp2_with (first
        | (go_at_call 135;refine (h1 _).mono ?_;rintro en w1 ⟨rfl,hb1⟩)
        | go_in)
      go_ret;exact ⟨rfl,(hb0.trans (hb1.mono (by simp))).alloc (by have:=hb1.size;simp at this;omega) _⟩
set_option maxRecDepth 100000 in
theorem Tryz.Qe {w:World} {S:Nat} {a b:Value} (h16:w.cell? ⟨S,16,none⟩=some a) (h22:w.cell? ⟨S,22,none⟩=some b) (f16:w.frozen? ⟨S,16,none⟩=false) (f22:w.frozen? ⟨S,22,none⟩=false):
  Calls prog 88 #[.pointer (some ⟨S,0,none⟩)] w fun e w'=>e= .returned (.tuple #[])∧w'=(w.setCell ⟨S,16,none⟩ (.int .i64 0)).setCell ⟨S,22,none⟩ (.bool true):=by
 go_enter func88,ntmps88;go_wp2_with fail;go_end0;exact ⟨rfl,rfl⟩
set_option maxRecDepth 100000 in
theorem Tryz.zqC {A:Nat→Prop} {w:World} {S P L Bs B N b2:Nat} {r:Rg} {s:DS} {g:Nat→Int} {lv:Value} (h:YW A w S P L Bs B N b2 r s g lv) (hb:s.br=false) (hp:s.ph=5) {s':DS} (hs':s'=({ s with nx:=(dF r.n s.nx s.nw s.c.ct).1,nw:=(dF r.n s.nx s.nw s.c.ct).2,kk:=qo r.n (dF r.n s.nx s.nw s.c.ct).1 (dF r.n s.nx s.nw s.c.ct).2 s.c.ct (bW g r.c.toNat 4) false }:DS).stop) (hpb:DB r s'):
    Calls prog 26 #[.pointer (some ⟨S,0,none⟩)] w fun e w'=>e= .returned (.tuple #[.agg #[.int .i64 2,.int .i64 11,.int .i64 0],.int .i64 0])∧YW A w' S P L Bs B N b2 r s' g lv∧Dw.Mv (fun b=>b=S∨b=B) w w':=by
  obtain ⟨au,aj,q1,q2,q3⟩:=h.obj;have hlt:=h.oH;have hbn:=h.rg.bnd;have hcc:=h.rg.c;have hN:=h.hN;have hF:=h.fit;have hct:=(h.pb.el _ (h.pb.c (by omega) (by omega))).2.2;have hbx:=(yab w.heap.size w).alloc (yaa _) (Obj.cells #[.int .i64 0,.int .i64 0,.int .i64 0] 54);have k2:=Cl.new w #[.int .i64 0,.int .i64 0,.int .i64 0] 54;have oX:=q1.below hbx q1.lt;have c16:=oX.cell 16 _ rfl;have c23:=oX.cell 23 _ rfl;have f16:=oX.free 16;rw [hp] at c16;rw [hb] at c23;have hm2:Dw.Mv (fun b=>b=S∨b=B) w ((w.alloc (Obj.cells #[.int .i64 0,.int .i64 0,.int .i64 0] 54)).setCell ⟨S,16,none⟩ (.int .i64 6)):=aD (ah hbx) S 16 _ (.inl (.inl rfl));have bD:Dw.Mv (· =S) (w.alloc (Obj.cells #[.int .i64 0,.int .i64 0,.int .i64 0] 54)) ((w.alloc (Obj.cells #[.int .i64 0,.int .i64 0,.int .i64 0] 54)).setCell ⟨S,16,none⟩ (.int .i64 6)):=zag (K:=(· =S)) (ah (yab _ _)) S 16 _ rfl;have o2:=oX.set 16 (.int .i64 6) (by simp [DS.aM]);have hr2:=(h.rm.below hbx).jW bD h.sd;have kk:=k2.kept (bD.block _ k2.lt (by show¬w.heap.size=S;omega));have u16:=o2.cell 16 _ rfl;obtain ⟨a,ha,ha2⟩: ∃a:Nat,r.c=a∧a+4≤N:=⟨r.c.toNat,by omega,by omega⟩;have ea:r.c.toNat=a:=by omega
  rw [ea] at hs';have hwb:=sV g h.rm.byte a 4;have hld:=fun (w':World) (q:aV w' P L Bs B N g)=>Jr P L Bs B N a 4 g _ q h.hN (by decide) ha2;generalize bW g a 4=wv at hwb hld hs';have qX:0≤wv∧wv<4294967296:=⟨hwb.1,by omega⟩;have hgo:=fun w'=>Pn (n:=r.n) (a:=s.nx) (c:=s.c.ct) (x:=s.nw) ⟨hbn.1,by omega⟩ h.pb.nx ⟨by omega,hct.2⟩ w';have hu0:=BJ (n:=r.n) (a:=s.nx) (x:=s.nw) (c:=s.c.ct) h.pb.nx ⟨by omega,hct.2⟩;obtain ⟨u1,hu1⟩: ∃u1,u1=(dF r.n s.nx s.nw s.c.ct).1:=⟨_,rfl⟩;obtain ⟨u2,hu2⟩: ∃u2,u2=(dF r.n s.nx s.nw s.c.ct).2:=⟨_,rfl⟩;rw [←hu1] at hgo hu0 hs';rw [←hu2] at hgo hs';have hki:=fun w'=>zv9 (n:=r.n) (us:=u1) (ct:=s.c.ct) (f:=wv) (uw:=u2) ⟨hbn.1,by omega⟩ hu0 ⟨by omega,hct.2⟩ qX w';generalize qo r.n u1 u2 s.c.ct wv false=it at hki hs';unfold bM at hgo hki;have hs2:s'.aM r P lv au aj=((((((s.aM r P lv au aj).set 16 (.int .i64 6)).set 10 (.int .i64 u1)).set 11 (.bool u2)).set 21 (.bool it)).set 16 (.int .i64 0)).set 22 (.bool true):=by rw [hs'];rfl
  have hL:s'.L=s.L:=by rw [hs'];rfl
  have hsg:s'.sg=s.sg:=by rw [hs'];rfl
  have dS:s'.pu=s.pu:=by rw [hs'];rfl
  have iU:w.heap.size≠S:=by omega
  have sD: ∀ {w':World},Cl w' S ((s.aM r P lv au aj).set 16 (.int .i64 6))→w'.cell? ⟨S,5,none⟩=some (.int .u64 a):=fun q=>ha▸q.cell 5 _ rfl;clear bD hbn hcc hN hF ha ha2 ea hbx hwb qX hu1 hu2 hu0 hs' hp hb oX k2 hct;replace hlt:aA _:=⟨hlt⟩;go_enter func26,ntmps26;go_wp2_with fail;clear c16 c23 f16;generalize ((w.alloc (Obj.cells #[.int .i64 0,.int .i64 0,.int .i64 0] 54)).setCell ⟨S,16,none⟩ (.int .i64 6))=w2 at*;have hbd:=(yab w2.heap.size w2).drew;have od:=o2.below hbd o2.lt;have kd:=kk.below hbd kk.lt;have rd:=hr2.below hbd;have y0:=o2.cell 0 _ rfl;have y5:=sD o2;have z0:=od.cell 0 _ rfl;have z5:=sD od;go_region_held3 (fun w'=>w'.cell? ⟨S,0,none⟩=some (.pointer (some ⟨P,0,none⟩))∧w'.cell? ⟨S,5,none⟩=some (.int .u64 a)) (go_keep)
    ((first
      | (go_at_call 42;refine (hld _ rd).mono ?_;rintro en w4 ⟨rfl,hb4⟩;have o4:=od.below hb4 od.lt;have k4:=kd.below hb4 kd.lt;have r4:=rd.below hb4;have x0:=o4.cell 0 _ rfl;have x5:=sD o4)))
  have m10:=o4.cell 10 _ rfl;have m11:=o4.cell 11 _ rfl;have MB:=o4.cell 26 _ rfl;have m2:=o4.cell 2 _ rfl;go_wp2_with fail;go_cut [] from 92 to 112 (fun wx=>Cl wx S ((((s.aM r P lv au aj).set 16 (.int .i64 6)).set 10 (.int .i64 u1)).set 11 (.bool u2))∧Cl wx w.heap.size [.int .i64 0,.int .i64 0,.int .i64 0]∧aV wx P L Bs B N g∧Dw.Mv (· =S) w4 wx)
  case first=>
    go_region_law (first
      | (go_simp;go_at_call 40;refine (hgo w4.drew).mono ?_;rintro en w5 ⟨rfl,hb5⟩;have p5:=(o4.kept (w':=w4.drew) rfl).below hb5 o4.lt;have v10:=p5.cell 10 _ rfl;have v11:=p5.cell 11 _ rfl;have f10:=p5.free 10;have f11:=p5.free 11))
    all_goals
      go_wp2_with fail;go_meet;have Ai:Below w4.heap.size w4 w5:=((yab w4.heap.size w4).drew).trans hb5;have bD:Dw.Mv (· =S) w4 ((w5.setCell ⟨S,10,none⟩ (.int .i64 u1)).setCell ⟨S,11,none⟩ (.bool u2)):=zag (K:=(· =S)) (zag (K:=(· =S)) (ah Ai) S 10 _ rfl) S 11 _ rfl;exact ⟨(p5.set 10 (.int .i64 u1) (by simp [DS.aM])).set 11 (.bool u2) (by simp [DS.aM]),k4.kept (bD.block _ k4.lt iU),r4.jW bD h.sd,bD⟩
  case rest=>
    obtain ⟨oc,kc,rc,hmc⟩:=hcut;clear m10 m11 MB m2 x0 x5 z0 z5 y0 y5;have m10:=oc.cell 10 _ rfl;have m11:=oc.cell 11 _ rfl;have MB:=oc.cell 26 _ rfl;have m2:=oc.cell 2 _ rfl;go_wp2_with fail;go_cut [] from 113 to 132 (fun wx=>Cl wx S (((((s.aM r P lv au aj).set 16 (.int .i64 6)).set 10 (.int .i64 u1)).set 11 (.bool u2)).set 21 (.bool it))∧Cl wx w.heap.size [.int .i64 0,.int .i64 0,.int .i64 0]∧aV wx P L Bs B N g∧Dw.Mv (· =S) wc wx)
    case first=>
      go_region_law (first
        | (go_simp;go_at_call 87;refine (hki wc.drew).mono ?_;rintro en w5 ⟨rfl,hb5⟩;have p5:=(oc.kept (w':=wc.drew) rfl).below hb5 oc.lt;have v21:=p5.cell 21 _ rfl;have f21:=p5.free 21))
      all_goals
        go_wp2_with fail;go_meet;have Ai:Below wc.heap.size wc w5:=((yab wc.heap.size wc).drew).trans hb5;have bD:Dw.Mv (· =S) wc (w5.setCell ⟨S,21,none⟩ (.bool it)):=zag (K:=(· =S)) (ah Ai) S 21 _ rfl;exact ⟨p5.set 21 (.bool it) (by simp [DS.aM]),kc.kept (bD.block _ kc.lt iU),rc.jW bD h.sd,bD⟩
    case rest=>
      obtain ⟨oe,ke,re,hme⟩:=hcut;clear m10 m11 MB m2;have hmv:Dw.Mv (fun b=>b=S∨b=B) w wc:=((((hm2.trans (ah hbd)).trans (ah hb4)).trans (hmc.mono fun b q=> .inl q)).trans (hme.mono fun b q=> .inl q));have t16:=oe.cell 16 _ rfl;have t22:=oe.cell 22 _ rfl;have CB:=oe.free 16;have CF:=oe.free 22;have hend:=Qe t16 t22 CB CF;have o7:=(oe.set 16 (.int .i64 0) (by simp [DS.aM])).set 22 (.bool true) (by simp [DS.aM]);rw [←hs2] at o7;have jR:=zag (zag (Dw.Mv.refl (· =S) wc) S 16 (.int .i64 0) rfl) S 22 (.bool true) rfl;have k7:=ke.kept (jR.block _ ke.lt iU);have r7:=re.jW jR h.sd;have b0:=k7.cell 0 _ rfl;have b1:=k7.cell 1 _ rfl;have b2':=k7.cell 2 _ rfl;have g0:=k7.free 0;have g1:=k7.free 1;have g2:=k7.free 2;obtain ⟨cO,gu,fF,fV⟩:=oU (hmv.trans (jR.mono fun b q=> .inl q)) k7 o7 r7 hlt.out (.int .i64 2) (.int .i64 11) (.int .i64 0);go_wp2_with (first
        | (go_at_call 88;refine hend.mono ?_;rintro en w7 ⟨rfl,hw7⟩;have hw7:=hw7.symm;subst hw7)
        | go_in)
      refine yap (bU rfl _ _ w.heap.size [.int .i64 2,.int .i64 11,.int .i64 0] _ rfl (fun j y hy=>by rw [yaf];exact gu.cell j y hy) underlying54 rfl (by kernel_rfl)) rfl ?_;exact ⟨rfl,h.fin cO fV fF q2 q3 hL hsg dS hpb,cO⟩
theorem Tryz.EF (l:List Sg):rQ l=eD l:=by
 unfold rQ eD;by_cases h:gJ l=0
 ·simp [h]
 ·simp [h]
set_option maxRecDepth 100000 in
theorem Tryz.zmy {A:Nat→Prop} {w:World} {v:Value} {l:List Sg} (h:bC A w v l) (hl:l.length≤64) (he:eD l=0):
    Calls prog 134 #[v] w fun e w'=>(∃u,e= .returned (.tuple #[u,.int .i64 0])∧af 5 1 w' w.heap.size u (dh l).length (aN (dh l)))∧Below w.heap.size w w':=by
  have hinfo:=Qt;cases hi:prog.info? 5 with
  | none=>rw [hi] at hinfo;cases hinfo
  | some i=>
  rw [hi] at hinfo;simp only [yaJ,ybH,ycX] at hinfo;obtain ⟨i1,i2,i3⟩:=hinfo;have hmay:=Pz h (by omega);rw [EF,he] at hmay;obtain ⟨sa,c,rfl,hok,hr⟩:=h;replace hok:aA (∀x∈l,x.ok):=⟨hok⟩;replace hr:aA (l= []∨ ∃R o,sa=some ⟨R,o,none⟩∧ ¬A R∧w.rangeAt R o (dA l)):=⟨hr⟩;clear he;go_enter func134,ntmps134;go_wp2_with (first
    | (go_at_call 124;refine hmay.mono ?_;rintro en w2 ⟨rfl,hW⟩)
    | go_in)
  go_loopw [5,6] (fun c k wr=> ∃(q:Nat) (cv:Value),cv=c∧q≤l.length∧k= .int .i64 q∧af 5 1 wr w.heap.size cv (dh (l.take q)).length (aN (dh (l.take q)))∧Below w.heap.size w wr) (fun _ k _=>l.length-(RowKit.intOf k).toNat)
  case atStart=>exact ⟨0,_,rfl,yar _,rfl,by simpa [dh,aN] using af.nil 5 1 _ _,hW⟩
  case round=>
    obtain ⟨q,cv,hcv,hq,rfl,ho,hb⟩:=hrel;subst hcv;by_cases dx:q<l.length
    · obtain ⟨R,o,rfl,hA,hrg⟩:=hr.out.resolve_left (by intro e;rw [e] at dx;exact absurd dx (by simp));have hsg:=aX (xq hrg q dx) (hb.block R (tO hrg (by intro e;rw [e] at dx;exact absurd dx (by simp))));have l7:=hok.out _ (yaA dx);have htk:=Uz dx;have hol:=af.lt ho;have hlen:(dh (l.take q)).length≤1024:=by rw [HZ,ya1];omega
      generalize l[q]'(dx)=s at hsg l7 htk;have hpb:=fun w'=>N9 (iA s) ⟨⟨l7.1,l7.2.1⟩,⟨l7.2.2.1,l7.2.2.2⟩,⟨by show (0:Int)≤0;decide,by show (0:Int)<65536;decide⟩,by show 0≤(if s.wr then (2:Int) else 0)∧(if s.wr then (2:Int) else 0)<65536;split<;>decide⟩ w';rw [ybz 3 q] at hsg;have Mg:=aX (w':=wr.drew) hsg rfl;have s0:=hsg 0 _ rfl;have s1:=hsg 1 _ rfl;have s2:=hsg 2 _ rfl;have d0:=Mg 0 _ rfl;have d1:=Mg 1 _ rfl;have d2:=Mg 2 _ rfl;rw [yaF] at s0 d0;have hqi:(q:Int)<l.length:=by omega
      obtain ⟨sat,dM,rA⟩:=s;cases rA
      · skip
        go_wp2_with fail;go_region_held3 (fun w'=>w'.cell? ⟨R,o+q*3,none⟩=some (.int .u64 sat)∧w'.cell? ⟨R,o+q*3+1,none⟩=some (.int .u32 dM)) (go_keep) (fail)
        all_goals
          have hbq:Below wr.heap.size wr (wr.alloc (Obj.cells #[.int .u64 sat,.int .u32 dM,.int .u16 0,.int .u16 0] 74)).drew:=((yab wr.heap.size wr).alloc (yaa _) _).drew;have Mc:=Pt.jv (iA ⟨sat,dM,false⟩);have n2:=aX hsg (hbq.block R (fJ hsg (by simp [Sg.cells])));have m2:=n2 2 _ rfl;go_wp2_with (first
            | (go_at_call 20;refine (hpb _).mono ?_;rintro en w3 ⟨X,rfl,eO,hb3⟩;obtain ⟨Nb,c3,rfl,yG⟩:=af.row eO;obtain ⟨G3,rfl,_,hG3⟩:=yG.resolve_left (by intro e;have:=yaB List.length e;rw [aN,yaK,Pt.jv] at this;simp at this);have hb4:Below wr.heap.size wr w3:=(by first|exact hbq.trans (hb3.mono (by simp))|exact (((yab wr.heap.size wr).alloc (yaa _) _).drew).trans (hb3.mono (by simp))|exact mU ((aD (ah (K:=fun _=>False) hbq) wr.heap.size 3 _ (.inr (yaa _))).trans (ah hb3)));have ho3:=af.kept ho (w':=w3) fun b e=>hb4.block b (hol b e).2;have hnews: ∀j u,(aN (iA ⟨sat,dM,false⟩).bytes)[j]? =some u→w3.cell? ((⟨G3,0,none⟩:Addr).add j)=some u:=fun j u hu=>by
                 rw [Dw.addr_add];exact hG3 j u hu
               have hbs:=hb.size;have Lu:=hb4.size)
            | (at_builtin;go_loud (refine ybk _ rfl _ _ 59 rfl w.heap.size 5 i _ 1 1 (by kernel_rfl) hi i1 i2 i3 rfl (by decide) cv _ (aN (dh (l.take q))) rfl ho3 ⟨G3,0,none⟩ (iA ⟨sat,dM,false⟩).bytes.length c3 (aN (iA ⟨sat,dM,false⟩).bytes) rfl (by simp [aN]) hnews (by intro y hy;obtain ⟨x,_,rfl⟩:=yaY.1 hy;rfl) (by unfold maxLen;omega) (by omega) (by omega) ?_);intro u w' h2 h3 h4 h5;go_frame)
            | go_in)
          refine ⟨⟨q+1,u,rfl,by omega,by push_cast;rfl,?_,?_⟩,by simp only [RowKit.intOf];omega⟩
          · rw [htk,yaC,show aN (dh (l.take q)++(iA ⟨sat,dM,false⟩).bytes)=aN (dh (l.take q))++aN (iA ⟨sat,dM,false⟩).bytes from ybA];exact h2
          · have hbw:=hb.trans (hb4.mono hbs);exact ⟨h3.os.trans hbw.os,h3.tape.trans hbw.tape,h3.output.trans hbw.output,yas hbw.size h3.size,fun y hy=>(h3.block y (yae hy hbw.size) (fun e=>by have:=(hol y e.symm).1;omega)).trans (hbw.block y hy)⟩
      · skip
        go_wp2_with fail;go_region_held3 (fun w'=>w'.cell? ⟨R,o+q*3,none⟩=some (.int .u64 sat)∧w'.cell? ⟨R,o+q*3+1,none⟩=some (.int .u32 dM)) (go_keep) (fail)
        all_goals
          have hbq:Below wr.heap.size wr (wr.alloc (Obj.cells #[.int .u64 sat,.int .u32 dM,.int .u16 0,.int .u16 0] 74)).drew:=((yab wr.heap.size wr).alloc (yaa _) _).drew;have Mc:=Pt.jv (iA ⟨sat,dM,true⟩);have n2:=aX hsg (hbq.block R (fJ hsg (by simp [Sg.cells])));have m2:=n2 2 _ rfl;go_wp2_with (first
            | (go_at_call 20;refine (hpb _).mono ?_;rintro en w3 ⟨X,rfl,eO,hb3⟩;obtain ⟨Nb,c3,rfl,yG⟩:=af.row eO;obtain ⟨G3,rfl,_,hG3⟩:=yG.resolve_left (by intro e;have:=yaB List.length e;rw [aN,yaK,Pt.jv] at this;simp at this);have hb4:Below wr.heap.size wr w3:=(by first|exact hbq.trans (hb3.mono (by simp))|exact (((yab wr.heap.size wr).alloc (yaa _) _).drew).trans (hb3.mono (by simp))|exact mU ((aD (ah (K:=fun _=>False) hbq) wr.heap.size 3 _ (.inr (yaa _))).trans (ah hb3)));have ho3:=af.kept ho (w':=w3) fun b e=>hb4.block b (hol b e).2;have hnews: ∀j u,(aN (iA ⟨sat,dM,true⟩).bytes)[j]? =some u→w3.cell? ((⟨G3,0,none⟩:Addr).add j)=some u:=fun j u hu=>by
                 rw [Dw.addr_add];exact hG3 j u hu
               have hbs:=hb.size;have Lu:=hb4.size)
            | (at_builtin;go_loud (refine ybk _ rfl _ _ 59 rfl w.heap.size 5 i _ 1 1 (by kernel_rfl) hi i1 i2 i3 rfl (by decide) cv _ (aN (dh (l.take q))) rfl ho3 ⟨G3,0,none⟩ (iA ⟨sat,dM,true⟩).bytes.length c3 (aN (iA ⟨sat,dM,true⟩).bytes) rfl (by simp [aN]) hnews (by intro y hy;obtain ⟨x,_,rfl⟩:=yaY.1 hy;rfl) (by unfold maxLen;omega) (by omega) (by omega) ?_);intro u w' h2 h3 h4 h5;go_frame)
            | go_in)
          refine ⟨⟨q+1,u,rfl,by omega,by push_cast;rfl,?_,?_⟩,by simp only [RowKit.intOf];omega⟩
          · rw [htk,yaC,show aN (dh (l.take q)++(iA ⟨sat,dM,true⟩).bytes)=aN (dh (l.take q))++aN (iA ⟨sat,dM,true⟩).bytes from ybA];exact h2
          · have hbw:=hb.trans (hb4.mono hbs);exact ⟨h3.os.trans hbw.os,h3.tape.trans hbw.tape,h3.output.trans hbw.output,yas hbw.size h3.size,fun y hy=>(h3.block y (yae hy hbw.size) (fun e=>by have:=(hol y e.symm).1;omega)).trans (hbw.block y hy)⟩
    · have hqq:q=l.length:=by omega
      subst hqq;go_wp2;go_ret2;rw [ybE] at ho;exact ⟨⟨_,rfl,ho⟩,hb⟩
set_option maxRecDepth 100000 in
theorem Tryz.zwW {t:Array Value} (h:t.size=83) {v0:Value} (h0:t.getD 0 undef=v0):
  ∃ j:Nat→Value,t= #[v0,j 1,j 2,j 3,j 4,j 5,j 6,j 7,j 8,j 9,j 10,j 11,j 12,j 13,j 14,j 15,j 16,j 17,j 18,j 19,j 20,j 21,j 22,j 23,j 24,j 25,j 26,j 27,j 28,j 29,j 30,j 31,j 32,j 33,j 34,j 35,j 36,j 37,j 38,j 39,j 40,j 41,j 42,j 43,j 44,j 45,j 46,j 47,j 48,j 49,j 50,j 51,j 52,j 53,j 54,j 55,j 56,j 57,j 58,j 59,j 60,j 61,j 62,j 63,j 64,j 65,j 66,j 67,j 68,j 69,j 70,j 71,j 72,j 73,j 74,j 75,j 76,j 77,j 78,j 79,j 80,j 81,j 82]:=by
 subst h0;obtain ⟨l⟩:=t;exact ⟨fun i=>(⟨l⟩:Array Value).getD i undef,OL l h⟩
theorem Tryz.zjC {w:World} {X:Nat} {p:Pt} (h:w.rangeAt X 0 (aN p.bytes)):w.rangeAt X 0 ((p.bytes.take 14).map (Value.int .u8)):=fun j y hy=>by
 rw [List.map_take] at hy;have hj:j<14:=by
  have:=(yat.1 hy).1;rw [ya1] at this;omega
 rw [ybD hj] at hy;exact h j y hy
theorem Tryz.zrt {w:World} {b2:Nat} {sa:Option Addr} {n c:Nat} {cs:List Value} (h:af 5 1 w b2 (.slice sa n c) n cs) (hn:14≤n):(14:Int)≤c:=by
 obtain ⟨h1,h2⟩:=h;rcases h2 with ⟨e,h2⟩|⟨G,cap,cur,e,h3,h4,h5,h6,h7,h8⟩
 ·omega
 ·cases e;omega
set_option maxRecDepth 100000 in
theorem Tryz.ztG {A:Nat→Prop} {w:World} {S P L Bs B N b2:Nat} {r:Rg} {s:DS} {g:Nat→Int} {lv:Value} (h:YW A w S P L Bs B N b2 r s g lv) (hp1:1≤s.ph∧s.ph≤5) (hse:eD s.sg=0):
    Calls prog 86 #[.pointer (some ⟨S,0,none⟩)] w fun e w'=>e= .returned (.tuple #[])∧aV w' P L Bs B N (Co s g)∧Dw.Mv (· =B) w w':=by
  obtain ⟨au,aj,q1,q2,q3⟩:=h.obj;have hlt:=h.oH;have hbn:=h.rg.bnd;have hd:=h.rg.d;have hN:=h.hN;have hF:=h.fit;have hid:=(h.pb.el _ (h.pb.c hp1.1 hp1.2)).1;have hp:=(h.pb.pu hp1.1 hp1.2).1;have Mc:=(h.pb.pu hp1.1 hp1.2).2;have hps:aA (∀p∈s.pu,p.ok∧0≤p.aG∧p.aG<r.n):=⟨h.pb.ps⟩;have qK:=h.sd.2.2.2;have hrm:=h.rm;have hpt:=zmy q2 h.pb.sg.1 hse;obtain ⟨sa,cp,rfl,hr⟩:=q3;obtain ⟨R,o,rfl,je,hR⟩:=hr.resolve_left (by intro e;rw [e] at hp;exact absurd hp (by decide));have qJ:R≠B:=fun q=>je (.inl (q▸h.aB));have hRl:R<w.heap.size:=fJ hR (EC (by intro e;rw [e] at hp;exact absurd hp (by decide)));replace hR:aA (w.rangeAt R o (dY s.pu)):=⟨hR⟩;obtain ⟨ssa,sc,rfl,hq1,hq2⟩:=q2;clear hq1 hq2 hr;have c7:=q1.cell 7 _ rfl;have Rc:=q1.cell 27 _ rfl;obtain ⟨g1,hg1⟩: ∃g1,g1=(if s.tab s.sg then eY g (jF s.c.id).toNat (dh s.sg) else g):=⟨_,rfl⟩;have hres:aA (lg 0 s.pu g1=Co s g):=⟨by rw [hg1];rfl⟩;go_enter func86,ntmps86;refine wp_seq_k (fun K2 hK2=> ?_);have hrest: ∀(tm:Array Value) (wt:World),tm.size=83→tm.getD 0 undef= .pointer (some ⟨S,0,none⟩)→aV wt P L Bs B N g1→Dw.Mv (· =B) w wt→K2 ⟨tm,[]⟩ wt:=by
    intro tm wt y1 y0 hgt hmt;refine hK2 _ _ ?_;clear hK2 hpt hg1 c7 Rc;obtain ⟨jf,dR⟩:=zwW (t:=tm) y1 y0;rw [dR];clear dR;have ot:=q1.kept (hmt.block S q1.lt qK);have c28:=ot.cell 28 _ rfl;go_wp2_with fail;go_loopw [4] (fun c wr=> ∃i:Nat,i≤s.pu.length∧c= .int .i64 i∧aV wr P L Bs B N (lg 0 (s.pu.take i) g1)∧Dw.Mv (· =B) w wr) (fun c _=>s.pu.length-(RowKit.intOf c).toNat)
    case atStart=>exact ⟨0,yar _,rfl,hgt,hmt⟩
    case round=>
      obtain ⟨i,hi,rfl,hg,hmr⟩:=hrel;have oR:=q1.kept (hmr.block S q1.lt qK);have v28:=oR.cell 28 _ rfl;by_cases hik:i<s.pu.length
      · have abY:(i:Int)<s.pu.length:=by omega
        have hcs:=aX (BH hR.out i hik) (hmr.block R hRl qJ);have hstep:=H7 (g:=g1) hik;obtain ⟨hok,hat⟩:=hps.out _ (yaA hik);generalize s.pu[i]'(hik)=p at hcs hok hat hstep;rw [ybz 5 i] at hcs;have hRr:R<wr.heap.size:=fJ hcs (by simp [Pt.cells]);obtain ⟨a,ha,ha2⟩: ∃a:Nat,(a:Int)=r.d+16*p.aG∧a+16≤N:=⟨(r.d+16*p.aG).toNat,by omega,by omega⟩;have ea:(4096+16*p.aG).toNat=a:=by omega
        unfold zy at hstep;rw [ea] at hstep;have hpb:=fun w'=>N9 p hok w';have hcap:=fun {w':World} {b2:Nat} {sa:Option Addr} {c:Nat} (q:af 5 1 w' b2 (.slice sa p.bytes.length c) p.bytes.length (aN p.bytes))=>zrt q (by rw [Pt.jv];decide);have hgb:=hg.byte;generalize lg 0 (s.pu.take i) g1=gi at hg hstep hgb;have gN:=Pt.jv p;have jT:=Pt.zT p;have hdd:0≤r.d∧r.d≤1000000:=by omega
        have r0:=hcs 0 _ rfl;have r1:=hcs 1 _ rfl;have r2:=hcs 2 _ rfl;have r3:=hcs 3 _ rfl;have r4:=hcs 4 _ rfl;rw [yaF] at r0;by_cases hi0:i=0
        · rw [yak hi0] at hstep;have hb0:((i:Int)==0)=true:=by simpa using hi0
          replace hstep:aA _:=⟨hstep⟩;clear hi0;go_wp2_with (first
            | (go_at_call 20;refine (hpb _).mono ?_;rintro en w3 ⟨X,rfl,eO,hb3⟩;obtain ⟨Nb,c3,rfl,yG⟩:=af.row eO;obtain ⟨G3,rfl,_,hG3⟩:=yG.resolve_left (by intro e;have:=yaB List.length e;rw [aN,yaK,Pt.jv] at this;simp at this);have iX:(14:Int)≤c3:=hcap eO;have abC:((p.bytes.length:Nat):Int)=16:=(by rw [Pt.jv];rfl);have Ls:aA (Below wr.heap.size wr w3):=⟨hb3⟩;have o3:=oR.below hb3 oR.lt;have n3:=aX hcs (hb3.block R hRr);have g3:=hg.below hb3;have a0:=o3.cell 0 _ rfl;have a28:=o3.cell 28 _ rfl;have m0:=n3 0 _ rfl;rw [yaF] at m0)
            | go_in)
          have hbd:=(yab w3.heap.size w3).drew;have od:=o3.below hbd o3.lt;have d0:=od.cell 0 _ rfl;have d28:=od.cell 28 _ rfl;have d3:=od.cell 3 _ rfl;have nd:=aX (w':=w3.drew) n3 rfl;have e0:=nd 0 _ rfl;rw [yaF] at e0;have CU:=fJ nd (by simp [Pt.cells]);have mM:=wV d3 hdd ⟨hat.1,by omega⟩;rw [←ha] at mM;have hwr:=I6 P L Bs B N a G3 0 c3 (p.bytes.take 14) gi w3.drew (g3.below hbd) h.hN (by rw [qc p];decide) (by rw [qc p];omega) (fun x hx=>jT x (ybP hx)) (zjC (aX (w':=w3.drew) hG3 rfl)) (fJ hG3 (by intro e;have:=yaB List.length e;rw [aN,yaK,gN] at this;simp at this));rw [qc p] at hwr;clear hgb hpb hG3 eO jT ha ha2 ea hat hdd hb3 iX;go_region_held3 (fun w'=>w'.cell? ⟨S,0,none⟩=some (.pointer (some ⟨P,0,none⟩))∧w'.cell? ⟨S,28,none⟩=some (.slice (some ⟨R,o,none⟩) s.pu.length cp)∧w'.cell? ⟨R,o+i*5,none⟩=some (.int .i64 p.aG)) (go_keep)
            ((first
              | (go_at_call 60;refine mM.mono ?_;rintro en w4 ⟨rfl,hw4⟩;have hw4:=hw4.symm;subst hw4)
              | (go_at_call 24;refine hwr.mono ?_;rintro en w5 ⟨rfl,hg5,aH⟩;have o5:=od.kept (aH.block S od.lt qK);have n5:=aX nd (aH.block R CU qJ);have z0:=o5.cell 0 _ rfl;have z28:=o5.cell 28 _ rfl;have zm:=n5 0 _ rfl;rw [yaF] at zm)))
          all_goals
            go_wp2_with fail;rw [←hstep.out] at hg5;exact ⟨⟨i+1,by omega,by push_cast;rfl,hg5,(hmr.trans (ah Ls.out)).trans ((ah hbd).trans (ku aH))⟩,by simp only [RowKit.intOf];omega⟩
        · rw [yah hi0] at hstep;have hb0:((i:Int)==0)=false:=by simpa using hi0
          replace hstep:aA _:=⟨hstep⟩;clear hi0;go_wp2_with (first
            | (go_at_call 20;refine (hpb _).mono ?_;rintro en w3 ⟨X,rfl,eO,hb3⟩;obtain ⟨Nb,c3,rfl,yG⟩:=af.row eO;obtain ⟨G3,rfl,_,hG3⟩:=yG.resolve_left (by intro e;have:=yaB List.length e;rw [aN,yaK,Pt.jv] at this;simp at this);have iX:(14:Int)≤c3:=hcap eO;have abC:((p.bytes.length:Nat):Int)=16:=(by rw [Pt.jv];rfl);have Ls:aA (Below wr.heap.size wr w3):=⟨hb3⟩;have o3:=oR.below hb3 oR.lt;have n3:=aX hcs (hb3.block R hRr);have g3:=hg.below hb3;have a0:=o3.cell 0 _ rfl;have a28:=o3.cell 28 _ rfl;have m0:=n3 0 _ rfl;rw [yaF] at m0)
            | go_in)
          have hbd:=(yab w3.heap.size w3).drew;have od:=o3.below hbd o3.lt;have d0:=od.cell 0 _ rfl;have d28:=od.cell 28 _ rfl;have d3:=od.cell 3 _ rfl;have nd:=aX (w':=w3.drew) n3 rfl;have e0:=nd 0 _ rfl;rw [yaF] at e0;have CU:=fJ nd (by simp [Pt.cells]);have mM:=wV d3 hdd ⟨hat.1,by omega⟩;rw [←ha] at mM;have hwr:=I6 P L Bs B N a G3 0 c3 p.bytes gi w3.drew (g3.below hbd) h.hN (by rw [gN];decide) (by rw [gN];omega) jT (aX (w':=w3.drew) hG3 rfl) (fJ hG3 (by intro e;have:=yaB List.length e;rw [aN,yaK,gN] at this;simp at this))
          skip
          clear hgb hpb hG3 eO jT ha ha2 ea hat hdd hb3 iX;go_region_held3 (fun w'=>w'.cell? ⟨S,0,none⟩=some (.pointer (some ⟨P,0,none⟩))∧w'.cell? ⟨S,28,none⟩=some (.slice (some ⟨R,o,none⟩) s.pu.length cp)∧w'.cell? ⟨R,o+i*5,none⟩=some (.int .i64 p.aG)) (go_keep)
            ((first
              | (go_at_call 60;refine mM.mono ?_;rintro en w4 ⟨rfl,hw4⟩;have hw4:=hw4.symm;subst hw4)
              | (go_at_call 24;refine hwr.mono ?_;rintro en w5 ⟨rfl,hg5,aH⟩;have o5:=od.kept (aH.block S od.lt qK);have n5:=aX nd (aH.block R CU qJ);have z0:=o5.cell 0 _ rfl;have z28:=o5.cell 28 _ rfl;have zm:=n5 0 _ rfl;rw [yaF] at zm)))
          all_goals
            go_wp2_with fail;rw [←hstep.out] at hg5;exact ⟨⟨i+1,by omega,by push_cast;rfl,hg5,(hmr.trans (ah Ls.out)).trans ((ah hbd).trans (ku aH))⟩,by simp only [RowKit.intOf];omega⟩
      · have hik':i=s.pu.length:=by omega
        subst hik';rw [ybE,hres.out] at hg;go_wp2_with fail;go_end0;exact ⟨rfl,hg,hmr⟩
  clear hK2 hres hps hR;by_cases htb:s.tab s.sg=true
  · rw [yak htb] at hg1;have Mj:s.tb=true∧(1:Int)<s.sg.length:=by
      unfold DS.tab at htb;simp only [ybd,yaL] at htb;exact ⟨htb.1,by omega⟩
    obtain ⟨sK,hsl⟩:=Mj;rw [sK] at c7;have htl:(dh s.sg).length=16*s.sg.length:=HZ _;have Du: ∀x∈dh s.sg,0≤x∧x<256:=UM _;obtain ⟨ta,ha,ha2⟩: ∃ta:Nat,(ta:Int)=20000+s.c.id*1024∧ta+1024≤N:=⟨(20000+s.c.id*1024).toNat,by omega,by omega⟩;have ea:(jF s.c.id).toNat=ta:=by unfold jF;omega
    rw [ea] at hg1;have e1:IntKind.wrap .u64 s.c.id=s.c.id:=wrap_u64 _ (by omega) (by omega);have e2:IntKind.wrap .u64 (s.c.id*1024)=s.c.id*1024:=wrap_u64 _ (by omega) (by omega);have e3:IntKind.wrap .u64 (20000+s.c.id*1024)=20000+s.c.id*1024:=wrap_u64 _ (by omega) (by omega);have aa3:=h.pb.sg.1;clear htb;go_wp2_with (first
      | (go_at_call 134;refine hpt.mono ?_;rintro en w2 ⟨⟨u,rfl,hu⟩,hb2⟩;have o2:=q1.below hb2 q1.lt)
      | go_in)
    obtain ⟨pX,c2,rfl,hrow⟩:=af.row hu;obtain ⟨G,rfl,_,hG⟩:=hrow.resolve_left (by intro e;have:=yaB List.length e;rw [aN,yaK,htl] at this;simp at this;omega);have mH:G<w2.heap.size:=fJ hG (by intro e;have:=yaB List.length e;rw [aN,yaK,htl] at this;simp at this;omega);have hbd:=(yab w2.heap.size w2).drew;have hwr:=I6 P L Bs B N ta G 0 c2 (dh s.sg) g w2.drew ((hrm.below hb2).below hbd) h.hN (by omega) (by omega) Du (aX (w':=w2.drew) hG rfl) mH;rw [ha,←hg1] at hwr;have od:=o2.below hbd o2.lt;have x0:=o2.cell 0 _ rfl;have x9:=o2.cell 9 _ rfl;have x24:=o2.cell 24 _ rfl;have y0:=od.cell 0 _ rfl;have y9:=od.cell 9 _ rfl;have y24:=od.cell 24 _ rfl;clear hu hG hpt hse ha ha2 ea htl Du hsl c7 Rc hid hbn hd hN hF hrow hg1 aa3;go_region_held3 (fun w'=>w'.cell? ⟨S,0,none⟩=some (.pointer (some ⟨P,0,none⟩))∧w'.cell? ⟨S,9,none⟩=some (.int .u64 20000)∧w'.cell? ⟨S,24,none⟩=some (.int .i64 s.c.id)) (go_keep)
      ((first
        | (go_at_call 24;refine hwr.mono ?_;rintro en wt ⟨rfl,hg5,aH⟩;have o5:=od.kept (aH.block S od.lt qK);have z0:=o5.cell 0 _ rfl;have z9:=o5.cell 9 _ rfl;have z24:=o5.cell 24 _ rfl)))
    all_goals
      go_wp2_with fail;exact hrest _ _ rfl rfl hg5 (((ah hb2).trans (ah hbd)).trans (ku aH))
  · rw [yah htb] at hg1;subst hg1;have hle:s.tb=true→ ¬(1:Int)<s.sg.length:=fun q=>by
      unfold DS.tab at htb;rw [q] at htb;simp only [ybr,yaL] at htb;omega
    cases sK:s.tb
    · rw [sK] at c7;go_wp2_with fail;exact hrest _ _ rfl rfl hrm (Dw.Mv.refl _ _)
    · have hle:=hle sK;rw [sK] at c7;go_wp2_with fail;exact hrest _ _ rfl rfl hrm (Dw.Mv.refl _ _)
set_option maxRecDepth 100000 in
theorem Tryz.zqG {A:Nat→Prop} {w:World} {S P L Bs B N b2:Nat} {r:Rg} {s:DS} {g:Nat→Int} {lv:Value} (h:YW A w S P L Bs B N b2 r s g lv) (hb:s.br=false) (hp:s.ph=1) (hse:eD s.sg=0) (hpb:DB r (s.goto 2)):
    Calls prog 26 #[.pointer (some ⟨S,0,none⟩)] w fun e w'=>e= .returned (.tuple #[.agg #[.int .i64 1,.int .i64 0,.int .i64 0],.int .i64 0])∧YW A w' S P L Bs B N b2 r (s.goto 2) (Co s g) lv∧Dw.Mv (fun b=>b=S∨b=B) w w':=by
  obtain ⟨au,aj,q1,q2,q3⟩:=h.obj;have hlt:=h.oH;have hdn:s.dn=false:=h.pb.dn (.inl (by omega));have hbx:=(yab w.heap.size w).alloc (yaa _) (Obj.cells #[.int .i64 0,.int .i64 0,.int .i64 0] 54);have k2:=Cl.new w #[.int .i64 0,.int .i64 0,.int .i64 0] 54;have oX:=q1.below hbx q1.lt;have c16:=oX.cell 16 _ rfl;have c23:=oX.cell 23 _ rfl;have f16:=oX.free 16;rw [hp] at c16;rw [hb] at c23;have hm2:Dw.Mv (fun b=>b=S∨b=B) w ((w.alloc (Obj.cells #[.int .i64 0,.int .i64 0,.int .i64 0] 54)).setCell ⟨S,16,none⟩ (.int .i64 2)):=aD (ah hbx) S 16 _ (.inl (.inl rfl));have bD:Dw.Mv (· =S) (w.alloc (Obj.cells #[.int .i64 0,.int .i64 0,.int .i64 0] 54)) ((w.alloc (Obj.cells #[.int .i64 0,.int .i64 0,.int .i64 0] 54)).setCell ⟨S,16,none⟩ (.int .i64 2)):=zag (K:=(· =S)) (ah (yab _ _)) S 16 _ rfl;have o2:=oX.set 16 (.int .i64 2) (by simp [DS.aM]);have hrow:(s.aM r P lv au aj).set 16 (.int .i64 2)=(s.goto 2).aM r P lv au aj:=by
    unfold DS.aM;rw [hdn];rfl
  rw [hrow] at o2;have hr2:=(h.rm.below hbx).jW bD h.sd;have kk:=k2.kept (bD.block _ k2.lt (by show¬w.heap.size=S;omega));have u16:=o2.cell 16 (.int .i64 2) rfl;have hY2:=h.fin (s':=s.goto 2) hm2 hr2 o2 q2 q3 rfl rfl rfl hpb;have hch:=ztG hY2 ⟨by show 1≤2;decide,by show 2≤5;decide⟩ hse;have mI:w.heap.size≠B:=by omega
  have qK:=h.sd.2.2.2;clear hdn hbx hrow bD k2 oX hp hb;replace hlt:aA _:=⟨hlt⟩;go_enter func26,ntmps26;go_wp2_with (first
    | (go_at_call 86;refine hch.mono ?_;rintro en w5 ⟨rfl,hg5,aH⟩;have p5:=o2.kept (aH.block S o2.lt qK);have k5:=kk.kept (aH.block _ kk.lt mI);have hmv:Dw.Mv (fun b=>b=S∨b=B) w w5:=hm2.trans (aH.mono fun b q=> .inr q);have b0:=k5.cell 0 _ rfl;have b1:=k5.cell 1 _ rfl;have b2':=k5.cell 2 _ rfl;have g0:=k5.free 0;have g1:=k5.free 1;have g2:=k5.free 2)
    | go_in)
  obtain ⟨cO,gu,fF,fV⟩:=oU hmv k5 p5 hg5 hlt.out (.int .i64 1) (.int .i64 0) (.int .i64 0);refine yap (bU rfl _ _ w.heap.size [.int .i64 1,.int .i64 0,.int .i64 0] _ rfl (fun j y hy=>by rw [yaf];exact gu.cell j y hy) underlying54 rfl (by kernel_rfl)) rfl ?_;exact ⟨rfl,h.fin cO fV fF q2 q3 rfl rfl rfl hpb,cO⟩
set_option maxRecDepth 100000 in
theorem Tryz.ZR {A:Nat→Prop} {w:World} {S P L Bs B N b2:Nat} {r:Rg} {s:DS} {g:Nat→Int} {lv:Value} (h:YW A w S P L Bs B N b2 r s g lv) (hp:s.ph=11∨s.ph=14) {s':DS} (hc:(iO g s=true∧s'=s.goto 15)∨(iO g s=false∧(s.ph=11∧s.ev=true)∧s'=s.goto 12)∨(iO g s=false∧(s.ph=14∨s.ev=false)∧s'=({ s with nn:=true }:DS).stop)) (hpb:DB r s'):
    Calls prog 85 #[.pointer (some ⟨S,0,none⟩)] w fun e w'=>e= .returned (.tuple #[.agg #[.int .i64 2,.int .i64 1,.int .i64 s.sx],.int .i64 0])∧YW A w' S P L Bs B N b2 r s' g lv∧Dw.Mv (fun b=>b=S∨b=B) w w':=by
  obtain ⟨au,aj,q1,q2,q3⟩:=h.obj;have hlt:=h.oH;have hbn:=h.rg.bnd;have hd:=h.rg.d;have hN:=h.hN;have hF:=h.fit;have hsx:=h.pb.sx;have hb1:=(yab w.heap.size w).alloc (yaa _) (Obj.cells #[.int .i64 0,.int .i64 0,.int .i64 0] 54);have hbw:=hb1.alloc (by simp) (Obj.cells #[.int .i64 2,.int .i64 1,.int .i64 s.sx] 54);have kX:=(Cl.new w #[.int .i64 0,.int .i64 0,.int .i64 0] 54).alloc (Obj.cells #[.int .i64 2,.int .i64 1,.int .i64 s.sx] 54);have kY:=Cl.new2 (w:=(w.alloc (Obj.cells #[.int .i64 0,.int .i64 0,.int .i64 0] 54))) (b:=w.heap.size+1) (arr:= #[.int .i64 2,.int .i64 1,.int .i64 s.sx]) (t:=54) (by simp);have o1:=q1.below hb1 q1.lt;have c12:=o1.cell 12 _ rfl;have o2:=q1.below hbw q1.lt;have r2:=h.rm.below hbw;have c16:=o2.cell 16 _ rfl;have iU:w.heap.size≠S:=by omega
  have kJ:w.heap.size+1≠S:=by omega
  have mI:w.heap.size≠B:=by omega
  have CY:w.heap.size+1≠B:=by omega
  have hdn:s.dn=false:=h.pb.dn (.inl (by omega));obtain ⟨a,ha,ha2⟩: ∃a:Nat,(a:Int)=r.d+16*s.sx+14∧a+2≤N:=⟨(r.d+16*s.sx+14).toNat,by omega,by omega⟩;have e3:IntKind.wrap .u64 (r.d+16*s.sx+14)=(a:Int):=by rw [wrap_u64 _ (by omega) (by omega)];omega
  have ea:(4096+16*s.sx+14).toNat=a:=by omega
  have hu:iO g s=xI (bW g a 2) s.sw:=by unfold iO;rw [ea]
  rw [hu] at hc;have yw:=sV g h.rm.byte a 2;have mM:=fun (w':World) (q:w'.cell? ⟨S,3,none⟩=some (.int .u64 r.d))=>wV q ⟨by omega,by omega⟩ ⟨hsx.1,by omega⟩;have hld:=fun (w':World) (q:aV w' P L Bs B N g)=>Jr P L Bs B N a 2 g _ q h.hN (by decide) ha2;generalize bW g a 2=f at yw hld hc;have e4:IntKind.wrap .u16 f=f:=tN (by omega) (by omega);have fH:=fun w'=>zqB (b:=s.sw) (f:=f) ⟨yw.1,by omega⟩ w';generalize xI f s.sw=u at fH hc;clear hu hsx hbn hd hN hF ha ha2 ea yw;rcases hp with hp|hp
  all_goals
    rw [hp] at c16 hc;go_enter func85,ntmps85;go_wp2_with fail;generalize ((w.alloc (Obj.cells #[.int .i64 0,.int .i64 0,.int .i64 0] 54)).alloc (Obj.cells #[.int .i64 2,.int .i64 1,.int .i64 s.sx] 54))=w2 at*;have hbd:=(yab w2.heap.size w2).drew;have od:=o2.below hbd o2.lt;have rd:=r2.below hbd;have d3:=od.cell 3 _ rfl;have x0:=o2.cell 0 _ rfl;have rF:=o2.cell 12 _ rfl;have z0:=od.cell 0 _ rfl;have z12:=od.cell 12 _ rfl;go_region_held3 (fun w'=>w'.cell? ⟨S,0,none⟩=some (.pointer (some ⟨P,0,none⟩))∧w'.cell? ⟨S,12,none⟩=some (.int .i64 s.sx)) (go_keep)
      ((first
        | (go_at_call 60;refine (mM _ d3).mono ?_;rintro en w3 ⟨rfl,hw3⟩;have hw3:=hw3.symm;subst hw3)
        | (go_at_call 42;refine (hld _ rd).mono ?_;rintro en w4 ⟨rfl,hb4⟩;have p4:=od.below hb4 od.lt;have v0:=p4.cell 0 _ rfl;have v12:=p4.cell 12 _ rfl)))
    all_goals
      have Ao:=(yab w4.heap.size w4).drew;have lZ:Below w2.heap.size w2 w4.drew:=(hbd.trans hb4).trans (Ao.mono (hbd.trans hb4).size);have o4:=p4.below Ao p4.lt;have oG:=kX.below lZ kX.lt;have mQ:=kY.below lZ kY.lt;have r4:=r2.below lZ;have wE:Dw.Mv (fun b=>b=S∨b=B) w w4.drew:=ah (hbw.trans (lZ.mono hbw.size));have u13:=p4.cell 13 _ rfl;have u16:=p4.cell 16 _ rfl;rw [hp] at u16;have t13:=o4.cell 13 _ rfl;have t16:=o4.cell 16 _ rfl;have t6:=o4.cell 6 _ rfl;rw [hp] at t16;have f16:=o4.free 16;have f18:=o4.free 18;have t18:=o4.cell 18 _ rfl;clear x0 rF z0 z12 d3 v0 v12;go_wp2_with fail;go_cut [7,8] from 43 to 55 (fun v7 v8 wx=>v7= .bool u∧v8= .bool (decide (s.ph=11))∧wx=w4.drew)
      case first=>
        go_region_held3 (fun w'=>w'.cell? ⟨S,13,none⟩=some (.bool s.sw)∧w'.cell? ⟨S,16,none⟩=some (.int .i64 s.ph)) (go_keep)
          ((first
            | (go_at_call 131;refine (fH _).mono ?_;rintro en w6 ⟨rfl,yI⟩;have yI:=yI.symm;subst yI)))
        all_goals
          go_wp2_with fail;go_meet;exact ⟨rfl,by rw [hp];rfl,rfl⟩
      case rest=>
        obtain ⟨h7,h8,hwc⟩:=hcut;rw [hp] at h8
        first|rw [show decide ((11:Nat)=11)=true from rfl] at h8|rw [show decide ((14:Nat)=11)=false from rfl] at h8
        subst h7;subst h8;rw [←hwc] at o4 oG mQ r4 wE t13 t16 t6 f16 f18 t18;clear hwc;rcases hc with ⟨hu,hs'⟩|⟨hu,hq,hs'⟩|⟨hu,hq,hs'⟩
        · subst hu;have hrow:(s.aM r P lv au aj).set 16 (.int .i64 15)=s'.aM r P lv au aj:=by rw [hs'];unfold DS.aM;rw [hdn];rfl
          have p5:=(o4.set 16 (.int .i64 15) (by simp [DS.aM]));rw [hrow] at p5;have aH:=zag (Dw.Mv.refl (· =S) wc) S 16 (.int .i64 15) rfl;have k5:=oG.kept (aH.block _ oG.lt iU);have y5:=mQ.kept (aH.block _ mQ.lt kJ);have r5:=r4.jW aH h.sd;have b0:=k5.cell 0 _ rfl;have b1:=k5.cell 1 _ rfl;have b2':=k5.cell 2 _ rfl;have g0:=k5.free 0;have g1:=k5.free 1;have g2:=k5.free 2;have y0:=y5.cell 0 _ rfl;have y1:=y5.cell 1 _ rfl;have y2:=y5.cell 2 _ rfl;have hmv:Dw.Mv (fun b=>b=S∨b=B) w _:=(wE.trans (aH.mono fun b q=> .inl q));have hL:s'.L=s.L:=by rw [hs'];rfl
          have hsg:s'.sg=s.sg:=by rw [hs'];rfl
          have dS:s'.pu=s.pu:=by rw [hs'];rfl
          clear hrow aH hs';go_wp2_with fail;obtain ⟨cO,gu,fF,fV⟩:=oU hmv k5 p5 r5 hlt (.int .i64 2) (.int .i64 1) (.int .i64 s.sx);refine yap (bU rfl _ _ w.heap.size [.int .i64 2,.int .i64 1,.int .i64 s.sx] _ rfl (fun j y hy=>by rw [yaf];exact gu.cell j y hy) underlying54 rfl (by kernel_rfl)) rfl ?_;exact ⟨rfl,h.fin cO fV fF q2 q3 hL hsg dS hpb,cO⟩
        · subst hu
          first
            | exact absurd hq.1 (by decide)
            | (rw [hq.2] at t6;have hrow:((s.aM r P lv au aj).set 16 (.int .i64 15)).set 16 (.int .i64 12)=s'.aM r P lv au aj:=(by rw [hs'];unfold DS.aM;rw [hdn];rfl);have p5:=((o4.set 16 (.int .i64 15) (by simp [DS.aM])).set 16 (.int .i64 12) (by simp [DS.aM]));rw [hrow] at p5;have aH:=zag (zag (Dw.Mv.refl (· =S) wc) S 16 (.int .i64 15) rfl) S 16 (.int .i64 12) rfl;have k5:=oG.kept (aH.block _ oG.lt iU);have y5:=mQ.kept (aH.block _ mQ.lt kJ);have r5:=r4.jW aH h.sd;have b0:=k5.cell 0 _ rfl;have b1:=k5.cell 1 _ rfl;have b2':=k5.cell 2 _ rfl;have g0:=k5.free 0;have g1:=k5.free 1;have g2:=k5.free 2;have y0:=y5.cell 0 _ rfl;have y1:=y5.cell 1 _ rfl;have y2:=y5.cell 2 _ rfl;have hmv:Dw.Mv (fun b=>b=S∨b=B) w _:=(wE.trans (aH.mono fun b q=> .inl q));have hL:s'.L=s.L:=(by rw [hs'];rfl);have hsg:s'.sg=s.sg:=(by rw [hs'];rfl);have dS:s'.pu=s.pu:=(by rw [hs'];rfl);clear hrow aH hs';go_wp2_with fail;obtain ⟨cO,gu,fF,fV⟩:=oU hmv k5 p5 r5 hlt (.int .i64 2) (.int .i64 1) (.int .i64 s.sx);refine yap (bU rfl _ _ w.heap.size [.int .i64 2,.int .i64 1,.int .i64 s.sx] _ rfl (fun j y hy=>by rw [yaf];exact gu.cell j y hy) underlying54 rfl (by kernel_rfl)) rfl ?_;exact ⟨rfl,h.fin cO fV fF q2 q3 hL hsg dS hpb,cO⟩)
        · subst hu
          first|(have hq:=hq.resolve_left (by decide);rw [hq] at t6)|skip
          have oe:=((o4.set 16 (.int .i64 15) (by simp [DS.aM])).set 18 (.bool true) (by simp [DS.aM]));have t16:=oe.cell 16 _ rfl;have t22:=oe.cell 22 _ rfl;have CB:=oe.free 16;have CF:=oe.free 22;have hend:=Qe t16 t22 CB CF;have hrow:((((s.aM r P lv au aj).set 16 (.int .i64 15)).set 18 (.bool true)).set 16 (.int .i64 0)).set 22 (.bool true)=s'.aM r P lv au aj:=by rw [hs'];unfold DS.aM;rw [hdn];rfl
          have p5:=((((o4.set 16 (.int .i64 15) (by simp [DS.aM])).set 18 (.bool true) (by simp [DS.aM])).set 16 (.int .i64 0) (by simp [DS.aM])).set 22 (.bool true) (by simp [DS.aM]));rw [hrow] at p5;have aH:=zag (zag (zag (zag (Dw.Mv.refl (· =S) wc) S 16 (.int .i64 15) rfl) S 18 (.bool true) rfl) S 16 (.int .i64 0) rfl) S 22 (.bool true) rfl;have k5:=oG.kept (aH.block _ oG.lt iU);have y5:=mQ.kept (aH.block _ mQ.lt kJ);have r5:=r4.jW aH h.sd;have b0:=k5.cell 0 _ rfl;have b1:=k5.cell 1 _ rfl;have b2':=k5.cell 2 _ rfl;have g0:=k5.free 0;have g1:=k5.free 1;have g2:=k5.free 2;have y0:=y5.cell 0 _ rfl;have y1:=y5.cell 1 _ rfl;have y2:=y5.cell 2 _ rfl;have hmv:Dw.Mv (fun b=>b=S∨b=B) w _:=(wE.trans (aH.mono fun b q=> .inl q));have hL:s'.L=s.L:=by rw [hs'];rfl
          have hsg:s'.sg=s.sg:=by rw [hs'];rfl
          have dS:s'.pu=s.pu:=by rw [hs'];rfl
          clear hrow aH hs';go_wp2_with (first
            | (go_at_call 88;refine hend.mono ?_;rintro en w7 ⟨rfl,hw7⟩;have hw7:=hw7.symm;subst hw7)
            | go_in)
          obtain ⟨cO,gu,fF,fV⟩:=oU hmv k5 p5 r5 hlt (.int .i64 2) (.int .i64 1) (.int .i64 s.sx);refine yap (bU rfl _ _ w.heap.size [.int .i64 2,.int .i64 1,.int .i64 s.sx] _ rfl (fun j y hy=>by rw [yaf];exact gu.cell j y hy) underlying54 rfl (by kernel_rfl)) rfl ?_;exact ⟨rfl,h.fin cO fV fF q2 q3 hL hsg dS hpb,cO⟩
set_option maxRecDepth 100000 in
theorem Tryz.ztu {A:Nat→Prop} {w:World} {S P L Bs B N b2:Nat} {r:Rg} {s:DS} {g:Nat→Int} {lv:Value} (h:YW A w S P L Bs B N b2 r s g lv) (hp:s.ph=12) (hpb:DB r (s.goto 13)):
    Calls prog 85 #[.pointer (some ⟨S,0,none⟩)] w fun e w'=>e= .returned (.tuple #[.agg #[.int .i64 3,.int .i64 10,.int .i64 0],.int .i64 0])∧YW A w' S P L Bs B N b2 r (s.goto 13) (iK g r.v.toNat 4 (sQ s.sx s.sw+131072)) lv∧Dw.Mv (fun b=>b=S∨b=B) w w':=by
  obtain ⟨au,aj,q1,q2,q3⟩:=h.obj;have hlt:=h.oH;have hbn:=h.rg.bnd;have hd:=h.rg.d;have hN:=h.hN;have hF:=h.fit;have hsx:=h.pb.sx;have hb1:=(yab w.heap.size w).alloc (yaa _) (Obj.cells #[.int .i64 0,.int .i64 0,.int .i64 0] 54);have hbw:=hb1.alloc (by simp) (Obj.cells #[.int .i64 2,.int .i64 1,.int .i64 s.sx] 54);have kX:=(Cl.new w #[.int .i64 0,.int .i64 0,.int .i64 0] 54).alloc (Obj.cells #[.int .i64 2,.int .i64 1,.int .i64 s.sx] 54);have kY:=Cl.new2 (w:=(w.alloc (Obj.cells #[.int .i64 0,.int .i64 0,.int .i64 0] 54))) (b:=w.heap.size+1) (arr:= #[.int .i64 2,.int .i64 1,.int .i64 s.sx]) (t:=54) (by simp);have o1:=q1.below hb1 q1.lt;have c12:=o1.cell 12 _ rfl;have o2:=q1.below hbw q1.lt;have r2:=h.rm.below hbw;have c16:=o2.cell 16 _ rfl;have iU:w.heap.size≠S:=by omega
  have kJ:w.heap.size+1≠S:=by omega
  have mI:w.heap.size≠B:=by omega
  have CY:w.heap.size+1≠B:=by omega
  have hv:=h.rg.v;have hdn:s.dn=false:=h.pb.dn (.inl (by omega));rw [hp] at c16;have bD:Dw.Mv (· =S) ((w.alloc (Obj.cells #[.int .i64 0,.int .i64 0,.int .i64 0] 54)).alloc (Obj.cells #[.int .i64 2,.int .i64 1,.int .i64 s.sx] 54)) (((w.alloc (Obj.cells #[.int .i64 0,.int .i64 0,.int .i64 0] 54)).alloc (Obj.cells #[.int .i64 2,.int .i64 1,.int .i64 s.sx] 54)).setCell ⟨S,16,none⟩ (.int .i64 13)):=zag (K:=(· =S)) (ah (yab _ _)) S 16 _ rfl;have jg:Dw.Mv (fun b=>b=S∨b=B) w (((w.alloc (Obj.cells #[.int .i64 0,.int .i64 0,.int .i64 0] 54)).alloc (Obj.cells #[.int .i64 2,.int .i64 1,.int .i64 s.sx] 54)).setCell ⟨S,16,none⟩ (.int .i64 13)):=(ah hbw).trans (bD.mono fun b q=> .inl q);have hrow:(s.aM r P lv au aj).set 16 (.int .i64 13)=(s.goto 13).aM r P lv au aj:=by
    unfold DS.aM;rw [hdn];rfl
  have f16:=o2.free 16;have o3:=o2.set 16 (.int .i64 13) (by simp [DS.aM]);rw [hrow] at o3;have AL:=kX.kept (bD.block _ kX.lt iU);have Tq:=kY.kept (bD.block _ kY.lt kJ);have r3:=r2.jW bD h.sd;obtain ⟨a,ha,ha2⟩: ∃a:Nat,r.v=a∧a+4≤N:=⟨r.v.toNat,by omega,by omega⟩;have ea:r.v.toNat=a:=by omega
  have hpw:=fun w'=>zqK (a:=s.sx) (x:=s.sw) ⟨hsx.1,by omega⟩ w';have hpi:=zrm (a:=s.sx) (x:=s.sw) ⟨hsx.1,by omega⟩;rw [ea];generalize sQ s.sx s.sw=f at hpw hpi;unfold bM at hpw;have hev:=fun w'=>ztt hpi w';have hst:=fun w' (hg:aV w' P L Bs B N g)=>uS P L Bs B N a 4 (f+131072) g w' hg h.hN (by decide) ha2;have hc4: ∀ {w':World},Cl w' S ((s.goto 13).aM r P lv au aj)→w'.cell? ⟨S,4,none⟩=some (.int .u64 a):=fun q=>ha▸q.cell 4 _ rfl;replace hlt:aA _:=⟨hlt⟩;clear hsx hbn hd hN hF hv ha ha2 ea hpi hb1 hbw hdn hrow bD kX kY r2;have qK:=h.sd.2.2.2;go_enter func85,ntmps85;go_wp2_with fail;clear c12 c16 f16 o1 o2;generalize (((w.alloc (Obj.cells #[.int .i64 0,.int .i64 0,.int .i64 0] 54)).alloc (Obj.cells #[.int .i64 2,.int .i64 1,.int .i64 s.sx] 54)).setCell ⟨S,16,none⟩ (.int .i64 13))=w3 at*;have hbd:=(yab w3.heap.size w3).drew;have od:=o3.below hbd o3.lt;have kd:=AL.below hbd AL.lt;have rd:=r3.below hbd;have x0:=o3.cell 0 _ rfl;have x4:=hc4 o3;have rF:=o3.cell 12 (.int .i64 s.sx) rfl;have Ui:=o3.cell 13 (.bool s.sw) rfl;have z0:=od.cell 0 _ rfl;have z4:=hc4 od;have z12:=od.cell 12 (.int .i64 s.sx) rfl;have wR:=od.cell 13 (.bool s.sw) rfl;go_region_held3 (fun w'=>w'.cell? ⟨S,0,none⟩=some (.pointer (some ⟨P,0,none⟩))∧w'.cell? ⟨S,4,none⟩=some (.int .u64 a)∧w'.cell? ⟨S,12,none⟩=some (.int .i64 s.sx)∧w'.cell? ⟨S,13,none⟩=some (.bool s.sw)) (go_keep)
    ((first
      | (go_at_call 133;refine (hpw _).mono ?_;rintro en w4 ⟨rfl,hb4⟩;have r4:=rd.below hb4;have p4:=od.below hb4 od.lt;have k4:=kd.below hb4 kd.lt;have y0:=p4.cell 0 _ rfl;have y4:=hc4 p4;have Nl:=p4.cell 12 (.int .i64 s.sx) rfl;have y13:=p4.cell 13 (.bool s.sw) rfl)
      | (go_at_call 132;refine (hev _).mono ?_;rintro en w6 ⟨rfl,hb6⟩;have r6:=r4.below hb6;have p6:=p4.below hb6 p4.lt;have k6:=k4.below hb6 k4.lt;have v0:=p6.cell 0 _ rfl;have v4:=hc4 p6;have v12:=p6.cell 12 (.int .i64 s.sx) rfl;have v13:=p6.cell 13 (.bool s.sw) rfl)
      | (go_at_call 19;refine (hst _ r6).mono ?_;rintro en w5 ⟨rfl,r5,aH⟩;have p5:=p6.kept (aH.block S p6.lt qK);have k5:=k6.kept (aH.block _ k6.lt mI);have u0:=p5.cell 0 _ rfl;have u4:=hc4 p5;have u12:=p5.cell 12 (.int .i64 s.sx) rfl;have u13:=p5.cell 13 (.bool s.sw) rfl)))
  all_goals
    have hmv:Dw.Mv (fun b=>b=S∨b=B) w w5:=(((jg.trans (ah hbd)).trans (ah hb4)).trans (ah hb6)).trans ((ku aH).mono fun b q=> .inr q);have b0:=k5.cell 0 _ rfl;have b1:=k5.cell 1 _ rfl;have b2':=k5.cell 2 _ rfl;have g0:=k5.free 0;have g1:=k5.free 1;have g2:=k5.free 2;go_wp2_with fail;obtain ⟨cO,gu,fF,fV⟩:=oU hmv k5 p5 r5 hlt.out (.int .i64 3) (.int .i64 10) (.int .i64 0);refine yap (bU rfl _ _ w.heap.size [.int .i64 3,.int .i64 10,.int .i64 0] _ rfl (fun j y hy=>by rw [yaf];exact gu.cell j y hy) underlying54 rfl (by kernel_rfl)) rfl ?_;exact ⟨rfl,h.fin cO fV fF q2 q3 rfl rfl rfl hpb,cO⟩
set_option maxRecDepth 100000 in
theorem Tryz.zmD {A:Nat→Prop} {w:World} {S P L Bs B N b2:Nat} {r:Rg} {s:DS} {g:Nat→Int} {lv:Value} (h:YW A w S P L Bs B N b2 r s g lv) (hp:s.ph=13) (hpb:DB r (s.goto 14)):
  Calls prog 85 #[.pointer (some ⟨S,0,none⟩)] w fun e w'=>e= .returned (.tuple #[.agg #[.int .i64 4,.int .i64 0,.int .i64 0],.int .i64 0])∧YW A w' S P L Bs B N b2 r (s.goto 14) g lv∧Dw.Mv (fun b=>b=S∨b=B) w w':=by
 obtain ⟨au,aj,q1,q2,q3⟩:=h.obj;have hlt:=h.oH;have hbn:=h.rg.bnd;have hd:=h.rg.d;have hN:=h.hN;have hF:=h.fit;have hsx:=h.pb.sx;have hb1:=(yab w.heap.size w).alloc (yaa _) (Obj.cells #[.int .i64 0,.int .i64 0,.int .i64 0] 54);have hbw:=hb1.alloc (by simp) (Obj.cells #[.int .i64 2,.int .i64 1,.int .i64 s.sx] 54);have kX:=(Cl.new w #[.int .i64 0,.int .i64 0,.int .i64 0] 54).alloc (Obj.cells #[.int .i64 2,.int .i64 1,.int .i64 s.sx] 54);have kY:=Cl.new2 (w:=(w.alloc (Obj.cells #[.int .i64 0,.int .i64 0,.int .i64 0] 54))) (b:=w.heap.size+1) (arr:= #[.int .i64 2,.int .i64 1,.int .i64 s.sx]) (t:=54) (by simp);have o1:=q1.below hb1 q1.lt;have c12:=o1.cell 12 _ rfl;have o2:=q1.below hbw q1.lt;have r2:=h.rm.below hbw;have c16:=o2.cell 16 _ rfl;have iU:w.heap.size≠S:=by omega
 have kJ:w.heap.size+1≠S:=by omega
 have mI:w.heap.size≠B:=by omega
 have CY:w.heap.size+1≠B:=by omega
 have hdn:s.dn=false:=h.pb.dn (.inl (by omega));rw [hp] at c16;have bD:Dw.Mv (· =S) ((w.alloc (Obj.cells #[.int .i64 0,.int .i64 0,.int .i64 0] 54)).alloc (Obj.cells #[.int .i64 2,.int .i64 1,.int .i64 s.sx] 54)) (((w.alloc (Obj.cells #[.int .i64 0,.int .i64 0,.int .i64 0] 54)).alloc (Obj.cells #[.int .i64 2,.int .i64 1,.int .i64 s.sx] 54)).setCell ⟨S,16,none⟩ (.int .i64 14)):=zag (K:=(· =S)) (ah (yab _ _)) S 16 _ rfl;have jg:Dw.Mv (fun b=>b=S∨b=B) w (((w.alloc (Obj.cells #[.int .i64 0,.int .i64 0,.int .i64 0] 54)).alloc (Obj.cells #[.int .i64 2,.int .i64 1,.int .i64 s.sx] 54)).setCell ⟨S,16,none⟩ (.int .i64 14)):=(ah hbw).trans (bD.mono fun b q=> .inl q);have hrow:(s.aM r P lv au aj).set 16 (.int .i64 14)=(s.goto 14).aM r P lv au aj:=by
  unfold DS.aM;rw [hdn];rfl
 have f16:=o2.free 16;have o3:=o2.set 16 (.int .i64 14) (by simp [DS.aM]);rw [hrow] at o3;have AL:=kX.kept (bD.block _ kX.lt iU);have Tq:=kY.kept (bD.block _ kY.lt kJ);have r3:=r2.jW bD h.sd;have k5:=AL;have p5:=o3;have r5:=r3;have hmv:=jg;have b0:=k5.cell 0 _ rfl;have b1:=k5.cell 1 _ rfl;have b2':=k5.cell 2 _ rfl;have g0:=k5.free 0;have g1:=k5.free 1;have g2:=k5.free 2;obtain ⟨cO,gu,fF,fV⟩:=oU hmv k5 p5 r5 hlt (.int .i64 4) (.int .i64 0) (.int .i64 0);have hY:=h.fin cO fV fF q2 q3 rfl rfl rfl hpb;clear hlt hsx hbn hd hN hF hb1 hbw hdn hrow bD kX kY r2 fF fV;go_enter func85,ntmps85;go_wp2_with fail;refine yap (bU rfl _ _ w.heap.size [.int .i64 4,.int .i64 0,.int .i64 0] _ rfl (fun j y hy=>by rw [yaf];exact gu.cell j y hy) underlying54 rfl (by kernel_rfl)) rfl ?_;exact ⟨rfl,hY,cO⟩
set_option maxRecDepth 100000 in
theorem Tryz.zmC {A:Nat→Prop} {w:World} {S P L Bs B N b2:Nat} {r:Rg} {s:DS} {g:Nat→Int} {lv:Value} (h:YW A w S P L Bs B N b2 r s g lv) (hp:s.ph=15) (hpb:DB r (s.goto 16)):
  Calls prog 85 #[.pointer (some ⟨S,0,none⟩)] w fun e w'=>e= .returned (.tuple #[.agg #[.int .i64 4,.int .i64 0,.int .i64 0],.int .i64 0])∧YW A w' S P L Bs B N b2 r (s.goto 16) g lv∧Dw.Mv (fun b=>b=S∨b=B) w w':=by
 obtain ⟨au,aj,q1,q2,q3⟩:=h.obj;have hlt:=h.oH;have hbn:=h.rg.bnd;have hd:=h.rg.d;have hN:=h.hN;have hF:=h.fit;have hsx:=h.pb.sx;have hb1:=(yab w.heap.size w).alloc (yaa _) (Obj.cells #[.int .i64 0,.int .i64 0,.int .i64 0] 54);have hbw:=hb1.alloc (by simp) (Obj.cells #[.int .i64 2,.int .i64 1,.int .i64 s.sx] 54);have kX:=(Cl.new w #[.int .i64 0,.int .i64 0,.int .i64 0] 54).alloc (Obj.cells #[.int .i64 2,.int .i64 1,.int .i64 s.sx] 54);have kY:=Cl.new2 (w:=(w.alloc (Obj.cells #[.int .i64 0,.int .i64 0,.int .i64 0] 54))) (b:=w.heap.size+1) (arr:= #[.int .i64 2,.int .i64 1,.int .i64 s.sx]) (t:=54) (by simp);have o1:=q1.below hb1 q1.lt;have c12:=o1.cell 12 _ rfl;have o2:=q1.below hbw q1.lt;have r2:=h.rm.below hbw;have c16:=o2.cell 16 _ rfl;have iU:w.heap.size≠S:=by omega
 have kJ:w.heap.size+1≠S:=by omega
 have mI:w.heap.size≠B:=by omega
 have CY:w.heap.size+1≠B:=by omega
 have hdn:s.dn=false:=h.pb.dn (.inl (by omega));rw [hp] at c16;have bD:Dw.Mv (· =S) ((w.alloc (Obj.cells #[.int .i64 0,.int .i64 0,.int .i64 0] 54)).alloc (Obj.cells #[.int .i64 2,.int .i64 1,.int .i64 s.sx] 54)) (((w.alloc (Obj.cells #[.int .i64 0,.int .i64 0,.int .i64 0] 54)).alloc (Obj.cells #[.int .i64 2,.int .i64 1,.int .i64 s.sx] 54)).setCell ⟨S,16,none⟩ (.int .i64 16)):=zag (K:=(· =S)) (ah (yab _ _)) S 16 _ rfl;have jg:Dw.Mv (fun b=>b=S∨b=B) w (((w.alloc (Obj.cells #[.int .i64 0,.int .i64 0,.int .i64 0] 54)).alloc (Obj.cells #[.int .i64 2,.int .i64 1,.int .i64 s.sx] 54)).setCell ⟨S,16,none⟩ (.int .i64 16)):=(ah hbw).trans (bD.mono fun b q=> .inl q);have hrow:(s.aM r P lv au aj).set 16 (.int .i64 16)=(s.goto 16).aM r P lv au aj:=by
  unfold DS.aM;rw [hdn];rfl
 have f16:=o2.free 16;have o3:=o2.set 16 (.int .i64 16) (by simp [DS.aM]);rw [hrow] at o3;have AL:=kX.kept (bD.block _ kX.lt iU);have Tq:=kY.kept (bD.block _ kY.lt kJ);have r3:=r2.jW bD h.sd;have k5:=AL;have p5:=o3;have r5:=r3;have hmv:=jg;have b0:=k5.cell 0 _ rfl;have b1:=k5.cell 1 _ rfl;have b2':=k5.cell 2 _ rfl;have g0:=k5.free 0;have g1:=k5.free 1;have g2:=k5.free 2;obtain ⟨cO,gu,fF,fV⟩:=oU hmv k5 p5 r5 hlt (.int .i64 4) (.int .i64 0) (.int .i64 0);have hY:=h.fin cO fV fF q2 q3 rfl rfl rfl hpb;clear hlt hsx hbn hd hN hF hb1 hbw hdn hrow bD kX kY r2 fF fV;go_enter func85,ntmps85;go_wp2_with fail;refine yap (bU rfl _ _ w.heap.size [.int .i64 4,.int .i64 0,.int .i64 0] _ rfl (fun j y hy=>by rw [yaf];exact gu.cell j y hy) underlying54 rfl (by kernel_rfl)) rfl ?_;exact ⟨rfl,hY,cO⟩
theorem Tryz.zuE {L:List DO} {id:Int} {e:DO} (h:fA L id=some e): ∃(k:Nat) (hk:k<L.length),L[k]=e∧e.id=id∧ ∀(j:Nat) (hj:j<k),L[j].id≠id:=by
 unfold fA at h;rw [List.find?_eq_some_iff_getElem] at h;obtain ⟨h1,k,hk,h2,h3⟩:=h;exact ⟨k,hk,h2,by simpa using h1,fun j hj=>by simpa using h3 j hj⟩
theorem Tryz.zpW {L:List DO} {id:Int} (h:fA L id=none): ∀(j:Nat) (hj:j<L.length),L[j].id≠id:=fun j hj=>by
 unfold fA at h;rw [ydl] at h;simpa using h L[j] (yaA hj)
theorem Tryz.Za: ∀ {L:List DO} {k:Nat} (hk:k<L.length) {id:Int},L[k].id=id→(∀(j:Nat) (hj:j<k),L[j].id≠id)→dJ L id=L.take k++L.drop (k+1)
 | x::r,0,_,id,h,_=>by
  have h:x.id=id:=h;unfold dJ;rw [ycZ (by simpa using h)];simp
 | x::r,k+1,hk,id,h,hall=>by
  have h0:x.id≠id:=hall 0 (by omega);have:=Za (L:=r) (k:=k) (by simpa using hk) (id:=id) (by simpa using h) fun j hj=>by simpa using hall (j+1) (by omega)
  unfold dJ at this ⊢;rw [ycm (by simpa using h0),this];simp
theorem Tryz.Bp (a b:List DO):cK (a++b)=cK a++cK b:=ycJ
theorem Tryz.zjH (L:List DO) (k:Nat) (hk:k≤L.length):(cK L).take (k*3)=cK (L.take k):=by
 conv=>lhs;rw [←yct k L,Bp]
 rw [List.take_append_of_le_length (by rw [oK,ya1];omega),yb4 (by rw [oK,ya1];omega)]
theorem Tryz.zjI (L:List DO) (k:Nat) (hk:k≤L.length):(cK L).drop (k*3)=cK (L.drop k):=by
 conv=>lhs;rw [←yct k L,Bp]
 have hl:(cK (L.take k)).length=k*3:=by rw [oK,ya1];omega
 rw [←hl,List.drop_left]
theorem Tryz.zlm (L:List DO): ∀u∈cK L,u.oneCell'=true:=fun u hu=>by
 obtain ⟨e,_,he⟩:=ydx.1 hu;simp only [DO.cells,yaj,yaq,yaZ] at he;rcases he with rfl|rfl|rfl<;>rfl
set_option maxRecDepth 100000 in
theorem Tryz.Jy:(prog.info? 69).map (fun i=>(i.zero,i.size,i.bytes))=some (some (.agg #[.int .i64 0,.int .i64 0,.int .i64 0]),3,24):=by kernel_rfl
section
variable {A A':Nat→Prop} {w w':World} {S P L Bs B N b2:Nat} {r:Tryz.Rg} {s s':Tryz.DS} {g g':Nat→Int} {lv bG:Value}
theorem Tryz.YW.aaj (h:YW A w S P L Bs B N b2 r s g lv) (hm:Dw.Mv (fun b=>b=S∨b=B) w w') (hr:aV w' P L Bs B N g') {au aj:Value} (hc:Cl w' S (s'.aM r P bG au aj)) (q2:bC (fun b=>A b∨lv.ownBlock=some b) w au s.sg) (q3:gV (fun b=>A b∨lv.ownBlock=some b) w aj s.pu) (hsg:s'.sg=s.sg) (dS:s'.pu=s.pu) (hp:DB r s') {t:TypeId} (hrow:af t 3 w' b2 bG s'.L.length (cK s'.L)) (hlv: ∀b,bG.ownBlock=some b→w.heap.size≤b):YW A w' S P L Bs B N b2 r s' g' bG:=by
 have hA: ∀b,b<w.heap.size→(A b∨bG.ownBlock=some b)→(A b∨lv.ownBlock=some b):=fun b hb q=>q.elim .inl fun e=>by have:=hlv b e;omega
 have hk: ∀b,b<w.heap.size→ ¬(A b∨lv.ownBlock=some b)→w'.heap[b]? =w.heap[b]? :=fun b hb hn=>hm.block b hb fun e=>hn (.inl (by
  rcases e with e|e
  ·exact e▸h.aS
  ·exact e▸h.aB))
 exact ⟨⟨au,aj,hc,hsg▸q2.aZ hA hk,dS▸q3.aZ hA hk⟩,⟨t,hrow⟩,hr,h.aS,h.aB,fun b hb=>yae (h.lt b hb) hm.size,h.lo,yas h.b2 hm.size,h.sd,h.rg,hp,h.hN,h.fit⟩
end
set_option maxRecDepth 100000 in
theorem Tryz.ztw {A:Nat→Prop} {w:World} {S P L Bs B N b2:Nat} {r:Rg} {s:DS} {g:Nat→Int} {lv:Value} (h:YW A w S P L Bs B N b2 r s g lv) (hp:s.ph=16) (hget:fA s.L (bW g (4096+16*s.sx+8).toNat 8/4294967296%65536)=none) (hpb:DB r s.brk):
    Calls prog 85 #[.pointer (some ⟨S,0,none⟩)] w fun e w'=>e= .returned (.tuple #[.agg #[.int .i64 2,.int .i64 1,.int .i64 s.sx],.int .i64 4])∧YW A w' S P L Bs B N b2 r s.brk g lv∧Dw.Mv (fun b=>b=S∨b=B) w w':=by
  obtain ⟨au,aj,q1,q2,q3⟩:=h.obj;have hlt:=h.oH;have hbn:=h.rg.bnd;have hd:=h.rg.d;have hN:=h.hN;have hF:=h.fit;have hsx:=h.pb.sx;have hb1:=(yab w.heap.size w).alloc (yaa _) (Obj.cells #[.int .i64 0,.int .i64 0,.int .i64 0] 54);have hbw:=hb1.alloc (by simp) (Obj.cells #[.int .i64 2,.int .i64 1,.int .i64 s.sx] 54);have kX:=(Cl.new w #[.int .i64 0,.int .i64 0,.int .i64 0] 54).alloc (Obj.cells #[.int .i64 2,.int .i64 1,.int .i64 s.sx] 54);have kY:=Cl.new2 (w:=(w.alloc (Obj.cells #[.int .i64 0,.int .i64 0,.int .i64 0] 54))) (b:=w.heap.size+1) (arr:= #[.int .i64 2,.int .i64 1,.int .i64 s.sx]) (t:=54) (by simp);have o1:=q1.below hb1 q1.lt;have c12:=o1.cell 12 _ rfl;have o2:=q1.below hbw q1.lt;have r2:=h.rm.below hbw;have c16:=o2.cell 16 _ rfl;have iU:w.heap.size≠S:=by omega
  have kJ:w.heap.size+1≠S:=by omega
  have mI:w.heap.size≠B:=by omega
  have CY:w.heap.size+1≠B:=by omega
  have hdn:s.dn=false:=h.pb.dn (.inl (by omega));rw [hp] at c16;obtain ⟨a,ha,ha2⟩: ∃a:Nat,(a:Int)=r.d+16*s.sx+8∧a+8≤N:=⟨(r.d+16*s.sx+8).toNat,by omega,by omega⟩;have e3:IntKind.wrap .u64 (r.d+16*s.sx+8)=(a:Int):=by rw [wrap_u64 _ (by omega) (by omega)];omega
  have ea:(4096+16*s.sx+8).toNat=a:=by omega
  rw [ea] at hget;have hwb:=sV g h.rm.byte a 8;have mM:=fun (w':World) (q:w'.cell? ⟨S,3,none⟩=some (.int .u64 r.d))=>wV q ⟨by omega,by omega⟩ ⟨hsx.1,by omega⟩;have hld:=fun (w':World) (q:aV w' P L Bs B N g)=>Jr P L Bs B N a 8 g _ q h.hN (by decide) ha2;generalize bW g a 8=wv at hwb hld hget;have qX:0≤wv∧wv<18446744073709551616:=⟨hwb.1,by omega⟩;have t1:(wv/4294967296).tmod 65536=wv/4294967296%65536:=ybK (by omega);have t2:wv.tmod 4294967296=wv%4294967296:=ybK (by omega);have t3:IntKind.wrap .i64 (wv/4294967296%65536)=wv/4294967296%65536:=dV (by omega) (by omega);have t4:IntKind.wrap .u32 (wv%4294967296)=wv%4294967296:=by unfold IntKind.wrap;simp [IntKind.signed,IntKind.bits]
  have t5:wv/4294967296%65536%18446744073709551616=wv/4294967296%65536:=by omega
  have hno:=zpW hget;obtain ⟨ty,hrow⟩:=h.row;obtain ⟨sa,c,hlv,fO⟩:=af.row hrow;have hcap:0<s.L.length→s.L.length≤c:=fun q=>by rw [hlv] at hrow;exact af.cap hrow q
  have Ac:s.L.length≤100000:=by
    have:=gT fun x hx=>(h.pb.el x hx).2.2.1;have:=h.pb.sum;have:=h.pb.own;omega
  clear hsx hbn hd hN hF ha ha2 ea hget hwb qX hdn;replace hlt:aA _:=⟨hlt⟩;replace hlv:aA _:=⟨hlv⟩;go_enter func85,ntmps85;go_wp2_with fail;generalize ((w.alloc (Obj.cells #[.int .i64 0,.int .i64 0,.int .i64 0] 54)).alloc (Obj.cells #[.int .i64 2,.int .i64 1,.int .i64 s.sx] 54))=w2 at*;have hbd:=(yab w2.heap.size w2).drew;have od:=o2.below hbd o2.lt;have rd:=r2.below hbd;have d3:=od.cell 3 _ rfl;have x0:=o2.cell 0 _ rfl;have rF:=o2.cell 12 _ rfl;have z0:=od.cell 0 _ rfl;have z12:=od.cell 12 _ rfl;go_region_held3 (fun w'=>w'.cell? ⟨S,0,none⟩=some (.pointer (some ⟨P,0,none⟩))∧w'.cell? ⟨S,12,none⟩=some (.int .i64 s.sx)) (go_keep)
    ((first
      | (go_at_call 60;refine (mM _ d3).mono ?_;rintro en w3 ⟨rfl,hw3⟩;have hw3:=hw3.symm;subst hw3)
      | (go_at_call 42;refine (hld _ rd).mono ?_;rintro en w4 ⟨rfl,hb4⟩;have o4:=od.below hb4 od.lt;have v0:=o4.cell 0 _ rfl;have v12:=o4.cell 12 _ rfl)))
  have lZ:Below w2.heap.size w2 w4:=hbd.trans hb4;have oG:=kX.below lZ kX.lt;have mQ:=kY.below lZ kY.lt;have r4:=r2.below lZ;have Ar:Below w.heap.size w w4:=hbw.trans (lZ.mono hbw.size);have wE:Dw.Mv (fun b=>b=S∨b=B) w w4:=ah Ar;have Hw:=o4.cell 15 _ rfl;clear x0 rF z0 z12 d3 v0 v12 hld mM rd od hbd c12 c16 o1 o2 kX kY r2 lZ hb4 hbw hb1;clear w2;rw [hlv.out] at Hw;go_wp2_with fail;go_loopw [13] (fun x wr=>wr=w4∧ ∃k:Nat,k≤s.L.length∧x= .int .i64 k∧ ∀(j:Nat) (hj:j<s.L.length),j<k→s.L[j].id≠wv/4294967296%65536) (fun x _=>s.L.length-(RowKit.intOf x).toNat)
  case atStart=>exact ⟨rfl,0,yar _,rfl,fun j _ hj=>absurd hj (by omega)⟩
  case round=>
    obtain ⟨rfl,k,hk,rfl,hall⟩:=hrel;by_cases hkl:k<s.L.length
    · have hkl':(k:Int)<s.L.length:=by omega
      obtain ⟨G,hsa,iT,hr⟩:=fO.resolve_left (by intro e;have:=yaB List.length e;rw [oK] at this;simp only [ybm] at this;omega);have hr4:=aX hr (Ar.block G (hrow.lt G iT).2);have e1:=hr4 _ _ (uV s.L k hkl).1;rw [yaf] at e1;rw [hsa] at Hw;have hid:=hno k hkl;clear hr hr4 fO hsa hno;by_cases aaJ:False
      · exact aaJ.elim
      · have uE:(s.L[k].id==wv/4294967296%65536)=false:=by simpa using hid
        generalize hx:s.L[k].id=x at e1 hid uE;go_wp2;refine ⟨⟨trivial,k+1,by omega,by push_cast;rfl,fun j hj hlt=> ?_⟩,by simp only [RowKit.intOf];omega⟩;by_cases hjk:j=k
        · subst hjk;rw [hx];exact hid
        · exact hall j hj (by omega)
    · have hkl': ¬(k:Int)<s.L.length:=by omega
      have hkq:(s.L.length:Int)≤k:=by omega
      have p5:=((((((((o4.set 23 (.bool true) (by simp [DS.aM])).set 16 (.int .i64 0) (by simp [DS.aM])).set 22 (.bool false) (by simp [DS.aM])).set 17 (.int .i64 0) (by simp [DS.aM])).set 18 (.bool false) (by simp [DS.aM])).set 19 (.int .i64 0) (by simp [DS.aM])).set 20 (.int .u32 0) (by simp [DS.aM])).set 21 (.bool false) (by simp [DS.aM]));have yH:((((((((s.aM r P lv au aj).set 23 (.bool true)).set 16 (.int .i64 0)).set 22 (.bool false)).set 17 (.int .i64 0)).set 18 (.bool false)).set 19 (.int .i64 0)).set 20 (.int .u32 0)).set 21 (.bool false)=s.brk.aM r P lv au aj:=rfl;rw [yH] at p5;have aH:=zag (zag (zag (zag (zag (zag (zag (zag (Dw.Mv.refl (· =S) wr) S 23 (.bool true) rfl) S 16 (.int .i64 0) rfl) S 22 (.bool false) rfl) S 17 (.int .i64 0) rfl) S 18 (.bool false) rfl) S 19 (.int .i64 0) rfl) S 20 (.int .u32 0) rfl) S 21 (.bool false) rfl;have k5:=oG.kept (aH.block _ oG.lt iU);have y5:=mQ.kept (aH.block _ mQ.lt kJ);have r5:=r4.jW aH h.sd;have hmv:Dw.Mv (fun b=>b=S∨b=B) w _:=wE.trans (aH.mono fun b q=> .inl q);have b0:=k5.cell 0 _ rfl;have b1:=k5.cell 1 _ rfl;have b2':=k5.cell 2 _ rfl;have g0:=k5.free 0;have g1:=k5.free 1;have g2:=k5.free 2;have y0:=y5.cell 0 _ rfl;have y1:=y5.cell 1 _ rfl;have y2:=y5.cell 2 _ rfl;have f16:=o4.free 16;have m16:=o4.cell 16 _ rfl;have f17:=o4.free 17;have m17:=o4.cell 17 _ rfl;have f18:=o4.free 18;have m18:=o4.cell 18 _ rfl;have f19:=o4.free 19;have m19:=o4.cell 19 _ rfl;have f20:=o4.free 20;have m20:=o4.cell 20 _ rfl;have f21:=o4.free 21;have m21:=o4.cell 21 _ rfl;have f22:=o4.free 22;have m22:=o4.cell 22 _ rfl;have f23:=o4.free 23;have m23:=o4.cell 23 _ rfl;obtain ⟨cO,gu,fF,fV⟩:=oU hmv k5 p5 r5 hlt.out (.int .i64 2) (.int .i64 1) (.int .i64 s.sx);have hY:=h.fin cO fV fF q2 q3 rfl rfl rfl hpb;clear fO hno hrow hcap yH p5 aH hmv fF fV q1;go_wp2_with fail;refine yap (bU rfl _ _ w.heap.size [.int .i64 2,.int .i64 1,.int .i64 s.sx] _ rfl (fun j y hy=>by rw [yaf];exact gu.cell j y hy) underlying54 rfl (by kernel_rfl)) rfl ?_;exact ⟨rfl,hY,cO⟩
end Go.Proofs
end
