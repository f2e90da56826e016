/-
  Proved: laws on the way to 'PdriveHoldsProof' (VcD); no condition.
-/
import Derived.Test.YtkemikknnokdhaaGreatMD
set_option linter.unusedSimpArgs false
set_option linter.unusedVariables false
set_option maxHeartbeats 4000000
noncomputable section
namespace Go.Proofs
open Go.Dw Go.RowKit Go.Maps Go.Sort Go.Deep
structure Tryz.EqPk (A:Nat→Prop) (S:Nat) (w:World) (l:List Pt) (args:Array Value):Prop where
 h:Calls prog 68 args w fun e w'=>(∃u t,e= .returned (.tuple #[u,.int .i64 0])∧OwnR t 5 w' w.heap.size u l.length (zaQ l))∧Below w.heap.size w w'
section
variable {fns fns':List Nat} {nw nw':Prop} {A A':Nat→Prop} {w w':World} {S P L Bs B I N:Nat} {r:Tryz.Rg} {s s':Tryz.DS} {g g':Nat→Int}
set_option maxRecDepth 100000 in
theorem Tryz.zp3 (h:DW A w S P L Bs B I N r s g) {v:Value} {l:List Sg} (hv:SegV A w v l) (hl:l.length≤100000) {t:Int} (ht63:t<9223372036854775808) (hyes:(za3 N r.n s t l).1=0) (hTT:s.tab l=false):
    Calls prog 13 #[.pointer (some ⟨S,0,none⟩),.int .i64 t,v] w fun e w'=>e= .returned (.int .i64 0)∧DW A w' S P L Bs B I N r (za3 N r.n s t l).2 g∧Dw.Mv (fun b=>b=S∨b=I) w w':=by
  have hrd:=ze5 h;unfold DS.rdy at hrd;have hN:=h.f.hN;have hF:=h.f.fit;have hbn:=h.f.rg.bnd;have hlt:=h.f.mvNe;obtain ⟨sa,c,hve,hok,_⟩:=id hv;subst hve;have hpb:=h.pb.off (N:=N) (t:=t) ⟨hbn.1,hbn.2⟩ ht63 hok;have hin2:=fun (w1:World) (hb:Below w.heap.size w w1)=>zpi (h.f.mem.below hb) hN (by omega) (hv.below hb) (by omega);have hout:=zi7 h;have hany:=zi6 s t;have hol:s.outs.length≤100000:=by
    unfold DS.outs;rw [List.length_mergeSort,List.length_map];have:=zbg fun x hx=>(h.pb.el x hx).2.2.1;have:=h.pb.sum;have:=h.pb.own;omega
  have hcon: ∀(w1:World) (u:Value),OwnR 3 1 w1 w.heap.size u s.outs.length (zbe s.outs)→Calls prog 62 #[u,.int .i64 t] w1 fun e w'=>e= .returned (.bool (s.L.any fun e=>e.tk==t))∧w'=w1:=fun w1 u hu=>by
    obtain ⟨su,cu,rfl,hr⟩:=OwnR.row hu;have:=zd3 (w:=w1) (sa:=su) (c:=cu) (l:=s.outs) (by
      rcases hr with hr|⟨G,e,_,hr⟩
      · exact .inl (List.map_eq_nil_iff.1 hr)
      · exact .inr ⟨G,0,e,hr⟩) hol t
    rw [hany] at this;exact this
  clear hany;unfold za3 at hyes hpb ⊢;by_cases hb:s.br=true
  · rw [if_pos hb] at hyes;exact absurd hyes (show¬(4:Int)=0 by decide)
  rw [if_neg hb] at hrd hyes hpb ⊢;by_cases hp:s.ph≠0
  · rw [if_pos hp] at hyes;exact absurd hyes (show¬(8:Int)=0 by decide)
  rw [if_neg hp] at hrd hyes hpb ⊢;by_cases htk:t<0∨(s.L.any fun e=>e.tk==t)=true
  · rw [if_pos htk] at hyes;exact absurd hyes (show¬(2:Int)=0 by decide)
  rw [if_neg htk] at hyes hpb ⊢;have ht':decide (t<0)=false:=decide_eq_false fun q=>htk (.inl q);have htkf:(s.L.any fun e=>e.tk==t)=false:=by
    cases q:(s.L.any fun e=>e.tk==t) with
    | false=>rfl
    | true=>exact absurd (.inr q) htk
  rw [htkf] at hcon;by_cases hin:zbH N l≠0
  · rw [if_pos hin] at hyes;exact absurd hyes hin
  rw [if_neg hin] at hyes hpb ⊢;rw [Decidable.not_not.1 hin] at hin2;by_cases hl0:l.length=0
  · rw [if_pos hl0] at hyes;exact absurd hyes (show¬(2:Int)=0 by decide)
  rw [if_neg hl0] at hyes hpb ⊢;have hl64:=(zbV (Decidable.not_not.1 hin)).1;have hbe:zbc l=0:=by
    unfold zbc;rw [(zbV (Decidable.not_not.1 hin)).2,if_neg (by decide),if_neg hl0]
  simp only at hyes hpb ⊢;by_cases hfull:s.own<s.need l∨r.n≤(zaM s.L r.n.toNat 0:Nat)
  · rw [if_pos hfull] at hyes;exact absurd hyes (show¬(7:Int)=0 by decide)
  rw [if_neg hfull] at hyes hpb ⊢;clear hyes;simp only at hpb ⊢;obtain ⟨T,hT⟩: ∃T,(s.tb&&decide ((1:Int)<l.length))=T:=⟨_,rfl⟩;have hTt:s.tab l=T:=by
    unfold DS.tab;rw [←hT];congr 1;exact decide_eq_decide.2 (by omega)
  have hTe:T=false:=hTt.symm.trans hTT;replace hTe:HidP _:=⟨hTe⟩;clear hTT;have hneed:s.need l=if T=true then 1 else (l.length:Int):=by unfold DS.need;rw [hTt]
  have hnd:=fun w1 hb=>zfQ (w:=w1) (hv.below hb) T;simp only [if_neg (show¬zbc l≠0 from fun q=>q hbe)] at hnd;rw [←hneed] at hnd;obtain ⟨ct,hct⟩: ∃ct,ct=s.need l:=⟨_,rfl⟩;obtain ⟨f1,f2,f3,f4⟩:=zbz s.L r.n.toNat 0;have hidx:=fun w1 (hb:Below w.heap.size w w1)=>zht (h.below hb).f.ids (by omega);rw [if_pos (show zaM s.L r.n.toNat 0<r.n.toNat by omega)] at hidx;have hfree:=f4 (by omega);obtain ⟨id,hid⟩: ∃id:Nat,id=zaM s.L r.n.toNat 0:=⟨_,rfl⟩;rw [←hid] at hidx hfree hfull hpb ⊢;rw [←hct] at hnd hneed hfull hpb ⊢;have hidn:id<r.n.toNat:=by omega
  have hidI:(id:Int)<r.n.toNat:=by omega
  have hidJ: ¬(r.n.toNat:Int)≤id:=by omega
  have hmx:max r.n 0=r.n:=by omega
  have hidK:(id:Int)<r.n:=by omega
  have hid2:decide ((id:Int)<0)=false:=decide_eq_false (by omega);have hown2:decide (s.own<ct)=false:=decide_eq_false (by omega);have hown0:=h.pb.own;have hct1:1≤ct∧ct≤s.own:=⟨by rw [hneed];split<;>omega,by omega⟩;have hcl16:T=false→(l.length:Int)≤r.n:=fun q=>by
    rw [q] at hneed;have h1:=h.pb.sum;have h2:=zbg fun x hx=>(h.pb.el x hx).2.2.1;simp at hneed;omega
  have hown64:IntKind.wrap .i64 (s.own-ct)=s.own-ct:=zaT (by omega) (by have:=h.pb.sum;have:=zbg fun x hx=>(h.pb.el x hx).2.2.1;omega);have hobj:=h.f.obj;have hc0: ∀w1,Below w.heap.size w w1→w1.cell? ⟨S,0,none⟩=some (.pointer (some ⟨P,0,none⟩)):=fun w1 hb=>by
    obtain ⟨stv,nowv,sgv,puv,h1,_⟩:=hobj;exact (h1.below hb h1.lt).cell 0 _ rfl
  have hc7: ∀w1,Below w.heap.size w w1→w1.cell? ⟨S,7,none⟩=some (.bool s.tb):=fun w1 hb=>by
    obtain ⟨stv,nowv,sgv,puv,h1,_⟩:=hobj;exact (h1.below hb h1.lt).cell 7 _ rfl
  have hc15: ∀w1,Below w.heap.size w w1→w1.cell? ⟨S,15,none⟩=some (.slice (some ⟨I,0,none⟩) r.n.toNat r.n.toNat):=fun w1 hb=>by
    obtain ⟨stv,nowv,sgv,puv,h1,_⟩:=hobj;exact (h1.below hb h1.lt).cell 15 _ rfl
  have hc14: ∀w1,Below w.heap.size w w1→w1.cell? ⟨S,14,none⟩=some (.int .i64 s.own):=fun w1 hb=>by
    obtain ⟨stv,nowv,sgv,puv,h1,_⟩:=hobj;exact (h1.below hb h1.lt).cell 14 _ rfl
  have hl1:(1:Int)≤l.length:=by omega
  have e1:IntKind.wrap .u64 (id:Int)=id:=wrap_u64 _ (by omega) (by omega);have e2:IntKind.wrap .u64 ((id:Int)*1024)=(id:Int)*1024:=wrap_u64 _ (by omega) (by omega);have e3:IntKind.wrap .u64 (20000+(id:Int)*1024)=20000+(id:Int)*1024:=wrap_u64 _ (by omega) (by omega);have hb0:((l.length:Int)==0)=false:=by simpa using hl0
  have hph0:s.ph=0:=Decidable.not_not.1 hp;have hdF:dFns s.ph= []:=by rw [hph0];rfl
  replace hcl16:HidP _:=⟨hcl16⟩;replace hph0:HidP _:=⟨hph0⟩;have hput:HidP (s.puts r.n id l=if T=true then [zg5 id s.nx (zcD id) l.length s.nw] else ppTo r.n id s.nx s.nw l l.length):=⟨by unfold DS.puts;rw [hTt]⟩;have hTb:s.tb=true∨s.tb=false:=by cases s.tb<;>simp
  replace hbe:HidP _:=⟨hbe⟩;replace hct:HidP _:=⟨hct⟩;clear hb hp htk htkf hin hl0 hTt hneed hfull f1 f2 f3 f4 hid hol;have hTc:(s.tb=true∧T=true)∨(s.tb=true∧T=false)∨(s.tb=false∧T=false):=by
    rcases hTb with q|q
    · cases T
      · exact .inr (.inl ⟨q,rfl⟩)
      · exact .inl ⟨q,rfl⟩
    · rw [q,Bool.false_and] at hT;exact .inr (.inr ⟨q,hT.symm⟩)
  clear hTb;rcases hTc with ⟨htb,hTv⟩|⟨htb,hTv⟩|⟨htb,hTv⟩
  · exact absurd (hTv.symm.trans hTe.out) (by decide)
  all_goals
    rw [htb] at hT hc7
    first|rw [Bool.true_and] at hT|skip
    subst hTv;clear htb hTe;go_enter func13,ntmps13;go_wp2_with (first
      | (go_at_call 61;refine hrd.mono ?_;rintro e w' ⟨rfl,hw⟩;have hw:=hw.symm;subst hw)
      | (go_at_call 30;refine hout.mono ?_;rintro e w1 ⟨u,rfl,hu,hb1⟩)
      | (go_at_call 62;refine (hcon _ _ hu).mono ?_;rintro e w' ⟨rfl,hw⟩;have hw:=hw.symm;subst hw;have x0:=hc0 _ hb1)
      | (go_at_call 63;refine (hin2 _ hb1).mono ?_;rintro e w2 ⟨rfl,hb2⟩;have hb12:=hb1.trans (hb2.mono hb1.size);have x7:=hc7 _ hb12)
      | go_in)
    have hbd:=(Below.refl w2.heap.size w2).drew;have hb2d:=hb12.trans (hbd.mono hb12.size);have y15:=hc15 _ hb12;have z15:=hc15 _ hb2d;go_region_held3 (fun w'=>w'.cell? ⟨S,15,none⟩=some (.slice (some ⟨I,0,none⟩) r.n.toNat r.n.toNat)) (go_keep)
      ((first
        | (go_at_call 64;refine (hnd _ hb2d).mono ?_;rintro en w3 ⟨rfl,hb3⟩;have hb13:=hb2d.trans (hb3.mono hb2d.size);have v15:=hc15 _ hb13)
        | (go_at_call 65;refine (hidx _ hb13).mono ?_;rintro en w' ⟨rfl,hw⟩;have hw:=hw.symm;subst hw)))
    have x14:=hc14 _ hb13;have h3:=h.f.below hb13;have hcl:=zil (hv.below hb13) (by omega);have hsz3:=hb13.size;go_wp2_with (first
      | (go_at_call 66;refine hcl.mono ?_;rintro en w4 ⟨u4,rfl,hu4,hb4⟩;have h4:=h3.below hb4;have hu4v:=OwnSeg.segV hu4 hok (A:=A) (fun b q1 q2=>by have:=h.f.lt b q2;omega);obtain ⟨su4,cu4,hue,_⟩:=OwnSeg.slice hu4;subst hue;obtain ⟨stv4,nowv4,sgv4,puv4,o4,_⟩:=h4.obj;have x18:=o4.cell 18 _ rfl;have f18:=o4.free 18;have h5:=h4.setSeg hu4v;have hm5:=zaj (Dw.Mv.refl (· =S) w4) S 18 (.slice su4 l.length cu4) rfl;have o5:=o4.set 18 (.slice su4 l.length cu4) (by show 18<27;decide))
      | go_in)
    generalize w4.setCell ⟨S,18,none⟩ (.slice su4 l.length cu4)=w5 at*;have hm05:Dw.Mv (fun b=>b=S∨b=I) w w5:=((zaa hb13).trans (zaa hb4)).trans (hm5.mono fun b q=> .inl q);clear x18 f18 x14 x0 x7 y15 z15 v15 hcl hrd hin2 hout hcon hnd hidx hobj hc0 hc7 hc15 hc14 ht' hu hid2 hown2 hb1 hb2 hb12 hbd hb2d hb3 h3 h4 o4 hb0;have o5':Cl w5 S (({ s with sg:=l }:DS).row r P I stv4 nowv4 (.slice su4 l.length cu4) puv4):=o5;have x10:=o5'.cell 10 (.int .i64 s.nx) rfl;have x11:=o5'.cell 11 (.bool s.nw) rfl;have x2:=o5'.cell 2 (.int .i64 r.n) rfl;have x9:=o5'.cell 9 (.int .u64 20000) rfl;have x19:=o5'.cell 19 _ rfl;have f19:=o5'.free 19;have hv5:=hv.setK (A':=A) (fun _ _ q=>q) fun b hb hn=>hm05.block b hb fun e=>by
      rcases e with e|e
      · exact hn (e▸h.f.aS)
      · exact hn (e▸h.f.aI)
    have hpk:=fun w' (hb:Below w5.heap.size w5 w')=>zlX (A:=A) (w:=w') (n:=r.n) (id:=id) (a:=s.nx) (x:=s.nw) (hv5.below hb) hbe.out ⟨hbn.1,by omega⟩ (hcl16.out (by first|rfl|trivial)) h.pb.nx ⟨by omega,by omega⟩;unfold posV at hpk;replace hpk: ∀w',Below w5.heap.size w5 w'→EqPk A S w' (s.puts r.n id l) #[.agg #[.int .i64 s.nx,.bool s.nw],.int .i64 r.n,.int .i64 id,.slice sa l.length c]:=fun w' hb=>⟨by
      have:=hput.out
      first|rw [if_neg (show¬(false=true) from by decide)] at this|rw [if_neg (show¬False from id)] at this|skip
      rw [this];exact hpk w' hb⟩
    replace hlt:HidP _:=⟨hlt⟩;go_wp2_with fail;go_cut [] from 102 to 119 (fun wx=>DWf (dFns s.ph) False A wx S P L Bs B I N r ({ s with sg:=l,pu:=s.puts r.n id l }:DS) g∧Dw.Mv (· =S) w5 wx)
    case first=>
      have hbD:=(Below.refl w5.heap.size w5).drew;have od:=o5'.below hbD o5'.lt;have d10:=od.cell 10 (.int .i64 s.nx) rfl;have d11:=od.cell 11 (.bool s.nw) rfl;have d2:=od.cell 2 (.int .i64 r.n) rfl;go_region_held3 (fun w'=>w'.cell? ⟨S,10,none⟩=some (.int .i64 s.nx)∧w'.cell? ⟨S,11,none⟩=some (.bool s.nw)∧w'.cell? ⟨S,2,none⟩=some (.int .i64 r.n)) (first|go_keep|(rw [World.cell?_setCell_other _ ⟨S,19,none⟩ ⟨S,10,none⟩ _ (by simp),World.cell?_setCell_other _ ⟨S,19,none⟩ ⟨S,11,none⟩ _ (by simp),World.cell?_setCell_other _ ⟨S,19,none⟩ ⟨S,2,none⟩ _ (by simp)];exact ⟨by assumption,by assumption,by assumption⟩))
        ((first
          | (go_at_call 68;refine (hpk (w5.drew) hbD).h.mono ?_;rintro en w9 ⟨⟨u9,t9,rfl,hu9⟩,hb9⟩;have hd9:=hbD.trans (hb9.mono (Nat.le_refl _));have hlt9:=OwnR.lt hu9;obtain ⟨su9,cu9,hue9,hr9⟩:=OwnR.row hu9;subst hue9;have on:=od.below hb9 od.lt;have v10:=on.cell 10 (.int .i64 s.nx) rfl;have v11:=on.cell 11 (.bool s.nw) rfl;have v2:=on.cell 2 (.int .i64 r.n) rfl;have v19:=on.cell 19 _ rfl;have u19:=on.free 19)))
      all_goals
        go_wp2_with fail;go_meet;have hPV:PutV A w9 (.slice su9 (s.puts r.n id l).length cu9) (s.puts r.n id l):=by
          refine ⟨su9,cu9,rfl,?_⟩;rcases hr9 with hr9|⟨G,e,e2,hr9⟩
          · refine .inl ?_;cases hq:s.puts r.n id l with
            | nil=>rfl
            | cons x y=>rw [hq] at hr9;simp [zaQ,Pt.cells] at hr9
          · exact .inr ⟨G,0,e,fun q=>by have h1:=h5.lt _ q;have h2:=(hlt9 _ e2).1;have h3:w5.heap.size≤G:=h2;omega,hr9⟩
        have hm9:=(zaa hd9).trans (zaj (Dw.Mv.refl (· =S) w9) S 19 (.slice su9 (s.puts r.n id l).length cu9) rfl);exact ⟨((h5.below hd9).setPut hPV).nwMono False.elim,hm9⟩
    case rest=>
    obtain ⟨h7,hmX⟩:=hcut;have hm07:=hm05.trans (hmX.mono fun b q=> .inl q);clear x10 x11 x2 x9 x19 f19;have hbO:=(Below.refl wc.heap.size wc).alloc (Nat.le_refl _) (Obj.cells #[.int .i64 id,.int .i64 t,.int .i64 ct] 145);obtain ⟨stv7,nowv7,sgv7,puv7,o7,_⟩:=h7.obj;have o7a:=o7.below hbO o7.lt;have y17:=o7a.cell 17 _ rfl;have g17:=o7a.free 17;have kO:=Cl.new2 (w:=wc) (b:=wc.heap.size) (arr:= #[.int .i64 id,.int .i64 t,.int .i64 ct]) (t:=145) (by simp);have hOA: ¬A (wc.heap.size):=fun q=>absurd (h7.lt _ q) (by simp);have hO8:NowV A (wc.alloc (Obj.cells #[.int .i64 id,.int .i64 t,.int .i64 ct] 145)) (.pointer (some ⟨wc.heap.size,0,none⟩)) ⟨id,t,ct⟩:=⟨wc.heap.size,rfl,hOA,fun j y hy=>by rw [Nat.zero_add];exact kO.cell j y hy⟩;have h8:=(h7.below hbO).setNow hO8;have hm8:=zaj (Dw.Mv.refl (· =S) (wc.alloc (Obj.cells #[.int .i64 id,.int .i64 t,.int .i64 ct] 145))) S 17 (.pointer (some ⟨wc.heap.size,0,none⟩)) rfl;have o8:=o7a.set 17 (.pointer (some ⟨wc.heap.size,0,none⟩)) (by show 17<27;decide);have hO8':=hO8.setK (A':=A) (fun _ _ q=>q) fun b hb hn=>hm8.block b hb fun e=>hn (by have e:b=S:=e;exact e▸h.f.aS);have o8':Cl ((wc.alloc (Obj.cells #[.int .i64 id,.int .i64 t,.int .i64 ct] 145)).setCell ⟨S,17,none⟩ (.pointer (some ⟨wc.heap.size,0,none⟩))) S (({ s with sg:=l,pu:=s.puts r.n id l,c:=⟨id,t,ct⟩ }:DS).row r P I stv7 (.pointer (some ⟨wc.heap.size,0,none⟩)) sgv7 puv7):=o8;replace hlt:HidP _:=⟨hlt⟩;go_wp2_with fail;generalize ((wc.alloc (Obj.cells #[.int .i64 id,.int .i64 t,.int .i64 ct] 145)).setCell ⟨S,17,none⟩ (.pointer (some ⟨wc.heap.size,0,none⟩)))=w8 at*;clear y17 g17;have z15:=o8'.cell 15 _ rfl;have z17:=o8'.cell 17 _ rfl;obtain ⟨vs,i1,i2,i3⟩:=h8.ids;have zI:=i1.cell id _ (List.getElem?_eq_getElem (by omega));have fI:=i1.free id;have hids:=IdsW.add ⟨vs,i1,i2,i3⟩ hfree h8.aI hidn hO8';clear i3;go_cut [] from 128 to 137 (fun wx=>DWf (dFns s.ph) True A wx S P L Bs B I N r ({ s with sg:=l,pu:=s.puts r.n id l,c:=⟨id,t,ct⟩,L:=s.L++ [⟨id,t,ct⟩] }:DS) g∧Cl wx S (({ s with sg:=l,pu:=s.puts r.n id l,c:=⟨id,t,ct⟩ }:DS).row r P I stv7 (.pointer (some ⟨wc.heap.size,0,none⟩)) sgv7 puv7)∧Dw.Mv (· =I) w8 wx)
    case first=>
      go_region_law fail
      all_goals
        go_wp2_with fail;go_meet;have hmI:=(zaj (Dw.Mv.refl (· =I) w8) I id (.pointer (some ⟨wc.heap.size,0,none⟩)) rfl);have hmI2:=hmI.trans (zaa ((Below.refl _ _).drew));exact ⟨(h8.setIds hmI hids).below ((Below.refl _ _).drew),o8'.kept (hmI2.block S o8'.lt h.f.ne),hmI2⟩
    case rest=>
      obtain ⟨h9,o9,hm9⟩:=hcut;clear z15 z17 zI fI;have z14:=o9.cell 14 _ rfl;have f14:=o9.free 14;have h10:=h9.setRow (s':= { s with sg:=l,pu:=s.puts r.n id l,c:=⟨id,t,ct⟩,L:=s.L++ [⟨id,t,ct⟩],own:=s.own-ct }) 14 (.int .i64 (s.own-ct)) (by decide) (fun _ _ _ _=>rfl) rfl rfl rfl rfl;have hm10:=zaj (Dw.Mv.refl (· =S) wc) S 14 (.int .i64 (s.own-ct)) rfl;generalize hw10:wc.setCell ⟨S,14,none⟩ (.int .i64 (s.own-ct))=w10 at h10 hm10;have hbF:=(Below.refl w10.heap.size w10).alloc (Nat.le_refl _) (Obj.cells #[.func (.func 70) #[.pointer (some ⟨S,0,none⟩)] #[],.func (.func 71) #[.pointer (some ⟨S,0,none⟩)] #[],.func (.func 72) #[.pointer (some ⟨S,0,none⟩)] #[],.func (.func 71) #[.pointer (some ⟨S,0,none⟩)] #[],.func (.func 73) #[.pointer (some ⟨S,0,none⟩)] #[]] 155);have hst:=StepV.new (A:=A) (S:=S) (w:=w10) (l:=dFns 1) (cs:= #[.func (.func 70) #[.pointer (some ⟨S,0,none⟩)] #[],.func (.func 71) #[.pointer (some ⟨S,0,none⟩)] #[],.func (.func 72) #[.pointer (some ⟨S,0,none⟩)] #[],.func (.func 71) #[.pointer (some ⟨S,0,none⟩)] #[],.func (.func 73) #[.pointer (some ⟨S,0,none⟩)] #[]]) h10.lt 155 rfl;rw [show w10.heap.size=wc.heap.size from by rw [←hw10];simp,show (dFns 1).length=5 from rfl] at hst;have hbg:=zhO (h10.below hbF) hst 1 t 0 false false;subst hw10;go_wp2_with (first
        | (go_at_call 69;refine hbg.mono ?_;rintro e w12 ⟨rfl,h12,hm12⟩)
        | go_in)
      go_ret;refine ⟨rfl,⟨(h12.nwMono fun _=>trivial).alt (fun _ _ _ _=>rfl) rfl rfl rfl rfl,hpb⟩,?_⟩;exact (((((hm07.trans (zaa hbO)).trans (hm8.mono fun b q=> .inl q)).trans (hm9.mono fun b q=> .inr q)).trans (hm10.mono fun b q=> .inl q)).trans (zaa hbF)).trans (hm12.mono fun b q=> .inl q)
end
theorem Tryz.zsl {A:Nat→Prop} {w:World} {S P L Bs B I N:Nat} {r:Rg} {s:DS} {g:Nat→Int} (h:DW A w S P L Bs B I N r s g) {v:Value} {l:List Sg} (hv:SegV A w v l) (hl:l.length≤100000) {t:Int} (ht63:t<9223372036854775808) (hyes:(za3 N r.n s t l).1=0):
  Calls prog 13 #[.pointer (some ⟨S,0,none⟩),.int .i64 t,v] w fun e w'=>e= .returned (.int .i64 0)∧DW A w' S P L Bs B I N r (za3 N r.n s t l).2 g∧Dw.Mv (fun b=>b=S∨b=I) w w':=by
 cases hT:s.tab l with
 | true=>exact zp2 h hv hl ht63 hyes hT
 | false=>exact zp3 h hv hl ht63 hyes hT
section
variable {A:Nat→Prop} {w:World} {S P L Bs B I N b2:Nat} {r:Tryz.Rg} {s:Tryz.DS} {g:Nat→Int} {lv:Value}
theorem Tryz.zp1 (h:DW A w S P L Bs B I N r s g) {v:Value} {l:List Sg} (hv:SegV A w v l) (hl:l.length≤100000) {t:Int} (ht:t<9223372036854775808):
  Calls prog 13 #[.pointer (some ⟨S,0,none⟩),.int .i64 t,v] w fun e w'=>e= .returned (.int .i64 (za3 N r.n s t l).1)∧DW A w' S P L Bs B I N r (za3 N r.n s t l).2 g∧Dw.Mv (dK S I B) w w':=by
 by_cases h0:(za3 N r.n s t l).1=0
 ·rw [h0];exact (zsl h hv hl ht h0).mono fun e w' hh=>⟨hh.1,hh.2.1,hh.2.2.mono fun b q=>q.elim .inl fun q=> .inr (.inl q)⟩
 ·have e:=znH h0;rw [e];exact (zsm h hv hl h0).mono fun e w' hh=>⟨hh.1,h.below hh.2,zaa hh.2⟩
end
end Go.Proofs
end
