/-
  Proved: laws on the way to 'SdriveHoldsProof' (texts YbS YbT YbU YbV YaJ YbW YbX YbY QaJ QaK QaL QaM QcF VdA YbZ); no condition.
-/
import Derived.Test.YtaichlekaoefpaaGreatM9
import Derived.Maps.RangeRun
import Derived.Sort.OwnSortedInts
set_option linter.unusedSimpArgs false
set_option linter.unusedVariables false
set_option maxHeartbeats 4000000
noncomputable section
namespace Go.Proofs
open Go.Dw Go.RowKit Go.Maps Go.Sort Go.Deep
set_option maxRecDepth 100000 in
theorem Tryz.znm:prog.underlying 121=some (.map 3 123):=by kernel_rfl
set_option maxRecDepth 100000 in
theorem Tryz.zwZ:(prog.info? 123).map (fun i=>(i.zero,i.size,i.bytes))=some (some (.pointer none),1,8):=by kernel_rfl
theorem Tryz.zwg (w:World):(zeroValue 123).run prog w= .ok (.pointer none) w:=by
 obtain ⟨i,hi,i1,_⟩:=info_parts zwZ;simp [zeroValue,typeInfo,hi,i1]
theorem Tryz.zpD {P0:Program} {w:World} {ops:Array Oper} {o:Oper} {a:Act} {K:Act→World→Prop} {Q:Exit→Act→World→Prop} {E:Prop} (hgd:o.guard=none) (m x:Operand) (t k:TypeId)
  (ho:o.op= .call { callee:= .builtin .delete,args:= #[m,x],argTypes:= #[t,k] }) {vm vx v':Value} {w':World} (hs:a.eval m=vm) (hx:a.eval x=vx) (hr: ∀ty,(Builtin.delete_ #[t,k] ty #[vm,vx]).run P0 w= .ok v' w')
  (h:K (a.put o.dst v') w'):if Region.wanted o (yielded ops a.tmps)=true then Oper.wp P0 o a w K Q else E:=by
 have hw:Region.wanted o (yielded ops a.tmps)=true:=by simp [Region.wanted,hgd]
 rw [if_pos hw];unfold Oper.wp execOp;simp only [ho,resolve,invoke,builtin,Sem.run_bind,Sem.run_pure,Result.andThen_ok,List.map_toArray,List.map_cons,List.map_nil,hs,hx,hr];exact h
section
variable {fns fns':List Nat} {nw nw':Prop} {A A':Nat→Prop} {w w':World} {S P L Bs B M N:Nat} {r:Tryz.Rg} {s s':Tryz.SD} {g g':Nat→Int}
theorem Tryz.SDWf.setOut {L':List SO} (h:SDWf fns nw A w S P L Bs B M N r s g) (hm:Dw.Mv (· =M) w w') (ho:OutW A w' M L'):SDWf fns nw A w' S P L Bs B M N r { s with L:=L' } g:=by
 obtain ⟨stv,nowv,sgv,fv,h1,h2⟩:=h.ptr (w':=w') fun b hb hn=>hm.block b hb fun e=>hn (by have e:b=M:=e;exact e▸h.aM);have hmd:=h.md;exact ⟨⟨stv,nowv,sgv,fv,h1.kept (hm.block S h1.lt h.ne),h2⟩,ho,h.mem.kept (fun k hk' hq=>hm.block k hk' (by show¬k=M;rcases hq with q|q|q|q<;>(rw [q];simp [hmd.1.symm,hmd.2.1.symm,hmd.2.2.1.symm,hmd.2.2.2.symm]))) hm.size,h.ne,h.aS,h.aM,h.aB,fun b q=>Nat.lt_of_lt_of_le (h.lt b q) hm.size,h.rg,h.hN,h.fit,h.sd,h.md⟩
theorem Tryz.SDWf.setFree {F':List Int} {fv':Value} (h:SDWf fns nw A w S P L Bs B M N r s g) (hf:IdV A w fv' F'):SDWf fns nw A ((w.setCell ⟨S,10,none⟩ (.int .i64 r.n)).setCell ⟨S,11,none⟩ fv') S P L Bs B M N r { s with F:=F' } g:=by
 have hm:Dw.Mv (· =S) w ((w.setCell ⟨S,10,none⟩ (.int .i64 r.n)).setCell ⟨S,11,none⟩ fv'):=zaH (K:=(· =S)) (zaH (K:=(· =S)) (zaa (Below.refl _ _)) S 10 _ rfl) S 11 _ rfl;have hk: ∀b,b<w.heap.size→ ¬A b→((w.setCell ⟨S,10,none⟩ (.int .i64 r.n)).setCell ⟨S,11,none⟩ fv').heap[b]? =w.heap[b]? :=fun b hb hn=>hm.block b hb fun e=>hn (by have e:b=S:=e;exact e▸h.aS);obtain ⟨stv,nowv,sgv,fv,h1,h2,h3,h4,h5,h6⟩:=h.ptr hk;exact h.setSB (hm.mono fun b e=> .inl e) (h.gmS hm) ⟨stv,nowv,sgv,fv',(h1.set 10 _ (by show 10<25;decide)).set 11 _ (by show 11<25;decide),h2,h3,h4,h5,hf.setK (fun _ _ q=>q) hk⟩ rfl
theorem Tryz.OutW.look {l:List SO} (h:OutW A w M l) (k:Int) (ok:Bool):(zbb l k=none→(Instr.lookup 121 (.map (some M)) (.int .i64 k) ok).run prog w= .ok (if ok then .tuple #[.pointer none,.bool false] else .pointer none) w)∧
  ∀ e,zbb l k=some e→ ∃v,OutV A w v e∧(Instr.lookup 121 (.map (some M)) (.int .i64 k) ok).run prog w= .ok (if ok then .tuple #[v,.bool true] else v) w:=by
 obtain ⟨arr,clock,h1,⟨hwf,hbn⟩,hv⟩:=h.map;have hl:=zm3 znm h1 hwf (zwg w) k ok;refine ⟨fun hn=> ?_,fun e he=> ?_⟩
 ·rw [(hv k).1 hn] at hl;exact hl
 ·obtain ⟨v,q1,q2⟩:=(hv k).2 e he;rw [q1] at hl;exact ⟨v,q2,hl⟩
end
section
variable {fns fns':List Nat} {nw nw':Prop} {A A':Nat→Prop} {w w':World} {S P L Bs B M N:Nat} {r:Tryz.Rg} {s s':Tryz.SD} {g g':Nat→Int}
set_option maxRecDepth 100000 in
theorem Tryz.zl9 (h:SDWf fns nw A w S P L Bs B M N r s g) (hs:0≤s.sn∧s.sn<65536) (hget:zbb s.L (zaf g (r.c+4+8*(s.sn%r.n)).toNat 8%4294967296)=none):
    Calls prog 110 #[.pointer (some ⟨S,0,none⟩)] w fun e w'=>e= .returned (.tuple #[.agg #[.int .i64 2,.int .i64 8,.int .i64 (s.sn%r.n)],.bool false])∧SDWf fns nw A w' S P L Bs B M N r s g∧Dw.Mv (· =S) w w':=by
  have hne:=h.neX;have hbx:=(Below.refl w.heap.size w).alloc (Nat.le_refl _) (Obj.cells #[.int .i64 0,.int .i64 0,.int .i64 0] 56);have k2:=Cl.new w #[.int .i64 0,.int .i64 0,.int .i64 0] 56;have hX:=h.box (Obj.cells #[.int .i64 0,.int .i64 0,.int .i64 0] 56);obtain ⟨rok,rn,rd,rv,rc⟩:=h.rg;have hb:=rok.bnd;have hN:=h.hN;have hF:=h.fit;have hm0:0≤s.sn%r.n:=Int.emod_nonneg _ (by omega);have hm1:s.sn%r.n<r.n:=Int.emod_lt_of_pos _ (by omega);have hsl:=zlr hX hs;generalize s.sn%r.n=i at*;obtain ⟨a,ha,ha2⟩: ∃a:Nat,r.c+4+8*i=a∧a+8≤N:=⟨(r.c+4+8*i).toNat,by omega,by omega⟩;have ea:(r.c+4+8*i).toNat=a:=by omega
  rw [ea] at hget;have hwb:=zav g h.mem.byte a 8;have hld:=zg9 hX (k:=8) (.inr (.inr (.inr rfl))) ha2 (fun w'=>by rw [←ha];exact zph r rok i ⟨hm0,hm1⟩ w');generalize zaf g a 8=V at hld hwb hget;have hru:=fun w'=>zh8 (v:=V) ⟨hwb.1,by have:=hwb.2;omega⟩ w';have e1:IntKind.wrap .i64 (V%4294967296)=V%4294967296:=zaS (by omega) (by omega);generalize V%4294967296=id at*;generalize V/4294967296=ln at*;obtain ⟨stv,nowv,sgv,fv,h1,_⟩:=hX.obj;have c14:=h1.cell 14 _ rfl;clear hs hb hN hF ha ha2 ea rn rd rv rc hwb hm0 hm1;go_enter func110,ntmps110;go_wp2_with (first
    | (go_at_call 103;refine hsl.mono ?_;rintro en w' ⟨rfl,hw⟩;have hw:=hw.symm;subst hw)
    | (go_at_call 104;refine hld.mono ?_;rintro en w2 ⟨rfl,hb2⟩)
    | (go_at_call 152;refine (hru _).mono ?_;rintro en w4 ⟨rfl,hb4⟩)
    | go_in)
  have hbY:=(Below.refl w2.heap.size w2).alloc (Nat.le_refl _) (Obj.cells #[.int .i64 2,.int .i64 8,.int .i64 i] 56);have hbZ:=(Below.refl w4.heap.size w4).alloc (Nat.le_refl _) (Obj.cells #[.int .u32 id,.int .u32 ln] 67);have h5:=((hX.below hb2).below hbY).below hb4;have hyS:=((hX.below hb2).neX).1;have h6:=h5.below hbZ;have k6:=(((k2.below hb2 k2.lt).below hbY (k2.below hb2 k2.lt).lt).below hb4 ((k2.below hb2 k2.lt).below hbY (k2.below hb2 k2.lt).lt).lt).below hbZ (((k2.below hb2 k2.lt).below hbY (k2.below hb2 k2.lt).lt).below hb4 ((k2.below hb2 k2.lt).below hbY (k2.below hb2 k2.lt).lt).lt).lt;have y2:=Cl.new w2 #[.int .i64 2,.int .i64 8,.int .i64 i] 56;have y6:=(y2.below hb4 y2.lt).below hbZ (y2.below hb4 y2.lt).lt;have z6:=Cl.new w4 #[.int .u32 id,.int .u32 ln] 67;have o6:=(((h1.below hb2 h1.lt).below hbY (h1.below hb2 h1.lt).lt).below hb4 ((h1.below hb2 h1.lt).below hbY (h1.below hb2 h1.lt).lt).lt).below hbZ (((h1.below hb2 h1.lt).below hbY (h1.below hb2 h1.lt).lt).below hb4 ((h1.below hb2 h1.lt).below hbY (h1.below hb2 h1.lt).lt).lt).lt;have hm6:=((((zaa (K:=(· =S)) hbx).trans (zaa hb2)).trans (zaa hbY)).trans (zaa hb4)).trans (zaa hbZ);have hYn:=(hX.below hb2).neX;have hZn:=h5.neX;have hZX:w4.heap.size≠w.heap.size:=by
    have:=hbx.size;have:=hb2.size;have:=hbY.size;have:=hb4.size;have h0:w.heap.size<(w.alloc (Obj.cells #[.int .i64 0,.int .i64 0,.int .i64 0] 56)).heap.size:=by simp
    omega
  have hYX:w2.heap.size≠w.heap.size:=by
    have:=hb2.size;have h0:w.heap.size<(w.alloc (Obj.cells #[.int .i64 0,.int .i64 0,.int .i64 0] 56)).heap.size:=by simp
    omega
  clear hX h5 hbY hbZ hb2 hb4 hld hsl hru h1 hbx;generalize w4.alloc (Obj.cells #[.int .u32 id,.int .u32 ln] 67)=W at*;generalize w4.heap.size=Z at*;generalize w2.heap.size=Y at*;have hbd:=(Below.refl W.heap.size W).drew;have hd6:=h6.below hbd;have hlk:=(hd6.out.look id true).1 hget;simp only [if_true] at hlk;have o6d:=o6.kept (w':=W.drew) rfl;have z6d:=z6.kept (w':=W.drew) rfl;have c12:=o6.cell 12 _ rfl;have d12:=o6d.cell 12 _ rfl;have u0:=z6.cell 0 _ rfl;have v0:=z6d.cell 0 _ rfl;go_region_held3 (fun w'=>w'.cell? ⟨S,12,none⟩=some (.map (some M))∧w'.cell? ⟨Z,0,none⟩=some (.int .u32 id)) (go_keep) (fail)
  all_goals
    have k6d:=k6.kept (w':=W.drew) rfl;have y6d:=y6.kept (w':=W.drew) rfl;have hmd:=hm6.trans (zaa hbd);clear hlk o6 z6 k6 y6 c12 u0 h6 hbd;generalize W.drew=W1 at*;have t0:=y6d.cell 0 _ rfl;have t1:=y6d.cell 1 _ rfl;have t2:=y6d.cell 2 _ rfl;have b0:=k6d.cell 0 _ rfl;have b1:=k6d.cell 1 _ rfl;have b2:=k6d.cell 2 _ rfl;have q0:=k6d.free 0;have q1:=k6d.free 1;have q2:=k6d.free 2;go_wp2_with fail;obtain ⟨kA,hm⟩:=acc3 hmd (.inr (Nat.le_refl _)) k6d (.int .i64 2) (.int .i64 8) (.int .i64 i);refine bodyPost_ret (zaL rfl _ _ w.heap.size [.int .i64 2,.int .i64 8,.int .i64 i] _ rfl (zbn kA) underlying56 rfl (by kernel_rfl)) rfl ?_;exact ⟨rfl,hd6.acc h.aS h.aM h.aB hne _ _ _,hm⟩
set_option maxRecDepth 100000 in
theorem Tryz.zl8 (h:SDWf fns nw A w S P L Bs B M N r s g) (hs:0≤s.sn∧s.sn<65536) (hbb:SDB r.n.toNat s) {e:SO} (hget:zbb s.L (zaf g (r.c+4+8*(s.sn%r.n)).toNat 8%4294967296)=some e)
    {s1:SD} (hs1:s1= { s with tok:=e.tk,wr:=zaf g (r.c+4+8*(s.sn%r.n)).toNat 8/4294967296,F:=e.ids++s.F,L:=zbQ s.L e.head,sn:=(s.sn+1)%65536 }):
    Calls prog 110 #[.pointer (some ⟨S,0,none⟩)] w fun e w'=>e= .returned (.tuple #[.agg #[.int .i64 2,.int .i64 8,.int .i64 (s.sn%r.n)],.bool true])∧SDWf fns nw A w' S P L Bs B M N r s1 g∧Dw.Mv (fun b=>b=S∨b=M) w w':=by
  have hne:=h.neX;have hbx:=(Below.refl w.heap.size w).alloc (Nat.le_refl _) (Obj.cells #[.int .i64 0,.int .i64 0,.int .i64 0] 56);have k2:=Cl.new w #[.int .i64 0,.int .i64 0,.int .i64 0] 56;have hX:=h.box (Obj.cells #[.int .i64 0,.int .i64 0,.int .i64 0] 56);obtain ⟨rok,rn,rd,rv,rc⟩:=h.rg;have hb:=rok.bnd;have hN:=h.hN;have hF:=h.fit;have hm0:0≤s.sn%r.n:=Int.emod_nonneg _ (by omega);have hm1:s.sn%r.n<r.n:=Int.emod_lt_of_pos _ (by omega);have hsl:=zlr hX hs;generalize s.sn%r.n=i at*;obtain ⟨a,ha,ha2⟩: ∃a:Nat,r.c+4+8*i=a∧a+8≤N:=⟨(r.c+4+8*i).toNat,by omega,by omega⟩;have ea:(r.c+4+8*i).toNat=a:=by omega
  rw [ea] at hget hs1;have hwb:=zav g h.mem.byte a 8;have hld:=zg9 hX (k:=8) (.inr (.inr (.inr rfl))) ha2 (fun w'=>by rw [←ha];exact zph r rok i ⟨hm0,hm1⟩ w');generalize zaf g a 8=V at hld hwb hget hs1;have hru:=fun w'=>zh8 (v:=V) ⟨hwb.1,by have:=hwb.2;omega⟩ w';have e1:IntKind.wrap .i64 (V%4294967296)=V%4294967296:=zaS (by omega) (by omega);generalize V%4294967296=id at*;generalize V/4294967296=ln at*;obtain ⟨stv,nowv,sgv,fv,h1,_⟩:=hX.obj;have c14:=h1.cell 14 _ rfl;obtain ⟨hel1,hel2⟩:=zfi hget;obtain ⟨f1,f2,f3⟩:=hbb.free;obtain ⟨g1,g2,g3,g4⟩:=hbb.ids hel1;have hkeys:=hbb.heads;have hnn:((r.n.toNat:Nat):Int)=r.n:=by omega
  have hnat:1≤r.n.toNat∧r.n.toNat≤16:=by omega
  have hne0:=hbb.ne e hel1;have hsn1:=zer (s.sn+1);clear hs hb hN hF ha ha2 ea rn rd rv rc hwb hm0 hm1;go_enter func110,ntmps110;go_wp2_with (first
    | (go_at_call 103;refine hsl.mono ?_;rintro en w' ⟨rfl,hw⟩;have hw:=hw.symm;subst hw)
    | (go_at_call 104;refine hld.mono ?_;rintro en w2 ⟨rfl,hb2⟩)
    | (go_at_call 152;refine (hru _).mono ?_;rintro en w4 ⟨rfl,hb4⟩)
    | go_in)
  have hbY:=(Below.refl w2.heap.size w2).alloc (Nat.le_refl _) (Obj.cells #[.int .i64 2,.int .i64 8,.int .i64 i] 56);have hbZ:=(Below.refl w4.heap.size w4).alloc (Nat.le_refl _) (Obj.cells #[.int .u32 id,.int .u32 ln] 67);have h5:=((hX.below hb2).below hbY).below hb4;have hyS:=((hX.below hb2).neX).1;have h6:=h5.below hbZ;have k6:=(((k2.below hb2 k2.lt).below hbY (k2.below hb2 k2.lt).lt).below hb4 ((k2.below hb2 k2.lt).below hbY (k2.below hb2 k2.lt).lt).lt).below hbZ (((k2.below hb2 k2.lt).below hbY (k2.below hb2 k2.lt).lt).below hb4 ((k2.below hb2 k2.lt).below hbY (k2.below hb2 k2.lt).lt).lt).lt;have y2:=Cl.new w2 #[.int .i64 2,.int .i64 8,.int .i64 i] 56;have y6:=(y2.below hb4 y2.lt).below hbZ (y2.below hb4 y2.lt).lt;have z6:=Cl.new w4 #[.int .u32 id,.int .u32 ln] 67;have o6:=(((h1.below hb2 h1.lt).below hbY (h1.below hb2 h1.lt).lt).below hb4 ((h1.below hb2 h1.lt).below hbY (h1.below hb2 h1.lt).lt).lt).below hbZ (((h1.below hb2 h1.lt).below hbY (h1.below hb2 h1.lt).lt).below hb4 ((h1.below hb2 h1.lt).below hbY (h1.below hb2 h1.lt).lt).lt).lt;have hm6:=((((zaa (K:=fun b=>b=S∨b=M) hbx).trans (zaa hb2)).trans (zaa hbY)).trans (zaa hb4)).trans (zaa hbZ);have hYn:=(hX.below hb2).neX;have hZn:=h5.neX;have hZX:w4.heap.size≠w.heap.size:=by
    have:=hbx.size;have:=hb2.size;have:=hbY.size;have:=hb4.size;have h0:w.heap.size<(w.alloc (Obj.cells #[.int .i64 0,.int .i64 0,.int .i64 0] 56)).heap.size:=by simp
    omega
  have hYX:w2.heap.size≠w.heap.size:=by
    have:=hb2.size;have h0:w.heap.size<(w.alloc (Obj.cells #[.int .i64 0,.int .i64 0,.int .i64 0] 56)).heap.size:=by simp
    omega
  clear hX h5 hbY hbZ hb2 hb4 hld hsl hru h1 hbx;generalize w4.alloc (Obj.cells #[.int .u32 id,.int .u32 ln] 67)=W at*;generalize w4.heap.size=Z at*;generalize w2.heap.size=Y at*;have hbd:=(Below.refl W.heap.size W).drew;have hd6:=h6.below hbd;obtain ⟨v,hov,hlk⟩:=(hd6.out.look id true).2 e hget;simp only [if_true] at hlk;obtain ⟨O,iv,rfl,hOA,hOr,hiv⟩:=hov;have o6d:=o6.kept (w':=W.drew) rfl;have z6d:=z6.kept (w':=W.drew) rfl;have k6d:=k6.kept (w':=W.drew) rfl;have y6d:=y6.kept (w':=W.drew) rfl;have c12:=o6.cell 12 _ rfl;have d12:=o6d.cell 12 _ rfl;have u0:=z6.cell 0 _ rfl;have v0:=z6d.cell 0 _ rfl;go_region_held3 (fun w'=>w'.cell? ⟨S,12,none⟩=some (.map (some M))∧w'.cell? ⟨Z,0,none⟩=some (.int .u32 id)) (go_keep) (fail)
  all_goals
    have hmd6:=hm6.trans (zaa (K:=fun b=>b=S∨b=M) hbd);clear h6 k6 y6 z6 o6 c12 u0 hlk hm6;generalize W.drew=W1 at*;have hbd1:=(Below.refl W1.heap.size W1).drew;have h7:=hd6.below hbd1;obtain ⟨arr,clock,hM1,⟨hwf,hbn⟩,hmv⟩:=h7.out.map;obtain ⟨vv,hvv,_⟩:=(hmv id).2 e hget;obtain ⟨arr',clock',hdel,hwf',hbn',hv'⟩:=zu8 znm hM1 hwf hbn hvv;obtain ⟨hM2,hmS⟩:=zgI (arr:=arr') (clock:=clock') hM1;have hkA: ∀k,k<W1.drew.heap.size→ ¬(A k∨k=w.heap.size)→(zcT W1.drew M arr' clock').heap[k]? =W1.drew.heap[k]? :=fun k hk hn=>hmS.block k hk fun q=>hn (by have q:k=M:=q;exact .inl (q▸h.aM));have hout:=h7.out.del hkA ⟨arr',clock',arr,clock,hM2,hM1,⟨hwf',hbn'⟩,hv'⟩;have h8:=h7.setOut hmS hout;have o7:=o6d.kept (w':=W1.drew) rfl;have z7:=z6d.kept (w':=W1.drew) rfl;have k7:=k6d.kept (w':=W1.drew) rfl;have y7:=y6d.kept (w':=W1.drew) rfl;have hSM: ¬S=M:=h.ne;have hZM: ¬Z=M:=hZn.2.1;have hYM: ¬Y=M:=hYn.2.1;have hOM: ¬O=M:=fun q=>hOA (.inl (q▸h.aM));have hOl1:O<W1.heap.size:=zaz hOr (by simp);have o8:Cl (zcT W1.drew M arr' clock') S _:=o7.kept (hmS.block S o7.lt hSM);have z8:=z7.kept (hmS.block Z z7.lt hZM);have k8:=k7.kept (hmS.block _ k7.lt hne.2.1);have y8:=y7.kept (hmS.block Y y7.lt hYM);have hO8:=zae hOr (hmS.block O hOl1 hOM);have hiv8:=(hiv.setK (w':=W1.drew) (fun _ _ q=>q) (fun b hb' _=>rfl)).setK (A':=fun b=>A b∨b=w.heap.size) (fun _ _ q=>q) hkA;have c12:=o6d.cell 12 _ rfl;have d12':=o7.cell 12 _ rfl;have e12:=o8.cell 12 _ rfl;have u0:=z6d.cell 0 _ rfl;have v0':=z7.cell 0 _ rfl;have w0:=z8.cell 0 _ rfl;go_wp2_with fail;go_region_held3 (fun w'=>w'.cell? ⟨S,12,none⟩=some (.map (some M))∧w'.cell? ⟨Z,0,none⟩=some (.int .u32 id)) (go_keep)
      ((first
        | (refine zpD (P0:=prog) (by rfl) _ _ 121 3 (by rfl) (vm:= .map (some M)) (vx:= .int .i64 id) (by rfl) (by rfl) hdel ?_)))
    all_goals
      have hm8:=hmd6.trans ((zaa (K:=fun b=>b=S∨b=M) hbd1).trans (hmS.mono fun b q=> .inr q));clear h7 hM1 hdel hM2 hout hd6 o7 z7 k7 y7 o6d z6d k6d y6d hOr hiv c12 d12' e12 u0 v0' w0 hmS hkA hOl1 d12 v0 hmd6 hbd1 hbd;generalize zcT W1.drew M arr' clock'=W2 at*;have hbd2:=(Below.refl W2.heap.size W2).drew;obtain ⟨ia,ic,rfl,hicap,hir⟩:=hiv8;obtain ⟨R,o,rfl,hRA,hRr⟩:=hir.resolve_left hne0;obtain ⟨stv2,nowv2,sgv2,fv2,o8b,hq1,hq2,hq3,hq4,hq5⟩:=h8.obj;obtain ⟨fa,fc,rfl,hfcap,hfr⟩:=hq5;have hfv:fv= .slice fa s.F.length fc:=by
        have e1:=o8.cell 11 _ rfl;have e2:=o8b.cell 11 _ rfl;rw [e1] at e2;exact Option.some.inj e2
      subst hfv;have hfI:IntsV W2.drew fa s.F:=hfr.elim .inl fun ⟨R,o,q1,_,q2⟩=> .inr ⟨R,o,q1,zae (w':=W2.drew) q2 rfl⟩;have hgv:=zri (w:=W2.drew) (c:=fc) (cl:=ic) hfI (.inr ⟨R,o,rfl,zae (w':=W2.drew) hRr rfl⟩) hne0 hnat f1 g1 g3 f2 g2 (by omega);rw [hnn] at hgv;have o8d:=o8.kept (w':=W2.drew) rfl;have a10:=o8.cell 10 _ rfl;have a11:=o8.cell 11 _ rfl;have aO:=hO8 1 _ rfl;have d10:=o8d.cell 10 _ rfl;have d11:=o8d.cell 11 _ rfl;rw [Nat.zero_add] at aO;have dO:W2.drew.cell? ⟨O,1,none⟩=_:=aO;have hOS:O≠S:=fun q=>hOA (.inl (q▸h.aS));have hSO:=hOS.symm;clear hq1 hq2 hq3 hq4 hfr hfcap hfI hir hRr hicap o8b;go_wp2_with fail;go_cut [] from 43 to 57 (fun wx=> ∃G cap,Cl wx S (({ s with L:=zbQ s.L id }:SD).row r P M stv nowv sgv (.slice (some ⟨G,0,none⟩) (e.ids++s.F).length cap))∧SDWf fns nw (fun b=>A b∨b=w.heap.size) wx S P L Bs B M N r { s with L:=zbQ s.L id,F:=e.ids++s.F } g∧Dw.Mv (· =S) W2 wx)
      case first=>
        go_region_law (first
          | (go_simp;go_at_call 153;refine hgv.mono ?_;rintro en w9 ⟨G,cap,rfl,hgc,hGw,hGr,hb9⟩;have p9:=o8d.below hb9 o8d.lt;have y10:=p9.cell 10 _ rfl;have y11:=p9.cell 11 _ rfl;have z10:=p9.free 10;have z11:=p9.free 11))
        all_goals
          go_wp2_with fail;go_meet;have hl:(e.ids++s.F).length=e.ids.length+s.F.length:=List.length_append;have hA8:=h8.lt;have h9:=(h8.below hbd2).below hb9;have hq:W2.drew.heap.size=W2.heap.size:=rfl;have hIdV:IdV (fun b=>A b∨b=w.heap.size) w9 (.slice (some ⟨G,0,none⟩) (e.ids.length+s.F.length) cap) (e.ids++s.F):=⟨_,_,by rw [hl],hgc,.inr ⟨G,0,rfl,fun q=>by have:=hA8 G q;omega,hGr⟩⟩;exact ⟨G,cap,by rw [hl];exact (p9.set 10 _ (by show 10<25;decide)).set 11 _ (by show 11<25;decide),h9.setFree hIdV,zaH (K:=(· =S)) (zaH (K:=(· =S)) ((zaa hbd2).trans (zaa hb9)) S 10 _ rfl) S 11 _ rfl⟩
      case rest=>
        obtain ⟨G,cap,p10,h10,hm10⟩:=hcut;have hOl2:O<W2.heap.size:=zaz hO8 (by simp);have z10:=z8.kept (hm10.block Z z8.lt hZn.1);have y10:=y8.kept (hm10.block Y y8.lt hYn.1);have k10:=k8.kept (hm10.block _ k8.lt hne.1);have hO10:=zae hO8 (hm10.block O hOl2 hOS);have x14:=p10.cell 14 _ rfl;have f14:=p10.free 14;have p11:=p10.set 14 (.int .u16 ((s.sn+1)%65536)) (by show 14<25;decide);have h11:=h10.setRow (s':= { s with L:=zbQ s.L id,F:=e.ids++s.F,sn:=(s.sn+1)%65536 }) 14 (.int .u16 ((s.sn+1)%65536)) (by decide) (fun _ _ _ _=>rfl) rfl rfl rfl rfl;have hm11:Dw.Mv (· =S) wc (wc.setCell ⟨S,14,none⟩ (.int .u16 ((s.sn+1)%65536))):=zaH (K:=(· =S)) (zaa (Below.refl _ _)) S 14 _ rfl;have z11:=z10.kept (hm11.block Z z10.lt hZn.1);have y11:=y10.kept (hm11.block Y y10.lt hYn.1);have k11:=k10.kept (hm11.block _ k10.lt hne.1);have hO11:=zae hO10 (hm11.block O (zaz hO10 (by simp)) hOS);clear a10 a11 d10 d11 aO dO o8 o8d hgv h8 hbd2 z8 y8 k8 hO8 hOl2;go_wp2_with fail;have hmW:=(hm8.trans (hm10.mono fun b q=> .inl q)).trans (hm11.mono fun b q=> .inl q);clear x14 f14 z10 y10 k10 hO10 p10 h10 hm10 hm11 hm8;generalize wc.setCell ⟨S,14,none⟩ (.int .u16 ((s.sn+1)%65536))=W3 at*;have hbd3:=(Below.refl W3.heap.size W3).drew;have hO0:=hO11 0 _ rfl;rw [Nat.zero_add] at hO0;have hO0d:W3.drew.cell? ⟨O,0,none⟩=_:=hO0;have p11d:=p11.kept (w':=W3.drew) rfl;have z11d:=z11.kept (w':=W3.drew) rfl;have u1:=z11.cell 1 _ rfl;have v1:=z11d.cell 1 _ rfl;have s20:=p11d.cell 20 _ rfl;have s21:=p11d.cell 21 _ rfl;have r20:=p11d.free 20;have r21:=p11d.free 21;have s20':=p11.cell 20 _ rfl;have s21':=p11.cell 21 _ rfl;have r20':=p11.free 20;have r21':=p11.free 21;have hZS:Z≠S:=hZn.1;have hSZ:=hZS.symm;go_region_held3 (fun w'=>w'.cell? ⟨O,0,none⟩=some (.int .i64 e.tk)∧w'.cell? ⟨Z,1,none⟩=some (.int .u32 ln)) (go_keep) (fail)
        all_goals
          have h12:=((h11.setRow (s':= { s with L:=zbQ s.L id,F:=e.ids++s.F,sn:=(s.sn+1)%65536,tok:=e.tk }) 20 (.int .i64 e.tk) (by decide) (fun _ _ _ _=>rfl) rfl rfl rfl rfl).setRow (s':= { s with L:=zbQ s.L id,F:=e.ids++s.F,sn:=(s.sn+1)%65536,tok:=e.tk,wr:=ln }) 21 (.int .u32 ln) (by decide) (fun _ _ _ _=>rfl) rfl rfl rfl rfl);have hm12:Dw.Mv (· =S) W3 ((W3.setCell ⟨S,20,none⟩ (.int .i64 e.tk)).setCell ⟨S,21,none⟩ (.int .u32 ln)):=zaH (K:=(· =S)) (zaH (K:=(· =S)) (zaa (Below.refl _ _)) S 20 _ rfl) S 21 _ rfl;have y12:=(y11.kept (hm12.block Y y11.lt hYn.1)).kept (w':=((W3.setCell ⟨S,20,none⟩ (.int .i64 e.tk)).setCell ⟨S,21,none⟩ (.int .u32 ln)).drew) rfl;have k12:=(k11.kept (hm12.block _ k11.lt hne.1)).kept (w':=((W3.setCell ⟨S,20,none⟩ (.int .i64 e.tk)).setCell ⟨S,21,none⟩ (.int .u32 ln)).drew) rfl;have h13:=h12.below (Below.refl _ _).drew;have hm13:=(hmW.trans (hm12.mono fun b q=> .inl q)).trans (zaa (K:=fun b=>b=S∨b=M) (Below.refl _ _).drew);clear s20 s21 r20 r21 s20' s21' r20' r21' u1 v1 hO0 hO0d p11 p11d z11 z11d h12 hm12 y11 k11 h11 hbd3 hO11;generalize ((W3.setCell ⟨S,20,none⟩ (.int .i64 e.tk)).setCell ⟨S,21,none⟩ (.int .u32 ln)).drew=W5 at*;have t0:=y12.cell 0 _ rfl;have t1:=y12.cell 1 _ rfl;have t2:=y12.cell 2 _ rfl;have b0:=k12.cell 0 _ rfl;have b1:=k12.cell 1 _ rfl;have b2:=k12.cell 2 _ rfl;have q0:=k12.free 0;have q1:=k12.free 1;have q2:=k12.free 2;go_wp2_with fail;obtain ⟨kA,hm⟩:=acc3 hm13 (.inr (Nat.le_refl _)) k12 (.int .i64 2) (.int .i64 8) (.int .i64 i);refine bodyPost_ret (zaL rfl _ _ w.heap.size [.int .i64 2,.int .i64 8,.int .i64 i] _ rfl (zbn kA) underlying56 rfl (by kernel_rfl)) rfl ?_;rw [hel2] at hs1;subst hs1;exact ⟨rfl,h13.acc h.aS h.aM h.aB hne _ _ _,hm⟩
end
end Go.Proofs
namespace Go.Proofs
open Go.Dw Go.RowKit Go.Maps Go.Sort Go.Deep
section
variable {fns fns':List Nat} {nw nw':Prop} {A A':Nat→Prop} {w w':World} {S P L Bs B M N:Nat} {r:Tryz.Rg} {s s':Tryz.SD} {g g':Nat→Int}
set_option maxRecDepth 100000 in
theorem Tryz.zsc (hd:SDW A w S P L Bs B M N r s g) (hb:s.br=false) (hp:s.ph≠0) {fn:Nat} {rest:List Nat} (hen: ∀args w,(callFunc fn args).run prog w= .ok (.enter fn args) w) (hf:zbN s.ph=fn::rest) {k wh i:Int} {fns1:List Nat} {nw1:Prop} {s1:SD} {g1:Nat→Int}
    (hcall: ∀A1 w1,SDWf rest (1≤s.ph∧s.ph≤6) A1 w1 S P L Bs B M N r s g→Calls prog fn #[.pointer (some ⟨S,0,none⟩)] w1 fun e w'=>e= .returned (.tuple #[.agg #[.int .i64 k,.int .i64 wh,.int .i64 i],.bool true])∧SDWf fns1 nw1 A1 w' S P L Bs B M N r s1 g1∧Dw.Mv (sdK S M B) w1 w'):
    Calls prog 23 #[.pointer (some ⟨S,0,none⟩)] w fun e w'=>e= .returned (.tuple #[.agg #[.int .i64 k,.int .i64 wh,.int .i64 i],.int .i64 0])∧SDWf fns1 nw1 A w' S P L Bs B M N r { s1 with dn:=decide (fns1.length=0) } g1∧Dw.Mv (sdK S M B) w w':=by
  have h:=hd.f;have hlt:=h.mvNe;have hbx:=(Below.refl w.heap.size w).alloc (Nat.le_refl _) (Obj.cells #[.int .i64 0,.int .i64 0,.int .i64 0] 56);have k2:=Cl.new w #[.int .i64 0,.int .i64 0,.int .i64 0] 56;have he:=zkQ (hd.below hbx);have hz:=zeC (hd.below hbx);rw [hb,if_neg (by decide)] at he;rw [decide_eq_true hp] at hz;have hX:=h.box (Obj.cells #[.int .i64 0,.int .i64 0,.int .i64 0] 56);obtain ⟨stv,nowv,sgv,fv,oX,hstv,hrest⟩:=hX.obj;obtain ⟨sa,c,rfl,hsc,hsr⟩:=hstv;rw [hf] at hsc;rw [hf,List.length_cons] at oX;obtain ⟨R,o,rfl,hRA,hRr⟩:=hsr.resolve_left (by rw [hf];intro e;cases e);rw [hf] at hRr;have hRS:R≠S:=fun q=>hRA (.inl (q▸h.aS));rw [List.length_cons] at hsc;obtain ⟨o1,c1,ho1⟩: ∃o1 c1,(c=1∧o1=o∧c1=0)∨(c≠1∧o1=o+1∧c1=c-1):=by
    by_cases q:c=1
    · exact ⟨o,0,.inl ⟨q,rfl,rfl⟩⟩
    · exact ⟨o+1,c-1,.inr ⟨q,rfl,rfl⟩⟩
  have hst2:SStepV (fun b=>A b∨b=w.heap.size) (w.alloc (Obj.cells #[.int .i64 0,.int .i64 0,.int .i64 0] 56)) S (.slice (some ⟨R,o1,none⟩) rest.length c1) rest:=⟨_,_,rfl,by omega,by
    rcases ho1 with ⟨q,_,_⟩|⟨_,q,_⟩
    · exact .inl (List.length_eq_zero_iff.1 (by omega))
    · refine .inr ⟨R,o1,rfl,hRA,fun j y hy=> ?_⟩;have:=hRr (j+1) y (by rw [List.map_cons,List.getElem?_cons_succ];exact hy)
      rwa [q,show o+1+j=o+(j+1) by omega]⟩
  have h2:=hX.setStep hst2;have hmS:Dw.Mv (· =S) (w.alloc (Obj.cells #[.int .i64 0,.int .i64 0,.int .i64 0] 56)) ((w.alloc (Obj.cells #[.int .i64 0,.int .i64 0,.int .i64 0] 56)).setCell ⟨S,15,none⟩ (.slice (some ⟨R,o1,none⟩) rest.length c1)):=zaH (K:=(· =S)) (zaa (Below.refl _ _)) S 15 _ rfl;have x15:=oX.cell 15 _ rfl;have f15:=oX.free 15;have r0:(w.alloc (Obj.cells #[.int .i64 0,.int .i64 0,.int .i64 0] 56)).cell? ⟨R,o,none⟩=some (.func (.func fn) #[.pointer (some ⟨S,0,none⟩)] #[]):=hRr 0 _ rfl;have hsz:w.heap.size<(w.alloc (Obj.cells #[.int .i64 0,.int .i64 0,.int .i64 0] 56)).heap.size:=by simp
  have hne:w.heap.size≠S∧w.heap.size≠M∧w.heap.size≠P∧w.heap.size≠L∧w.heap.size≠Bs∧w.heap.size≠B:=⟨by omega,by omega,by omega,by omega,by omega,by omega⟩;have k3:=k2.kept (hmS.block _ k2.lt hne.1);have hc1:(0:Int)<(rest.length:Int)+1:=by omega
  have hc2:(1:Int)≤(rest.length:Int)+1:=by omega
  have hc3:(rest.length:Int)+1≤(c:Int):=by omega
  have hh:=hcall _ _ h2;have hdkm: ∀b,b<(w.alloc (Obj.cells #[.int .i64 0,.int .i64 0,.int .i64 0] 56)).heap.size→b≠S→b≠M→b≠B→ ∀ {w3:World},Dw.Mv (sdK S M B) ((w.alloc (Obj.cells #[.int .i64 0,.int .i64 0,.int .i64 0] 56)).setCell ⟨S,15,none⟩ (.slice (some ⟨R,o1,none⟩) rest.length c1)) w3→w3.heap[b]? =((w.alloc (Obj.cells #[.int .i64 0,.int .i64 0,.int .i64 0] 56)).setCell ⟨S,15,none⟩ (.slice (some ⟨R,o1,none⟩) rest.length c1)).heap[b]? :=fun b hb1 n1 n2 n3 {w3} hm=>hm.block b (by have:=hmS.size;omega) fun q=>by rcases q with q|q|q<;>contradiction
  have hbxm:=zaa (K:=sdK S M B) hbx;clear hRr hst2 hX hsr hrest hcall hf hlt hsz hbx hsc;rcases ho1 with ⟨rfl,rfl,rfl⟩|⟨hc4,rfl,rfl⟩
  all_goals
    go_enter func23,ntmps23;go_wp2_with (first
      | (go_at_call 33;refine he.mono ?_;rintro e w' ⟨rfl,hw⟩;have hw:=hw.symm;subst hw)
      | (go_at_call 32;refine hz.mono ?_;rintro e w' ⟨rfl,hw⟩;have hw:=hw.symm;subst hw)
      | (refine hh.mono ?_;rintro en w3 ⟨rfl,h3,hm3⟩;have k4:=k3.kept (hdkm _ k2.lt hne.1 hne.2.1 hne.2.2.2.2.2 hm3);have hbY:=(Below.refl w3.heap.size w3).alloc (Nat.le_refl _) (Obj.cells #[.int .i64 k,.int .i64 wh,.int .i64 i] 56);have h4:=h3.below hbY;have y4:=Cl.new w3 #[.int .i64 k,.int .i64 wh,.int .i64 i] 56;have k5:=k4.below hbY k4.lt;have hyn:w3.heap.size≠w.heap.size:=fun q=>Nat.lt_irrefl _ (q▸k4.lt);have hyS:w3.heap.size≠S:=fun q=>Nat.lt_irrefl _ (q▸h3.lt S h3.aS);obtain ⟨stv1,nowv1,sgv1,fv1,o4,⟨sa1,cc1,rfl,hz1,hz2⟩,hz3⟩:=h4.obj;clear hz1 hz2 hz3;have v15:=o4.cell 15 _ rfl;have v23:=o4.cell 23 _ rfl;have fv23:=o4.free 23;have h5:=h4.setRow (s':= { s1 with dn:=((fns1.length:Int)==0) }) 23 (.bool ((fns1.length:Int)==0)) (by decide) (fun _ _ _ _=>rfl) rfl rfl rfl rfl;have hm5:Dw.Mv (· =S) (w3.alloc (Obj.cells #[.int .i64 k,.int .i64 wh,.int .i64 i] 56)) ((w3.alloc (Obj.cells #[.int .i64 k,.int .i64 wh,.int .i64 i] 56)).setCell ⟨S,23,none⟩ (.bool ((fns1.length:Int)==0))):=zaH (K:=(· =S)) (zaa (Below.refl _ _)) S 23 _ rfl;have k6:=k5.kept (hm5.block _ k5.lt hne.1);have y6:=y4.kept (hm5.block _ y4.lt hyS);have z0:=y6.cell 0 _ rfl;have z1:=y6.cell 1 _ rfl;have z2:=y6.cell 2 _ rfl;have b0:=k6.cell 0 _ rfl;have b1:=k6.cell 1 _ rfl;have b2:=k6.cell 2 _ rfl;have q0:=k6.free 0;have q1:=k6.free 1;have q2:=k6.free 2;have hmv:=(((hbxm.trans (hmS.mono fun b q=> .inl q)).trans hm3).trans (zaa hbY)).trans (hm5.mono fun b q=> .inl q))
      | go_in)
    have hq:((fns1.length:Int)==0)=decide (fns1.length=0):=by rw [Bool.eq_iff_iff];simp
    have h5f:=h5.alt (s':= { s1 with dn:=decide (fns1.length=0) }) (fun _ _ _ _=>by unfold SD.row;simp only [hq]) rfl rfl rfl rfl;have kA:=(((k6.set 0 (.int .i64 k) (by simp)).set 1 (.int .i64 wh) (by simp)).set 2 (.int .i64 i) (by simp));refine bodyPost_ret (zaL rfl _ _ w.heap.size [.int .i64 k,.int .i64 wh,.int .i64 i] _ rfl (fun j y hy=>by rw [Nat.zero_add];exact kA.cell j y hy) underlying56 rfl (by kernel_rfl)) rfl ?_;exact ⟨rfl,h5f.fin h.aS h.aM h.aB ⟨by omega,by omega,by omega,by omega,by omega,by omega⟩ (zaH (zaH (zaH (zaa (K:=(· =w.heap.size)) (Below.refl _ _)) w.heap.size 0 _ rfl) w.heap.size 1 _ rfl) w.heap.size 2 _ rfl),zaA (zaA (zaA (hmv) w.heap.size 0 _ (.inr (Nat.le_refl _))) w.heap.size 1 _ (.inr (Nat.le_refl _))) w.heap.size 2 _ (.inr (Nat.le_refl _))⟩
set_option maxRecDepth 100000 in
theorem Tryz.ziJ (hd:SDW A w S P L Bs B M N r s g) (hb:s.br=false) (hp:s.ph≠0) {fn:Nat} {rest:List Nat} (hen: ∀args w,(callFunc fn args).run prog w= .ok (.enter fn args) w) (hf:zbN s.ph=fn::rest) {k wh i:Int} {fns1:List Nat} {nw1:Prop} {s1:SD} {g1:Nat→Int}
    (hcall: ∀A1 w1,SDWf rest (1≤s.ph∧s.ph≤6) A1 w1 S P L Bs B M N r s g→Calls prog fn #[.pointer (some ⟨S,0,none⟩)] w1 fun e w'=>e= .returned (.tuple #[.agg #[.int .i64 k,.int .i64 wh,.int .i64 i],.bool false])∧SDWf fns1 nw1 A1 w' S P L Bs B M N r s1 g1∧Dw.Mv (sdK S M B) w1 w'):
    Calls prog 23 #[.pointer (some ⟨S,0,none⟩)] w fun e w'=>e= .returned (.tuple #[.agg #[.int .i64 k,.int .i64 wh,.int .i64 i],.int .i64 4])∧SDWf [] nw1 A w' S P L Bs B M N r { s1 with br:=true,op:=0,nn:=false,tok:=0,wr:=0,kk:=false } g1∧Dw.Mv (sdK S M B) w w':=by
  have h:=hd.f;have hlt:=h.mvNe;have hbx:=(Below.refl w.heap.size w).alloc (Nat.le_refl _) (Obj.cells #[.int .i64 0,.int .i64 0,.int .i64 0] 56);have k2:=Cl.new w #[.int .i64 0,.int .i64 0,.int .i64 0] 56;have he:=zkQ (hd.below hbx);have hz:=zeC (hd.below hbx);rw [hb,if_neg (by decide)] at he;rw [decide_eq_true hp] at hz;have hX:=h.box (Obj.cells #[.int .i64 0,.int .i64 0,.int .i64 0] 56);obtain ⟨stv,nowv,sgv,fv,oX,hstv,hrest⟩:=hX.obj;obtain ⟨sa,c,rfl,hsc,hsr⟩:=hstv;rw [hf] at hsc;rw [hf,List.length_cons] at oX;obtain ⟨R,o,rfl,hRA,hRr⟩:=hsr.resolve_left (by rw [hf];intro e;cases e);rw [hf] at hRr;have hRS:R≠S:=fun q=>hRA (.inl (q▸h.aS));rw [List.length_cons] at hsc;obtain ⟨o1,c1,ho1⟩: ∃o1 c1,(c=1∧o1=o∧c1=0)∨(c≠1∧o1=o+1∧c1=c-1):=by
    by_cases q:c=1
    · exact ⟨o,0,.inl ⟨q,rfl,rfl⟩⟩
    · exact ⟨o+1,c-1,.inr ⟨q,rfl,rfl⟩⟩
  have hst2:SStepV (fun b=>A b∨b=w.heap.size) (w.alloc (Obj.cells #[.int .i64 0,.int .i64 0,.int .i64 0] 56)) S (.slice (some ⟨R,o1,none⟩) rest.length c1) rest:=⟨_,_,rfl,by omega,by
    rcases ho1 with ⟨q,_,_⟩|⟨_,q,_⟩
    · exact .inl (List.length_eq_zero_iff.1 (by omega))
    · refine .inr ⟨R,o1,rfl,hRA,fun j y hy=> ?_⟩;have:=hRr (j+1) y (by rw [List.map_cons,List.getElem?_cons_succ];exact hy)
      rwa [q,show o+1+j=o+(j+1) by omega]⟩
  have h2:=hX.setStep hst2;have hmS:Dw.Mv (· =S) (w.alloc (Obj.cells #[.int .i64 0,.int .i64 0,.int .i64 0] 56)) ((w.alloc (Obj.cells #[.int .i64 0,.int .i64 0,.int .i64 0] 56)).setCell ⟨S,15,none⟩ (.slice (some ⟨R,o1,none⟩) rest.length c1)):=zaH (K:=(· =S)) (zaa (Below.refl _ _)) S 15 _ rfl;have x15:=oX.cell 15 _ rfl;have f15:=oX.free 15;have r0:(w.alloc (Obj.cells #[.int .i64 0,.int .i64 0,.int .i64 0] 56)).cell? ⟨R,o,none⟩=some (.func (.func fn) #[.pointer (some ⟨S,0,none⟩)] #[]):=hRr 0 _ rfl;have hsz:w.heap.size<(w.alloc (Obj.cells #[.int .i64 0,.int .i64 0,.int .i64 0] 56)).heap.size:=by simp
  have hne:w.heap.size≠S∧w.heap.size≠M∧w.heap.size≠P∧w.heap.size≠L∧w.heap.size≠Bs∧w.heap.size≠B:=⟨by omega,by omega,by omega,by omega,by omega,by omega⟩;have k3:=k2.kept (hmS.block _ k2.lt hne.1);have hc1:(0:Int)<(rest.length:Int)+1:=by omega
  have hc2:(1:Int)≤(rest.length:Int)+1:=by omega
  have hc3:(rest.length:Int)+1≤(c:Int):=by omega
  have hh:=hcall _ _ h2;have hdkm: ∀b,b<(w.alloc (Obj.cells #[.int .i64 0,.int .i64 0,.int .i64 0] 56)).heap.size→b≠S→b≠M→b≠B→ ∀ {w3:World},Dw.Mv (sdK S M B) ((w.alloc (Obj.cells #[.int .i64 0,.int .i64 0,.int .i64 0] 56)).setCell ⟨S,15,none⟩ (.slice (some ⟨R,o1,none⟩) rest.length c1)) w3→w3.heap[b]? =((w.alloc (Obj.cells #[.int .i64 0,.int .i64 0,.int .i64 0] 56)).setCell ⟨S,15,none⟩ (.slice (some ⟨R,o1,none⟩) rest.length c1)).heap[b]? :=fun b hb1 n1 n2 n3 {w3} hm=>hm.block b (by have:=hmS.size;omega) fun q=>by rcases q with q|q|q<;>contradiction
  have hbxm:=zaa (K:=sdK S M B) hbx;clear hRr hst2 hX hsr hrest hcall hf hlt hsz hbx hsc;rcases ho1 with ⟨rfl,rfl,rfl⟩|⟨hc4,rfl,rfl⟩
  all_goals
    go_enter func23,ntmps23;go_wp2_with (first
      | (go_at_call 33;refine he.mono ?_;rintro e w' ⟨rfl,hw⟩;have hw:=hw.symm;subst hw)
      | (go_at_call 32;refine hz.mono ?_;rintro e w' ⟨rfl,hw⟩;have hw:=hw.symm;subst hw)
      | (refine hh.mono ?_;rintro en w3 ⟨rfl,h3,hm3⟩;have k4:=k3.kept (hdkm _ k2.lt hne.1 hne.2.1 hne.2.2.2.2.2 hm3);have hbY:=(Below.refl w3.heap.size w3).alloc (Nat.le_refl _) (Obj.cells #[.int .i64 k,.int .i64 wh,.int .i64 i] 56);have h4:=h3.below hbY;have y4:=Cl.new w3 #[.int .i64 k,.int .i64 wh,.int .i64 i] 56;have k5:=k4.below hbY k4.lt;have hyn:w3.heap.size≠w.heap.size:=fun q=>Nat.lt_irrefl _ (q▸k4.lt);have hyS:w3.heap.size≠S:=fun q=>Nat.lt_irrefl _ (q▸h3.lt S h3.aS);obtain ⟨stv1,nowv1,sgv1,fv1,o4,⟨sa1,cc1,rfl,hz1,hz2⟩,hz3⟩:=h4.obj;clear hz1 hz2 hz3;have v15:=o4.cell 15 _ rfl;have fv15:=o4.free 15;have v18:=o4.cell 18 _ rfl;have fv18:=o4.free 18;have v19:=o4.cell 19 _ rfl;have fv19:=o4.free 19;have v20:=o4.cell 20 _ rfl;have fv20:=o4.free 20;have v21:=o4.cell 21 _ rfl;have fv21:=o4.free 21;have v22:=o4.cell 22 _ rfl;have fv22:=o4.free 22;have v24:=o4.cell 24 _ rfl;have fv24:=o4.free 24;have h5:=(((((((h4.setRow (s':= { s1 with br:=true }) 24 (.bool true) (by decide) (fun _ _ _ _=>rfl) rfl rfl rfl rfl).setStep (stv':= .slice none 0 0) (fns':= []) ⟨none,0,rfl,Nat.le_refl _,.inl rfl⟩).setRow (s':= { s1 with br:=true,op:=0 }) 18 (.int .i64 0) (by decide) (fun _ _ _ _=>rfl) rfl rfl rfl rfl).setRow (s':= { s1 with br:=true,op:=0,nn:=false }) 19 (.bool false) (by decide) (fun _ _ _ _=>rfl) rfl rfl rfl rfl).setRow (s':= { s1 with br:=true,op:=0,nn:=false,tok:=0 }) 20 (.int .i64 0) (by decide) (fun _ _ _ _=>rfl) rfl rfl rfl rfl).setRow (s':= { s1 with br:=true,op:=0,nn:=false,tok:=0,wr:=0 }) 21 (.int .u32 0) (by decide) (fun _ _ _ _=>rfl) rfl rfl rfl rfl).setRow (s':= { s1 with br:=true,op:=0,nn:=false,tok:=0,wr:=0,kk:=false }) 22 (.bool false) (by decide) (fun _ _ _ _=>rfl) rfl rfl rfl rfl);have hm5:Dw.Mv (· =S) (w3.alloc (Obj.cells #[.int .i64 k,.int .i64 wh,.int .i64 i] 56)) ((((((((w3.alloc (Obj.cells #[.int .i64 k,.int .i64 wh,.int .i64 i] 56)).setCell ⟨S,24,none⟩ (.bool true)).setCell ⟨S,15,none⟩ (.slice none 0 0)).setCell ⟨S,18,none⟩ (.int .i64 0)).setCell ⟨S,19,none⟩ (.bool false)).setCell ⟨S,20,none⟩ (.int .i64 0)).setCell ⟨S,21,none⟩ (.int .u32 0)).setCell ⟨S,22,none⟩ (.bool false)):=zaH (K:=(· =S)) (zaH (K:=(· =S)) (zaH (K:=(· =S)) (zaH (K:=(· =S)) (zaH (K:=(· =S)) (zaH (K:=(· =S)) (zaH (K:=(· =S)) (zaa (K:=(· =S)) (Below.refl (w3.alloc (Obj.cells #[.int .i64 k,.int .i64 wh,.int .i64 i] 56)).heap.size (w3.alloc (Obj.cells #[.int .i64 k,.int .i64 wh,.int .i64 i] 56)))) S 24 (.bool true) rfl) S 15 (.slice none 0 0) rfl) S 18 (.int .i64 0) rfl) S 19 (.bool false) rfl) S 20 (.int .i64 0) rfl) S 21 (.int .u32 0) rfl) S 22 (.bool false) rfl;have k6:=k5.kept (hm5.block _ k5.lt hne.1);have y6:=y4.kept (hm5.block _ y4.lt hyS);have z0:=y6.cell 0 _ rfl;have z1:=y6.cell 1 _ rfl;have z2:=y6.cell 2 _ rfl;have b0:=k6.cell 0 _ rfl;have b1:=k6.cell 1 _ rfl;have b2:=k6.cell 2 _ rfl;have q0:=k6.free 0;have q1:=k6.free 1;have q2:=k6.free 2;have hmv:=(((hbxm.trans (hmS.mono fun b q=> .inl q)).trans hm3).trans (zaa hbY)).trans (hm5.mono fun b q=> .inl q))
      | go_in)
    have kA:=(((k6.set 0 (.int .i64 k) (by simp)).set 1 (.int .i64 wh) (by simp)).set 2 (.int .i64 i) (by simp));refine bodyPost_ret (zaL rfl _ _ w.heap.size [.int .i64 k,.int .i64 wh,.int .i64 i] _ rfl (fun j y hy=>by rw [Nat.zero_add];exact kA.cell j y hy) underlying56 rfl (by kernel_rfl)) rfl ?_;exact ⟨rfl,h5.fin h.aS h.aM h.aB ⟨by omega,by omega,by omega,by omega,by omega,by omega⟩ (zaH (zaH (zaH (zaa (K:=(· =w.heap.size)) (Below.refl _ _)) w.heap.size 0 _ rfl) w.heap.size 1 _ rfl) w.heap.size 2 _ rfl),zaA (zaA (zaA (hmv) w.heap.size 0 _ (.inr (Nat.le_refl _))) w.heap.size 1 _ (.inr (Nat.le_refl _))) w.heap.size 2 _ (.inr (Nat.le_refl _))⟩
end
end Go.Proofs
namespace Go.Proofs
open Go.Dw Go.RowKit Go.Maps Go.Sort Go.Deep
structure Tryz.SDI (s:SD):Prop where
 dn:s.ph≠0→s.dn=false
theorem Tryz.SDI.fresh (ev tb:Bool) (n:Nat):SDI (SD.fresh ev tb n):=⟨fun h=>absurd rfl h⟩
theorem Tryz.SDI.recl {s:SD} (h:SDI s):SDI (za9 s).2:=by
 unfold za9;split
 ·exact h
 ·split
  ·exact h
  ·exact ⟨fun _=>rfl⟩
theorem Tryz.SDI.off {s:SD} {N:Nat} {t:Int} {l:List Sg} (h:SDI s):SDI (zbG N s t l).2:=by
 unfold zbG
 repeat' split
 all_goals first|exact h|exact ⟨fun _=>rfl⟩
theorem Tryz.SDI.step {r:Rg} {s:SD} {g:Nat→Int} (h:SDI s):SDI (zay r s g).2.2.1:=by
 unfold zay;split
 ·exact h
 ·split
  ·exact h
  ·unfold zcl
   dsimp only
   repeat' split
   all_goals first|exact ⟨fun _=>rfl⟩|exact ⟨fun q=>absurd rfl q⟩
section
variable {fns fns':List Nat} {nw nw':Prop} {A A':Nat→Prop} {w w':World} {S P L Bs B M N:Nat} {r:Tryz.Rg} {s s':Tryz.SD} {g g':Nat→Int}
set_option maxRecDepth 100000 in
theorem Tryz.zmS (h:SDW A w S P L Bs B M N r s g) (hb:s.br=true∨s.ph=0):
    Calls prog 23 #[.pointer (some ⟨S,0,none⟩)] w fun e w'=>e= .returned (.tuple #[.agg #[.int .i64 0,.int .i64 0,.int .i64 0],.int .i64 (if s.br then 4 else 8)])∧SDW A w' S P L Bs B M N r s g∧Dw.Mv (sdK S M B) w w':=by
  have hbx:=(Below.refl w.heap.size w).alloc (Nat.le_refl _) (Obj.cells #[.int .i64 0,.int .i64 0,.int .i64 0] 56);have k2:=Cl.new w #[.int .i64 0,.int .i64 0,.int .i64 0] 56;have hX:=h.below hbx;have he:=zkQ hX;have hz:=zeC hX;have hm2:=zaa (K:=sdK S M B) hbx;by_cases hbr:s.br=true
  · rw [hbr] at he ⊢;go_enter func23,ntmps23;go_wp2_with (first
      | (go_at_call 33;refine he.mono ?_;rintro e w' ⟨rfl,hw⟩;have hw:=hw.symm;subst hw)
      | go_in)
    refine bodyPost_ret (zaL rfl _ _ w.heap.size [.int .i64 0,.int .i64 0,.int .i64 0] _ rfl (zbn k2) underlying56 rfl (by kernel_rfl)) rfl ?_;exact ⟨rfl,hX,hm2⟩
  · have hbf:s.br=false:=by simpa using hbr
    have hp:s.ph=0:=hb.resolve_left hbr;rw [hbf] at he ⊢;rw [hp] at hz;clear hb hbr hbf hp;go_enter func23,ntmps23;go_wp2_with (first
      | (go_at_call 33;refine he.mono ?_;rintro e w' ⟨rfl,hw⟩;have hw:=hw.symm;subst hw)
      | (go_at_call 32;refine hz.mono ?_;rintro e w' ⟨rfl,hw⟩;have hw:=hw.symm;subst hw)
      | go_in)
    refine bodyPost_ret (zaL rfl _ _ w.heap.size [.int .i64 0,.int .i64 0,.int .i64 0] _ rfl (zbn k2) underlying56 rfl (by kernel_rfl)) rfl ?_;exact ⟨rfl,hX,hm2⟩
theorem Tryz.zfj {w w':World} (h:Dw.Mv (· =S) w w'):Dw.Mv (sdK S M B) w w':=h.mono fun _ q=> .inl q
theorem Tryz.zsj {w w':World} (h:Dw.Mv (· =B) w w'):Dw.Mv (sdK S M B) w w':=h.mono fun _ q=> .inr (.inr q)
set_option maxRecDepth 100000 in
theorem Tryz.zpC (h:SDW A w S P L Bs B M N r s g) (hi:SDI s):
  Calls prog 23 #[.pointer (some ⟨S,0,none⟩)] w fun e w'=>e= .returned (.tuple #[(zay r s g).1,.int .i64 (zay r s g).2.1])∧SDW A w' S P L Bs B M N r (zay r s g).2.2.1 (zay r s g).2.2.2∧Dw.Mv (sdK S M B) w w':=by
 have hbn:=h.f.rg.ok.bnd;have hn16:=h.f.rg.n16;have hnn:((r.n.toNat:Nat):Int)=r.n:=by omega
 have hpb:=h.pb.step (r:=r) g h.f.mem.byte;unfold zay at hpb ⊢;by_cases hb:s.br=true
 ·have:=zmS h (.inl hb);rw [if_pos hb]
  rwa [if_pos hb] at this
 ·rw [if_neg hb] at hpb ⊢;by_cases hp:s.ph=0
  ·have:=zmS h (.inr hp);rw [if_pos hp]
   rwa [if_neg hb] at this
  ·rw [if_neg hp] at hpb ⊢;have hbf:s.br=false:=by simpa using hb
   have hdn:s.dn=false:=hi.dn hp;have hph:=h.pb.ph;have hcs:s.ph=1∨s.ph=2∨s.ph=3∨s.ph=4∨s.ph=5∨s.ph=6∨s.ph=11∨s.ph=12∨s.ph=13∨s.ph=14∨s.ph=15∨s.ph=16:=by omega
   have hgen:=fun {fn:Nat} {rest:List Nat} hen hf {k wh i:Int} {fns1:List Nat} {nw1:Prop} {s1:SD} {g1:Nat→Int} hcall=>zsc (fn:=fn) (rest:=rest) (k:=k) (wh:=wh) (i:=i) (fns1:=fns1) (nw1:=nw1) (s1:=s1) (g1:=g1) h hbf hp hen hf hcall;have fin: ∀ {k wh i:Int} {fns1:List Nat} {nw1:Prop} {s1 s2:SD} {g1:Nat→Int},SDB r.n.toNat s2→fns1=zbN s2.ph→(1≤s2.ph∧s2.ph≤6→nw1)→s2= { s1 with dn:=decide (fns1.length=0),ph:=s2.ph }→Calls prog 23 #[.pointer (some ⟨S,0,none⟩)] w (fun e w'=>e= .returned (.tuple #[.agg #[.int .i64 k,.int .i64 wh,.int .i64 i],.int .i64 0])∧SDWf fns1 nw1 A w' S P L Bs B M N r { s1 with dn:=decide (fns1.length=0) } g1∧Dw.Mv (sdK S M B) w w')→Calls prog 23 #[.pointer (some ⟨S,0,none⟩)] w fun e w'=>e= .returned (.tuple #[.agg #[.int .i64 k,.int .i64 wh,.int .i64 i],.int .i64 0])∧SDW A w' S P L Bs B M N r s2 g1∧Dw.Mv (sdK S M B) w w':=fun {k wh i fns1 nw1 s1 s2 g1} q1 q2 q3 q4 hc=>hc.mono fun e w' hh=>by
    obtain ⟨a,b,c⟩:=hh;refine ⟨a,⟨?_,q1⟩,c⟩;rw [←q2];exact (b.nwMono q3).alt (fun _ _ _ _=>by rw [q4];rfl) (by rw [q4]) (by rw [q4]) (by rw [q4]) (by rw [q4])
   have finN: ∀ {wh i:Int} {fns1:List Nat} {nw1:Prop},SDB r.n.toNat s.brk→Calls prog 23 #[.pointer (some ⟨S,0,none⟩)] w (fun e w'=>e= .returned (.tuple #[.agg #[.int .i64 2,.int .i64 wh,.int .i64 i],.int .i64 4])∧SDWf [] nw1 A w' S P L Bs B M N r { s with br:=true,op:=0,nn:=false,tok:=0,wr:=0,kk:=false } g∧Dw.Mv (sdK S M B) w w')→Calls prog 23 #[.pointer (some ⟨S,0,none⟩)] w fun e w'=>e= .returned (.tuple #[.agg #[.int .i64 2,.int .i64 wh,.int .i64 i],.int .i64 4])∧SDW A w' S P L Bs B M N r s.brk g∧Dw.Mv (sdK S M B) w w':=fun {wh i fns1 nw1} q1 hc=>hc.mono fun e w' hh=>by
    obtain ⟨a,b,c⟩:=hh;exact ⟨a,⟨(b.nwMono fun z=>absurd z.1 (by show¬1≤0;decide)).alt (fun _ _ _ _=>by unfold SD.row SD.brk;rw [hdn]) rfl rfl rfl rfl,q1⟩,c⟩
   rcases hcs with q|q|q|q|q|q|q|q|q|q|q|q
   all_goals
    rw [q] at hpb ⊢;unfold zcl at hpb ⊢;simp only at hpb ⊢
   ·obtain ⟨hc,hlen,hsl,hok,hse⟩:=h.pb.cw (by omega) (by omega);obtain ⟨g1,g2,g3,g4⟩:=h.pb.ids hc;have hbe:za7 s.sg=0:=by
     unfold za7;rw [hse,if_neg (by decide),if_neg (by omega)]
    refine fin (nw1:=1≤s.ph∧s.ph≤6) hpb rfl (fun z=>⟨by omega,by omega⟩) rfl (hgen (fn:=66) (fun args w=>Dw.zal (w:=w) (Dw.enters_of (by kernel_rfl)) args) (by rw [q];rfl) (s1:=s) (fns1:=zbN 2) fun A1 w1 h1=> ?_);cases htab:s.tab s.sg with
    | false=>exact (zrE h1 (by omega) g1 (fun x hx=>by have:=g2 x hx;omega) hlen (by omega) hsl hbe hok htab).mono fun e w' hh=>⟨hh.1,hh.2.1,zsj hh.2.2⟩
    | true=>exact (zrD h1 (by omega) g1 (fun x hx=>by have:=g2 x hx;omega) hlen (by omega) hsl hbe hok htab).mono fun e w' hh=>⟨hh.1,hh.2.1,zsj hh.2.2⟩
   ·obtain ⟨hc,hlen,hsl,hok,hse⟩:=h.pb.cw (by omega) (by omega);have hhd:=h.pb.head_in hc;exact fin hpb rfl (fun z=>⟨by omega,by omega⟩) rfl (hgen (fn:=67) (fun args w=>Dw.zal (w:=w) (Dw.enters_of (by kernel_rfl)) args) (by rw [q];rfl) (s1:=s) (fns1:=zbN 3) fun A1 w1 h1=>(zvd h1 (by omega) h.pb.av (h.pb.ne _ hc) ⟨hhd.1,by omega⟩).mono fun e w' hh=>⟨hh.1,hh.2.1,zsj hh.2.2⟩)
   ·exact fin hpb rfl (fun z=>⟨by omega,by omega⟩) rfl (hgen (fn:=68) (fun args w=>Dw.zal (w:=w) (Dw.enters_of (by kernel_rfl)) args) (by rw [q];rfl) (s1:=s) (fns1:=zbN 4) fun A1 w1 h1=>(zdf S w1).mono fun e w' hh=>⟨hh.1,h1.below hh.2,zaa hh.2⟩)
   ·exact fin hpb rfl (fun z=>⟨by omega,by omega⟩) rfl (hgen (fn:=69) (fun args w=>Dw.zal (w:=w) (Dw.enters_of (by kernel_rfl)) args) (by rw [q];rfl) (s1:= { s with av:=(s.av+1)%65536 }) (fns1:=zbN 5) fun A1 w1 h1=>(ztj h1 h.pb.av).mono fun e w' hh=>⟨hh.1,hh.2.1,hh.2.2.mono fun b z=>z.elim .inl fun z=> .inr (.inr z)⟩)
   ·exact fin hpb rfl (fun z=>⟨by omega,by omega⟩) rfl (hgen (fn:=68) (fun args w=>Dw.zal (w:=w) (Dw.enters_of (by kernel_rfl)) args) (by rw [q];rfl) (s1:=s) (fns1:=zbN 6) fun A1 w1 h1=>(zdf S w1).mono fun e w' hh=>⟨hh.1,h1.below hh.2,zaa hh.2⟩)
   ·by_cases hv:s.ev=true
    ·rw [if_pos hv] at hpb ⊢;exact fin hpb rfl (fun z=>absurd z.1 (by show¬1≤0;decide)) rfl (hgen (fn:=70) (fun args w=>Dw.zal (w:=w) (Dw.enters_of (by kernel_rfl)) args) (by rw [q];rfl) (fns1:=zbN 0) fun A1 w1 h1=>(ztf h1 hv h.pb.av).mono fun e w' hh=>⟨hh.1,hh.2.1,zfj hh.2.2⟩)
    ·rw [if_neg hv] at hpb ⊢;have hvf:s.ev=false:=by simpa using hv
     exact fin hpb rfl (fun z=>absurd z.1 (by show¬1≤0;decide)) rfl (hgen (fn:=70) (fun args w=>Dw.zal (w:=w) (Dw.enters_of (by kernel_rfl)) args) (by rw [q];rfl) (fns1:=zbN 0) fun A1 w1 h1=>(zte h1 hvf h.pb.av).mono fun e w' hh=>⟨hh.1,hh.2.1,zfj hh.2.2⟩)
   ·by_cases hu:r.n<zaG r s g
    ·rw [if_pos hu] at hpb ⊢;exact finN (fns1:= []) hpb (ziJ (fn:=75) (rest:= []) h hbf hp (fun args w=>Dw.zal (w:=w) (Dw.enters_of (by kernel_rfl)) args) (by rw [q];rfl) (s1:=s) fun A1 w1 h1=>(zi8 h1 h.pb.sn (.inl ⟨hu,rfl,rfl,rfl⟩)).mono fun e w' hh=>⟨hh.1,hh.2.1,zfj hh.2.2⟩)
    ·rw [if_neg hu] at hpb ⊢
     dsimp only at hpb ⊢
     by_cases hu2:0<zaG r s g
     ·rw [if_pos hu2] at hpb ⊢;exact fin hpb rfl (fun z=>absurd z.2 (by show¬15≤6;decide)) rfl (hgen (fn:=75) (fun args w=>Dw.zal (w:=w) (Dw.enters_of (by kernel_rfl)) args) (by rw [q];rfl) (s1:=s) (fns1:=zbN 15) fun A1 w1 h1=>(zi8 h1 h.pb.sn (.inr (.inl ⟨hu,hu2,rfl,rfl,rfl⟩))).mono fun e w' hh=>⟨hh.1,hh.2.1,zfj hh.2.2⟩)
     ·rw [if_neg hu2] at hpb ⊢;by_cases hv:s.ev=true
      ·rw [if_pos hv] at hpb ⊢;exact fin hpb rfl (fun z=>absurd z.2 (by show¬12≤6;decide)) rfl (hgen (fn:=75) (fun args w=>Dw.zal (w:=w) (Dw.enters_of (by kernel_rfl)) args) (by rw [q];rfl) (s1:=s) (fns1:=zbN 12) fun A1 w1 h1=>(zi8 h1 h.pb.sn (.inr (.inr (.inl ⟨hu,hu2,hv,rfl,rfl,rfl⟩)))).mono fun e w' hh=>⟨hh.1,hh.2.1,zfj hh.2.2⟩)
      ·rw [if_neg hv] at hpb ⊢;have hvf:s.ev=false:=by simpa using hv
       exact fin hpb rfl (fun z=>absurd z.1 (by show¬1≤0;decide)) rfl (hgen (fn:=75) (fun args w=>Dw.zal (w:=w) (Dw.enters_of (by kernel_rfl)) args) (by rw [q];rfl) (s1:= { s with nn:=true }) (fns1:= []) fun A1 w1 h1=>(zi8 h1 h.pb.sn (.inr (.inr (.inr ⟨hu,hu2,hvf,rfl,rfl,rfl⟩)))).mono fun e w' hh=>⟨hh.1,hh.2.1,zfj hh.2.2⟩)
   ·exact fin hpb rfl (fun z=>absurd z.2 (by show¬13≤6;decide)) rfl (hgen (fn:=111) (fun args w=>Dw.zal (w:=w) (Dw.enters_of (by kernel_rfl)) args) (by rw [q];rfl) (s1:=s) (fns1:=zbN 13) fun A1 w1 h1=>(ztp h1 h.pb.sn).mono fun e w' hh=>⟨hh.1,hh.2.1,zsj hh.2.2⟩)
   ·exact fin hpb rfl (fun z=>absurd z.2 (by show¬14≤6;decide)) rfl (hgen (fn:=68) (fun args w=>Dw.zal (w:=w) (Dw.enters_of (by kernel_rfl)) args) (by rw [q];rfl) (s1:=s) (fns1:=zbN 14) fun A1 w1 h1=>(zdf S w1).mono fun e w' hh=>⟨hh.1,h1.below hh.2,zaa hh.2⟩)
   ·by_cases hu:r.n<zaG r s g
    ·rw [if_pos hu] at hpb ⊢;exact finN (fns1:= []) hpb (ziJ (fn:=112) (rest:= []) h hbf hp (fun args w=>Dw.zal (w:=w) (Dw.enters_of (by kernel_rfl)) args) (by rw [q];rfl) (s1:=s) fun A1 w1 h1=>(zjw h1 h.pb.sn (.inl ⟨hu,rfl,rfl,rfl⟩)).mono fun e w' hh=>⟨hh.1,hh.2.1,zfj hh.2.2⟩)
    ·rw [if_neg hu] at hpb ⊢
     dsimp only at hpb ⊢
     by_cases hu2:0<zaG r s g
     ·rw [if_pos hu2] at hpb ⊢;exact fin hpb rfl (fun z=>absurd z.2 (by show¬15≤6;decide)) rfl (hgen (fn:=112) (fun args w=>Dw.zal (w:=w) (Dw.enters_of (by kernel_rfl)) args) (by rw [q];rfl) (s1:=s) (fns1:=zbN 15) fun A1 w1 h1=>(zjw h1 h.pb.sn (.inr (.inl ⟨hu,hu2,rfl,rfl,rfl⟩))).mono fun e w' hh=>⟨hh.1,hh.2.1,zfj hh.2.2⟩)
     ·rw [if_neg hu2] at hpb ⊢;exact fin hpb rfl (fun z=>absurd z.1 (by show¬1≤0;decide)) rfl (hgen (fn:=112) (fun args w=>Dw.zal (w:=w) (Dw.enters_of (by kernel_rfl)) args) (by rw [q];rfl) (s1:= { s with nn:=true }) (fns1:= []) fun A1 w1 h1=>(zjw h1 h.pb.sn (.inr (.inr ⟨hu,hu2,rfl,rfl,rfl⟩))).mono fun e w' hh=>⟨hh.1,hh.2.1,zfj hh.2.2⟩)
   ·exact fin hpb rfl (fun z=>absurd z.2 (by show¬16≤6;decide)) rfl (hgen (fn:=68) (fun args w=>Dw.zal (w:=w) (Dw.enters_of (by kernel_rfl)) args) (by rw [q];rfl) (s1:=s) (fns1:=zbN 16) fun A1 w1 h1=>(zdf S w1).mono fun e w' hh=>⟨hh.1,h1.below hh.2,zaa hh.2⟩)
   ·cases hget:zbb s.L (zaf g (r.c+4+8*(s.sn%r.n)).toNat 8%4294967296) with
    | none=>
     rw [hget] at hpb;simp only at hpb ⊢;exact finN (fns1:= []) hpb (ziJ (fn:=110) (rest:= []) h hbf hp (fun args w=>Dw.zal (w:=w) (Dw.enters_of (by kernel_rfl)) args) (by rw [q];rfl) (s1:=s) fun A1 w1 h1=>(zl9 h1 h.pb.sn hget).mono fun e w' hh=>⟨hh.1,hh.2.1,zfj hh.2.2⟩)
    | some e=>
     rw [hget] at hpb;simp only at hpb ⊢;exact fin hpb rfl (fun z=>absurd z.1 (by show¬1≤0;decide)) rfl (hgen (fn:=110) (fun args w=>Dw.zal (w:=w) (Dw.enters_of (by kernel_rfl)) args) (by rw [q];rfl) (fns1:= []) fun A1 w1 h1=>(zl8 h1 h.pb.sn h.pb hget rfl).mono fun e w' hh=>⟨hh.1,hh.2.1,hh.2.2.mono fun b z=>z.elim .inl fun z=> .inr (.inl z)⟩)
end
end Go.Proofs
namespace Go.Proofs
open Go.Dw Go.RowKit Go.Maps Go.Sort Go.Deep
section
variable {fns fns':List Nat} {nw nw':Prop} {A A':Nat→Prop} {w w':World} {S P L Bs B M N:Nat} {r:Tryz.Rg} {s s':Tryz.SD} {g g':Nat→Int}
set_option maxRecDepth 100000 in
theorem Tryz.zhW (h:SDW A w S P L Bs B M N r s g):Calls prog 16 #[.pointer (some ⟨S,0,none⟩)] w fun e w'=>e= .returned (.int .i64 (za9 s).1)∧SDW A w' S P L Bs B M N r (za9 s).2 g∧Dw.Mv (· =S) w w':=by
  have hrd:=ziV h;unfold SD.rdy at hrd;by_cases hb:s.br=true
  · have e1:za9 s=(4,s):=by unfold za9;rw [if_pos hb]
    rw [e1];rw [if_pos hb] at hrd;clear e1 hb;go_enter func16,ntmps16;go_wp2_with (first
      | (go_at_call 58;refine hrd.mono ?_;rintro e w' ⟨rfl,hw⟩;have hw:=hw.symm;subst hw)
      | go_in)
    go_ret;exact ⟨rfl,h,Dw.Mv.refl (· =S) _⟩
  · by_cases hp:s.ph=0
    · have hpb:=h.pb.recl;have e1:za9 s=(0,{ s with ph:=11,dn:=false,op:=2,nn:=false,tok:=0,wr:=0,kk:=false }):=by unfold za9;rw [if_neg hb,if_neg (by simp [hp])]
      rw [e1] at hpb ⊢;rw [if_neg hb,if_neg (by simp [hp])] at hrd;have hbx:=(Below.refl w.heap.size w).alloc (Nat.le_refl _) (Obj.cells #[.func (.func 75) #[.pointer (some ⟨S,0,none⟩)] #[]] 147);have hX:=h.f.below hbx;have hst:=SStepV.new (A:=A) (S:=S) (w:=w) (l:=zbN 11) (cs:= #[.func (.func 75) #[.pointer (some ⟨S,0,none⟩)] #[]]) h.f.lt 147 rfl;have hbg:=zn5 hX hst 2 0 0 false false;clear e1 hb;go_enter func16,ntmps16;go_wp2_with (first
        | (go_at_call 58;refine hrd.mono ?_;rintro e w' ⟨rfl,hw⟩;have hw:=hw.symm;subst hw)
        | (go_at_call 65;refine hbg.mono ?_;rintro e w2 ⟨rfl,h2,hm2⟩)
        | go_in)
      go_ret;exact ⟨rfl,⟨(h2.nwMono (nw':=1≤11∧11≤6) fun q=>absurd q.2 (by decide)).alt (s':= { s with ph:=11,dn:=false,op:=2,nn:=false,tok:=0,wr:=0,kk:=false }) (fun _ _ _ _=>rfl) rfl rfl rfl rfl,hpb⟩,(zaa (K:=(· =S)) hbx).trans hm2⟩
    · have e1:za9 s=(8,s):=by unfold za9;rw [if_neg hb,if_pos hp]
      rw [e1];rw [if_neg hb,if_pos hp] at hrd;clear e1 hb hp;go_enter func16,ntmps16;go_wp2_with (first
        | (go_at_call 58;refine hrd.mono ?_;rintro e w' ⟨rfl,hw⟩;have hw:=hw.symm;subst hw)
        | go_in)
      go_ret;exact ⟨rfl,h,Dw.Mv.refl (· =S) _⟩
end
end Go.Proofs
namespace Go.Proofs
open Go.Dw Go.RowKit Go.Maps Go.Sort Go.Deep
theorem Tryz.zpK (s:SD) {l:List Int} (h:l.Perm (s.L.map (·.tk))):l.mergeSort leI=s.outs:=by
 unfold SD.outs;exact mergeSort_of_perm_i h
theorem Tryz.zpJ (s:SD) (t:Int):(s.outs.contains t)=s.L.any fun e=>e.tk==t:=by
 have hp:s.outs.Perm (s.L.map (·.tk)):=List.mergeSort_perm _ _;rw [Bool.eq_iff_iff,List.contains_iff_mem,hp.mem_iff,List.any_eq_true];simp
open Go.Shelf
def Tryz.tokE (L:List SO) (e:MapEntry):Int:=match e.key with
 | .int _ k=>match zbb L k with
  | some x=>x.tk
  | none=>0
 | _=>0
theorem Tryz.zuK {L:List SO} {e:MapEntry} {k:Int} {x:SO} (hk:e.key= .int .i64 k) (hg:zbb L k=some x):tokE L e=x.tk:=by
 unfold tokE;rw [hk];simp only [hg]
theorem Tryz.zmP {L:List SO}: ∀(es:List MapEntry) (ks:List Int),es.map (·.key)=ks.map encZ→es.map (tokE L)=ks.map fun k=>match zbb L k with|some x=>x.tk|none=>0
 | [], [], _=>rfl
 | [], _::_,h=>by cases h
 | _::_,[],h=>by cases h
 | e::es,k::ks,h=>by
  rw [List.map_cons,List.map_cons,List.cons.injEq] at h;rw [List.map_cons,List.map_cons,zmP es ks h.2];congr 1;unfold tokE;rw [h.1]
  try rfl
theorem Tryz.OutW.toks {A:Nat→Prop} {w:World} {M:Nat} {L:List SO} (h:OutW A w M L) {arr:Array MapEntry} {clock:Nat} (hb:w.heap[M]? =some (.map arr clock)):(arr.toList.map (tokE L)).Perm (L.map (·.tk)):=by
 obtain ⟨_,ks,h1,h2⟩:=h.mkeys hb;rw [zmP _ ks h1];refine (h2.map _).trans ?_;rw [List.map_map];refine List.Perm.of_eq (List.map_congr_left fun e he=> ?_);show (match zbb L e.head with|some x=>x.tk|none=>0)=e.tk;rw [zgE h.keys he]
theorem Tryz.zlR {arr:Array MapEntry} {seen:Array Nat} {e:MapEntry} (he:e∈(Go.leftOf arr seen).toList) (hn:(arr.toList.map (·.born)).Nodup):(Go.leftOf arr seen).toList.Perm (e::(Go.leftOf arr (seen.push e.born)).toList):=by
 have h1: ∀s:Array Nat,(Go.leftOf arr s).toList=arr.toList.filter fun x=> !s.contains x.born:=fun s=>by unfold Go.leftOf;simp
 have h2:(Go.leftOf arr (seen.push e.born)).toList=(Go.leftOf arr seen).toList.filter fun x=>x.born !=e.born:=by
  rw [h1,h1,List.filter_filter];refine List.filter_congr fun x _=> ?_;have hc:(seen.push e.born).contains x.born=(seen.contains x.born||x.born==e.born):=Array.contains_push;rw [hc];cases seen.contains x.born<;>cases h:x.born==e.born<;>simp [h,bne]
 have hn2:((Go.leftOf arr seen).toList.map (·.born)).Nodup:=by
  rw [h1];exact (List.filter_sublist.map _).nodup hn
 rw [h2];generalize (Go.leftOf arr seen).toList=l at he hn2;clear h1 h2
 induction l with
 | nil=>cases he
 | cons x r ih=>
  rw [List.map_cons,List.nodup_cons] at hn2;rcases List.mem_cons.1 he with rfl|he
  ·rw [List.filter_cons_of_neg (by simp)];refine List.Perm.cons _ (List.Perm.of_eq ?_);refine (List.filter_eq_self.2 fun y hy=> ?_).symm;have:y.born≠e.born:=fun q=>hn2.1 (q▸List.mem_map.2 ⟨y,hy,rfl⟩);simpa using this
  ·have hx:x.born≠e.born:=fun q=>hn2.1 (q▸List.mem_map.2 ⟨e,he,rfl⟩);rw [List.filter_cons_of_pos (by simpa using hx)];exact ((ih he hn2.2).cons x).trans (.swap e x _)
def Tryz.zkw (arr:Array MapEntry) (w:World) (r:Nat):Nat:=match w.heap[r]? with
 | some (.mapIter _ _ seen _)=>(Go.leftOf arr seen).size
 | _=>0
theorem Tryz.zls {w:World} {r:Nat} {o o':Obj} (h:w.heap[r]? =some o):(Go.ChangeMaps.setBlock w r o').heap[r]? =some o'∧Dw.Mv (· =r) w (Go.ChangeMaps.setBlock w r o'):=by
 have hr:r<w.heap.size:=(Array.getElem?_eq_some_iff.1 h).1;refine ⟨by simp [Go.ChangeMaps.setBlock,hr],⟨rfl,rfl,rfl,by simp [Go.ChangeMaps.setBlock],fun b hb hne=> ?_⟩⟩;have hne: ¬r=b:=fun q=>hne q.symm;simp [Go.ChangeMaps.setBlock,Array.getElem?_setIfInBounds,hne]
section
variable {fns fns':List Nat} {nw nw':Prop} {A A':Nat→Prop} {w w':World} {S P L Bs B M N:Nat} {r:Tryz.Rg} {s s':Tryz.SD} {g g':Nat→Int}
set_option maxRecDepth 100000 in
theorem Tryz.zqx (h:SDW A w S P L Bs B M N r s g):Calls prog 28 #[.pointer (some ⟨S,0,none⟩)] w fun e w'=> ∃v,e= .returned v∧OwnR 3 1 w' w.heap.size v s.outs.length (zac s.outs)∧Below w.heap.size w w':=by
  have hm:=zg6 h.f;obtain ⟨stv,nowv,sgv,fv,h1,_⟩:=h.f.obj;have c12:=h1.cell 12 _ rfl;obtain ⟨arr,clock,hM,⟨hwf,hbn⟩,hmv⟩:=h.f.out.map;have hpm:=h.f.out.toks hM;have hrg:=run_range_map (P:=prog) w 121 3 123 M arr clock znm hM;have hMl:=h.f.lt M h.f.aM;have hout:=h.f.out;go_enter func28,ntmps28;go_wp2_with (first
    | (go_at_call 83;refine hm.mono ?_;rintro e w' ⟨rfl,hw⟩;have hw:=hw.symm;subst hw)
    | go_in)
  have hbR:=(Below.refl w.heap.size w).alloc (Nat.le_refl _) (.mapIter (some M) clock #[] clock);have hI0:(w.alloc (.mapIter (some M) clock #[] clock)).heap[w.heap.size]? =some (.mapIter (some M) clock #[] clock):=Go.heap_alloc_new w _;have hLl:arr.toList.length=s.L.length:=by
    have:=hpm.length_eq
    rwa [List.length_map,List.length_map] at this
  have hL16:s.L.length≤16:=by
    have hl1:=zc6 h.pb.ne;have hl2:=hl1.length_le;rw [List.length_map] at hl2;have hl3:=h.pb.all;rw [List.length_append] at hl3;have:=h.f.rg.n16;omega
  have hleft: ∀sn:Array Nat,(Go.leftOf arr sn).toList.length≤arr.toList.length:=fun sn=>by
    unfold Go.leftOf;rw [Array.toList_filter];exact List.length_filter_le _ _
  have hmem: ∀(sn:Array Nat) (e:MapEntry),e∈(Go.leftOf arr sn).toList→e∈arr.toList:=fun sn e he=>by
    unfold Go.leftOf at he;rw [Array.toList_filter] at he;exact (List.mem_filter.1 he).1
  have hall0:(Go.leftOf arr #[]).toList=arr.toList:=by
    unfold Go.leftOf;rw [Array.toList_filter];exact List.filter_eq_self.2 fun x _=>by simp
  have hA:=h.f.lt;replace hpm:HidP _:=⟨hpm⟩;replace hmv:HidP _:=⟨hmv⟩;replace hleft:HidP _:=⟨hleft⟩;replace hmem:HidP _:=⟨hmem⟩;replace hLl:HidP _:=⟨hLl⟩;obtain ⟨i0,hi0,j1,j2,j3⟩:=info_parts zq2;clear c12 hrg h1 hm;go_loopw [2] (fun c wr=> ∃(sn:Array Nat) (ts:List Int) (cv:Value),cv=c∧HidP (wr.heap[w.heap.size]? =some (.mapIter (some M) clock sn clock)∧(ts++(Go.leftOf arr sn).toList.map (tokE s.L)).Perm (arr.toList.map (tokE s.L)))∧OwnR 3 1 wr (w.heap.size+1) cv ts.length (zac ts)∧Below w.heap.size w wr) (fun _ wr=>zkw arr wr w.heap.size)
  case atStart=>exact ⟨#[],[],_,rfl,⟨hI0,by rw [hall0];exact List.Perm.refl _⟩,by simpa [zac] using OwnR.nil 3 1 _ (w.heap.size+1),hbR⟩
  case round=>
    obtain ⟨sn,ts,cv,hcv,hrel1,ho,hb⟩:=hrel;subst hcv;have hMr:=(hb.block M hMl).trans hM;have hts:ts.length+(Go.leftOf arr sn).toList.length=s.L.length:=by
      have:=hrel1.out.2.length_eq;rw [List.length_append,List.length_map,List.length_map] at this;rw [this];exact hLl.out
    rcases run_next_at (P:=prog) wr 0 w.heap.size M clock clock sn arr clock hrel1.out.1 hMr hbn.1 (Nat.le_refl _) with ⟨hz,hrun⟩|⟨e,he,w1,hw1,hrun⟩
    · have hperm:ts.Perm (s.L.map (·.tk)):=by
        have h0:(Go.leftOf arr sn).toList= []:=List.length_eq_zero_iff.1 (by rw [Array.length_toList];exact hz);have:=hrel1.out.2;rw [h0,List.map_nil,List.append_nil] at this;exact this.trans hpm.out
      have hout:HidP (ts.mergeSort leI=s.outs):=⟨zpK s hperm⟩;have hol:s.outs.length=ts.length:=by rw [←hout.out,List.length_mergeSort]
      have hrow:=ho;obtain ⟨hc0,hrow2⟩:=hrow;have hbz:w.heap.size≤w.heap.size+1:=by omega
      rcases hrow2 with ⟨hv0,hl0⟩|⟨G,cap,cur,rfl,hbase,hbk,h1',h2',h3',h4'⟩
      · subst hv0;have hts0:ts= []:=List.length_eq_zero_iff.1 hl0;have hc:=AnyM.slices_Sort_int_none zwC none 0 wr;have hc:Calls prog 84 #[.slice none 0 0] wr _:=hc;replace hol:HidP _:=⟨hol⟩;replace hts0:HidP _:=⟨hts0⟩;clear ho hc0 hl0 hrel1 hz hts;go_wp2_with (first
          | (go_at_call 84;refine hc.mono ?_;rintro e w' ⟨rfl,hw⟩;have hw:=hw.symm;subst hw)
          | go_in)
        go_ret;rw [hol.out,←hout.out,hts0.out];exact ⟨_,rfl,by simpa [zac] using OwnR.nil 3 1 _ w.heap.size,hb⟩
      · have hH:Holds (Value.int .i64) wr G 0 ts.toArray:=holds_of_blockI hbk (by simpa [zac] using h4');have hgl:G<wr.heap.size:=(Array.getElem?_eq_some_iff.1 hbk).1;have hc:=AnyM.slices_Sort_int zwC G 0 cap ts wr hH hgl (by omega);have hc:Calls prog 84 #[.slice (some ⟨G,0,none⟩) ts.length cap] wr _:=hc;replace hol:HidP _:=⟨hol⟩;clear hrel1 hz hts;go_wp2_with (first
          | (go_at_call 84;refine hc.mono ?_;rintro e w' ⟨rfl,nn,os,rfl⟩)
          | go_in)
        go_ret;rw [hol.out,←hout.out];refine ⟨_,rfl,?_,hb.grown (grownBy_sortedI _) hb.size (fun j hj=>by cases hj;omega)⟩;have:=ownsRow_sortedI (w:=wr) (n:=nn) (os:=os) (ts:=ts.mergeSort fun x y=>decide (x≤y)) (ss:=ts) (e:=3) (by simp) (show w.heap.size≤G by omega) hbk h1' h2' h3';exact this
    · have hmr:Dw.Mv (· =w.heap.size) wr w1:=by
        rcases hw1 with rfl|rfl
        · exact Dw.Mv.refl _ _
        · exact zaa (Below.refl _ _).drew
      have hI1:w1.heap[w.heap.size]? =some (.mapIter (some M) clock sn clock):=by
        rcases hw1 with rfl|rfl
        · exact hrel1.out.1
        · exact hrel1.out.1
      obtain ⟨hI2,hm2⟩:=zls (o':= .mapIter (some M) clock (sn.push e.born) clock) hI1;have hmv2:=hmr.trans hm2;have hpush:=zlR he hbn.2;have hein:=hmem.out sn e he;obtain ⟨k,hk⟩:=hwf.keys e hein;have hview:=zbv hwf hein hk;obtain ⟨x,hx,O,iv,hve,hOA,hOr⟩: ∃x,zbb s.L k=some x∧ ∃O iv,e.val= .pointer (some ⟨O,0,none⟩)∧ ¬A O∧w.rangeAt O 0 [.int .i64 x.tk,iv]:=by
        cases hg:zbb s.L k with
        | none=>rw [(hmv.out k).1 hg] at hview;cases hview
        | some x=>
          obtain ⟨v,q1,O,iv,q2,q3,q4,_⟩:=(hmv.out k).2 x hg;rw [hview] at q1;cases q1;exact ⟨x,rfl,O,iv,q2,q3,q4⟩
      have htok:=zuK hk hx;generalize hW2:Go.ChangeMaps.setBlock w1 w.heap.size (.mapIter (some M) clock (sn.push e.born) clock)=W2 at*;have hMX: ¬M=w.heap.size:=by omega
      have hM2:W2.heap[M]? =some (.map arr clock):=(hmv2.block M (Nat.lt_of_lt_of_le hMl hb.size) hMX).trans hMr;have hent:=run_entry_at (P:=prog) W2 w.heap.size M clock sn arr clock e hI2 hM2 hein hbn.2;have hOl:O<w.heap.size:=zaz hOr (by simp);have hO2:=(zae (zae hOr (hb.block O hOl)) (hmv2.block O (Nat.lt_of_lt_of_le hOl hb.size) (by show¬O=w.heap.size;omega))) 0 _ rfl;rw [Nat.zero_add] at hO2;rw [hve] at hrun hent;have hb2:=zbM hb hmv2 (Nat.le_refl _);have hol:=OwnR.lt ho;have ho1:=OwnR.kept ho (w':=W2) fun b q=>hmv2.block b (hol b q).2 (by show¬b=w.heap.size;have:=(hol b q).1;omega);have hol1:=OwnR.lt ho1;have hbn2:=(Below.refl W2.heap.size W2).alloc (Nat.le_refl _) (Obj.cells #[.int .i64 x.tk] 3);have ho2:=OwnR.kept ho1 (w':=W2.alloc (Obj.cells #[.int .i64 x.tk] 3)) fun b q=>hbn2.block b (hol1 b q).2;have kn:=Cl.new W2 #[.int .i64 x.tk] 3;have hnews: ∀j u,([.int .i64 x.tk]:List Value)[j]? =some u→(W2.alloc (Obj.cells #[.int .i64 x.tk] 3)).cell? ((⟨W2.heap.size,0,none⟩:Addr).add j)=some u:=fun j u hu=>by
        rw [Dw.addr_add];exact kn.cell (0+j) u (by rw [Nat.zero_add];exact hu)
      have hbs:=hb2.size;have hIl:w.heap.size<W2.heap.size:=(Array.getElem?_eq_some_iff.1 hI2).1;have hle:=hleft.out sn;have hlw:1≤(Go.leftOf arr sn).toList.length:=by
        have:=List.length_pos_of_mem he;omega
      have hmeas:(Go.leftOf arr (sn.push e.born)).size<zkw arr wr w.heap.size:=by
        unfold zkw;rw [hrel1.out.1];have:=hpush.length_eq;rw [List.length_cons,Array.length_toList,Array.length_toList] at this;show (Go.leftOf arr (sn.push e.born)).size<(Go.leftOf arr sn).size;omega
      have hrel2:(ts++ [x.tk]++(Go.leftOf arr (sn.push e.born)).toList.map (tokE s.L)).Perm (arr.toList.map (tokE s.L)):=by
        refine List.Perm.trans ?_ hrel1.out.2;rw [List.append_assoc];refine List.Perm.append_left ts ?_;have:=(hpush.map (tokE s.L)).symm;rw [List.map_cons,htok] at this;exact this
      replace hrel2:HidP _:=⟨hrel2⟩;replace hmeas:HidP _:=⟨hmeas⟩;replace hI2:HidP _:=⟨hI2⟩;clear he hw1 hI1 hm2 hpush hein hk hview hve htok hW2 hle hlw hrel1 hmr;go_wp2_with (first
        | (at_builtin;go_loud (refine wpList_append_own_at _ rfl _ _ 75 rfl (w.heap.size+1) 3 i0 _ 1 8 (by kernel_rfl) hi0 j1 j2 j3 rfl (by decide) cv ts.length (zac ts) rfl ho2 ⟨W2.heap.size,0,none⟩ 1 1 [.int .i64 x.tk] rfl rfl hnews (by intro y hy;simp only [List.mem_cons,List.not_mem_nil,or_false] at hy;subst hy;rfl) (by unfold maxLen;omega) (by omega) (by simp;omega) ?_);intro v2 w9 h2 h3 h4 h5;go_frame)
        | go_in)
      have hI9:w9.heap[w.heap.size]? =some (.mapIter (some M) clock (sn.push e.born) clock):=by
        rw [h3.block _ (by simp;omega) (fun q=>by have:=(hol1 _ q.symm).1;omega),hbn2.block _ hIl];exact hI2.out
      refine ⟨⟨sn.push e.born,ts++ [x.tk],v2,rfl,⟨hI9,hrel2.out⟩,?_,?_⟩,?_⟩
      · rw [List.length_append,zcC];exact h2
      · have hbw:=hb2.trans (hbn2.mono hbs);exact ⟨h3.os.trans hbw.os,h3.tape.trans hbw.tape,h3.output.trans hbw.output,Nat.le_trans hbw.size h3.size,fun b hh=>(h3.block b (Nat.lt_of_lt_of_le hh hbw.size) (fun e=>by have:=(hol1 b e.symm).1;omega)).trans (hbw.block b hh)⟩
      · have:=hmeas.out;show zkw arr w9 w.heap.size<_
        conv=>lhs;unfold zkw
        rw [hI9];exact this
end
end Go.Proofs
namespace Go.Proofs
open Go.Dw Go.RowKit Go.Maps Go.Sort Go.Deep
section
variable {fns fns':List Nat} {nw nw':Prop} {A A':Nat→Prop} {w w':World} {S P L Bs B M N:Nat} {r:Tryz.Rg} {s s':Tryz.SD} {g g':Nat→Int}
theorem Tryz.zas {w0 w1:World} (h:Below w0.heap.size w0 w1) {o:Obj}:Below w0.heap.size w0 (w1.alloc o):=h.alloc h.size o
theorem Tryz.zby {w0 w1:World} (h:Below w0.heap.size w0 w1):Below w0.heap.size w0 w1.drew:=h.drew
theorem Tryz.zdy {w0 w1 w2:World} (h:Below w0.heap.size w0 w1) (h2:Below w1.heap.size w1 w2):Below w0.heap.size w0 w2:=h.trans (h2.mono h.size)
theorem Tryz.zqz (h:SDW A w S P L Bs B M N r s g) (t:Int) (w1:World) (u:Value) (hu:OwnR 3 1 w1 w.heap.size u s.outs.length (zac s.outs)):Calls prog 59 #[u,.int .i64 t] w1 fun e w'=>e= .returned (.bool (s.L.any fun e=>e.tk==t))∧w'=w1:=by
 have hol:s.outs.length≤100000:=by
  unfold SD.outs;rw [List.length_mergeSort,List.length_map];have h1:s.L.length≤(s.L.flatMap (·.ids)).length:=by
   have: ∀(L:List SO),(∀e∈L,e.ids≠ [])→L.length≤(L.flatMap (·.ids)).length:=fun L=>by
    induction L with
    | nil=>intro _;simp
    | cons e L ih=>
     intro hh;have:=ih fun e he=>hh e (.tail _ he);have:=List.length_pos_iff.2 (hh e (.head _));rw [List.flatMap_cons,List.length_append,List.length_cons];omega
   exact this s.L h.pb.ne
  have h2:=h.pb.all;rw [List.length_append] at h2;have:=h.f.rg.n16;omega
 obtain ⟨su,cu,rfl,hr⟩:=OwnR.row hu;have:=zkW (w:=w1) (sa:=su) (c:=cu) (l:=s.outs) (by
  rcases hr with hr|⟨G,e,_,hr⟩
  ·exact .inl (List.map_eq_nil_iff.1 hr)
  ·exact .inr ⟨G,0,e,hr⟩) hol t
 have e:(s.outs.any fun x=>x==t)=s.L.any fun e=>e.tk==t:=by
  rw [←zpJ,List.contains_eq_any_beq];congr 1;funext x;exact Bool.beq_comm
 rw [e] at this;exact this
set_option maxRecDepth 100000 in
theorem Tryz.zvr (h:SDW A w S P L Bs B M N r s g) {v:Value} {l:List Sg} (hv:SegV A w v l) (hl:l.length≤100000) {t:Int} (hno:(zbG N s t l).1≠0):
    Calls prog 13 #[.pointer (some ⟨S,0,none⟩),.int .i64 t,v] w fun e w'=>e= .returned (.int .i64 (zbG N s t l).1)∧Below w.heap.size w w':=by
  have hrd:=ziV h;unfold SD.rdy at hrd;have hN:=h.f.hN;have hF:=h.f.fit;obtain ⟨sa,c,hve,_⟩:=id hv;subst hve;have hin2:=fun (w1:World) (hb:Below w.heap.size w w1)=>ztV (h.f.mem.below hb) hN (by omega) (hv.below hb) (by omega);unfold zbG at hno ⊢;by_cases hb:s.br=true
  · rw [if_pos hb] at hrd ⊢;clear hno hb;go_enter func13,ntmps13;go_wp2_with (first
      | (go_at_call 58;refine hrd.mono ?_;rintro e w' ⟨rfl,hw⟩;have hw:=hw.symm;subst hw)
      | go_in)
    go_ret;exact ⟨rfl,Below.refl _ _⟩
  rw [if_neg hb] at hrd hno ⊢;by_cases hp:s.ph≠0
  · rw [if_pos hp] at hrd ⊢;clear hno hb hp;go_enter func13,ntmps13;go_wp2_with (first
      | (go_at_call 58;refine hrd.mono ?_;rintro e w' ⟨rfl,hw⟩;have hw:=hw.symm;subst hw)
      | go_in)
    go_ret;exact ⟨rfl,Below.refl _ _⟩
  rw [if_neg hp] at hrd hno ⊢;have hout:=zqx h;have hcon:=zqz h t;by_cases ht:t<0
  · have ht':decide (t<0)=true:=decide_eq_true ht;rw [if_pos (.inl ht)];clear hno hb hp ht;go_enter func13,ntmps13;go_wp2_with (first
      | (go_at_call 58;refine hrd.mono ?_;rintro e w' ⟨rfl,hw⟩;have hw:=hw.symm;subst hw)
      | go_in)
    go_ret;exact ⟨rfl,Below.refl _ _⟩
  have ht':decide (t<0)=false:=decide_eq_false ht;by_cases htk:(s.L.any fun e=>e.tk==t)=true
  · rw [if_pos (.inr htk)];rw [htk] at hcon;clear hno hb hp ht htk;go_enter func13,ntmps13;go_wp2_with (first
      | (go_at_call 58;refine hrd.mono ?_;rintro e w' ⟨rfl,hw⟩;have hw:=hw.symm;subst hw)
      | (go_at_call 28;refine hout.mono ?_;rintro e w1 ⟨u,rfl,hu,hb1⟩)
      | (go_at_call 59;refine (hcon _ _ hu).mono ?_;rintro e w' ⟨rfl,hw⟩;have hw:=hw.symm;subst hw)
      | go_in)
    go_ret;exact ⟨rfl,hb1⟩
  have htkf:(s.L.any fun e=>e.tk==t)=false:=by simpa using htk
  rw [if_neg (by rintro (q|q);exact ht q;exact htk q)] at hno ⊢;rw [htkf] at hcon;have hobj:=h.f.obj;have hS:=h.f.lt S h.f.aS;have hc0: ∀w1,Below w.heap.size w w1→w1.cell? ⟨S,0,none⟩=some (.pointer (some ⟨P,0,none⟩)):=fun w1 hb=>by
    obtain ⟨stv,nowv,sgv,fv,h1,_⟩:=hobj;exact (h1.below hb h1.lt).cell 0 _ rfl
  by_cases hin:zbs N l≠0
  · rw [if_pos hin];have hinb:(zbs N l==0)=false:=by simpa using hin
    generalize zbs N l=e at hin2 hin hinb ⊢;clear hno hb hp ht htk htkf;go_enter func13,ntmps13;go_wp2_with (first
      | (go_at_call 58;refine hrd.mono ?_;rintro e w' ⟨rfl,hw⟩;have hw:=hw.symm;subst hw)
      | (go_at_call 28;refine hout.mono ?_;rintro e w1 ⟨u,rfl,hu,hb1⟩)
      | (go_at_call 59;refine (hcon _ _ hu).mono ?_;rintro e w' ⟨rfl,hw⟩;have hw:=hw.symm;subst hw;have x0:=hc0 _ hb1)
      | (go_at_call 60;refine (hin2 _ hb1).mono ?_;rintro e w2 ⟨rfl,hb2⟩)
      | go_in)
    go_ret;exact ⟨rfl,hb1.trans (hb2.mono hb1.size)⟩
  rw [if_neg hin] at hno ⊢;rw [Decidable.not_not.1 hin] at hin2;by_cases hl0:l.length=0
  · rw [if_pos hl0];have hb0:((l.length:Int)==0)=true:=by simpa using hl0
    clear hno hb hp ht htk htkf hin hl0;go_enter func13,ntmps13;go_wp2_with (first
      | (go_at_call 58;refine hrd.mono ?_;rintro e w' ⟨rfl,hw⟩;have hw:=hw.symm;subst hw)
      | (go_at_call 28;refine hout.mono ?_;rintro e w1 ⟨u,rfl,hu,hb1⟩)
      | (go_at_call 59;refine (hcon _ _ hu).mono ?_;rintro e w' ⟨rfl,hw⟩;have hw:=hw.symm;subst hw;have x0:=hc0 _ hb1)
      | (go_at_call 60;refine (hin2 _ hb1).mono ?_;rintro e w2 ⟨rfl,hb2⟩)
      | go_in)
    go_ret;exact ⟨rfl,hb1.trans (hb2.mono hb1.size)⟩
  rw [if_neg hl0] at hno ⊢;have hfl:s.F.length<s.need l:=by
    by_cases q:s.F.length<s.need l
    · exact q
    · rw [if_neg q] at hno;exact absurd rfl hno
  rw [if_pos hfl];have hbe:za7 l=0:=by
    unfold za7;rw [(zmX (Decidable.not_not.1 hin)).2,if_neg (by decide),if_neg hl0]
  obtain ⟨T,hT⟩: ∃T,(s.tb&&decide (1<l.length))=T:=⟨_,rfl⟩;have hneed:(s.need l:Int)=if T=true then 1 else (l.length:Int):=by unfold SD.need SD.tab;rw [hT];split<;>rfl
  have htb:=fun w1 (hb:Below w.heap.size w w1)=>zgh (h.f.below hb) sa c l.length;have hnd:=fun w1 (hb:Below w.heap.size w w1)=>ziC (w:=w1) (hv.below hb) T;simp only [if_neg (show¬za7 l≠0 from fun q=>q hbe)] at hnd;rw [←hneed] at hnd;simp only [hT] at htb;have hm1:1≤s.need l:=by
    split at hneed<;>omega
  have hrg:=h.f.rg;have hbn:=hrg.ok.bnd;have hn16:=hrg.n16;obtain ⟨stv,nowv,sgv,fv,h1,_,_,_,_,hfv⟩:=h.f.obj;obtain ⟨fa,fc,rfl,hfcap,hfr⟩:=hfv;have hfI:IntsV w fa s.F:=hfr.elim .inl fun ⟨R,o,q1,_,q2⟩=> .inr ⟨R,o,q1,q2⟩;obtain ⟨f1,f2,f3⟩:=h.pb.free;have hnn:((r.n.toNat:Nat):Int)=r.n:=by omega
  have htk2:=fun w1 (hb:Below w.heap.size w w1)=>zoV (w:=w1) (c:=fc) (m:=s.need l) (hfI.below hb) (n:=r.n.toNat) (by omega) f1 f2 (by omega) hm1 hfl;rw [hnn] at htk2;have hb0:((l.length:Int)==0)=false:=by simpa using hl0
  generalize s.need l=m at*;clear hb hp ht htk htkf hin hl0 hneed hbe hno hfl hfr hfcap hfI f1 f2 f3 hT;go_enter func13,ntmps13;go_wp2_with (first
      | (go_at_call 58;refine hrd.mono ?_;rintro e w' ⟨rfl,hw⟩;have hw:=hw.symm;subst hw)
      | (go_at_call 28;refine hout.mono ?_;rintro e w1 ⟨u,rfl,hu,hb1⟩)
      | (go_at_call 59;refine (hcon _ _ hu).mono ?_;rintro e w' ⟨rfl,hw⟩;have hw:=hw.symm;subst hw;have x0:=hc0 _ hb1)
      | (go_at_call 60;refine (hin2 _ hb1).mono ?_;rintro e w2 ⟨rfl,hb2⟩;have hb12:=zdy hb1 hb2)
      | go_in)
  have o2:=h1.below hb12 h1.lt;clear x0 hrd hout hcon hin2 hobj hc0 hu;have x10:=o2.cell 10 _ rfl;have x11:=o2.cell 11 _ rfl;have o2d:=o2.kept (w':=w2.drew) rfl;have y10:=o2d.cell 10 _ rfl;have y11:=o2d.cell 11 _ rfl;have oa2:=h1.below (zby (zas hb12 (o:=(Obj.cells #[.int .i64 0,.slice none 0 0] 79)))) h1.lt;have xa10:=oa2.cell 10 _ rfl;have xa11:=oa2.cell 11 _ rfl;go_cut [9,10,11] from 38 to 51 (fun a b c wx=>c= .int .i64 7∧Below w.heap.size w wx)
  case first=>
    go_region_law (first
        | (go_simp;go_at_call 63;refine (htb _ (by repeat (first|assumption|refine zas ?_|refine zby ?_))).mono ?_;rintro en w' ⟨rfl,hw⟩;have hw:=hw.symm;subst hw)
        | (go_simp;go_at_call 62;refine (hnd _ (by repeat (first|assumption|refine zas ?_|refine zby ?_))).mono ?_;rintro en w3 ⟨rfl,hb3⟩;have hb13:Below w.heap.size w w3:=zdy (by repeat (first|assumption|refine zas ?_|refine zby ?_)) hb3;have o3:=h1.below hb13 h1.lt;have v10:=o3.cell 10 _ rfl;have v11:=o3.cell 11 _ rfl;have hs3:=hb13.size;have oa3:=h1.below (zas hb13 (o:=(Obj.cells #[.int .i64 0,.slice none 0 0] 79))) h1.lt;have va10:=oa3.cell 10 _ rfl;have va11:=oa3.cell 11 _ rfl;first|(have zc3:=((Cl.new w2 #[.int .i64 0,.slice none 0 0] 79).kept (w':=(w2.alloc (Obj.cells #[.int .i64 0,.slice none 0 0] 79)).drew) rfl).below hb3 (by simp))|skip)
        | (go_simp;go_at_call 61;refine (htk2 _ (by repeat (first|assumption|refine zas ?_|refine zby ?_))).mono ?_;rintro en w4 ⟨rfl,hb4⟩;have hb14:Below w.heap.size w w4:=zdy (by repeat (first|assumption|refine zas ?_|refine zby ?_)) hb4;have o4:=h1.below hb14 h1.lt;have z10:=o4.cell 10 _ rfl;have z11:=o4.cell 11 _ rfl;have oa4:=h1.below (zas hb14 (o:=(Obj.cells #[.int .i64 0,.slice none 0 0] 79))) h1.lt;have za10:=oa4.cell 10 _ rfl;have za11:=oa4.cell 11 _ rfl;first|(have zc:=zc3.below hb4 zc3.lt;have c0:=zc.cell 0 _ rfl;have c1:=zc.cell 1 _ rfl;have d0:=zc.free 0;have d1:=zc.free 1;have hzb:=hb12.size)|(have zc:=(Cl.new w3 #[.int .i64 0,.slice none 0 0] 79).below hb4 (by simp);have c0:=zc.cell 0 _ rfl;have c1:=zc.cell 1 _ rfl;have d0:=zc.free 0;have d1:=zc.free 1;have hzb:=hs3)|skip))
    all_goals
      go_wp2_with fail;go_meet
      first
        | exact ⟨rfl,zas hb14⟩
        | exact ⟨rfl,zbu (zaA (zaA (zaa (K:=fun _=>False) hb14) _ 0 _ (.inr hzb)) _ 1 _ (.inr hzb))⟩
  case rest=>
    obtain ⟨rfl,hbc⟩:=hcut;go_wp2_with fail;go_ret;exact ⟨rfl,hbc⟩
end
end Go.Proofs
namespace Go.Proofs
open Go.Dw Go.RowKit Go.Maps Go.Sort Go.Deep
section
variable {fns fns':List Nat} {nw nw':Prop} {A A':Nat→Prop} {w w':World} {S P L Bs B M N:Nat} {r:Tryz.Rg} {s s':Tryz.SD} {g g':Nat→Int}
theorem Tryz.SDWf.setSF {l:List Sg} {F':List Int} {sgv' fv':Value} (h:SDWf fns nw A w S P L Bs B M N r s g) (hs:SegV A w sgv' l) (hf:IdV A w fv' F') (hm:Dw.Mv (· =S) w w') (hc: ∀stv nowv sgv fv,Cl w S (s.row r P M stv nowv sgv fv)→Cl w' S (({ s with sg:=l,F:=F' }:SD).row r P M stv nowv sgv' fv')):SDWf fns nw A w' S P L Bs B M N r { s with sg:=l,F:=F' } g:=by
 have hk: ∀b,b<w.heap.size→ ¬A b→w'.heap[b]? =w.heap[b]? :=fun b hb hn=>hm.block b hb fun e=>hn (by have e:b=S:=e;exact e▸h.aS);obtain ⟨stv,nowv,sgv,fv,h1,h2,h3,h4,h5,h6⟩:=h.ptr hk;exact h.setSB (hm.mono fun b e=> .inl e) (h.gmS hm) ⟨stv,nowv,sgv',fv',hc stv nowv sgv fv h1,h2,h3,h4,hs.setK (fun _ _ q=>q) hk,hf.setK (fun _ _ q=>q) hk⟩ rfl
theorem Tryz.SDWf.setNow {c':SO} {nowv':Value} (h:SDWf fns nw A w S P L Bs B M N r s g) (h1':nowv'.oneCell'=true) (ho:OutV A w nowv' c'):SDWf fns True A (w.setCell ⟨S,16,none⟩ nowv') S P L Bs B M N r { s with c:=c' } g:=by
 have hm:Dw.Mv (· =S) w (w.setCell ⟨S,16,none⟩ nowv'):=zaH (zaa (Below.refl _ _)) S 16 _ rfl;have hk: ∀b,b<w.heap.size→ ¬A b→(w.setCell ⟨S,16,none⟩ nowv').heap[b]? =w.heap[b]? :=fun b hb hn=>hm.block b hb fun e=>hn (by have e:b=S:=e;exact e▸h.aS);obtain ⟨stv,nowv,sgv,fv,h1,h2,h3,h4,h5,h6⟩:=h.ptr hk;exact h.setSB (hm.mono fun b e=> .inl e) (h.gmS hm) ⟨stv,nowv',sgv,fv,h1.set 16 nowv' (by show 16<25;decide),h2,h1',fun _=>ho.setK (fun _ _ q=>q) hk,h5,h6⟩ rfl
theorem Tryz.zmQ {w4 wx:World} {R o ic B0 Zb jc:Nat} {ju:Option Addr} {ids Fd:List Int} {n:Int} (hb14:Below w.heap.size w w4) (hfA: ∀b,A b→b<w.heap.size) (hB:w.heap.size≤B0) (hi2:IdV (· <B0) w4 (.slice (some ⟨R,o,none⟩) ids.length ic) ids) (hi3:IdV (· <B0) w4 (.slice ju Fd.length jc) Fd) (hR: ¬R<B0) (hRr:w4.rangeAt R o (zac ids)) (hidn:ids≠ [])
  (hm: ∀b,b<w4.heap.size→ ¬b<B0→wx.heap[b]? =w4.heap[b]?) (hbx:Below w.heap.size w wx) (hZ:w.heap.size≤Zb) (hc:Cl wx Zb [.int .i64 n,.slice ju Fd.length jc]):
  ∃ R1 o1 cR Z1 u2 cu,Value.slice (some ⟨R,o,none⟩) ids.length ic= .slice (some ⟨R1,o1,none⟩) ids.length cR∧Value.pointer (some ⟨Zb,0,none⟩)= .pointer (some ⟨Z1,0,none⟩)∧Value.int .i64 0= .int .i64 0∧w.heap.size≤Z1∧Cl wx Z1 [.int .i64 n,.slice u2 Fd.length cu]∧IdV A wx (.slice (some ⟨R1,o1,none⟩) ids.length cR) ids∧ ¬A R1∧wx.rangeAt R1 o1 (zac ids)∧IdV A wx (.slice u2 Fd.length cu) Fd∧Below w.heap.size w wx:=
 have hRl:R<w4.heap.size:=zaz hRr (by unfold zac;simpa using hidn);have hAB: ∀b,A b→b<B0:=fun b q=>Nat.lt_of_lt_of_le (hfA b q) hB
 ⟨R,o,ic,Zb,ju,jc,rfl,rfl,rfl,hZ,hc,hi2.setK (fun b _ q=>hAB b q) hm,fun q=>hR (hAB R q),zae hRr (hm R hRl hR),hi3.setK (fun b _ q=>hAB b q) hm,hbx⟩
theorem Tryz.zpA {w4:World} {R o ic B0 Zb jc:Nat} {ju:Option Addr} {ids Fd:List Int} {n:Int} {a b:Value} (hb14:Below w.heap.size w w4) (hfA: ∀b,A b→b<w.heap.size) (hB:w.heap.size≤B0) (hi2:IdV (· <B0) w4 (.slice (some ⟨R,o,none⟩) ids.length ic) ids) (hi3:IdV (· <B0) w4 (.slice ju Fd.length jc) Fd) (hR: ¬R<B0) (hRr:w4.rangeAt R o (zac ids)) (hidn:ids≠ [])
  (hZ:w.heap.size≤Zb) (hZB:Zb<B0) (hc:Cl w4 Zb [a,b]):
  ∃ R1 o1 cR Z1 u2 cu,Value.slice (some ⟨R,o,none⟩) ids.length ic= .slice (some ⟨R1,o1,none⟩) ids.length cR∧Value.pointer (some ⟨Zb,0,none⟩)= .pointer (some ⟨Z1,0,none⟩)∧Value.int .i64 0= .int .i64 0∧w.heap.size≤Z1∧Cl ((w4.setCell ⟨Zb,0,none⟩ (.int .i64 n)).setCell ⟨Zb,1,none⟩ (.slice ju Fd.length jc)) Z1 [.int .i64 n,.slice u2 Fd.length cu]∧IdV A ((w4.setCell ⟨Zb,0,none⟩ (.int .i64 n)).setCell ⟨Zb,1,none⟩ (.slice ju Fd.length jc)) (.slice (some ⟨R1,o1,none⟩) ids.length cR) ids∧ ¬A R1∧(((w4.setCell ⟨Zb,0,none⟩ (.int .i64 n)).setCell ⟨Zb,1,none⟩ (.slice ju Fd.length jc))).rangeAt R1 o1 (zac ids)∧IdV A ((w4.setCell ⟨Zb,0,none⟩ (.int .i64 n)).setCell ⟨Zb,1,none⟩ (.slice ju Fd.length jc)) (.slice u2 Fd.length cu) Fd∧Below w.heap.size w ((w4.setCell ⟨Zb,0,none⟩ (.int .i64 n)).setCell ⟨Zb,1,none⟩ (.slice ju Fd.length jc)):=
 zmQ (wx:=(w4.setCell ⟨Zb,0,none⟩ (.int .i64 n)).setCell ⟨Zb,1,none⟩ (.slice ju Fd.length jc)) hb14 hfA hB hi2 hi3 hR hRr hidn
  (fun k hk hn=>(zaH (K:=(· =Zb)) (zaH (K:=(· =Zb)) (zaa (Below.refl w4.heap.size w4)) Zb 0 (.int .i64 n) rfl) Zb 1 (.slice ju Fd.length jc) rfl).block k hk (fun e=>hn (by have e:k=Zb:=e;omega)))
  (zbu (zaA (zaA (zaa (K:=fun _=>False) hb14) Zb 0 _ (.inr hZ)) Zb 1 _ (.inr hZ))) hZ ((hc.set 0 _ (by simp)).set 1 _ (by simp))
set_option maxRecDepth 100000 in
theorem Tryz.zqy (h:SDW A w S P L Bs B M N r s g) {v:Value} {l:List Sg} (hv:SegV A w v l) (hl:l.length≤100000) {t:Int} (hyes:(zbG N s t l).1=0):
    Calls prog 13 #[.pointer (some ⟨S,0,none⟩),.int .i64 t,v] w fun e w'=>e= .returned (.int .i64 0)∧SDW A w' S P L Bs B M N r (zbG N s t l).2 g∧Dw.Mv (fun b=>b=S∨b=M) w w':=by
  have hrd:=ziV h;unfold SD.rdy at hrd;have hN:=h.f.hN;have hF:=h.f.fit;obtain ⟨sa,c,hve,hok,_⟩:=id hv;subst hve;have hin2:=fun (w1:World) (hb:Below w.heap.size w w1)=>ztV (h.f.mem.below hb) hN (by omega) (hv.below hb) (by omega);have hpb:=h.pb.off (N:=N) t l hok;obtain ⟨y1,y2,y3,y4,y5,y6,y7⟩:=zmU hyes;have htkf:(s.L.any fun e=>e.tk==t)=false:=by
    cases q:(s.L.any fun e=>e.tk==t) with
    | false=>rfl
    | true=>
      unfold zbG at hyes;rw [if_neg (by simp [y1]),if_neg (by simp [y2]),if_pos (.inr q)] at hyes;cases hyes
  have hout:=zqx h;have hcon:=zqz h t;rw [y1,y2] at hrd;rw [y4] at hin2;rw [htkf] at hcon;have ht':decide (t<0)=false:=decide_eq_false (by omega);have hl0:l.length≠0:=fun q=>y5 (List.length_eq_zero_iff.1 q);have hobj:=h.f.obj;have hc0: ∀w1,Below w.heap.size w w1→w1.cell? ⟨S,0,none⟩=some (.pointer (some ⟨P,0,none⟩)):=fun w1 hb=>by
    obtain ⟨stv,nowv,sgv,fv,h1,_⟩:=hobj;exact (h1.below hb h1.lt).cell 0 _ rfl
  have hbe:za7 l=0:=by
    unfold za7;rw [(zmX y4).2,if_neg (by decide),if_neg hl0]
  obtain ⟨T,hT⟩: ∃T,(s.tb&&decide (1<l.length))=T:=⟨_,rfl⟩;have hneed:(s.need l:Int)=if T=true then 1 else (l.length:Int):=by unfold SD.need SD.tab;rw [hT];split<;>rfl
  have htb:=fun w1 (hb:Below w.heap.size w w1)=>zgh (h.f.below hb) sa c l.length;have hnd:=fun w1 (hb:Below w.heap.size w w1)=>ziC (w:=w1) (hv.below hb) T;simp only [if_neg (show¬za7 l≠0 from fun q=>q hbe)] at hnd;rw [←hneed] at hnd;simp only [hT] at htb;have hm1:1≤s.need l:=by
    split at hneed<;>omega
  have hrg:=h.f.rg;have hbn:=hrg.ok.bnd;have hn16:=hrg.n16;obtain ⟨stv,nowv,sgv,fv,h1,_,_,_,_,hfv⟩:=h.f.obj;obtain ⟨fa,fc,rfl,hfcap,hfr⟩:=hfv;have hfI:IntsV w fa s.F:=hfr.elim .inl fun ⟨R,o,q1,_,q2⟩=> .inr ⟨R,o,q1,q2⟩;obtain ⟨f1,f2,f3⟩:=h.pb.free;have hnn:((r.n.toNat:Nat):Int)=r.n:=by omega
  have htk2:=fun w1 (hb:Below w.heap.size w w1)=>zoU (w:=w1) (c:=fc) (m:=s.need l) (hfI.below hb) hfcap (n:=r.n.toNat) (by omega) f1 f2 (by omega) hm1 y6;rw [hnn] at htk2;have hb0:((l.length:Int)==0)=false:=by simpa using hl0
  rw [y7] at hpb ⊢;generalize s.need l=m at*;obtain ⟨ids,hids⟩: ∃ids,ids=s.F.take m:=⟨_,rfl⟩;obtain ⟨Fd,hFd⟩: ∃Fd,Fd=s.F.drop m:=⟨_,rfl⟩;rw [←hids,←hFd] at htk2 hpb ⊢;have hil:ids.length=m:=by rw [hids,List.length_take];omega
  have hidn:ids≠ []:=by intro e;rw [e] at hil;simp only [List.length_nil] at hil;omega
  have hi0:(0:Int)<ids.length:=by omega
  have hi1:0<ids.length:=by omega
  have hfresh:zbb s.L (SO.head ⟨ids,t⟩)=none:=by
    rw [zdc];have:=hpb.heads;have:=(show ((s.L++ [(⟨ids,t⟩:SO)]).map SO.head).Nodup from this);rw [List.map_append,List.nodup_append] at this;intro q;exact this.2.2 _ q _ (.head _) rfl
  have hph0:HidP (s.ph=0):=⟨y2⟩;have hfA:=h.f.lt;replace hpb:HidP _:=⟨hpb⟩;replace hfresh:HidP _:=⟨hfresh⟩;replace hil:HidP _:=⟨hil⟩;clear y1 y2 y3 y4 y5 y6 y7 hids hFd htkf hl0 hneed hbe hfr hfcap hfI f1 f2 f3 hT hyes;go_enter func13,ntmps13;go_wp2_with (first
      | (go_at_call 58;refine hrd.mono ?_;rintro e w' ⟨rfl,hw⟩;have hw:=hw.symm;subst hw)
      | (go_at_call 28;refine hout.mono ?_;rintro e w1 ⟨u,rfl,hu,hb1⟩)
      | (go_at_call 59;refine (hcon _ _ hu).mono ?_;rintro e w' ⟨rfl,hw⟩;have hw:=hw.symm;subst hw;have x0:=hc0 _ hb1)
      | (go_at_call 60;refine (hin2 _ hb1).mono ?_;rintro e w2 ⟨rfl,hb2⟩;have hb12:=zdy hb1 hb2)
      | go_in)
  have o2:=h1.below hb12 h1.lt;clear x0 hrd hout hcon hin2 hobj hc0 hu;have x10:=o2.cell 10 _ rfl;have x11:=o2.cell 11 _ rfl;have o2d:=o2.kept (w':=w2.drew) rfl;have y10:=o2d.cell 10 _ rfl;have y11:=o2d.cell 11 _ rfl;have oa2:=h1.below (zby (zas hb12 (o:=(Obj.cells #[.int .i64 0,.slice none 0 0] 79)))) h1.lt;have xa10:=oa2.cell 10 _ rfl;have xa11:=oa2.cell 11 _ rfl;go_cut [9,10,11] from 38 to 51 (fun a b c wx=> ∃R o cR Zb u2 cu,a= .slice (some ⟨R,o,none⟩) ids.length cR∧b= .pointer (some ⟨Zb,0,none⟩)∧c= .int .i64 0∧w.heap.size≤Zb∧Cl wx Zb [.int .i64 r.n,.slice u2 Fd.length cu]∧IdV A wx (.slice (some ⟨R,o,none⟩) ids.length cR) ids∧ ¬A R∧wx.rangeAt R o (zac ids)∧IdV A wx (.slice u2 Fd.length cu) Fd∧Below w.heap.size w wx)
  case first=>
    go_region_law (first
        | (go_simp;go_at_call 63;refine (htb _ (by repeat (first|assumption|refine zas ?_|refine zby ?_))).mono ?_;rintro en w' ⟨rfl,hw⟩;have hw:=hw.symm;subst hw)
        | (go_simp;go_at_call 62;refine (hnd _ (by repeat (first|assumption|refine zas ?_|refine zby ?_))).mono ?_;rintro en w3 ⟨rfl,hb3⟩;have hb13:Below w.heap.size w w3:=zdy (by repeat (first|assumption|refine zas ?_|refine zby ?_)) hb3;have o3:=h1.below hb13 h1.lt;have v10:=o3.cell 10 _ rfl;have v11:=o3.cell 11 _ rfl;have hs3:=hb13.size;have oa3:=h1.below (zas hb13 (o:=(Obj.cells #[.int .i64 0,.slice none 0 0] 79))) h1.lt;have va10:=oa3.cell 10 _ rfl;have va11:=oa3.cell 11 _ rfl;first|(have zc3:=((Cl.new w2 #[.int .i64 0,.slice none 0 0] 79).kept (w':=(w2.alloc (Obj.cells #[.int .i64 0,.slice none 0 0] 79)).drew) rfl).below hb3 (by simp))|skip)
        | (go_simp;go_at_call 61;refine (htk2 _ (by repeat (first|assumption|refine zas ?_|refine zby ?_))).mono ?_;rintro en w4 ⟨u1,u2,rfl,hu1,hu2,hb4⟩;have hb14:Below w.heap.size w w4:=zdy (by repeat (first|assumption|refine zas ?_|refine zby ?_)) hb4;have o4:=h1.below hb14 h1.lt;have z10:=o4.cell 10 _ rfl;have z11:=o4.cell 11 _ rfl;have oa4:=h1.below (zas hb14 (o:=(Obj.cells #[.int .i64 0,.slice none 0 0] 79))) h1.lt;have za10:=oa4.cell 10 _ rfl;have za11:=oa4.cell 11 _ rfl;have hi2:=IdV.own hu1 (A:=(· <_)) (fun b q=>q);have hi3:=IdV.own hu2 (A:=(· <_)) (fun b q=>q);have hi2':=hi2;have hi3':=hi3;obtain ⟨iu,ic,rfl,_,hir⟩:=hi2';obtain ⟨ju,jc,rfl,_,_⟩:=hi3';obtain ⟨R,o,rfl,hRA,hRr⟩:=hir.resolve_left hidn
           first|(have zc:=zc3.below hb4 zc3.lt;have c0:=zc.cell 0 _ rfl;have c1:=zc.cell 1 _ rfl;have d0:=zc.free 0;have d1:=zc.free 1;have hzb:=hb12.size;have hzl:=zc3.lt)|(have zc:=(Cl.new w3 #[.int .i64 0,.slice none 0 0] 79).below hb4 (by simp);have c0:=zc.cell 0 _ rfl;have c1:=zc.cell 1 _ rfl;have d0:=zc.free 0;have d1:=zc.free 1;have hzb:=hs3;have hzl:=(show w3.heap.size<(w3.alloc (Obj.cells #[.int .i64 0,.slice none 0 0] 79)).heap.size from by simp))|skip))
    all_goals
      go_wp2_with fail;go_meet
      first
        | exact zmQ hb14 hfA (by first|exact hb13.size|exact (zas hb13 (o:=(Obj.cells #[.int .i64 0,.slice none 0 0] 79))).size) hi2 hi3 hRA hRr hidn (wx:=w4.alloc (Obj.cells #[.int .i64 r.n,.slice ju Fd.length jc] 79)) (fun b q1 _=>(zas (Below.refl w4.heap.size w4)).block b q1) (zas hb14) hb14.size (Cl.new w4 #[.int .i64 r.n,.slice ju Fd.length jc] 79)
        | exact zpA hb14 hfA (by first|exact hb13.size|exact (zas hb13 (o:=(Obj.cells #[.int .i64 0,.slice none 0 0] 79))).size) hi2 hi3 hRA hRr hidn hzb hzl zc
  case rest=>
    obtain ⟨R,o,cR,Zb,u2,cu,rfl,rfl,rfl,hZb,kz,hi2,hRA,hRr,hi3,hbc⟩:=hcut;have hm13:=zaa (K:=fun b=>b=S∨b=M) hbc;have hfc:=h.f.below hbc;have oc:=h1.below hbc h1.lt;have hvc:=hv.below hbc;have hZS:Zb≠S:=by have:=h1.lt;omega
    have hSZ:=hZS.symm;clear o2 o2d x10 x11 y10 y11 oa2 xa10 xa11 htb hnd htk2 hb1 hb2 hb12;go_wp2_with fail;generalize hWd:wc.drew=Wd;have hbd:Below wc.heap.size wc Wd:=hWd▸(Below.refl wc.heap.size wc).drew;have od:=oc.below hbd oc.lt;have kzd:=kz.below hbd kz.lt;have fd:=hfc.below hbd;have hcl:=zoF (hvc.below hbd) (by omega);have i0:=kz.cell 0 _ rfl;have i1:=kz.cell 1 _ rfl;have j0:=kzd.cell 0 _ rfl;have j1:=kzd.cell 1 _ rfl;subst hWd;go_cut [] from 54 to 63 (fun wx=> ∃sgv',Cl wx S (({ s with sg:=l,F:=Fd }:SD).row r P M stv nowv sgv' (.slice u2 Fd.length cu))∧SDWf (zbN s.ph) (1≤s.ph∧s.ph≤6) A wx S P L Bs B M N r { s with sg:=l,F:=Fd } g∧IdV A wx (.slice (some ⟨R,o,none⟩) ids.length cR) ids∧wx.rangeAt R o (zac ids)∧Dw.Mv (fun b=>b=S∨b=M) w wx)
    case first=>
      go_region_held3 (fun w'=>w'.cell? ⟨Zb,0,none⟩=some (.int .i64 r.n)∧w'.cell? ⟨Zb,1,none⟩=some (.slice u2 Fd.length cu)) (go_keep)
        ((first
          | (go_at_call 64;refine hcl.mono ?_;rintro en w5 ⟨u5,rfl,hu5,hb5⟩;have o5:=od.below hb5 od.lt;have kz5:=kzd.below hb5 kzd.lt;have l0:=kz5.cell 0 _ rfl;have l1:=kz5.cell 1 _ rfl;have m10:=o5.cell 10 _ rfl;have m11:=o5.cell 11 _ rfl;have m17:=o5.cell 17 _ rfl;have n10:=o5.free 10;have n11:=o5.free 11;have n17:=o5.free 17;have hs5:=OwnSeg.segV hu5 hok (A:=A) (fun b q1 q2=>by have:=fd.lt b q2;omega);obtain ⟨su5,cu5,hue,_⟩:=OwnSeg.slice hu5;subst hue)))
      all_goals
        go_wp2_with fail;go_meet;have h5:=fd.below hb5;have hb05:=hbd.trans (hb5.mono hbd.size);have hm6:Dw.Mv (· =S) w5 (((w5.setCell ⟨S,10,none⟩ (.int .i64 r.n)).setCell ⟨S,11,none⟩ (.slice u2 Fd.length cu)).setCell ⟨S,17,none⟩ (.slice su5 l.length cu5)):=zaH (K:=(· =S)) (zaH (K:=(· =S)) (zaH (K:=(· =S)) (zaa (Below.refl _ _)) S 10 _ rfl) S 11 _ rfl) S 17 _ rfl;have hkb: ∀b,b<wc.heap.size→ ¬A b→(((w5.setCell ⟨S,10,none⟩ (.int .i64 r.n)).setCell ⟨S,11,none⟩ (.slice u2 Fd.length cu)).setCell ⟨S,17,none⟩ (.slice su5 l.length cu5)).heap[b]? =wc.heap[b]? :=fun b q1 q2=>(hm6.block b (Nat.lt_of_lt_of_le q1 hb05.size) (fun e=>q2 (by have e:b=S:=e;exact e▸h.f.aS))).trans (hb05.block b q1);have hRl:R<wc.heap.size:=zaz hRr (by unfold zac;simpa using hidn);exact ⟨_,(((o5.set 10 _ (by show 10<25;decide)).set 11 _ (by show 11<25;decide)).set 17 _ (by show 17<25;decide)),h5.setSF hs5 (hi3.setK (fun _ _ q=>q) fun b q1 _=>hb05.block b q1) hm6 (fun stv nowv sgv fv q=>((q.set 10 _ (by show 10<25;decide)).set 11 _ (by show 11<25;decide)).set 17 _ (by show 17<25;decide)),hi2.setK (fun _ _ q=>q) hkb,zae hRr (hkb R hRl hRA),(hm13.trans (zaa hb05)).trans (hm6.mono fun b q=> .inl q)⟩
    case rest=>
      obtain ⟨sgv',o6,h6,hi6,hR6,hm6⟩:=hcut;clear i0 i1 j0 j1 kz kzd od hbd fd hcl hi2 hRr hi3 hvc oc hfc;have hbO:=(Below.refl wc.heap.size wc).alloc (Nat.le_refl _) (Obj.cells #[.int .i64 t,.slice (some ⟨R,o,none⟩) ids.length cR] 138);have kO:=Cl.new wc #[.int .i64 t,.slice (some ⟨R,o,none⟩) ids.length cR] 138;have hOV:OutV A (wc.alloc (Obj.cells #[.int .i64 t,.slice (some ⟨R,o,none⟩) ids.length cR] 138)) (.pointer (some ⟨wc.heap.size,0,none⟩)) ⟨ids,t⟩:=⟨wc.heap.size,_,rfl,fun q=>absurd (h6.lt _ q) (Nat.lt_irrefl _),zbn kO,hi6.setK (fun _ _ q=>q) fun b q _=>hbO.block b q⟩;have h7:=(h6.below hbO).setNow (nowv':= .pointer (some ⟨wc.heap.size,0,none⟩)) rfl hOV;have o6a:=o6.below hbO o6.lt;have o7:=o6a.set 16 (.pointer (some ⟨wc.heap.size,0,none⟩)) (by show 16<25;decide);have hm7':Dw.Mv (· =S) (wc.alloc (Obj.cells #[.int .i64 t,.slice (some ⟨R,o,none⟩) ids.length cR] 138)) ((wc.alloc (Obj.cells #[.int .i64 t,.slice (some ⟨R,o,none⟩) ids.length cR] 138)).setCell ⟨S,16,none⟩ (.pointer (some ⟨wc.heap.size,0,none⟩))):=zaH (K:=(· =S)) (zaa (Below.refl _ _)) S 16 _ rfl;have hm7:=(hm6.trans (zaa hbO)).trans (hm7'.mono fun b q=> .inl q);have hRl:R<wc.heap.size:=zaz hR6 (by unfold zac;simpa using hidn);have hRS:R≠S:=fun q=>hRA (q▸h.f.aS);have hRM:R≠M:=fun q=>hRA (q▸h.f.aM);have hR7:=zae (zae hR6 (hbO.block R hRl)) (hm7'.block R (Nat.lt_of_lt_of_le hRl hbO.size) hRS);have hOV7:=hOV.setK (A':=A) (fun _ _ q=>q) fun b q1 q2=>hm7'.block b q1 fun e=>q2 (by have e:b=S:=e;exact e▸h.f.aS);have x16:=o6a.cell 16 _ rfl;have f16:=o6a.free 16;have hSO:S≠wc.heap.size:=by have:=o6.lt;omega
      clear hbO kO hOV h6 hi6 hR6 hm6 o6;go_wp2_with fail;clear x16 f16 o6a hm7';generalize (wc.alloc (Obj.cells #[.int .i64 t,.slice (some ⟨R,o,none⟩) ids.length cR] 138)).setCell ⟨S,16,none⟩ (.pointer (some ⟨wc.heap.size,0,none⟩))=W7 at*;generalize wc.heap.size=O at*;have hbd7:=(Below.refl W7.heap.size W7).drew;have h7d:=h7.below hbd7;have o7d:=o7.kept (w':=W7.drew) rfl;have hR7d:=zae (w':=W7.drew) hR7 rfl;have hOV7d:=hOV7.setK (A':=A) (w':=W7.drew) (fun _ _ q=>q) fun b q1 q2=>rfl;obtain ⟨arr,clock,hM1,⟨hwf,hbn2⟩,hmv⟩:=h7d.out.map;obtain ⟨arr',clock',hput,hwf',hbn',hv'⟩:=zp2 znm hM1 hwf hbn2 ((hmv _).1 hfresh.out) (.pointer (some ⟨O,0,none⟩));obtain ⟨hM2,hmS⟩:=zgI (arr:=arr') (clock:=clock') hM1;have hkA: ∀k,k<W7.drew.heap.size→ ¬A k→(zcT W7.drew M arr' clock').heap[k]? =W7.drew.heap[k]? :=fun k hk hn=>hmS.block k hk fun q=>hn (by have q:k=M:=q;exact q▸h.f.aM);have hout:=h7d.out.put hkA (e:=⟨ids,t⟩) (v:= .pointer (some ⟨O,0,none⟩)) hfresh.out (hOV7d.setK (A':=A) (fun _ _ q=>q) hkA) ⟨arr',clock',arr,clock,hM2,hM1,⟨hwf',hbn'⟩,hv'⟩;have h8:=h7d.setOut hmS hout;have hhd:=zdQ (e:=⟨ids,t⟩) hR7 hidn;have hhdd:=zdQ (e:=⟨ids,t⟩) hR7d hidn;have o8':=o7d.kept (hmS.block S o7d.lt h.f.ne);have hRl7:R<W7.drew.heap.size:=zaz hR7d (by unfold zac;simpa using hidn);have hhd8:=zdQ (e:=⟨ids,t⟩) (zae hR7d (hmS.block R hRl7 hRM)) hidn;have e12:=o8'.cell 12 _ rfl;have e16:=o8'.cell 16 _ rfl;generalize SO.head ⟨ids,t⟩=hd at*;have a12:=o7.cell 12 _ rfl;have d12:=o7d.cell 12 _ rfl;have a16:=o7.cell 16 _ rfl;have d16:=o7d.cell 16 _ rfl;have hm8:=(hm7.trans (zaa (K:=fun b=>b=S∨b=M) hbd7)).trans (hmS.mono fun b q=> .inr q);clear hM1 hwf hbn2 hmv hM2 hmS hkA hout hwf' hbn' hv' h7 h7d hR7 hR7d hOV7 hOV7d hm7 hbd7 o7 o7d o8' hRl7;go_region_held3 (fun w'=>w'.cell? ⟨S,12,none⟩=some (.map (some M))∧w'.cell? ⟨S,16,none⟩=some (.pointer (some ⟨O,0,none⟩))∧w'.cell? ⟨R,o,none⟩=some (.int .i64 hd)) (go_keep) (fail)
      all_goals
        clear a12 d12 a16 d16 e12 e16 hhd hhdd hhd8 hput;generalize zcT W7.drew M arr' clock'=W8 at*;have hbF:=(Below.refl W8.heap.size W8).alloc (Nat.le_refl _) (Obj.cells #[.func (.func 66) #[.pointer (some ⟨S,0,none⟩)] #[],.func (.func 67) #[.pointer (some ⟨S,0,none⟩)] #[],.func (.func 68) #[.pointer (some ⟨S,0,none⟩)] #[],.func (.func 69) #[.pointer (some ⟨S,0,none⟩)] #[],.func (.func 68) #[.pointer (some ⟨S,0,none⟩)] #[],.func (.func 70) #[.pointer (some ⟨S,0,none⟩)] #[]] 147);have hst:=SStepV.new (A:=A) (S:=S) (w:=W8) (l:=zbN 1) (cs:= #[.func (.func 66) #[.pointer (some ⟨S,0,none⟩)] #[],.func (.func 67) #[.pointer (some ⟨S,0,none⟩)] #[],.func (.func 68) #[.pointer (some ⟨S,0,none⟩)] #[],.func (.func 69) #[.pointer (some ⟨S,0,none⟩)] #[],.func (.func 68) #[.pointer (some ⟨S,0,none⟩)] #[],.func (.func 70) #[.pointer (some ⟨S,0,none⟩)] #[]]) h8.lt 147 rfl;rw [show (zbN 1).length=6 from rfl] at hst;have hbg:=zn5 (h8.below hbF) hst 1 t 0 false false;go_wp2_with (first
          | (go_at_call 65;refine hbg.mono ?_;rintro e w12 ⟨rfl,h12,hm12⟩)
          | go_in)
        go_ret;refine ⟨rfl,⟨(h12.nwMono fun _=>trivial).alt (fun _ _ _ _=>rfl) rfl rfl rfl rfl,hpb.out⟩,?_⟩;exact (hm8.trans (zaa hbF)).trans (hm12.mono fun b q=> .inl q)
end
end Go.Proofs
namespace Go.Proofs
open Go.Dw Go.RowKit Go.Maps Go.Sort Go.Deep
structure Tryz.RdW (w0 w:World) (X b2 P L Bs B N:Nat) (g:Nat→Int) (v0 v:Value) (l:List Sg) (n e:Int):Prop where
 cl:Cl w X [.pointer (some ⟨P,0,none⟩),v,.int .i64 n,.int .i64 e]
 own:OwnSeg w b2 v l
 rm:RMm w P L Bs B N g
 lo:X<b2∧P<b2∧L<b2∧Bs<b2∧B<b2
 nx:X≠P∧X≠L∧X≠Bs∧X≠B
 b2:b2≤w0.heap.size
 mv:Dw.Mv (fun b=>b=X∨v0.ownBlock=some b) w0 w
 ob: ∀b,v.ownBlock=some b→v0.ownBlock=some b∨w0.heap.size≤b
section
variable {w0 w w':World} {X b2 P L Bs B N:Nat} {g:Nat→Int} {v0 v:Value} {l:List Tryz.Sg} {n e:Int}
theorem Tryz.RdW.below (h:RdW w0 w X b2 P L Bs B N g v0 v l n e) (hb:Below w.heap.size w w'):RdW w0 w' X b2 P L Bs B N g v0 v l n e:=
 ⟨h.cl.below hb h.cl.lt,h.own.kept fun b hh=>hb.block b (h.own.lt b hh).2.1,h.rm.below hb,h.lo,h.nx,h.b2,h.mv.trans ⟨hb.os,hb.tape,hb.output,hb.size,fun b hh _=>hb.block b hh⟩,h.ob⟩
theorem Tryz.RdW.stopped {e':Int} (h:RdW w0 w X b2 P L Bs B N g v0 v l n e) (hc:Cl w' X [.pointer (some ⟨P,0,none⟩),v,.int .i64 n,.int .i64 e']) (hm:Dw.Mv (· =X) w w'):RdW w0 w' X b2 P L Bs B N g v0 v l n e':=
 ⟨hc,h.own.kept fun b hh=>hm.block b (h.own.lt b hh).2.1 fun q=>by have:=(h.own.lt b hh).1;have:=h.lo.1;have q:b=X:=q;omega,h.rm.mvX hm h.nx,h.lo,h.nx,h.b2,h.mv.trans (hm.mono fun b q=> .inl q),h.ob⟩
theorem Tryz.RdW.segd {v':Value} {x:Sg} (h:RdW w0 w X b2 P L Bs B N g v0 v l n e) (hc:Cl w' X [.pointer (some ⟨P,0,none⟩),v',.int .i64 n,.int .i64 e]) (ho:OwnSeg w' b2 v' (l++ [x])) (hm:Dw.Mv (fun b=>b=X∨v.ownBlock=some b) w w') (hb: ∀b,v'.ownBlock=some b→v.ownBlock=some b∨w.heap.size≤b):RdW w0 w' X b2 P L Bs B N g v0 v' (l++ [x]) n e:=by
 have hs:=h.mv.size;have hlt:=h.own.lt;have hlo:=h.lo;refine ⟨hc,ho,h.rm.kept (fun k hk hq=>hm.block k hk fun q=> ?_) hm.size,h.lo,h.nx,h.b2,⟨hm.os.trans h.mv.os,hm.tape.trans h.mv.tape,hm.output.trans h.mv.output,Nat.le_trans hs hm.size,fun b hb' hn=> ?_⟩,fun b hh=> ?_⟩
 ·obtain ⟨n1,n2,n3,n4⟩:=h.nx;rcases q with q|q
  ·rw [q] at hq;rcases hq with hq|hq|hq|hq<;>contradiction
  ·have:=(hlt k q).1;omega
 ·refine (hm.block b (Nat.lt_of_lt_of_le hb' hs) fun q=> ?_).trans (h.mv.block b hb' hn);rcases q with q|q
  ·exact hn (.inl q)
  ·rcases h.ob b q with q|q
   ·exact hn (.inr q)
   ·omega
 ·rcases hb b hh with q|q
  ·exact h.ob b q
  ·exact .inr (by omega)
end
end Go.Proofs
namespace Go.Proofs
open Go.Dw Go.RowKit Go.Maps Go.Sort Go.Deep
theorem Tryz.RdW.size {w0 w:World} {X b2 P L Bs B N:Nat} {g:Nat→Int} {v0 v:Value} {l:List Sg} {n e:Int} (h:RdW w0 w X b2 P L Bs B N g v0 v l n e):b2≤w.heap.size:=Nat.le_trans h.b2 h.mv.size
set_option maxRecDepth 100000 in
theorem Tryz.zsK {w0 w:World} {X b2 P L Bs B N:Nat} {g:Nat→Int} {v0 v:Value} {l:List Sg} {n e:Int} (h:RdW w0 w X b2 P L Bs B N g v0 v l n e) (hN:N≤1048576) (hok:e=0→ ∀x∈l,x.ok) (hl:l.length≤100000):
    Calls prog 88 #[.pointer (some ⟨X,0,none⟩)] w fun en w'=> ∃e1,e1=(if e=0 then zg8 N l else e)∧en= .returned (.tuple #[if e1=0 then v else .slice none 0 0,.int .i64 e1])∧RdW w0 w' X b2 P L Bs B N g v0 v l n e1:=by
  obtain ⟨sa,c,rfl,_⟩:=h.own.slice;have c0:=h.cl.cell 0 _ rfl;have c1:=h.cl.cell 1 _ rfl;have c3:=h.cl.cell 3 _ rfl;have f3:=h.cl.free 3;have hXl:=h.cl.lt;have hsv:e=0→ ∀w',RdW w0 w' X b2 P L Bs B N g v0 (.slice sa l.length c) l n e→SegV (fun _=>False) w' (.slice sa l.length c) l:=fun q w' h'=>h'.own.segV (hok q) (fun _ _ q=>q);have hck:=fun q=>zm4 (hsv q w h);by_cases he:e=0
  · replace hsv:=hsv he;replace hck:=hck he;subst he;by_cases hbad:l= []∨ ¬zaO l=0
    · have hlk:zg8 N l=4:=by unfold zg8;rw [if_pos hbad]
      have hset: ∀w1,RdW w0 w1 X b2 P L Bs B N g v0 (.slice sa l.length c) l n 0→RdW w0 (w1.setCell ⟨X,3,none⟩ (.int .i64 4)) X b2 P L Bs B N g v0 (.slice sa l.length c) l n 4:=fun w1 h1=>h1.stopped (h1.cl.set 3 (.int .i64 4) (by simp)) ⟨rfl,rfl,rfl,by simp,fun k hk hne=>Below.heap_setCell w1 ⟨X,3,none⟩ _ k hne⟩;refine Calls.mono (R:=fun en w'=>en= .returned (.tuple #[.slice none 0 0,.int .i64 4])∧RdW w0 w' X b2 P L Bs B N g v0 (.slice sa l.length c) l n 4) ?_ fun en w' hh=>⟨4,by rw [if_pos rfl,hlk],hh.1,hh.2⟩;clear hlk;by_cases hn:l.length=0
      · have hs0:=hset w h;have d3:=hs0.cl.cell 3 _ rfl;have hn':(l.length:Int)=0:=by omega
        clear hbad hck;go_enter func88,ntmps88;go_wp2_with fail;go_quiet (fail);go_wp2;go_ret2;exact ⟨rfl,hs0.below (below_drewN (Below.refl _ _) _)⟩
      · have hse: ¬zaO l=0:=by
          rcases hbad with q|q
          · exact absurd (by rw [q];rfl) hn
          · exact q
        have hn': ¬(l.length:Int)=0:=by omega
        clear hbad;generalize zaO l=se at hck hse;have hse2:(se !=0)=true:=by simpa using hse
        go_enter func88,ntmps88;go_wp2_with (first
          | (go_at_call 106;refine hck.mono ?_;rintro en w1 ⟨rfl,hb1⟩;have h1:=h.below hb1;have g3:=h1.cl.cell 3 _ rfl;have k3:=h1.cl.free 3;have hs0:=hset w1 h1;have d3:=hs0.cl.cell 3 _ rfl)
          | go_in)
        go_quiet (fail);go_wp2;go_ret2;exact ⟨rfl,hs0.below (below_drewN (Below.refl _ _) _)⟩
    · have hse:zaO l=0:=by
        by_cases q:zaO l=0
        · exact q
        · exact absurd (.inr q) hbad
      have hn: ¬l.length=0:=fun q=>hbad (.inl (List.length_eq_zero_iff.1 q));have hlk:zg8 N l=zbs N l:=by unfold zg8;rw [if_neg hbad]
      rw [hse] at hck;have hn': ¬(l.length:Int)=0:=by omega
      have hin:=fun w1 (h1:RdW w0 w1 X b2 P L Bs B N g v0 (.slice sa l.length c) l n 0)=>zve h1.rm hN (hsv w1 h1) hl;rw [if_pos rfl,hlk];clear hlk hse hbad;generalize zbs N l=si at hin ⊢;have hset: ∀w1,RdW w0 w1 X b2 P L Bs B N g v0 (.slice sa l.length c) l n 0→RdW w0 (w1.setCell ⟨X,3,none⟩ (.int .i64 si)) X b2 P L Bs B N g v0 (.slice sa l.length c) l n si:=fun w1 h1=>h1.stopped (h1.cl.set 3 (.int .i64 si) (by simp)) ⟨rfl,rfl,rfl,by simp,fun k hk hne=>Below.heap_setCell w1 ⟨X,3,none⟩ _ k hne⟩;by_cases hs:si=0
      · refine Calls.mono (R:=fun en w'=>en= .returned (.tuple #[.slice sa l.length c,.int .i64 0])∧RdW w0 w' X b2 P L Bs B N g v0 (.slice sa l.length c) l n 0) ?_ fun en w' hh=>⟨0,hs.symm,hh.1,hh.2⟩;subst hs;go_enter func88,ntmps88;go_wp2_with (first
          | (go_at_call 106;refine hck.mono ?_;rintro en w1 ⟨rfl,hb1⟩;have h1:=h.below hb1;have g0:=h1.cl.cell 0 _ rfl;have g1:=h1.cl.cell 1 _ rfl;have g3:=h1.cl.cell 3 _ rfl;have k3:=h1.cl.free 3)
          | go_in)
        go_region_held3 (fun w'=>w'.cell? ⟨X,0,none⟩=some (.pointer (some ⟨P,0,none⟩))∧w'.cell? ⟨X,1,none⟩=some (.slice sa l.length c)) (go_keep)
          ((first|(go_at_call 71;refine (hin w1.drew (h1.below ((Below.refl _ w1).drew))).mono ?_;rintro en w3 ⟨rfl,hb3⟩;have h3:=(h1.below ((Below.refl _ w1).drew)).below hb3;have m0:=h3.cl.cell 0 _ rfl;have m1:=h3.cl.cell 1 _ rfl;have m3:=h3.cl.cell 3 _ rfl;have m4:=h3.cl.free 3;have h5:=hset w3 h3;have s0:=h5.cl.cell 0 _ rfl;have s1:=h5.cl.cell 1 _ rfl;have s3:=h5.cl.cell 3 _ rfl)))
        all_goals go_wp2_with fail
        all_goals
          go_ret2;exact ⟨rfl,h5⟩
      · have hs2:(si !=0)=true:=by simpa using hs
        refine Calls.mono (R:=fun en w'=>en= .returned (.tuple #[.slice none 0 0,.int .i64 si])∧RdW w0 w' X b2 P L Bs B N g v0 (.slice sa l.length c) l n si) ?_ fun en w' hh=>⟨si,rfl,by rw [if_neg hs];exact hh.1,hh.2⟩;go_enter func88,ntmps88;go_wp2_with (first
          | (go_at_call 106;refine hck.mono ?_;rintro en w1 ⟨rfl,hb1⟩;have h1:=h.below hb1;have g0:=h1.cl.cell 0 _ rfl;have g1:=h1.cl.cell 1 _ rfl;have g3:=h1.cl.cell 3 _ rfl;have k3:=h1.cl.free 3)
          | go_in)
        go_region_held3 (fun w'=>w'.cell? ⟨X,0,none⟩=some (.pointer (some ⟨P,0,none⟩))∧w'.cell? ⟨X,1,none⟩=some (.slice sa l.length c)) (go_keep)
          ((first|(go_at_call 71;refine (hin w1.drew (h1.below ((Below.refl _ w1).drew))).mono ?_;rintro en w3 ⟨rfl,hb3⟩;have h3:=(h1.below ((Below.refl _ w1).drew)).below hb3;have m0:=h3.cl.cell 0 _ rfl;have m1:=h3.cl.cell 1 _ rfl;have m3:=h3.cl.cell 3 _ rfl;have m4:=h3.cl.free 3;have h5:=hset w3 h3;have s0:=h5.cl.cell 0 _ rfl;have s1:=h5.cl.cell 1 _ rfl;have s3:=h5.cl.cell 3 _ rfl)))
        all_goals go_wp2_with fail
        all_goals
          go_quiet (fail);go_wp2;go_ret2;exact ⟨rfl,h5.below (below_drewN (Below.refl _ _) _)⟩
  · refine Calls.mono (R:=fun en w'=>en= .returned (.tuple #[.slice none 0 0,.int .i64 e])∧RdW w0 w' X b2 P L Bs B N g v0 (.slice sa l.length c) l n e) ?_ fun en w' hh=>⟨e,by rw [if_neg he],by rw [if_neg he];exact hh.1,hh.2⟩;go_enter func88,ntmps88;go_wp2_with fail;go_quiet (fail);go_wp2;go_ret2;exact ⟨rfl,h.below (below_drewN (Below.refl _ w) _)⟩
theorem Tryz.zqp (a k:Nat):putW (fun _=>0) a k 0=fun _=>0:=by
 funext j;unfold putW;split<;>simp
theorem Tryz.zxp (a b c d e f:Int) (w:World):(Instr.index 162 (.agg #[.int .u64 a,.int .u64 b,.int .u64 c,.int .u64 d,.int .u64 e,.int .u64 f]) (.int .i64 0)).run prog w= .ok (.agg #[.int .u64 a,.int .u64 b]) w:=by kernel_rfl
theorem Tryz.zxo (a b c d e f:Int) (w:World):(Instr.index 162 (.agg #[.int .u64 a,.int .u64 b,.int .u64 c,.int .u64 d,.int .u64 e,.int .u64 f]) (.int .i64 1)).run prog w= .ok (.agg #[.int .u64 c,.int .u64 d]) w:=by kernel_rfl
theorem Tryz.zxn (a b c d e f:Int) (w:World):(Instr.index 162 (.agg #[.int .u64 a,.int .u64 b,.int .u64 c,.int .u64 d,.int .u64 e,.int .u64 f]) (.int .i64 2)).run prog w= .ok (.agg #[.int .u64 e,.int .u64 f]) w:=by kernel_rfl
theorem Tryz.SgOk.five {r:Rg} (h:SgOk r):r.n=1∨r.n=2∨r.n=4∨r.n=8∨r.n=16:=by
 obtain ⟨k,hk,e⟩:=h.ok.pow;have h16:=h.n16;have hk4:k≤4:=by
  apply Nat.le_of_not_lt;intro q;have h1:2^5≤2^k:=Nat.pow_le_pow_right (by decide) q;have h2:(2:Int)^k=((2^k:Nat):Int):=by push_cast;rfl
  rw [h2] at e;omega
 have:k=0∨k=1∨k=2∨k=3∨k=4:=by omega
 rcases this with rfl|rfl|rfl|rfl|rfl<;>simp [e]
set_option maxRecDepth 100000 in
theorem Tryz.zs0 {n:Int} (hn:n=1∨n=2∨n=4∨n=8∨n=16) (w:World):Calls prog 173 #[.int .i64 n] w fun e w'=>e= .returned (.bool true)∧w'=w:=by
  have hz:Calls prog 184 #[.int .i64 n] w fun e w'=>e= .returned (.bool true)∧w'=w:=by
    rcases hn with rfl|rfl|rfl|rfl|rfl
    all_goals
      go_enter func184,ntmps184;go_wp2_with fail;go_ret;exact ⟨rfl,rfl⟩
  rcases hn with rfl|rfl|rfl|rfl|rfl
  all_goals
    go_enter func173,ntmps173;go_wp2_with (first
      | (go_at_call 184;refine hz.mono ?_;rintro e w' ⟨rfl,hw⟩;have hw:=hw.symm;subst hw)
      | go_in)
    go_ret;exact ⟨rfl,rfl⟩
set_option maxRecDepth 100000 in
theorem Tryz.zuP {r:Rg} (hr:SgOk r) (w:World):Calls prog 131 #[r.val] w fun e w'=>e= .returned (.bool true)∧Below w.heap.size w w':=by
  have hn:=hr.five;have hb:=(Below.refl w.heap.size w).alloc (Nat.le_refl _) (Obj.cells #[.bool false,.int .i64 r.n,.int .u64 r.d,.int .u64 r.v,.int .u64 r.c] 31);have hp:=fun w'=>zs0 hn w';unfold Rg.val;go_enter func131,ntmps131;go_wp2_with (first
    | (go_at_call 173;refine (hp _).mono ?_;rintro e w' ⟨rfl,hw⟩;have hw:=hw.symm;subst hw)
    | go_in)
  go_ret;exact ⟨rfl,hb⟩
set_option maxRecDepth 100000 in
theorem Tryz.zsf {r:Rg} (hr:SgOk r) (w:World):Calls prog 135 #[r.val] w fun e w'=>e= .returned (.tuple #[.int .u64 (16*r.n),.int .u64 (6+2*r.n),.int .u64 (6+8*r.n)])∧Below w.heap.size w w':=by
  have hn:=hr.ok.bnd;have hz:=fun w'=>zuP hr w';have e1:IntKind.wrap .u64 r.n=r.n:=wrap_u64 _ (by omega) (by omega);have e2:IntKind.wrap .u64 (16*r.n)=16*r.n:=wrap_u64 _ (by omega) (by omega);have e3:IntKind.wrap .u64 (2*r.n)=2*r.n:=wrap_u64 _ (by omega) (by omega);have e4:IntKind.wrap .u64 (6+2*r.n)=6+2*r.n:=wrap_u64 _ (by omega) (by omega);have e5:IntKind.wrap .u64 (8*r.n)=8*r.n:=wrap_u64 _ (by omega) (by omega);have e6:IntKind.wrap .u64 (6+8*r.n)=6+8*r.n:=wrap_u64 _ (by omega) (by omega);have hb:=(Below.refl w.heap.size w).alloc (Nat.le_refl _) (Obj.cells #[.bool false,.int .i64 r.n,.int .u64 r.d,.int .u64 r.v,.int .u64 r.c] 31);have kA:=Cl.new w #[.bool false,.int .i64 r.n,.int .u64 r.d,.int .u64 r.v,.int .u64 r.c] 31;unfold Rg.val at hz ⊢;go_enter func135,ntmps135;go_wp2_with (first
    | (go_at_call 131;refine (hz _).mono ?_;rintro e w1 ⟨rfl,hb1⟩;have k1:=kA.below hb1 kA.lt;have c0:=k1.cell 0 _ rfl;have c1:=k1.cell 1 _ rfl)
    | go_in)
  go_ret3;exact ⟨rfl,hb.trans (hb1.mono hb.size)⟩
set_option maxRecDepth 100000 in
theorem Tryz.zpG {r:Rg} (hr:SgOk r) (w:World):Calls prog 92 #[r.val] w fun e w'=>e= .returned (.agg #[.int .u64 r.d,.int .u64 (16*r.n),.int .u64 r.v,.int .u64 (6+2*r.n),.int .u64 r.c,.int .u64 (6+8*r.n)])∧Below w.heap.size w w':=by
  have hz:=fun w'=>zsf hr w';have hb:=(Below.refl w.heap.size w).alloc (Nat.le_refl _) (Obj.cells #[.bool false,.int .i64 r.n,.int .u64 r.d,.int .u64 r.v,.int .u64 r.c] 31);have hb2:=hb.alloc hb.size (Obj.cells #[.int .u64 0,.int .u64 0,.int .u64 0,.int .u64 0,.int .u64 0,.int .u64 0] 162);have kA:=(Cl.new w #[.bool false,.int .i64 r.n,.int .u64 r.d,.int .u64 r.v,.int .u64 r.c] 31).alloc (.cells #[.int .u64 0,.int .u64 0,.int .u64 0,.int .u64 0,.int .u64 0,.int .u64 0] 162);have kB:=Cl.new (w.alloc (Obj.cells #[.bool false,.int .i64 r.n,.int .u64 r.d,.int .u64 r.v,.int .u64 r.c] 31)) #[.int .u64 0,.int .u64 0,.int .u64 0,.int .u64 0,.int .u64 0,.int .u64 0] 162;rw [zbp] at kB;unfold Rg.val at hz ⊢;go_enter func92,ntmps92;go_wp2_with (first
    | (go_at_call 135;refine (hz _).mono ?_;rintro e w1 ⟨rfl,hb1⟩;have k1:=kA.below hb1 kA.lt;have k2:=kB.below hb1 kB.lt;have c2:=k1.cell 2 _ rfl;have c3:=k1.cell 3 _ rfl;have c4:=k1.cell 4 _ rfl;have y0:=k2.cell 0 _ rfl;have q0:=k2.free 0;have y1:=k2.cell 1 _ rfl;have q1:=k2.free 1;have y2:=k2.cell 2 _ rfl;have q2:=k2.free 2;have y3:=k2.cell 3 _ rfl;have q3:=k2.free 3;have y4:=k2.cell 4 _ rfl;have q4:=k2.free 4;have y5:=k2.cell 5 _ rfl;have q5:=k2.free 5)
    | go_in)
  have kF:=(((((k2.set 0 (.int .u64 r.d) (by simp)).set 1 (.int .u64 (16*r.n)) (by simp)).set 2 (.int .u64 r.v) (by simp)).set 3 (.int .u64 (6+2*r.n)) (by simp)).set 4 (.int .u64 r.c) (by simp)).set 5 (.int .u64 (6+8*r.n)) (by simp);have hb3:=hb2.trans (hb1.mono hb2.size);have hmv:=zaA (zaA (zaA (zaA (zaA (zaA (zaa (K:=fun _=>False) hb3) (w.heap.size+1) 0 (.int .u64 r.d) (.inr (by omega))) (w.heap.size+1) 1 (.int .u64 (16*r.n)) (.inr (by omega))) (w.heap.size+1) 2 (.int .u64 r.v) (.inr (by omega))) (w.heap.size+1) 3 (.int .u64 (6+2*r.n)) (.inr (by omega))) (w.heap.size+1) 4 (.int .u64 r.c) (.inr (by omega))) (w.heap.size+1) 5 (.int .u64 (6+8*r.n)) (.inr (by omega));refine bodyPost_ret (zhV rfl _ _ (w.heap.size+1) [.int .u64 r.d,.int .u64 (16*r.n),.int .u64 r.v,.int .u64 (6+2*r.n),.int .u64 r.c,.int .u64 (6+8*r.n)] _ rfl (fun j y hy=>by rw [Nat.zero_add];exact kF.cell j y hy) underlying162 rfl (by kernel_rfl)) rfl ?_;exact ⟨rfl,zbu hmv⟩
set_option maxRecDepth 100000 in
theorem Tryz.zpO {w:World} {P L Bs B N:Nat} {g:Nat→Int} {r:Rg} (st:GM w P L Bs B N g) (hr:SgOk r) (hN:N≤1048576) (hF:40000≤N):
    Calls prog 50 #[.pointer (some ⟨P,0,none⟩),r.val] w fun e w'=>e= .returned (.int .i64 0)∧Below w.heap.size w w':=by
  have hn:=hr.ok.bnd;have hd:=hr.d;have hv:=hr.v;have hc:=hr.c;have hck:=fun w'=>zbt r hr.ok w';have hsp:=fun w'=>zpG hr w';have hb:=(Below.refl w.heap.size w).alloc (Nat.le_refl _) (Obj.cells #[.bool false,.int .i64 r.n,.int .u64 r.d,.int .u64 r.v,.int .u64 r.c] 31);have kA:=Cl.new w #[.bool false,.int .i64 r.n,.int .u64 r.d,.int .u64 r.v,.int .u64 r.c] 31;have stA:=st.below hb;have hhas: ∀(w':World) (a n:Int),Below w.heap.size w w'→0≤a→1≤n→a+n≤N→Calls prog 51 #[.pointer (some ⟨P,0,none⟩),.int .u64 a,.int .u64 n] w' fun e w2=>e= .returned (.bool true)∧Below w'.heap.size w' w2:=fun w' a n hb1 h0 h1 h2=>by
    have:=zl4 P L Bs B N a n g w' (st.below hb1) hN (by omega) h0 (by omega) (by omega)
    rwa [decide_eq_true (show 1≤n∧a+n≤(N:Int) from ⟨h1,h2⟩)] at this
  have hh1:=fun w' hb1=>hhas w' r.d (16*r.n) hb1 (by omega) (by omega) (by omega);have hh2:=fun w' hb1=>hhas w' r.v (6+2*r.n) hb1 (by omega) (by omega) (by omega);have hh3:=fun w' hb1=>hhas w' r.c (6+8*r.n) hb1 (by omega) (by omega) (by omega);clear hhas hn hd hv hc hN hF;unfold Rg.val at hck hsp ⊢;go_enter func50,ntmps50;go_wp2_with (first
    | (go_at_call 49;refine (zgP P L Bs B N 0 g _ stA).mono ?_;rintro e w' ⟨rfl,hw⟩;have hw:=hw.symm;subst hw)
    | (go_at_call 91;refine (hck _).mono ?_;rintro e w1 ⟨rfl,hb1⟩;have k1:=kA.below hb1 kA.lt;have c0:=k1.cell 0 _ rfl;have c1:=k1.cell 1 _ rfl;have c2:=k1.cell 2 _ rfl;have c3:=k1.cell 3 _ rfl;have c4:=k1.cell 4 _ rfl)
    | (go_at_call 92;refine (hsp _).mono ?_;rintro e w2 ⟨rfl,hb2⟩)
    | go_in)
  have hb02:=(hb.trans (hb1.mono hb.size)).trans (hb2.mono (hb.trans (hb1.mono hb.size)).size);clear c0 c1 c2 c3 c4;go_loopw [25] (fun iv wr=>(iv= .int .i64 0∨iv= .int .i64 1∨iv= .int .i64 2∨iv= .int .i64 3)∧Below w.heap.size w wr) (fun iv _=>3-(RowKit.intOf iv).toNat)
  case atStart=>exact ⟨.inl rfl,hb02⟩
  case round=>
    obtain ⟨hi,hbr⟩:=hrel;have hx0:=zxp r.d (16*r.n) r.v (6+2*r.n) r.c (6+8*r.n);have hx1:=zxo r.d (16*r.n) r.v (6+2*r.n) r.c (6+8*r.n);have hx2:=zxn r.d (16*r.n) r.v (6+2*r.n) r.c (6+8*r.n);have hba:=fun (o:Obj)=>hbr.alloc hbr.size o;have fin: ∀ {o:Obj} {w5:World},Below (wr.alloc o).heap.size (wr.alloc o) w5→Below w.heap.size w w5:=fun {o w5} hb5=>(hba o).trans (hb5.mono (hba o).size);rcases hi with rfl|rfl|rfl|rfl
    · go_wp2_with (first
        | (go_at_call 51;refine (hh1 _ (hba _)).mono ?_;rintro e w5 ⟨rfl,hb5⟩)
        | go_in)
      exact ⟨⟨.inr (.inl rfl),fin hb5⟩,by simp [RowKit.intOf]⟩
    · go_wp2_with (first
        | (go_at_call 51;refine (hh2 _ (hba _)).mono ?_;rintro e w5 ⟨rfl,hb5⟩)
        | go_in)
      exact ⟨⟨.inr (.inr (.inl rfl)),fin hb5⟩,by simp [RowKit.intOf]⟩
    · go_wp2_with (first
        | (go_at_call 51;refine (hh3 _ (hba _)).mono ?_;rintro e w5 ⟨rfl,hb5⟩)
        | go_in)
      exact ⟨⟨.inr (.inr (.inr rfl)),fin hb5⟩,by simp [RowKit.intOf]⟩
    · go_wp2_with fail;go_ret;exact ⟨rfl,hbr⟩
end Go.Proofs
end
