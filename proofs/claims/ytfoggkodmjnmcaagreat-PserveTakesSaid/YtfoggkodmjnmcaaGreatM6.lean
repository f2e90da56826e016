/-
  Proved: laws on the way to 'PserveTakesProof' (texts XbQ XbR XcP PvL PvM PvN PvO0 PvO PvP XdE XdF XdG0 XdG XdH XdI XdJ XdK PvQ XdK0 PvQ0 PvR1 PvR Lives6 Enter PserveTakesFacts); no condition.
-/
import Derived.Test.YtfoggkodmjnmcaaGreatM5
import Derived.OpenShut
import Derived.Lib.LaidU8
import Derived.Deep.RegionHeld3
import Derived.Deep.DrawnRows
import Derived.Test.YtfoggkodmjnmcaaGreatProg
import Derived.KernelRfl
import Derived.Test.YtfoggkodmjnmcaaGreatRows
import Derived.WalkKit
import Derived.ProofKit
set_option linter.unusedSimpArgs false
set_option linter.unusedVariables false
set_option maxHeartbeats 4000000
noncomputable section
namespace Go.Proofs
open Go.Dw Go.RowKit Go.Maps Go.Sort Go.Deep Go.ChangeShapes Go.WideShapes
section
variable {H:Type} {enc:TypeId×Value→H} {W:World} {sp:Nat→Bool} {held:Bool} {fuel:Nat}
theorem Tryz.zBh {α:Type} {p:Nat→α→Prop}: ∀n,(∀i,i<n→ ∃x,p i x)→ ∃l:List α,l.length=n∧ ∀(i:Nat) (hi:i<l.length),p i l[i]
 | 0,_=>⟨[],rfl,fun i hi=>absurd hi (Nat.not_lt_zero i)⟩
 | n+1,h=>by
  obtain ⟨l,hl,hp⟩:=zBh n fun i hi=>h i (by omega)
  obtain ⟨x,hx⟩:=h n (by omega)
  refine ⟨l++ [x],by simp [hl],fun i hi=> ?_⟩
  by_cases hlt:i<l.length
  ·rw [List.getElem_append_left hlt];exact hp i hlt
  ·have e:i=n:=by simp at hi;omega
   subst e
   simp only [List.getElem_append_right (by omega:l.length≤i),hl,Nat.sub_self,List.getElem_singleton]
   exact hx
theorem Tryz.addr_add (b o n:Nat):(⟨b,o,none⟩:Addr).add n=⟨b,o+n,none⟩:=by
 unfold Addr.add
 split
 ·rename_i h;rw [h];rfl
 ·rfl
theorem Tryz.zsc {α:Type} {l:List α} {i:Nat} (h:i<l.length):l[i]? =some l[i]:=List.getElem?_eq_getElem h
set_option maxRecDepth 100000 in
theorem Tryz.zC5 {cs:List Value} {x:DataW H×List MemPlace} (h:DataW.trod enc prog W 0 sp held fuel 43 cs=some x): ∃s:Sg,cs=s.cells∧s.ok:=by
 obtain ⟨xs,n,rfl,rfl,hl,hx,hf⟩:=DataW.trod_struct underlying43 h
 have hl:cs.length=3:=hl.trans (by kernel_rfl)
 have hx:xs.length=3:=hx
 match cs,hl with
 | [c0,c1,c2],_=>
  have f0:DataW.trod enc prog W 0 sp held n 29 [c0]=xs[0]? :=by
   have:=(show DataW.trod enc prog W 0 sp held n 29 (([c0,c1,c2].drop 0).take (prog.cellsOf 29))=xs[0]? from hf 0 _ rfl)
   rw [show prog.cellsOf 29=1 from by kernel_rfl] at this
   exact this
  have f1:DataW.trod enc prog W 0 sp held n 41 [c1]=xs[1]? :=by
   have:=(show DataW.trod enc prog W 0 sp held n 41 (([c0,c1,c2].drop 1).take (prog.cellsOf 41))=xs[1]? from hf 1 _ rfl)
   rw [show prog.cellsOf 41=1 from by kernel_rfl] at this
   exact this
  have f2:DataW.trod enc prog W 0 sp held n 4 [c2]=xs[2]? :=by
   have:=(show DataW.trod enc prog W 0 sp held n 4 (([c0,c1,c2].drop 2).take (prog.cellsOf 4))=xs[2]? from hf 2 _ rfl)
   rw [show prog.cellsOf 4=1 from by kernel_rfl] at this
   exact this
  rw [zsc (by omega)] at f0 f1 f2
  obtain ⟨n0,e0,_,w0⟩:=DataW.trod_int underlying29 f0
  obtain ⟨n1,e1,_,w1⟩:=DataW.trod_int underlying41 f1
  obtain ⟨b,e2,_⟩:=DataW.trod_bool underlying4 f2
  simp only [List.cons.injEq,and_true] at e0 e1 e2
  subst e0 e1 e2
  have b0:=bounds_u64 w0
  have b1:=bounds_u32 w1
  exact ⟨⟨n0,n1,b⟩,rfl,by show 0≤n0;omega,by show n0<_;omega,by show 0≤n1;omega,by show n1<_;omega⟩
theorem Tryz.zlx {R:Nat}: ∀ {l:List Sg} {o:Nat},(∀(i:Nat) (hi:i<l.length),W.rangeAt R (o+3*i) l[i].cells)→W.rangeAt R o (zaS l)
 | [], o,_=>fun j v hv=>by simp [zaS] at hv
 | x::r,o,h=>fun j v hv=>by
  have h0:=h 0 (by simp)
  have hr:=zlx (R:=R) (l:=r) (o:=o+3) fun i hi=>by
   have:=h (i+1) (by simpa using hi)
   rw [show o+3*(i+1)=o+3+3*i by omega] at this
   simpa using this
  have hv:(x.cells++zaS r)[j]? =some v:=hv
  by_cases hj:j<3
  ·rw [List.getElem?_append_left (by simpa [Sg.cells] using hj)] at hv
   exact h0 j v hv
  ·rw [List.getElem?_append_right (by simp [Sg.cells];omega)] at hv
   have:=hr (j-3) v hv
   rw [show o+3+(j-3)=o+j by omega] at this
   exact this
set_option maxRecDepth 100000 in
theorem Tryz.zzl {v:Value} {x:DataW H×List MemPlace} (h:DataW.trod enc prog W 0 sp held fuel 40 [v]=some x) (hw: ∀n∈x.1.weights prog 40,n≤reachBytes):
  ∃ l,SegV (fun _=>False) W v l∧l.length<4000000000000000:=by
 rcases DataW.trod_slice underlying40 h with ⟨e,_⟩|⟨a,len,cap,elems,rest,n,rfl,e,rfl,_,hlc,hcap,hel,hc,_⟩
 ·simp only [List.cons.injEq,and_true] at e
  subst e
  exact ⟨[],SegV.none,by decide⟩
 ·simp only [List.cons.injEq,and_true] at e
  subst e
  have hb:prog.bytesOf 43=16:=by kernel_rfl
  have hsz:=hw ((elems.length+rest.length)*16) (by
   unfold DataW.weights
   rw [underlying40]
   simp [hb])
  unfold reachBytes at hsz
  obtain ⟨l,hll,hl⟩:=zBh (p:=fun i (s:Sg)=>W.cells? 0 (a.add (i*3)) 3=some s.cells∧s.ok) len fun i hi=>by
   have:=hc i hi
   rw [zsc (by omega)] at this
   obtain ⟨cs,h1,h2⟩:=Option.bind_eq_some_iff.1 this
   obtain ⟨s,rfl,hs⟩:=zC5 h2
   exact ⟨s,h1,hs⟩
  subst hll
  refine ⟨l,⟨some a,cap,rfl,fun s hs=> ?_,?_⟩,by omega⟩
  ·obtain ⟨i,hi,rfl⟩:=List.mem_iff_getElem.1 hs
   exact (hl i hi).2
  ·by_cases h0:l= []
   ·exact .inl h0
   ·right
    obtain ⟨ab,ao,aq⟩:=a
    have hp:0<l.length:=List.length_pos_iff.2 h0
    have hs:aq=none:=cell_spot ((World.cells?_some (hl 0 hp).1).2.2 0 (by decide))
    subst hs
    refine ⟨ab,ao,rfl,fun h=>h,zlx fun i hi j y hy=> ?_⟩
    have hj:j<3:=by
     have:=List.getElem?_eq_some_iff.1 hy
     simpa [Sg.cells] using this.1
    have:=(World.cells?_some (hl i hi).1).2.2 j hj
    rw [hy,addr_add,addr_add] at this
    rw [show ao+3*i+j=ao+i*3+j by omega]
    exact this
end
end Go.Proofs
namespace Go.Proofs
open Go.Dw Go.RowKit Go.Maps Go.Sort Go.Deep Go.ChangeShapes Go.WideShapes
section
variable {H:Type} {enc:TypeId×Value→H} {W:World} {sp:Nat→Bool} {held:Bool} {fuel:Nat}
theorem Tryz.ziB {e:TypeId}: ∀ {l:List (DataW H)} {d:DataW H},d∈l→ ∀n∈d.weights prog e,n∈DataW.weightsAll prog e l
 | x::r,d,h,n,hn=>by
  unfold DataW.weightsAll
  rcases List.mem_cons.1 h with rfl|h
  ·exact List.mem_append_left _ hn
  ·exact List.mem_append_right _ (ziB h n hn)
end
end Go.Proofs
namespace Go.Proofs
open Go.Dw Go.RowKit Go.Maps Go.Sort Go.Deep Go.ChangeShapes Go.WideShapes
structure Tryz.BufV (w:World) (v:Value) (ls:List (List Sg)):Prop where
 val: ∃sa c,v= .slice sa ls.length c∧(ls= []∨ ∃R o,sa=some ⟨R,o,none⟩∧ ∀i,(hi:i<ls.length)→ ∃sv,w.cell? ⟨R,o+i,none⟩=some sv∧SegV (fun _=>False) w sv ls[i]∧ls[i].length<4000000000000000)
 len:ls.length<4000000000000000
section
variable {H:Type} {enc:TypeId×Value→H} {W:World} {sp:Nat→Bool} {held:Bool} {fuel:Nat}
set_option maxRecDepth 100000 in
theorem Tryz.bufs_open {v:Value} {x:DataW H×List MemPlace} (h:DataW.trod enc prog W 0 sp held fuel 24 [v]=some x) (hw: ∀n∈x.1.weights prog 24,n≤reachBytes):
  ∃ ls,BufV W v ls:=by
 rcases DataW.trod_slice underlying24 h with ⟨e,_⟩|⟨a,len,cap,elems,rest,n,rfl,e,rfl,_,hlc,hcap,hel,hc,_⟩
 ·simp only [List.cons.injEq,and_true] at e
  subst e
  exact ⟨[],⟨⟨none,0,rfl,.inl rfl⟩,by decide⟩⟩
 ·simp only [List.cons.injEq,and_true] at e
  subst e
  have hb:prog.bytesOf 40=24:=by kernel_rfl
  have hc1:prog.cellsOf 40=1:=by kernel_rfl
  have hws: ∀m,(m=(elems.length+rest.length)*24∨m∈DataW.weightsAll prog 40 (elems.map (·.1)))→m≤reachBytes:=fun m hm=>hw m (by
   unfold DataW.weights
   rw [underlying24]
   simp only [List.length_map,hb,List.mem_cons,List.mem_append]
   rcases hm with hm|hm
   ·exact .inl hm
   ·exact .inr (.inl hm))
  have hsz:=hws _ (.inl rfl)
  unfold reachBytes at hsz
  rw [hc1] at hc
  obtain ⟨ls,hll,hl⟩:=zBh (p:=fun i (s:List Sg)=> ∃sv,W.cell? (a.add (i*1))=some sv∧SegV (fun _=>False) W sv s∧s.length<4000000000000000) len fun i hi=>by
   have:=hc i hi
   rw [zsc (by omega)] at this
   obtain ⟨cs,h1,h2⟩:=Option.bind_eq_some_iff.1 this
   have h3:=World.cells?_some h1
   have h4:cs.length=1:=h3.2.1
   match cs,h4 with
   | [sv],_=>
    obtain ⟨s,q1,q2⟩:=zzl h2 fun m hm=>hws m (.inr (ziB (List.mem_map.2 ⟨_,List.getElem_mem _,rfl⟩) m hm))
    refine ⟨s,sv,?_,q1,q2⟩
    have:=h3.2.2 0 (by decide)
    simpa [Addr.add] using this
  subst hll
  refine ⟨ls,⟨⟨some a,cap,rfl,?_⟩,by omega⟩⟩
  by_cases h0:ls= []
  ·exact .inl h0
  ·right
   obtain ⟨ab,ao,aq⟩:=a
   have hp:0<ls.length:=List.length_pos_iff.2 h0
   have hs:aq=none:=by
    obtain ⟨sv,q,_⟩:=hl 0 hp
    exact cell_spot q
   subst hs
   refine ⟨ab,ao,rfl,fun i hi=> ?_⟩
   obtain ⟨sv,q1,q2,q3⟩:=hl i hi
   rw [addr_add,Nat.mul_one] at q1
   exact ⟨sv,q1,q2,q3⟩
end
end Go.Proofs
namespace Go.Proofs
open Go.Dw Go.RowKit Go.Maps Go.Sort
structure Tryz.TpV where
 r:Rg
 nl:Int
 nh:Int
 i:Int
 nb:Int
 spare:Int
 na:Int
 nw:Bool
 na2:Int
 nw2:Bool
 need:Int
 la:Int
 ll:Int
 lw:Bool
 good:Bool
 mem:Value
 sv:Value
 srv:Value
 bufs:Value
 hds:Value
 cts:Value
 wrs:Value
 ord:Value
 giv:Value
 usd:Value
def Tryz.TpV.rho (m:TpV):Val:=
  ⟨fun n=>match n with|0=>m.r.n|1=>m.r.d|2=>m.r.v|3=>m.r.c|4=>m.nl|5=>m.nh|6=>m.i|7=>m.nb|13=>m.spare|14=>m.na|34=>m.na2|40=>m.need|41=>m.la|42=>m.ll|_=>0,
   fun n=>match n with|3=>m.good|5=>m.nw|6=>m.nw2|13=>m.lw|_=>false,fun n=>match n with|0=>m.mem|1=>m.sv|2=>m.srv|4=>m.bufs|5=>m.hds|6=>m.cts|7=>m.wrs|103=>m.ord|104=>m.giv|116=>m.usd|_=>undef⟩
structure Tryz.TpD (ρ:Val) (m:TpV):Prop where
 sz:(szv 0).den ρ=m.r.n
 d1:(u64v 1).den ρ=m.r.d
 d2:(u64v 2).den ρ=m.r.v
 d3:(u64v 3).den ρ=m.r.c
 d4:(lnv 4).den ρ=m.nl
 d5:(lnv 5).den ρ=m.nh
 d6:(lnv 6).den ρ=m.i
 d7:(lnv 7).den ρ=m.nb
 d13:(lnv 13).den ρ=m.spare
 d14:(lnv 14).den ρ=m.na
 d34:(lnv 34).den ρ=m.na2
 i40:ρ.i 40=m.need
 d41:(u64v 41).den ρ=m.la
 d42:(u32v 42).den ρ=m.ll
 b3:ρ.b 3=m.good
 b5:ρ.b 5=m.nw
 b6:ρ.b 6=m.nw2
 b13:ρ.b 13=m.lw
 v0:ρ.v 0=m.mem
 v1:ρ.v 1=m.sv
 v2:ρ.v 2=m.srv
 v4:ρ.v 4=m.bufs
 v5:ρ.v 5=m.hds
 v6:ρ.v 6=m.cts
 v7:ρ.v 7=m.wrs
 v103:ρ.v 103=m.ord
 v104:ρ.v 104=m.giv
 v116:ρ.v 116=m.usd
theorem Tryz.tpD {m:TpV} (hr:PgOk m.r) (h4:0≤m.nl∧m.nl<4000000000000000) (h5:0≤m.nh∧m.nh<4000000) (h6:0≤m.i∧m.i<4000000) (h7:0≤m.nb∧m.nb<4000000000000000) (h13:0≤m.spare∧m.spare<4000000) (h14:0≤m.na∧m.na<m.r.n) (h34:0≤m.na2∧m.na2<m.r.n) (h41:0≤m.la∧m.la<18446744073709551616) (h42:0≤m.ll∧m.ll<4294967296):TpD m.rho m:=by
 obtain ⟨⟨b1,b2⟩,⟨q1,q2⟩,⟨q3,q4⟩,q5,q6⟩:=hr.nums
 exact ⟨zdz b1 b2,zaG q1 q2,zaG q3 q4,zaG q5 q6,zat h4.1 (by show m.nl<_;omega),zat h5.1 (by show m.nh<_;omega),zat h6.1 (by show m.i<_;omega),zat h7.1 (by show m.nb<_;omega),zat h13.1 (by show m.spare<_;omega),zat h14.1 (by show m.na<_;omega),zat h34.1 (by show m.na2<_;omega),rfl,zaG h41.1 h41.2,zbx h42.1 h42.2,rfl,rfl,rfl,rfl,rfl,rfl,rfl,rfl,rfl,rfl,rfl,rfl,rfl,rfl⟩
section
variable {ρ:Val} {m:Tryz.TpV}
theorem Tryz.TpD.rg (D:TpD ρ m) (j:J):RL ρ j zfL [.bool true,.int .i64 m.r.n,.int .u64 m.r.d,.int .u64 m.r.v,.int .u64 m.r.c]:=
 zab (zap rfl) (zab (zac D.sz) (zab (zac D.d1) (zab (zac D.d2) (zab (zac D.d3) RL.nil))))
theorem Tryz.TpD.pos (D:TpD ρ m) (j:J):RL ρ j zr3 [.int .i64 m.na,.bool m.nw]:=zab (zac D.d14) (zab (zap D.b5) RL.nil)
end
def Tryz.knR (v:Value) (cs:List Value):LwR:=⟨none,v,1,cs.length,cs⟩
def Tryz.neR (q:Nat) (cs:List Value):LwR:=⟨some q,undef,1,cs.length,cs⟩
def Tryz.zax (bs:List (List Sg)):List Value:=bs.map fun l=> .int .i64 l.length
def Tryz.zaI (bs:List (List Sg)):List Value:=bs.map fun l=> .bool (zes l)
def Tryz.zaN (n:Nat):List Value:=(List.range n).map fun (i:Nat)=> .int .i64 i
theorem Tryz.zrf (n:Nat):zaN (n+1)=zaN n++ [.int .i64 n]:=by simp [zaN,List.range_succ]
def Tryz.apB (u v:Value):Prop:= ∀b,u.ownBlock=some b→v.ownBlock≠some b
def Tryz.tqA (W0:World) (X13 X15 X16 S M B:Nat) (vh vc vb:Value) (w:World) (b:Nat):Prop:=b<w.heap.size∧(b<W0.heap.size∨b=X13∨b=X15∨b=X16∨(vh.ownBlock=some b∨vc.ownBlock=some b∨vb.ownBlock=some b)∨b=S∨b=M∨b=B)
def Tryz.tqK (S M B X15:Nat) (vh vc vb:Value) (b:Nat):Prop:=b=S∨b=M∨b=B∨b=X15∨vh.ownBlock=some b∨vc.ownBlock=some b∨vb.ownBlock=some b
structure Tryz.TqL (W0:World) (H4 X13 X15 X16 S P L Bs B M:Nat) (r:Rg) (av ov gv:Value) (ls:List (List Sg)) (s:PS×(Nat→Int)) (bs:List (List Sg)) (spare:Int) (vh vc vb:Value) (i:Nat) (a:Act) (w:World):Prop where
 size:a.tmps.size=361
 dfr:a.defers= []
 t0:a.tmps.getD 0 undef= .int .i64 r.n
 t2:a.tmps.getD 2 undef=av
 t3:a.tmps.getD 3 undef=ov
 t4:a.tmps.getD 4 undef=gv
 t11:a.tmps.getD 11 undef= .pointer (some ⟨P,0,none⟩)
 t12:a.tmps.getD 12 undef= .pointer (some ⟨S,0,none⟩)
 t13:a.tmps.getD 13 undef= .pointer (some ⟨X13,0,none⟩)
 t15:a.tmps.getD 15 undef= .pointer (some ⟨X15,0,none⟩)
 t16:a.tmps.getD 16 undef= .pointer (some ⟨X16,0,none⟩)
 t17:a.tmps.getD 17 undef=vh
 t18:a.tmps.getD 18 undef=vc
 t19:a.tmps.getD 19 undef=vb
 t20:a.tmps.getD 20 undef= .int .i64 spare
 t21:a.tmps.getD 21 undef= .int .i64 i
 row:Row w ⟨X13,0,0,none⟩ [.bool true,.int .i64 r.n,.int .u64 r.d,.int .u64 r.v,.int .u64 r.c]
 nxt:Dw.Own w X15 [.int .i64 s.1.nx,.bool s.1.nw]
 usd:Dw.Own w X16 [.int .i64 0,.bool true]
 sw:PW (tqA W0 X13 X15 X16 S M B vh vc vb w) w S P L Bs B M 20000 r s.1 s.2
 inv:TpI r s.1 s.2 bs spare
 hd: ∃t,OwnR t 1 w H4 vh (zaN bs.length).length (zaN bs.length)
 ct: ∃t,OwnR t 1 w H4 vc (zax bs).length (zax bs)
 wb: ∃t,OwnR t 1 w H4 vb (zaI bs).length (zaI bs)
 ap:apB vh vc∧apB vh vb∧apB vc vb
 aok:BufV W0 av ls
 old:Below W0.heap.size W0 w
 lo:W0.heap.size≤X13∧W0.heap.size≤X15∧W0.heap.size≤X16∧W0.heap.size≤S∧W0.heap.size≤M∧W0.heap.size≤B∧W0.heap.size≤P∧W0.heap.size≤L∧W0.heap.size≤Bs
 hi:(X13<H4∧X15<H4∧X16<H4)∧S<H4∧M<H4∧B<H4∧P<H4∧L<H4∧Bs<H4
 x13:X13≠S∧X13≠M∧X13≠B∧X13≠P∧X13≠L∧X13≠Bs
 x15:X15≠S∧X15≠M∧X15≠B∧X15≠P∧X15≠L∧X15≠Bs
 x16:X16≠S∧X16≠M∧X16≠B∧X16≠P∧X16≠L∧X16≠Bs
 xx:X13≠X15∧X13≠X16∧X15≠X16
 h4:H4≤w.heap.size
 n16:ls.length≤16∧bs.length≤i∧i≤ls.length
 o1:ov.oneCell'=true∧gv.oneCell'=true
def Tryz.tqX (W0:World) (X13 X15 X16 b:Nat):Prop:=b≠X13∧b≠X15∧b≠X16∧W0.heap.size≤b
section
variable {W0:World} {H4 X13 X15 X16 S P L Bs B M:Nat} {r:Tryz.Rg} {av ov gv:Value} {ls:List (List Tryz.Sg)} {s:Tryz.PS×(Nat→Int)} {bs:List (List Tryz.Sg)} {spare:Int} {vh vc vb:Value} {i:Nat} {a:Act} {w:World}
theorem Tryz.TqL.start (h:TqL W0 H4 X13 X15 X16 S P L Bs B M r av ov gv ls s bs spare vh vc vb i a w)
  {bl:List (Nat×Nat)} (hbl: ∀x∈bl,x.1=X13∨x.1=X15∨x.1<W0.heap.size) {sk:Nat→PS×(Nat→Int)} {rows ap:Nat→List LwR} (hsk:sk 0=s) (hr:rows 0= [knR vh (zaN bs.length),knR vc (zax bs),knR vb (zaI bs)]) (ha:ap 0= [knR vh (zaN bs.length),knR vc (zax bs),knR vb (zaI bs)]):
  (obH (pwO S P L Bs B M 20000 r) (tqX W0 X13 X15 X16) w.heap.size H4 sk rows ap).G 0 (jOf bl) w:=by
 obtain ⟨l1,l2,l3,l4,l5,l6,l7,l8,l9⟩:=h.lo
 obtain ⟨⟨i1,i2,i3⟩,i4,i5,i6,i7,i8,i9⟩:=h.hi
 obtain ⟨n1,n2,n3,n4,n5,n6⟩:=h.x13
 obtain ⟨m1,m2,m3,m4,m5,m6⟩:=h.x15
 obtain ⟨o1,o2,o3,o4,o5,o6⟩:=h.x16
 have k1:=h.sw.ltS
 have k2:=h.sw.ltM
 have k3:=h.sw.mem.bl
 obtain ⟨th,hd⟩:=h.hd
 obtain ⟨tc,hc⟩:=h.ct
 obtain ⟨tb,hb⟩:=h.wb
 have lth:=OwnR.lt hd
 have ltc:=OwnR.lt hc
 have ltb:=OwnR.lt hb
 have hown: ∀ {b:Nat},(vh.ownBlock=some b∨vc.ownBlock=some b∨vb.ownBlock=some b)→H4≤b∧b<w.heap.size:=fun e=>by
  rcases e with e|e|e
  ·exact lth _ e
  ·exact ltc _ e
  ·exact ltb _ e
 have hno: ∀ {b:Nat},b<H4→ ¬(vh.ownBlock=some b∨vc.ownBlock=some b∨vb.ownBlock=some b):=fun hb e=>by have:=(hown e).1;omega
 refine ⟨fun b=>b<w.heap.size∧tqX W0 X13 X15 X16 b,fun b hb=>⟨hb.1,fun hm=> ?_⟩,⟨fun b hb=> .inl hb.2,fun b=>b<w.heap.size∧tqX W0 X13 X15 X16 b∧ ¬(vh.ownBlock=some b∨vc.ownBlock=some b∨vb.ownBlock=some b),fun b hb=>⟨hb.1,hb.2.1⟩,?_,fun e he=> ?_⟩,?_⟩
 ·obtain ⟨x,hx,rfl⟩:=List.mem_map.1 (zdp hm)
  obtain ⟨_,q1,q2,q3,q4⟩:=hb
  rcases hbl x hx with e|e|e
  ·exact q1 e
  ·exact q2 e
  ·omega
 ·show PwF S P L Bs B M 20000 r (sk 0) _ w
  rw [hsk]
  have mk: ∀ {b:Nat},b<w.heap.size→b≠X13→b≠X15→b≠X16→W0.heap.size≤b→b<H4→b<w.heap.size∧tqX W0 X13 X15 X16 b∧ ¬(vh.ownBlock=some b∨vc.ownBlock=some b∨vb.ownBlock=some b):=fun q1 q2 q3 q4 q5 q6=>⟨q1,⟨q2,q3,q4,q5⟩,hno q6⟩
  refine ⟨mk k1 (fun e=>n1 e.symm) (fun e=>m1 e.symm) (fun e=>o1 e.symm) l4 i4,mk k2 (fun e=>n2 e.symm) (fun e=>m2 e.symm) (fun e=>o2 e.symm) l5 i5,mk h.sw.mem.pl (fun e=>n4 e.symm) (fun e=>m4 e.symm) (fun e=>o4 e.symm) l7 i7,mk h.sw.mem.ll (fun e=>n5 e.symm) (fun e=>m5 e.symm) (fun e=>o5 e.symm) l8 i8,mk h.sw.mem.sl (fun e=>n6 e.symm) (fun e=>m6 e.symm) (fun e=>o6 e.symm) l9 i9,mk k3 (fun e=>n3 e.symm) (fun e=>m3 e.symm) (fun e=>o3 e.symm) l6 i6,h.sw.set (fun b hb hh=>⟨hb,?_⟩) ⟨k1,.inr (.inl rfl)⟩ ⟨k2,.inr (.inr (.inl rfl))⟩ ⟨k3,.inr (.inr (.inr rfl))⟩ fun b hb=>hb.1⟩
  rcases hh.2 with hh|hh
  ·by_cases e2:b<W0.heap.size
   ·exact .inl e2
   by_cases e1:b=X13
   ·exact .inr (.inl e1)
   by_cases e3:b=X15
   ·exact .inr (.inr (.inl e3))
   by_cases e4:b=X16
   ·exact .inr (.inr (.inr (.inl e4)))
   by_cases e5:vh.ownBlock=some b∨vc.ownBlock=some b∨vb.ownBlock=some b
   ·exact .inr (.inr (.inr (.inr (.inl e5))))
   ·exact absurd ⟨hb,⟨e1,e3,e4,by omega⟩,e5⟩ hh
  ·exact .inr (.inr (.inr (.inr (.inr hh))))
 ·have hin: ∀ {b:Nat},(vh.ownBlock=some b∨vc.ownBlock=some b∨vb.ownBlock=some b)→(b<w.heap.size∧tqX W0 X13 X15 X16 b)∧ ¬(b<w.heap.size∧tqX W0 X13 X15 X16 b∧ ¬(vh.ownBlock=some b∨vc.ownBlock=some b∨vb.ownBlock=some b)):=fun e=>⟨⟨(hown e).2,fun q=>by have:=(hown e).1;omega,fun q=>by have:=(hown e).1;omega,fun q=>by have:=(hown e).1;omega,by have:=(hown e).1;omega⟩,fun q=>q.2.2 e⟩
  rw [hr] at he
  simp only [List.mem_cons,List.not_mem_nil,or_false] at he
  rcases he with rfl|rfl|rfl
  ·exact ⟨vh,th,rfl,hd,fun b hb=>hin (.inl hb)⟩
  ·exact ⟨vc,tc,rfl,hc,fun b hb=>hin (.inr (.inl hb))⟩
  ·exact ⟨vb,tb,rfl,hb,fun b hb=>hin (.inr (.inr hb))⟩
 ·rw [ha]
  obtain ⟨a1,a2,a3⟩:=h.ap
  refine ⟨fun e=>e.v,fun e he=> ?_,fun e he e' he' hne b hb hb'=> ?_⟩
  ·simp only [List.mem_cons,List.not_mem_nil,or_false] at he
   rcases he with rfl|rfl|rfl<;>rfl
  ·simp only [List.mem_cons,List.not_mem_nil,or_false] at he he'
   rcases he with rfl|rfl|rfl<;>rcases he' with rfl|rfl|rfl
   ·exact hne rfl
   ·exact a1 b hb hb'
   ·exact a2 b hb hb'
   ·exact a1 b hb' hb
   ·exact hne rfl
   ·exact a3 b hb hb'
   ·exact a2 b hb' hb
   ·exact a3 b hb' hb
   ·exact hne rfl
theorem Tryz.TqL.k (h:TqL W0 H4 X13 X15 X16 S P L Bs B M r av ov gv ls s bs spare vh vc vb i a w):(∀b,tqK S M B X15 vh vc vb b→b<w.heap.size∧W0.heap.size≤b)∧ ¬tqK S M B X15 vh vc vb X13∧ ¬tqK S M B X15 vh vc vb X16:=by
 obtain ⟨th,hd⟩:=h.hd
 obtain ⟨tc,hc⟩:=h.ct
 obtain ⟨tb,hb⟩:=h.wb
 have lth:=OwnR.lt hd
 have ltc:=OwnR.lt hc
 have ltb:=OwnR.lt hb
 obtain ⟨l1,l2,l3,l4,l5,l6,l7,l8,l9⟩:=h.lo
 obtain ⟨⟨i1,i2,i3⟩,i4,i5,i6,i7,i8,i9⟩:=h.hi
 have k1:=h.sw.ltS
 have k2:=h.sw.ltM
 have k3:=h.sw.mem.bl
 have k15:=own_lt h.nxt
 refine ⟨fun b hb=> ?_,?_,?_⟩
 ·rcases hb with rfl|rfl|rfl|rfl|e|e|e
  ·exact ⟨k1,l4⟩
  ·exact ⟨k2,l5⟩
  ·exact ⟨k3,l6⟩
  ·exact ⟨k15,l2⟩
  ·have:=lth b e;omega
  ·have:=ltc b e;omega
  ·have:=ltb b e;omega
 ·rintro (e|e|e|e|e|e|e)
  ·exact h.x13.1 e
  ·exact h.x13.2.1 e
  ·exact h.x13.2.2.1 e
  ·exact h.xx.1 e
  ·have:=lth _ e;omega
  ·have:=ltc _ e;omega
  ·have:=ltb _ e;omega
 ·rintro (e|e|e|e|e|e|e)
  ·exact h.x16.1 e
  ·exact h.x16.2.1 e
  ·exact h.x16.2.2.1 e
  ·exact h.xx.2.2 e.symm
  ·have:=lth _ e;omega
  ·have:=ltc _ e;omega
  ·have:=ltb _ e;omega
theorem Tryz.TqL.next (h:TqL W0 H4 X13 X15 X16 S P L Bs B M r av ov gv ls s bs spare vh vc vb i a w) (hil:i<ls.length)
  {s':PS×(Nat→Int)} {bs':List (List Sg)} {spare':Int} {vh' vc' vb':Value} {a2:Act} {w2:World} {F2:Nat→Prop}
  (hmv:Dw.Mv (tqK S M B X15 vh vc vb) w w2) (z1:a2.tmps.size=361) (z2:a2.defers= []) (hX2: ∀b,F2 b→tqX W0 X13 X15 X16 b∨w.heap.size≤b)
  (hgho: ∃F0:Nat→Prop,(∀b,F0 b→F2 b)∧PwF S P L Bs B M 20000 r s' F0 w2∧ ∀b,(vh'.ownBlock=some b∨vc'.ownBlock=some b∨vb'.ownBlock=some b)→ ¬F0 b)
  (hh: ∃t,OwnR t 1 w2 H4 vh' (zaN bs'.length).length (zaN bs'.length)) (hc: ∃t,OwnR t 1 w2 H4 vc' (zax bs').length (zax bs')) (hb: ∃t,OwnR t 1 w2 H4 vb' (zaI bs').length (zaI bs')) (hap:apB vh' vc'∧apB vh' vb'∧apB vc' vb')
  (hinv:TpI r s'.1 s'.2 bs' spare') (hlen:bs'.length≤i+1) (hnx:Dw.Own w2 X15 [.int .i64 s'.1.nx,.bool s'.1.nw])
  (z4:([2,20,21,0,3,4,11,12,13,15,16,17,18,19].map fun t=>a2.tmps.getD t undef)= [av,.int .i64 spare',.int .i64 (i+1:Nat),.int .i64 r.n,ov,gv,.pointer (some ⟨P,0,none⟩),.pointer (some ⟨S,0,none⟩),.pointer (some ⟨X13,0,none⟩),.pointer (some ⟨X15,0,none⟩),.pointer (some ⟨X16,0,none⟩),vh',vc',vb']):
  TqL W0 H4 X13 X15 X16 S P L Bs B M r av ov gv ls s' bs' spare' vh' vc' vb' (i+1) a2 w2:=by
 obtain ⟨F0,hF0,hlw,hnF⟩:=hgho
 simp only [List.map_cons,List.map_nil,List.cons.injEq,and_true] at z4
 obtain ⟨t2,t20,t21,t0,t3,t4,t11,t12,t13,t15,t16,t17,t18,t19⟩:=z4
 obtain ⟨l1,l2,l3,l4,l5,l6,l7,l8,l9⟩:=h.lo
 obtain ⟨⟨i1,i2,i3⟩,i4,i5,i6,i7,i8,i9⟩:=h.hi
 have hh4:=h.h4
 obtain ⟨hK1,hK2,hK3⟩:=h.k
 have hX13:X13<w.heap.size:=zi9 h.row
 have hX16:=own_lt h.usd
 have hold:=h.old.size
 have k1:=h.sw.ltS
 have k2:=h.sw.ltM
 have k3:=h.sw.mem.bl
 have hs2:=hmv.size
 refine ⟨z1,z2,t0,t2,t3,t4,t11,t12,t13,t15,t16,t17,t18,t19,t20,t21,h.row.kept (hmv.block _ hX13 hK2),hnx,h.usd.kept (hmv.block _ hX16 hK3),hlw.sw.set (fun b hb hh=>⟨hb,?_⟩) ⟨by omega,.inr (.inr (.inr (.inr (.inr (.inl rfl)))))⟩ ⟨by omega,.inr (.inr (.inr (.inr (.inr (.inr (.inl rfl))))))⟩ ⟨by omega,.inr (.inr (.inr (.inr (.inr (.inr (.inr rfl))))))⟩ (fun b hb=>hb.1),hinv,hh,hc,hb,hap,h.aok,h.old.trans ⟨hmv.os,hmv.tape,hmv.output,hmv.size,fun b hb=>hmv.block b (by omega) fun hk=>by have:=(hK1 b hk).2;omega⟩,h.lo,h.hi,h.x13,h.x15,h.x16,h.xx,by omega,⟨h.n16.1,hlen,by omega⟩,h.o1⟩
 rcases hh.2 with hh|hh|hh|hh|hh|hh
 ·exact .inl fun hf=>by rcases hX2 b (hF0 b hf) with e|e;exact absurd e.2.2.2 (by omega);omega
 ·exact .inl fun hf=>by rcases hX2 b (hF0 b hf) with e|e;exact e.1 hh;omega
 ·exact .inl fun hf=>by rcases hX2 b (hF0 b hf) with e|e;exact e.2.1 hh;omega
 ·exact .inl fun hf=>by rcases hX2 b (hF0 b hf) with e|e;exact e.2.2.1 hh;omega
 ·exact .inl (hnF b hh)
 ·exact .inr hh
theorem Tryz.TqL.slots (h:TqL W0 H4 X13 X15 X16 S P L Bs B M r av ov gv ls s bs spare vh vc vb i a w) {ρ:Val} {m:TpV} (D:TpD ρ m) (e1:m.r=r∧m.spare=spare∧m.i=i∧m.nh=bs.length) (e2:m.mem= .pointer (some ⟨P,0,none⟩)∧m.srv= .pointer (some ⟨S,0,none⟩)∧m.ord=ov∧m.giv=gv∧m.usd= .pointer (some ⟨X16,0,none⟩)∧m.hds=vh∧m.cts=vc∧m.wrs=vb) {j:J} {bufs:AV} (hj1:j 1=some ⟨X13,0,0,none⟩) (hj2:j 2=some ⟨X15,0,0,none⟩) (hb:Dw.R ρ j bufs av):
  ∀ t∈zfD bufs,Dw.R ρ j t.2 (a.tmps.getD t.1 undef):=fun t ht=>by
 obtain ⟨th,hd⟩:=h.hd
 obtain ⟨tc,hc⟩:=h.ct
 obtain ⟨tb,hwb⟩:=h.wb
 obtain ⟨su,cu,hsu,_⟩:=OwnR.row hd
 obtain ⟨su2,cu2,hsu2,_⟩:=OwnR.row hc
 obtain ⟨su3,cu3,hsu3,_⟩:=OwnR.row hwb
 have n1:(zaN bs.length).length=bs.length:=by simp [zaN]
 have n2:(zax bs).length=bs.length:=by simp [zax]
 have n3:(zaI bs).length=bs.length:=by simp [zaI]
 rw [n1] at hsu
 rw [n2] at hsu2
 rw [n3] at hsu3
 obtain ⟨er,es,ei,en⟩:=e1
 obtain ⟨f1,f2,f3,f4,f5,f6,f7,f8⟩:=e2
 have d5:=D.d5.trans en
 simp only [zfD,zbn,List.cons_append,List.nil_append,List.mem_cons,List.not_mem_nil,or_false] at ht
 rcases ht with rfl|rfl|rfl|rfl|rfl|rfl|rfl|rfl|rfl|rfl|rfl|rfl|rfl|rfl
 ·rw [h.t2];exact hb
 ·rw [h.t20];exact zac (D.d13.trans es)
 ·rw [h.t21];exact zac (D.d6.trans ei)
 ·rw [h.t0];exact zac (D.sz.trans (by rw [er]))
 ·rw [h.t3];exact za5 (D.v103.trans f3) h.o1.1
 ·rw [h.t4];exact za5 (D.v104.trans f4) h.o1.2
 ·rw [h.t11];exact za5 (D.v0.trans f1) rfl
 ·rw [h.t12];exact za5 (D.v2.trans f2) rfl
 ·rw [h.t13];exact ⟨_,hj1,rfl⟩
 ·rw [h.t15];exact ⟨_,hj2,rfl⟩
 ·rw [h.t16];exact za5 (D.v116.trans f5) rfl
 ·rw [h.t17];exact zIQ (D.v5.trans f6) hsu d5
 ·rw [h.t18];exact zIQ (D.v6.trans f7) hsu2 d5
 ·rw [h.t19];exact zIQ (D.v7.trans f8) hsu3 d5
end
end Go.Proofs
namespace Go.Proofs
open Go.Dw Go.RowKit Go.Maps Go.Sort
theorem Tryz.zJW:(prog.info? 4).map (fun i=>(i.zero,i.size,i.bytes))=some (some (.bool false),1,1):=by kernel_rfl
theorem Tryz.zBy {t:TypeId} {x:Option Value×Nat×Nat} (h:(prog.info? t).map (fun i=>(i.zero,i.size,i.bytes))=some x): ∃i0,prog.info? t=some i0∧i0.zero=x.1∧i0.size=x.2.1∧i0.bytes=x.2.2:=by
 cases hi:prog.info? t with
 | none=>rw [hi] at h;cases h
 | some i=>
  rw [hi] at h
  simp only [Option.map_some,Option.some.injEq] at h
  exact ⟨i,rfl,by rw [←h],by rw [←h],by rw [←h]⟩
theorem Tryz.zBk {l:List Sg} (h:l.length-1<l.length):zes l=l[l.length-1].wr:=by
 unfold zes
 rw [List.getLast?_eq_getElem?,List.getElem?_eq_getElem h]
theorem Tryz.zxV {u v:Value} {c d:List Value} (h:apB u v):(knR v d≠(⟨none,u,1,c.length,c⟩:LwR)∨u.ownBlock=none):=by
 cases hb:u.ownBlock with
 | none=>exact .inr rfl
 | some b=>exact .inl fun e=>h b hb (by rw [show v=u from congrArg (fun x:LwR=>x.v) e];exact hb)
theorem Tryz.zxG {q n:Nat} {u:Value} {c d:List Value}:neR q d≠(⟨none,u,1,n,c⟩:LwR):=fun e=>by
 have:=congrArg (fun x:LwR=>x.q) e
 cases this
theorem Tryz.zhf (q:Nat) (c:List Value) (x:Value):neR q (c++ [x])=⟨some q,undef,1,c.length+1,c++ [x]⟩:=by
 unfold neR
 rw [List.length_append]
 rfl
def Tryz.tpV (r:Rg) (P S X16:Nat) (av ov gv vh vc vb sv:Value) (nl nb nh i:Nat) (spare na:Int) (nw:Bool) (na2:Int) (nw2:Bool) (need la ll:Int) (lw good:Bool):TpV:=
 ⟨r,nl,nh,i,nb,spare,na,nw,na2,nw2,need,la,ll,lw,good,.pointer (some ⟨P,0,none⟩),sv,.pointer (some ⟨S,0,none⟩),av,vh,vc,vb,ov,gv,.pointer (some ⟨X16,0,none⟩)⟩
section
variable {W0:World} {H4 X13 X15 X16 S P L Bs B M:Nat} {r:Tryz.Rg} {av ov gv:Value} {ls:List (List Tryz.Sg)} {s:Tryz.PS×(Nat→Int)} {bs:List (List Tryz.Sg)} {spare:Int} {vh vc vb:Value} {i:Nat} {a:Act} {w:World}
theorem Tryz.TqL.den (h:TqL W0 H4 X13 X15 X16 S P L Bs B M r av ov gv ls s bs spare vh vc vb i a w) (sv:Value) (nl:Nat) (hnl:nl<4000000000000000) (na2:Int) (nw2:Bool) (h2:0≤na2∧na2<r.n) (need la ll:Int) (hla:0≤la∧la<18446744073709551616) (hll:0≤ll∧ll<4294967296) (lw good:Bool):
  TpD (tpV r P S X16 av ov gv vh vc vb sv nl ls.length bs.length i spare s.1.nx s.1.nw na2 nw2 need la ll lw good).rho (tpV r P S X16 av ov gv vh vc vb sv nl ls.length bs.length i spare s.1.nx s.1.nw na2 nw2 need la ll lw good):=by
 have hn:=h.n16
 have hb:=h.sw.rg.bnd
 have hl:=h.aok.len
 have hsp:=h.inv.sp
 have hsm:=h.inv.sum
 have htl:=zdD bs
 exact tpD h.sw.rg ⟨by show (0:Int)≤nl;omega,by show (nl:Int)<_;omega⟩ ⟨by show (0:Int)≤bs.length;omega,by show (bs.length:Int)<_;omega⟩ ⟨by show (0:Int)≤i;omega,by show (i:Int)<_;omega⟩ ⟨by show (0:Int)≤ls.length;omega,by show (ls.length:Int)<_;omega⟩ ⟨hsp,by show spare<_;omega⟩ h.sw.pb.nx h2 hla hll
set_option maxRecDepth 10000 in
theorem Tryz.zCH (h:TqL W0 H4 X13 X15 X16 S P L Bs B M r av ov gv ls s bs spare vh vc vb i a w) (hil:i<ls.length):
    (zaK prog [0,0,1,0,1,1,1,1,1,1,1,1,1,1,3]).wp prog (fun ex a' w'=>ex= .normal∧ ∃s' bs' spare' vh' vc' vb',TqL W0 H4 X13 X15 X16 S P L Bs B M r av ov gv ls s' bs' spare' vh' vc' vb' (i+1) a' w') a w:=by
  obtain ⟨sa0,c0,hav,hr0⟩:=h.aok.val
  rcases hr0 with h0|⟨R,o,rfl,hr0⟩
  · rw [h0] at hil;simp at hil
  obtain ⟨sv,hcell,hsv0,hln⟩:=hr0 i hil
  have hRlt:R<W0.heap.size:=World.block_lt_of_cell? W0 _ hcell
  have hRb:=h.old.block R hRlt
  have hx:w.rangeAt R (o+i) [sv]:=fun j v hv=>by
    match j,hv with
    | 0,hv=>
      cases hv
      exact (World.cell?_of_block (a:=⟨R,o+i,none⟩) hRb).trans hcell
  generalize ls[i]=l at hsv0 hln
  have hsv:SegV (fun _=>False) w sv l:=hsv0.below h.old
  have hsv2:=hsv0
  obtain ⟨sa1,c1,hsve,hok,hsr⟩:=hsv2
  obtain ⟨hK1,hK2,hK3⟩:=h.k
  obtain ⟨l1,l2,l3,l4,l5,l6,l7,l8,l9⟩:=h.lo
  obtain ⟨⟨i1,i2,i3⟩,i4,i5,i6,i7,i8,i9⟩:=h.hi
  have hinv:=h.inv
  have hn16:=h.n16
  have hrg:=h.sw.rg
  have hbnd:=hrg.bnd
  have hold:=h.old.size
  have hh4:=h.h4
  have hsp:=hinv.sp
  have hsm:=hinv.sum
  have htl:=zdD bs
  have hwi:=zeu i (by omega)
  have hKlt: ∀b,tqK S M B X15 vh vc vb b→b<w.heap.size:=fun b hb=>(hK1 b hb).1
  have hK0: ∀b,b<W0.heap.size→ ¬tqK S M B X15 vh vc vb b:=fun b hb hk=>by have:=(hK1 b hk).2;omega
  have hRseg:l≠ []→ ∀R' o' c',sv= .slice (some ⟨R',o',none⟩) l.length c'→R'<W0.heap.size:=fun hne R' o' c' e=>zG0 hsv0 hne e
  have hRK:l≠ []→ ∀R' o' c',sv= .slice (some ⟨R',o',none⟩) l.length c'→ ¬tqK S M B X15 vh vc vb R':=fun hne R' o' c' e=>hK0 R' (hRseg hne R' o' c' e)
  obtain ⟨n40,hn40⟩: ∃n:Int,n=if zbv l=0 then 1 else 0:=⟨_,rfl⟩
  by_cases hgood:(zbv l=0∧(l.length:Int)≤spare)∧(decide ((bs.length:Int)<r.n)&&l.all tpIn)=true
  · obtain ⟨⟨hmay,hle⟩,hg3⟩:=hgood
    have hg3':=hg3
    rw [Bool.and_eq_true,decide_eq_true_eq] at hg3'
    obtain ⟨hlt,hall⟩:=hg3'
    have hn1:n40=1:=by rw [hn40,if_pos hmay]
    have hne:l≠ []:=(zc8 hmay).1
    have hlp:0<l.length:=List.length_pos_iff.2 hne
    have hlast:l.length-1<l.length:=by omega
    have hsi:zcm 20000 l=true:=zpb fun x hx=>by
      have h1:=(zfQ hmay).2 x hx
      have h2:=List.all_eq_true.1 hall x hx
      unfold tpIn at h2
      rw [decide_eq_true_eq] at h2
      omega
    obtain ⟨hpp,hp1,s',hp2,hnn,hhd,hsg,hdn,hop,hwr,hit,hgo,hinv'⟩:=hinv.take (N:=20000) hrg hmay hle hlt hok hsi
    obtain ⟨g1,hg1⟩: ∃g1,g1=zcx 4096 (za2 r.n bs.length s.1.nx s.1.nw l) s.2:=⟨_,rfl⟩
    rw [←hg1] at hp2 hinv'
    rcases hsr with h0|⟨R2,o2,e1,_,h4⟩
    · exact absurd h0 hne
    have hR2:=zcF h4 hne
    have hx2:=zb0 (zaV h4 (h.old.block R2 hR2)) (l.length-1) hlast
    have hlw:=zBk hlast
    have hxo:=hok l[l.length-1] (List.getElem_mem hlast)
    generalize l[l.length-1]=Z at hx2 hlw hxo
    obtain ⟨z1,z2,z3,z4⟩:=hxo
    have hpl:=zpT (id:=(bs.length:Int)) (a:=s.1.nx) (x:=s.1.nw) (l:=l) (n:=r.n) (by omega)
    have hgi:=zgm (n:=r.n) (a:=s.1.nx) (c:=(za2 r.n bs.length s.1.nx s.1.nw l).length) (x:=s.1.nw) h.sw.pb.nx ⟨by omega,hpl⟩
    have D:=h.den sv l.length hln (zaL r.n s.1.nx s.1.nw (za2 r.n bs.length s.1.nx s.1.nw l).length).1 (zaL r.n s.1.nx s.1.nw (za2 r.n bs.length s.1.nx s.1.nw l).length).2 hgi n40 Z.at1 Z.len ⟨z1,z2⟩ ⟨z3,z4⟩ Z.wr (decide ((bs.length:Int)<r.n)&&l.all tpIn)
    generalize (tpV r P S X16 av ov gv vh vc vb sv l.length ls.length bs.length i spare s.1.nx s.1.nw (zaL r.n s.1.nx s.1.nw (za2 r.n bs.length s.1.nx s.1.nw l).length).1 (zaL r.n s.1.nx s.1.nw (za2 r.n bs.length s.1.nx s.1.nw l).length).2 n40 Z.at1 Z.len Z.wr (decide ((bs.length:Int)<r.n)&&l.all tpIn)).rho=ρ at D
    have hj1:jOf [(X13,0),(X15,0),(R,o+i),(R2,o2+3*(l.length-1))] 1=some ⟨X13,0,0,none⟩:=rfl
    have hj2:jOf [(X13,0),(X15,0),(R,o+i),(R2,o2+3*(l.length-1))] 2=some ⟨X15,0,0,none⟩:=rfl
    have hj3:jOf [(X13,0),(X15,0),(R,o+i),(R2,o2+3*(l.length-1))] 3=some ⟨R,o+i,0,none⟩:=rfl
    have hj4:jOf [(X13,0),(X15,0),(R,o+i),(R2,o2+3*(l.length-1))] 4=some ⟨R2,o2+3*(l.length-1),0,none⟩:=rfl
    have hbl: ∀x∈ [(X13,0),(X15,0),(R,o+i),(R2,o2+3*(l.length-1))],x.1=X13∨x.1=X15∨x.1<W0.heap.size:=fun x hx=>by
      simp only [List.mem_cons,List.not_mem_nil,or_false] at hx
      rcases hx with rfl|rfl|rfl|rfl
      · exact .inl rfl
      · exact .inr (.inl rfl)
      · exact .inr (.inr hRlt)
      · exact .inr (.inr hR2)
    have hbufs:Dw.R ρ (jOf [(X13,0),(X15,0),(R,o+i),(R2,o2+3*(l.length-1))]) zc0 av:=⟨D.v4.symm,_,_,_,hav,D.d7.symm,⟨R,o,_,i,rfl,hj3,rfl,D.d6,hil,by simp⟩,trivial⟩
    have hdl:(SE.bin .sub .i64 (lnv 4) (.lit 1)).den ρ=((l.length-1:Nat):Int):=by
      rw [zbs,D.d4,zad]
      show IntKind.wrap .i64 ((l.length:Int)-1)=_
      rw [zbL (by omega) (by omega)];omega
    have hsegs:RL ρ (jOf [(X13,0),(X15,0),(R,o+i),(R2,o2+3*(l.length-1))]) [ziQ] [sv]:=zab ⟨D.v1.symm,sa1,_,_,hsve,D.d4.symm,⟨R2,o2,_,l.length-1,e1,hj4,rfl,hdl,hlast,rfl⟩,trivial⟩ RL.nil
    have hsl:=h.slots D ⟨rfl,rfl,rfl,rfl⟩ ⟨rfl,rfl,rfl,rfl,rfl,rfl,rfl,rfl⟩ hj1 hj2 hbufs
    have hsx: ∀j x,Dw.R ρ j ziQ x→x=sv:=fun j x hh=>hh.1.trans D.v1
    have hlts:S<H4∧M<H4∧B<H4:=⟨i4,i5,i6⟩
    have hKs:tqK S M B X15 vh vc vb S∧tqK S M B X15 vh vc vb M∧tqK S M B X15 vh vc vb B:=⟨.inl rfl,.inr (.inl rfl),.inr (.inr (.inl rfl))⟩
    have c0:(SB.cmp .lss (lnv 6) (lnv 7)).den ρ=true:=by rw [zaY,D.d6,D.d7];exact decide_eq_true (by show (i:Int)<ls.length;omega)
    have c1':(SB.cmp .eql (.var 40) (.lit 1)).den ρ=true:=by rw [zbj,zaM,D.i40,zad];show (n40==1)=true;rw [hn1];rfl
    have c2':(SB.cmp .leq (lnv 4) (lnv 13)).den ρ=true:=by rw [zkC,D.d4,D.d13];exact decide_eq_true hle
    have hn0:(zaN bs.length).length=bs.length:=by simp [zaN]
    have hnc:(zax bs).length=bs.length:=by simp [zax]
    have hnw:(zaI bs).length=bs.length:=by simp [zaI]
    obtain ⟨iI,hI,hI1,hI2,hI3⟩:=zBy zIa
    obtain ⟨iB,hB,hB1,hB2,hB3⟩:=zBy zJW
    refine wp_mono (zaz (ρ:=ρ) (K:=tqK S M B X15 vh vc vb) (g:=obH (pwO S P L Bs B M 20000 r) (tqX W0 X13 X15 X16) w.heap.size H4
        (fun k=>match k with|0=>s|1=>(s.1,g1)|2=>((zck s.1).2,g1)|_=>(s',g1))
        (fun k=>match k with|4=> [sgR 6 l,knR vh (zaN bs.length),knR vc (zax bs),knR vb (zaI bs)]|5=> [neR 10 (zaN bs.length++ [.int .i64 bs.length]),knR vc (zax bs),knR vb (zaI bs)]|6=> [neR 11 (zax bs++ [.int .i64 l.length]),neR 10 (zaN bs.length++ [.int .i64 bs.length]),knR vb (zaI bs)]|7=> [neR 13 (zaI bs++ [.bool Z.wr]),neR 11 (zax bs++ [.int .i64 l.length]),neR 10 (zaN bs.length++ [.int .i64 bs.length])]|_=> [knR vh (zaN bs.length),knR vc (zax bs),knR vb (zaI bs)])
        (fun k=>match k with|5=> [neR 10 (zaN bs.length++ [.int .i64 bs.length]),knR vc (zax bs),knR vb (zaI bs)]|6=> [neR 11 (zax bs++ [.int .i64 l.length]),neR 10 (zaN bs.length++ [.int .i64 bs.length]),knR vb (zaI bs)]|7=> [neR 13 (zaI bs++ [.bool Z.wr]),neR 11 (zax bs++ [.int .i64 l.length]),neR 10 (zaN bs.length++ [.int .i64 bs.length])]|_=> [knR vh (zaN bs.length),knR vc (zax bs),knR vb (zaI bs)]))
      (bl:= [(X13,0),(X15,0),(R,o+i),(R2,o2+3*(l.length-1))]) mixed zGs zI6 hKlt
      ⟨zf7 h.row (by simp) (D.rg _) hK2,za6 h.nxt (D.pos _) (.inr (.inr (.inr (.inl rfl)))),zba hx (by simp) hsegs (hK0 R hRlt),zba hx2 (by simp [Sg.cells]) (zab (zac D.d41) (zab (zac D.d42) (zab (zap D.b13) RL.nil))) (hK0 R2 hR2),trivial⟩
      ⟨fun hh=>(by cases hh),fun _ k b' s' e1 e2 e3=>(by
        match k,e2 with
        | 0,e2=>cases e2;cases e3
        | 1,e2=>cases e2;cases e3
        | k+2,e2=>cases e2),fun hh=>(by cases hh),fun hh=>(by cases hh),trivial⟩ (h.start hbl rfl rfl rfl)
      ⟨zfP (zlj hsx hsv hRK hln D.i40 hn40.symm) (fun x hx=>hx),
       zfP (zwI (l:=l) (a:=s.1.nx) (id:=bs.length) (x:=s.1.nw) D.v0 (fun j=>zbg (D.rg j)) D.d14 D.b5 D.d5 hsx D.d34 D.b6 hpp hrg (by decide) h.sw.fit hsv hRK (by have:=(zfQ hmay).1;omega) h.sw.pb.nx ⟨by omega,hlt⟩ (by show (s.1,g1)=(s.1,zcx r.d _ s.2);rw [hrg.d,hg1]) hKs.2.2 hlts (fun e he=>he)) (fun x hx=>hx),
       zfP (zyO D.v2 hp1 rfl (Nat.le_refl _) hlts hKs (fun e he=>he)) (fun x hx=>hx),
       zfP (zt3 D.v2 rfl hp2 (Nat.le_refl _) hlts hKs (fun e he=>he)) (fun x hx=>hx),
       zfP (zyR D.v2 hinv'.ph hinv'.br hdn (by show s'.sg.length≤1000000;rw [hsg];have:=(zfQ hmay).1;omega) hop hwr (by show _=s'.nn;rw [hnn];rfl) (by show _=s'.it;rw [hit];rfl) (by show _=s'.hd;rw [hhd];exact D.d5) (Nat.le_refl _) h.h4 (fun e he=>by show e=sgR 6 s'.sg∨_;rw [hsg];exact List.mem_cons.1 he) rfl) (fun x hx=>hx),
       zfP (zyM hsx hsv hRK (by have:=(zfQ hmay).1;omega) (List.mem_cons_self ..)) (fun x hx=>hx),trivial⟩
      ⟨zyL D.d4 hln D.v1 hsx hsv hRK (b0:=decide ((bs.length:Int)<r.n)) (by rw [zoF,zaY,D.d5,D.sz];rfl) D.b3,trivial⟩
      ⟨zs1 (n:=(zaN bs.length).length) (cs:=zaN bs.length) (x:= .int .i64 bs.length) (by kernel_rfl) hI hI1 hI2 hI3 rfl (by decide) D.v5 (fun j y hy=>(show y= .int .i64 (SE.den ρ (lnv 5)) from hy).trans (by rw [D.d5];rfl)) rfl h.h4 (Nat.le_refl _) (fun b hb=> .inr (.inr (.inr (.inr (.inl hb))))) (by rw [hn0];omega) rfl (List.mem_cons_of_mem _ (List.mem_cons_self ..)) (List.mem_cons_self ..) (fun e he=>List.mem_cons_of_mem _ he) (fun e he=>by
         have he:e∈ [neR 10 (zaN bs.length++ [.int .i64 bs.length]),knR vc (zax bs),knR vb (zaI bs)]:=he
         simp only [List.mem_cons,List.not_mem_nil,or_false] at he
         rcases he with rfl|rfl|rfl
         · exact .inl (zhf _ _ _)
         · exact .inr ⟨(List.mem_cons_of_mem _ (List.mem_cons_self ..)),zxV h.ap.1⟩
         · exact .inr ⟨(List.mem_cons_of_mem _ (List.mem_cons_of_mem _ (List.mem_cons_self ..))),zxV h.ap.2.1⟩
         ) (fun e he=>by
         have he:e∈ [neR 10 (zaN bs.length++ [.int .i64 bs.length]),knR vc (zax bs),knR vb (zaI bs)]:=he
         simp only [List.mem_cons,List.not_mem_nil,or_false] at he
         rcases he with rfl|rfl|rfl
         · exact .inl (zhf _ _ _)
         · exact .inr ⟨(List.mem_cons_of_mem _ (List.mem_cons_self ..)),zxV h.ap.1⟩
         · exact .inr ⟨(List.mem_cons_of_mem _ (List.mem_cons_of_mem _ (List.mem_cons_self ..))),zxV h.ap.2.1⟩
         ) rfl,
       zs1 (n:=(zax bs).length) (cs:=zax bs) (x:= .int .i64 l.length) (by kernel_rfl) hI hI1 hI2 hI3 rfl (by decide) D.v6 (fun j y hy=>(show y= .int .i64 (SE.den ρ (lnv 4)) from hy).trans (by rw [D.d4];rfl)) rfl h.h4 (Nat.le_refl _) (fun b hb=> .inr (.inr (.inr (.inr (.inr (.inl hb)))))) (by rw [hnc];omega) rfl (List.mem_cons_of_mem _ (List.mem_cons_self ..)) (List.mem_cons_of_mem _ (List.mem_cons_self ..)) (fun e he=>he) (fun e he=>by
         have he:e∈ [neR 11 (zax bs++ [.int .i64 l.length]),neR 10 (zaN bs.length++ [.int .i64 bs.length]),knR vb (zaI bs)]:=he
         simp only [List.mem_cons,List.not_mem_nil,or_false] at he
         rcases he with rfl|rfl|rfl
         · exact .inl (zhf _ _ _)
         · exact .inr ⟨(List.mem_cons_self ..),.inl zxG⟩
         · exact .inr ⟨(List.mem_cons_of_mem _ (List.mem_cons_of_mem _ (List.mem_cons_self ..))),zxV h.ap.2.2⟩
         ) (fun e he=>by
         have he:e∈ [neR 11 (zax bs++ [.int .i64 l.length]),neR 10 (zaN bs.length++ [.int .i64 bs.length]),knR vb (zaI bs)]:=he
         simp only [List.mem_cons,List.not_mem_nil,or_false] at he
         rcases he with rfl|rfl|rfl
         · exact .inl (zhf _ _ _)
         · exact .inr ⟨(List.mem_cons_self ..),.inl zxG⟩
         · exact .inr ⟨(List.mem_cons_of_mem _ (List.mem_cons_of_mem _ (List.mem_cons_self ..))),zxV h.ap.2.2⟩
         ) rfl,
       zs1 (n:=(zaI bs).length) (cs:=zaI bs) (x:= .bool Z.wr) (by kernel_rfl) hB hB1 hB2 hB3 rfl (by decide) D.v7 (fun j y hy=>(show y= .bool (ρ.b 13) from hy).trans (by rw [D.b13];rfl)) rfl h.h4 (Nat.le_refl _) (fun b hb=> .inr (.inr (.inr (.inr (.inr (.inr hb)))))) (by rw [hnw];omega) rfl (List.mem_cons_of_mem _ (List.mem_cons_of_mem _ (List.mem_cons_self ..))) (List.mem_cons_of_mem _ (List.mem_cons_of_mem _ (List.mem_cons_self ..))) (fun e he=>he) (fun e he=>by
         have he:e∈ [neR 13 (zaI bs++ [.bool Z.wr]),neR 11 (zax bs++ [.int .i64 l.length]),neR 10 (zaN bs.length++ [.int .i64 bs.length])]:=he
         simp only [List.mem_cons,List.not_mem_nil,or_false] at he
         rcases he with rfl|rfl|rfl
         · exact .inl (zhf _ _ _)
         · exact .inr ⟨(List.mem_cons_self ..),.inl zxG⟩
         · exact .inr ⟨(List.mem_cons_of_mem _ (List.mem_cons_self ..)),.inl zxG⟩
         ) (fun e he=>by
         have he:e∈ [neR 13 (zaI bs++ [.bool Z.wr]),neR 11 (zax bs++ [.int .i64 l.length]),neR 10 (zaN bs.length++ [.int .i64 bs.length])]:=he
         simp only [List.mem_cons,List.not_mem_nil,or_false] at he
         rcases he with rfl|rfl|rfl
         · exact .inl (zhf _ _ _)
         · exact .inr ⟨(List.mem_cons_self ..),.inl zxG⟩
         · exact .inr ⟨(List.mem_cons_of_mem _ (List.mem_cons_self ..)),.inl zxG⟩
         ) rfl,trivial⟩ h.size h.dfr hsl
      (zaa.2 ⟨c0,zaa.2 ⟨c1',zaa.2 ⟨c2',zaa.2 ⟨by rw [zaA,D.b3];exact hg3,zae.2 trivial⟩⟩⟩⟩)) fun ex a2 w2 hh=> ?_
    obtain ⟨q,hq,hto,lf,hlf,rfl,hsz2,j2,hdf2,he⟩:=hh
    unfold zE6 at hq
    simp only [List.mem_cons,List.not_mem_nil,or_false] at hq
    subst hq
    cases hlf
    obtain ⟨F2,y1,⟨y2,F0,y3,y4,y5⟩,uf,a1,a2'⟩:=he.gho
    have m1:neR 13 (zaI bs++ [.bool Z.wr])∈ [neR 13 (zaI bs++ [.bool Z.wr]),neR 11 (zax bs++ [.int .i64 l.length]),neR 10 (zaN bs.length++ [.int .i64 bs.length])]:=List.mem_cons_self ..
    have m2:neR 11 (zax bs++ [.int .i64 l.length])∈ [neR 13 (zaI bs++ [.bool Z.wr]),neR 11 (zax bs++ [.int .i64 l.length]),neR 10 (zaN bs.length++ [.int .i64 bs.length])]:=List.mem_cons_of_mem _ (List.mem_cons_self ..)
    have m3:neR 10 (zaN bs.length++ [.int .i64 bs.length])∈ [neR 13 (zaI bs++ [.bool Z.wr]),neR 11 (zax bs++ [.int .i64 l.length]),neR 10 (zaN bs.length++ [.int .i64 bs.length])]:=List.mem_cons_of_mem _ (List.mem_cons_of_mem _ (List.mem_cons_self ..))
    obtain ⟨ub,tb,eb1,eb2,eb3⟩:=y5 _ m1
    obtain ⟨uc,tc,ec1,ec2,ec3⟩:=y5 _ m2
    obtain ⟨uh,th,eh1,eh2,eh3⟩:=y5 _ m3
    have ub':=LwR.is_one eb1 (a1 _ m1)
    have uc':=LwR.is_one ec1 (a1 _ m2)
    have uh':=LwR.is_one eh1 (a1 _ m3)
    have qb:(lcOf j2 13).q.getD undef=ub:=zcN (ρ:=ρ) eb1
    have qc:(lcOf j2 11).q.getD undef=uc:=zcN (ρ:=ρ) ec1
    have qh:(lcOf j2 10).q.getD undef=uh:=zcN (ρ:=ρ) eh1
    have hqd: ∀ {q q':Nat} {c c':List Value},q≠q'→neR q c≠neR q' c':=fun hq e=>hq (Option.some.inj (congrArg (fun x:LwR=>x.q) e))
    have lc1:=zag (he.sub _ _ hj1)
    have lc2:=zag (he.sub _ _ hj2)
    have hO:=(he.rows.2.1 _ (he.sub _ _ hj2)).2 (.inr (.inr (.inr (.inr (.inl rfl))))) rfl
    simp only [AV.valL,AV.val,D.d34,D.b6,zaA] at hO
    have hO:Dw.Own w2 X15 [.int .i64 (zaL r.n s.1.nx s.1.nw (za2 r.n bs.length s.1.nx s.1.nw l).length).1,.bool (zaL r.n s.1.nx s.1.nw (za2 r.n bs.length s.1.nx s.1.nw l).length).2]:=hO
    rw [hgo] at hO
    have hi1:zaN (bs++ [l]).length=zaN bs.length++ [.int .i64 bs.length]:=by rw [List.length_append];exact zrf bs.length
    have hi2:zax (bs++ [l])=zax bs++ [.int .i64 l.length]:=by simp [zax]
    have hi3:zaI (bs++ [l])=zaI bs++ [.bool Z.wr]:=by simp [zaI,hlw]
    refine ⟨rfl,(s',g1),bs++ [l],spare-l.length,uh,uc,ub,h.next hil he.mv hsz2 hdf2 y2 ⟨F0,y3,y4,fun b hb=> ?_⟩ ⟨th,by rw [hi1];exact eh2⟩ ⟨tc,by rw [hi2];exact ec2⟩ ⟨tb,by rw [hi3];exact eb2⟩ ⟨fun b p1 p2=> ?_,fun b p1 p2=> ?_,fun b p1 p2=> ?_⟩ hinv' (by rw [List.length_append];simp;omega) hO ?_⟩
    · rcases hb with hb|hb|hb
      · exact (eh3 b hb).2
      · exact (ec3 b hb).2
      · exact (eb3 b hb).2
    · exact a2' _ m3 _ m2 (hqd (by decide)) b (uh'▸p1) (uc'▸p2)
    · exact a2' _ m3 _ m1 (hqd (by decide)) b (uh'▸p1) (ub'▸p2)
    · exact a2' _ m2 _ m1 (hqd (by decide)) b (uc'▸p1) (ub'▸p2)
    · rw [zaB he.ret]
      simp only [AV.valL,AV.val,D.sz,D.d13,D.d4,D.d6,D.v0,D.v2,D.v4,D.v103,D.v104,D.v116,den_add,zbs,zad,lc1,lc2,qb,qc,qh]
      show [av,Value.int .i64 (IntKind.wrap .i64 (spare-(l.length:Int))),Value.int .i64 (IntKind.wrap .i64 ((i:Int)+1)),_,_,_,_,_,_,_,_,_,_,_]=_
      rw [hwi,zbL (by omega) (by omega)]
      rfl
  · have D:=h.den sv l.length hln 0 false ⟨by omega,by omega⟩ n40 0 0 (by omega) (by omega) false (decide ((bs.length:Int)<r.n)&&l.all tpIn)
    generalize (tpV r P S X16 av ov gv vh vc vb sv l.length ls.length bs.length i spare s.1.nx s.1.nw 0 false n40 0 0 false (decide ((bs.length:Int)<r.n)&&l.all tpIn)).rho=ρ at D
    have hj1:jOf [(X13,0),(X15,0),(R,o+i)] 1=some ⟨X13,0,0,none⟩:=rfl
    have hj2:jOf [(X13,0),(X15,0),(R,o+i)] 2=some ⟨X15,0,0,none⟩:=rfl
    have hj3:jOf [(X13,0),(X15,0),(R,o+i)] 3=some ⟨R,o+i,0,none⟩:=rfl
    have hbl: ∀x∈ [(X13,0),(X15,0),(R,o+i)],x.1=X13∨x.1=X15∨x.1<W0.heap.size:=fun x hx=>by
      simp only [List.mem_cons,List.not_mem_nil,or_false] at hx
      rcases hx with rfl|rfl|rfl
      · exact .inl rfl
      · exact .inr (.inl rfl)
      · exact .inr (.inr hRlt)
    have hbufs:Dw.R ρ (jOf [(X13,0),(X15,0),(R,o+i)]) zc0 av:=⟨D.v4.symm,_,_,_,hav,D.d7.symm,⟨R,o,_,i,rfl,hj3,rfl,D.d6,hil,by simp⟩,trivial⟩
    have hsegs:RL ρ (jOf [(X13,0),(X15,0),(R,o+i)]) [zcu] [sv]:=zab ⟨D.v1.symm,sa1,_,_,hsve,D.d4.symm,trivial⟩ RL.nil
    have hsl:=h.slots D ⟨rfl,rfl,rfl,rfl⟩ ⟨rfl,rfl,rfl,rfl,rfl,rfl,rfl,rfl⟩ hj1 hj2 hbufs
    have hsx: ∀j x,Dw.R ρ j zcu x→x=sv:=fun j x hh=>hh.1.trans D.v1
    have c0:(SB.cmp .lss (lnv 6) (lnv 7)).den ρ=true:=by rw [zaY,D.d6,D.d7];exact decide_eq_true (by show (i:Int)<ls.length;omega)
    have c1':(SB.cmp .eql (.var 40) (.lit 1)).den ρ=decide (zbv l=0):=by
      rw [zbj,zaM,D.i40,zad]
      show (n40==1)=_
      rw [hn40]
      by_cases hm:zbv l=0
      · rw [if_pos hm,decide_eq_true hm];rfl
      · rw [if_neg hm,decide_eq_false hm];rfl
    have c2':(SB.cmp .leq (lnv 4) (lnv 13)).den ρ=decide ((l.length:Int)≤spare):=by rw [zkC,D.d4,D.d13];rfl
    have hshs: ∀gho,ShsOk ρ (jOf [(X13,0),(X15,0),(R,o+i)]) (cxOf w (tqK S M B X15 vh vc vb) gho) [(X13,0),(X15,0),(R,o+i)] [.ro zfL,.own zr3,.ro [zcu]]:=fun gho=>⟨zf7 h.row (by simp) (D.rg _) hK2,za6 h.nxt (D.pos _) (.inr (.inr (.inr (.inl rfl)))),zba hx (by simp) hsegs (hK0 R hRlt),trivial⟩
    obtain ⟨G,hG⟩: ∃G,G=obH (pwO S P L Bs B M 20000 r) (tqX W0 X13 X15 X16) w.heap.size H4 (fun _=>s) (fun _=> [knR vh (zaN bs.length),knR vc (zax bs),knR vb (zaI bs)]) (fun _=> [knR vh (zaN bs.length),knR vc (zax bs),knR vb (zaI bs)]):=⟨_,rfl⟩
    have hst:G.G 0 (jOf [(X13,0),(X15,0),(R,o+i)]) w:=by rw [hG];exact h.start hbl rfl rfl rfl
    have hnd:zaQ prog ρ w (tqK S M B X15 vh vc vb) G (zeW zcu):=by rw [hG];exact zfP (zlj hsx hsv hRK hln D.i40 hn40.symm) (fun x hx=>hx)
    have hlF:zkT prog ρ w (tqK S M B X15 vh vc vb) G (ziP zcu):=zCI D.d4 hln D.v1 hsx hsv hRK
    have hlT:zkT prog ρ w (tqK S M B X15 vh vc vb) G (zlk zcu zoF):=zyL D.d4 hln D.v1 hsx hsv hRK (b0:=decide ((bs.length:Int)<r.n)) (by rw [zoF,zaY,D.d5,D.sz];rfl) D.b3
    have still: ∀ {a2:Act} {w2:World} {j2:J},Sub (jOf [(X13,0),(X15,0),(R,o+i)]) j2→Dw.Mv (tqK S M B X15 vh vc vb) w w2→G.G 0 j2 w2→a2.tmps.size=361→a2.defers= []→Dw.Own w2 X15 (AV.valL ρ (lcOf j2) [.int .i64 (lnv 14),.bool (.var 5)])→
        ([2,20,21,0,3,4,11,12,13,15,16,17,18,19].map fun t=>a2.tmps.getD t undef)=AV.valL ρ (lcOf j2) [.sx 4 ((lnv 7)) 1 [((lnv 6),3)],.int .i64 (lnv 13),.int .i64 (.bin .add .i64 (lnv 6) (.lit 1)),.int .i64 (szv 0),.cst 103 none,.cst 104 none,.cst 0 none,.cst 2 none,.ptr 1 0,.ptr 2 0,.cst 116 none,.cst 5 (some (lnv 5)),.cst 6 (some (lnv 5)),.cst 7 (some (lnv 5))]→
        ∃ s' bs' spare' vh' vc' vb',TqL W0 H4 X13 X15 X16 S P L Bs B M r av ov gv ls s' bs' spare' vh' vc' vb' (i+1) a2 w2:=fun {a2 w2 j2} hsub hmv hg z1 z2 hO hv=>by
      rw [hG] at hg
      obtain ⟨F2,y1,⟨y2,F0,y3,y4,y5⟩,_⟩:=hg
      have m1:knR vh (zaN bs.length)∈ [knR vh (zaN bs.length),knR vc (zax bs),knR vb (zaI bs)]:=List.mem_cons_self ..
      have m2:knR vc (zax bs)∈ [knR vh (zaN bs.length),knR vc (zax bs),knR vb (zaI bs)]:=List.mem_cons_of_mem _ (List.mem_cons_self ..)
      have m3:knR vb (zaI bs)∈ [knR vh (zaN bs.length),knR vc (zax bs),knR vb (zaI bs)]:=List.mem_cons_of_mem _ (List.mem_cons_of_mem _ (List.mem_cons_self ..))
      obtain ⟨uh,th,eh1,eh2,eh3⟩:=y5 _ m1
      obtain ⟨uc,tc,ec1,ec2,ec3⟩:=y5 _ m2
      obtain ⟨ub,tb,eb1,eb2,eb3⟩:=y5 _ m3
      have eh1:uh=vh:=eh1
      have ec1:uc=vc:=ec1
      have eb1:ub=vb:=eb1
      subst eh1 ec1 eb1
      have lc1:=zag (hsub _ _ hj1)
      have lc2:=zag (hsub _ _ hj2)
      simp only [AV.valL,AV.val,D.d14,D.b5,zaA] at hO
      refine ⟨s,bs,spare,uh,uc,ub,h.next hil hmv z1 z2 y2 ⟨F0,y3,y4,fun b hb=> ?_⟩ ⟨th,eh2⟩ ⟨tc,ec2⟩ ⟨tb,eb2⟩ h.ap hinv (by omega) hO ?_⟩
      · rcases hb with hb|hb|hb
        · exact (eh3 b hb).2
        · exact (ec3 b hb).2
        · exact (eb3 b hb).2
      · rw [hv]
        simp only [AV.valL,AV.val,D.sz,D.d13,D.d6,D.v0,D.v2,D.v4,D.v5,D.v6,D.v7,D.v103,D.v104,D.v116,den_add,zad,lc1,lc2]
        show [av,_,Value.int .i64 (IntKind.wrap .i64 ((i:Int)+1)),_,_,_,_,_,_,_,_,_,_,_]=_
        rw [hwi]
        rfl
    by_cases hm:zbv l=0
    · by_cases hle:(l.length:Int)≤spare
      · have hb3:(decide ((bs.length:Int)<r.n)&&l.all tpIn)=false:=by
          cases hx:(decide ((bs.length:Int)<r.n)&&l.all tpIn) with
          | false=>rfl
          | true=>exact absurd ⟨⟨hm,hle⟩,hx⟩ hgood
        refine wp_mono (zaz (ρ:=ρ) (K:=tqK S M B X15 vh vc vb) (g:=G) (bl:= [(X13,0),(X15,0),(R,o+i)]) mixed zGq zI5 hKlt (hshs _) zCr hst ⟨hnd,trivial⟩ ⟨hlT,trivial⟩ trivial h.size h.dfr hsl
          (zaa.2 ⟨c0,zaa.2 ⟨by rw [c1'];exact decide_eq_true hm,zaa.2 ⟨by rw [c2'];exact decide_eq_true hle,zaa.2 ⟨by rw [zaA,D.b3];exact hb3,zae.2 trivial⟩⟩⟩⟩)) fun ex a2 w2 hh=> ?_
        obtain ⟨q,hq,hto,lf,hlf,rfl,hsz2,j2,hdf2,he⟩:=hh
        unfold zE4 at hq
        simp only [List.mem_cons,List.not_mem_nil,or_false] at hq
        subst hq
        cases hlf
        exact ⟨rfl,still he.sub he.mv he.gho hsz2 hdf2 ((he.rows.2.1 _ (he.sub _ _ hj2)).2 (.inr (.inr (.inr (.inr (.inl rfl))))) rfl) (zaB he.ret)⟩
      · refine wp_mono (zaz (ρ:=ρ) (K:=tqK S M B X15 vh vc vb) (g:=G) (bl:= [(X13,0),(X15,0),(R,o+i)]) mixed zGm zI3 hKlt (hshs _) zCr hst ⟨hnd,trivial⟩ ⟨hlF,trivial⟩ trivial h.size h.dfr hsl
          (zaa.2 ⟨c0,zaa.2 ⟨by rw [c1'];exact decide_eq_true hm,zaa.2 ⟨by rw [c2'];exact decide_eq_false hle,zae.2 trivial⟩⟩⟩)) fun ex a2 w2 hh=> ?_
        obtain ⟨q,hq,hto,lf,hlf,rfl,hsz2,j2,hdf2,he⟩:=hh
        unfold zE0 at hq
        simp only [List.mem_cons,List.not_mem_nil,or_false] at hq
        subst hq
        cases hlf
        exact ⟨rfl,still he.sub he.mv he.gho hsz2 hdf2 ((he.rows.2.1 _ (he.sub _ _ hj2)).2 (.inr (.inr (.inr (.inr (.inl rfl))))) rfl) (zaB he.ret)⟩
    · refine wp_mono (zaz (ρ:=ρ) (K:=tqK S M B X15 vh vc vb) (g:=G) (bl:= [(X13,0),(X15,0),(R,o+i)]) mixed zGo zI4 hKlt (hshs _) zCr hst ⟨hnd,trivial⟩ ⟨hlF,trivial⟩ trivial h.size h.dfr hsl
        (zaa.2 ⟨c0,zaa.2 ⟨by rw [c1'];exact decide_eq_false hm,zae.2 trivial⟩⟩)) fun ex a2 w2 hh=> ?_
      obtain ⟨q,hq,hto,lf,hlf,rfl,hsz2,j2,hdf2,he⟩:=hh
      unfold zE2 at hq
      simp only [List.mem_cons,List.not_mem_nil,or_false] at hq
      subst hq
      cases hlf
      exact ⟨rfl,still he.sub he.mv he.gho hsz2 hdf2 ((he.rows.2.1 _ (he.sub _ _ hj2)).2 (.inr (.inr (.inr (.inr (.inl rfl))))) rfl) (zaB he.ret)⟩
end
end Go.Proofs
namespace Go.Proofs
open Go.Dw Go.RowKit Go.Maps Go.Sort Go.Deep
set_option maxRecDepth 100000 in
theorem Tryz.zi8 {g:Nat→Int} (hg: ∀j,0≤g j∧g j<256) (a X o c:Nat) (w:World) (h:w.rangeAt X o (row g a 16)):
    Calls prog 18 #[.slice (some ⟨X,o,none⟩) 16 c] w fun e w'=>e= .returned (.tuple #[znt g a,.int .i64 0])∧Below w.heap.size w w':=by
  have hX:X<w.heap.size:=World.block_lt_of_cell? w _ (h 0 (.int .u8 (g (a+0))) (by unfold row;rw [List.getElem?_map,List.getElem?_range (by omega)];rfl))
  have hk: ∀w1,Below w.heap.size w w1→w1.rangeAt X o (row g a 16):=fun w1 hb=>zaV h (hb.block X hX)
  have q0:=fun w1 hb=>zij hg a X o c 0 8 w1 (hk w1 hb) (by omega) (by omega)
  have q1:=fun w1 hb=>zij hg a X o c 8 4 w1 (hk w1 hb) (by omega) (by omega)
  have q2:=fun w1 hb=>zij hg a X o c 12 2 w1 (hk w1 hb) (by omega) (by omega)
  have q3:=fun w1 hb=>zij hg a X o c 14 2 w1 (hk w1 hb) (by omega) (by omega)
  have b1:=zbt g hg (a+8) 4
  have b2:=zbt g hg (a+12) 2
  have b3:=zbt g hg (a+14) 2
  have p4:(256:Int)^4=4294967296:=by decide
  have p2:(256:Int)^2=65536:=by decide
  have e1:IntKind.wrap .u32 (zah g (a+8) 4)=zah g (a+8) 4:=zIY (by omega) (by omega)
  have e2:IntKind.wrap .u16 (zah g (a+12) 2)=zah g (a+12) 2:=zET (by omega) (by omega)
  have e3:IntKind.wrap .u16 (zah g (a+14) 2)=zah g (a+14) 2:=zET (by omega) (by omega)
  simp only [Nat.add_zero,Int.cast_ofNat_Int,Int.natCast_zero] at q0 q1 q2 q3
  unfold znt
  generalize zah g a 8=W0 at q0 ⊢
  generalize zah g (a+8) 4=W1 at q1 e1 ⊢
  generalize zah g (a+12) 2=W2 at q2 e2 ⊢
  generalize zah g (a+14) 2=W3 at q3 e3 ⊢
  clear b1 b2 b3 p4 p2
  have hA:=(Below.refl w.heap.size w).alloc (Nat.le_refl _)
  go_enter func18,ntmps18
  go_wp2_with (first
    | (go_at_call_has 62 (Value.int IntKind.i64 0);refine (q0 _ (hA _)).mono ?_;rintro e w' ⟨rfl,hw⟩;have hw:=hw.symm;subst hw)
    | (go_at_call_has 62 (Value.int IntKind.i64 4);refine (q1 _ (hA _)).mono ?_;rintro e w' ⟨rfl,hw⟩;have hw:=hw.symm;subst hw)
    | (go_at_call_has 62 (Value.int IntKind.i64 12);refine (q2 _ (hA _)).mono ?_;rintro e w' ⟨rfl,hw⟩;have hw:=hw.symm;subst hw)
    | (go_at_call_has 62 (Value.int IntKind.i64 14);refine (q3 _ (hA _)).mono ?_;rintro e w' ⟨rfl,hw⟩;have hw:=hw.symm;subst hw)
    | go_in)
  refine bodyPost_ret (zsp rfl _ _ w.heap.size [.int .u64 W0,.int .u32 W1,.int .u16 W2,.int .u16 W3] _ rfl (fun j v hv=>by rw [Nat.zero_add];exact (Cl.new w _ _).cell j v hv) underlying60 rfl (by kernel_rfl)) rfl ?_
  exact ⟨rfl,hA _⟩
end Go.Proofs
namespace Go.Proofs
open Go.Dw Go.RowKit
def Tryz.zn5:List (Nat×AV):= [(0,.int .i64 (szv 0)),(4,.bool (.var 14)),(11,.cst 0 none),(12,.cst 2 none),(13,.ptr 1 0),(16,.ptr 2 0),(18,.sx 6 (lnv 5) 1 [(u16v 27,3)]),(19,.sx 7 (lnv 5) 1 [(u16v 27,4)]),(33,.int .i64 (u16v 27))]++zmb [3,31]
def Tryz.zIL:List Sh:= [.ro zfL,.own [.int .i64 (lnv 24),.bool (.lit true)],.ro [.int .i64 (lnv 28)],.ro [.bool (.var 15)]]
def Tryz.btPl:SE:= .bin .add .u64 (u64v 1) (.bin .mul .u64 (.lit 16) (lnv 24))
def Tryz.zCi (q:Nat):Ent:=⟨17,[.cst 0 none,.int .u64 btPl,.int .i64 (.lit 16)],2,q,1,.tup [.opq q none,.int .i64 (.lit 0)],3⟩
def Tryz.zKg (q:Nat) (w f:Int):Ent:=⟨18,[.opq q none],3,0,0,.tup [.agg [.int .u64 (u64v 41),.int .u32 (.lit w),.int .u16 (u16v 27),.int .u16 (.lit f)],.int .i64 (.lit 0)],3⟩
def Tryz.zKt:Ent:=⟨20,[.agg [.int .i64 (lnv 24),.bool (.lit true)],.int .i64 (lnv 28),.int .i64 (szv 0)],3,0,0,.tup [.agg [.int .i64 (lnv 34),.bool (.var 6)],.int .i64 (.lit 0)],3⟩
def Tryz.zCg (w c:Int) (k k':Nat):Ent:=⟨16,[.cst 2 none,.int .i64 (u16v 27),.int .u32 (.lit w)],k,0,0,.int .i64 (.lit c),k'⟩
def Tryz.zrM (w f:Int) (q:Nat):List Ent:= [zCg w 0 0 1,zyQ 1 2 (.lit 5),zCg 0 6 2 2,zCi q,zKg q w f,zKt]
end Go.Proofs
namespace Go.Proofs
open Go.Dw
def Tryz.zwq:List Ent:=zrM 0 32896 5
def Tryz.zn3:List Sh:=zIL
def Tryz.zdi:List (Nat×AV):=zn5
def Tryz.zgW:List LEnt:= []
def Tryz.zgX:List AEnt:= []
def Tryz.zn4:Option AV:=none
def Tryz.zIJ:List (SB×Bool):= [(.var 14,false),(.cmp .lss (u16v 27) (lnv 5),true)]
def Tryz.zwp:List zbo:= [
 ⟨.normal,[0,4,11,12,13,16,18,19,3,31],none,⟨.tup [.int .i64 (szv 0),.bool (.var 14),.cst 0 none,.cst 2 none,.ptr 1 0,.ptr 2 0,.sx 6 ((lnv 5)) 1 [((u16v 27),3)],.sx 7 ((lnv 5)) 1 [((u16v 27),4)],.cst 103 none,.cst 131 none],[(1,[.bool (.lit true),.int .i64 (szv 0),.int .u64 (u64v 1),.int .u64 (u64v 2),.int .u64 (u64v 3)]),(2,[.int .i64 (lnv 34),.bool (.var 6)])],[],3,[2]⟩⟩]
def Tryz.zCf:List (List (SB×Bool)×Nat):= [
 ([], 0)]
theorem Tryz.zII:(evL prog (zau zwq) (zaF zgW) (zaE zgX) 100000 (.code (zaK prog [1,1,1,0,1,0,0,0,1,1,1,1,1,1,1,1,1,1,1,1,1,3]) [1,1,1,0,1,0,0,0,1,1,1,1,1,1,1,1,1,1,1,1,1,3] 361 (envS 361 zdi zn4) (zas 0 zn3) (zaJ zwp 0))).ways zIJ=some zCf:=by kernel_rfl
theorem Tryz.zKf:(zai zn3&&zaf zwq&&zam zgW&&zan zgX&&zaq zdi&&zak zwp&&zaH 361 zdi&&Nat.ble 361 zaP&&zaC zn4)=true:=by kernel_rfl
def Tryz.zwo:List Ent:=zrM 0 32896 5
def Tryz.zCd:List Sh:=zIL
def Tryz.zkL:List (Nat×AV):=zn5
def Tryz.zrK:List LEnt:= []
def Tryz.zrL:List AEnt:= []
def Tryz.zCe:Option AV:=none
def Tryz.zIH:List (SB×Bool):= [(.var 14,true),(.cmp .lss (u16v 27) (lnv 5),true),(.var 15,false)]
def Tryz.zF3:List zbo:= [
 ⟨.normal,[0,4,11,12,13,16,18,19,3,31],none,⟨.tup [.int .i64 (szv 0),.bool (.var 14),.cst 0 none,.cst 2 none,.ptr 1 0,.ptr 2 0,.sx 6 ((lnv 5)) 1 [((u16v 27),3)],.sx 7 ((lnv 5)) 1 [((u16v 27),4)],.cst 103 none,.cst 131 none],[(1,[.bool (.lit true),.int .i64 (szv 0),.int .u64 (u64v 1),.int .u64 (u64v 2),.int .u64 (u64v 3)]),(2,[.int .i64 (lnv 34),.bool (.var 6)])],[],3,[2]⟩⟩]
def Tryz.zKd:List (List (SB×Bool)×Nat):= [
 ([], 0)]
theorem Tryz.zIG:(evL prog (zau zwo) (zaF zrK) (zaE zrL) 100000 (.code (zaK prog [1,1,1,0,1,0,0,0,1,1,1,1,1,1,1,1,1,1,1,1,1,3]) [1,1,1,0,1,0,0,0,1,1,1,1,1,1,1,1,1,1,1,1,1,3] 361 (envS 361 zkL zCe) (zas 0 zCd) (zaJ zF3 0))).ways zIH=some zKd:=by kernel_rfl
theorem Tryz.zKe:(zai zCd&&zaf zwo&&zam zrK&&zan zrL&&zaq zkL&&zak zF3&&zaH 361 zkL&&Nat.ble 361 zaP&&zaC zCe)=true:=by kernel_rfl
def Tryz.zwn:List Ent:=zrM 1 32898 5
def Tryz.zCb:List Sh:=zIL
def Tryz.zkK:List (Nat×AV):=zn5
def Tryz.zrI:List LEnt:= []
def Tryz.zrJ:List AEnt:= []
def Tryz.zCc:Option AV:=none
def Tryz.zIF:List (SB×Bool):= [(.var 14,true),(.cmp .lss (u16v 27) (lnv 5),true),(.var 15,true)]
def Tryz.zF2:List zbo:= [
 ⟨.normal,[0,4,11,12,13,16,18,19,3,31],none,⟨.tup [.int .i64 (szv 0),.bool (.var 14),.cst 0 none,.cst 2 none,.ptr 1 0,.ptr 2 0,.sx 6 ((lnv 5)) 1 [((u16v 27),3)],.sx 7 ((lnv 5)) 1 [((u16v 27),4)],.cst 103 none,.cst 131 none],[(1,[.bool (.lit true),.int .i64 (szv 0),.int .u64 (u64v 1),.int .u64 (u64v 2),.int .u64 (u64v 3)]),(2,[.int .i64 (lnv 34),.bool (.var 6)])],[],3,[2]⟩⟩]
def Tryz.zKb:List (List (SB×Bool)×Nat):= [
 ([], 0)]
theorem Tryz.zIE:(evL prog (zau zwn) (zaF zrI) (zaE zrJ) 100000 (.code (zaK prog [1,1,1,0,1,0,0,0,1,1,1,1,1,1,1,1,1,1,1,1,1,3]) [1,1,1,0,1,0,0,0,1,1,1,1,1,1,1,1,1,1,1,1,1,3] 361 (envS 361 zkK zCc) (zas 0 zCb) (zaJ zF2 0))).ways zIF=some zKb:=by kernel_rfl
theorem Tryz.zKc:(zai zCb&&zaf zwn&&zam zrI&&zan zrJ&&zaq zkK&&zak zF2&&zaH 361 zkK&&Nat.ble 361 zaP&&zaC zCc)=true:=by kernel_rfl
open Go.RowKit Go.Maps Go.Sort
theorem Tryz.zeD: ∀ {tk:List (Int×PTk)},(tk.map (·.1)).Nodup→ ∀e∈tk,zbk e.1 tk=some e.2
 | y::r,hn,e,he=>by
  rw [List.map_cons,List.nodup_cons] at hn
  unfold zbk
  rcases List.mem_cons.1 he with rfl|he
  ·rw [if_pos rfl]
  ·rw [if_neg (fun hh:e.1=y.1=>hn.1 (by rw [←hh];exact List.mem_map_of_mem he))]
   exact zeD hn.2 e he
theorem Tryz.BpI.len {r:Rg} {s:PS} {bs:List (List Sg)} {left:List Int} (h:BpI r s bs left): ∀e∈s.tk,e.2.sg.length≤64:=fun e he=>by
 have hm:e.1∈left:=by rw [←h.keys];exact List.mem_map_of_mem he
 obtain ⟨i,hi,_,q⟩:=h.has e.1 hm
 rw [zeD (by rw [h.keys];exact h.nd) e he] at q
 have q:=Option.some.inj q
 rw [q]
 exact (zfQ (h.each _ (List.getElem_mem hi))).1
theorem Tryz.zpv: ∀ {tk:List (Int×PTk)},(∀e∈tk,0≤e.2.ct)→0≤zcc tk
 | [], _=>Int.le_refl 0
 | e::t,h=>by
  have h1:=h e (List.mem_cons_self ..)
  have h2:=zpv (tk:=t) fun y hy=>h y (List.mem_cons_of_mem _ hy)
  simp only [zcc];omega
theorem Tryz.BpI.sum0 {r:Rg} {s:PS} {bs:List (List Sg)} {left:List Int} (h:BpI r s bs left):0≤zcc s.tk:=zpv fun e he=>by
 have hm:e.1∈left:=by rw [←h.keys];exact List.mem_map_of_mem he
 obtain ⟨i,hi,_,q⟩:=h.has e.1 hm
 rw [zeD (by rw [h.keys];exact h.nd) e he] at q
 have q:=Option.some.inj q
 rw [q]
 show (0:Int)≤bs[i].length
 omega
theorem Tryz.zzI {g:Nat→Int} (hg: ∀j,0≤g j∧g j<256) (a n:Nat) (v:Int): ∀j,0≤putW g a n v j∧putW g a n v j<256:=fun j=>by
 unfold putW
 split
 ·omega
 ·exact hg j
theorem Tryz.zx5 {us h wr:Int} {uw:Bool} {g:Nat→Int} (hg: ∀j,0≤g j∧g j<256): ∀j,0≤zlb us h wr uw g j∧zlb us h wr uw g j<256:=zzI (zzI (zzI hg _ _ _) _ _ _) _ _ _
theorem Tryz.zm3 {w:World} {G:Nat} {cs:List Value} {v:Value} (h:w.rangeAt G 0 cs) (k:Nat) (hk:cs[k]? =some v):w.rangeAt G k [v]:=fun j u hu=>by
 match j,hu with
 | 0,hu=>
  have e:v=u:=Option.some.inj hu
  subst e
  have:=h k v hk
  rwa [Nat.zero_add] at this
def Tryz.zKs (r:Rg) (nb us h ct us2 wa:Int) (uw2 give wrb:Bool) (P S:Nat) (vc vb t3 t31:Value):Val:=
 ⟨fun m=>match m with|0=>r.n|1=>r.d|2=>r.v|3=>r.c|5=>nb|24=>us|27=>h|28=>ct|34=>us2|41=>wa|_=>0,fun m=>match m with|6=>uw2|14=>give|15=>wrb|_=>false,fun m=>match m with|0=> .pointer (some ⟨P,0,none⟩)|2=> .pointer (some ⟨S,0,none⟩)|6=>vc|7=>vb|103=>t3|131=>t31|_=>undef⟩
structure Tryz.BtD (ρ:Val) (r:Rg) (nb us h ct us2 wa:Int) (uw2 give wrb:Bool) (P S:Nat) (vc vb t3 t31:Value):Prop where
 n:(szv 0).den ρ=r.n
 d:(u64v 1).den ρ=r.d
 v:(u64v 2).den ρ=r.v
 c:(u64v 3).den ρ=r.c
 nb:(lnv 5).den ρ=nb
 us:(lnv 24).den ρ=us
 h:(u16v 27).den ρ=h
 ct:(lnv 28).den ρ=ct
 us2:(lnv 34).den ρ=us2
 wa:(u64v 41).den ρ=wa
 uw2:ρ.b 6=uw2
 give:ρ.b 14=give
 wrb:ρ.b 15=wrb
 v0:ρ.v 0= .pointer (some ⟨P,0,none⟩)
 v2:ρ.v 2= .pointer (some ⟨S,0,none⟩)
 v6:ρ.v 6=vc
 v7:ρ.v 7=vb
 v103:ρ.v 103=t3
 v131:ρ.v 131=t31
theorem Tryz.btD {r:Rg} {nb us h ct us2 wa:Int} {uw2 give wrb:Bool} {P S:Nat} {vc vb t3 t31:Value} (hr:PgOk r) (h5:0≤nb∧nb<4000000) (h24:0≤us∧us<4000000) (h27:0≤h∧h<65536) (h28:0≤ct∧ct<4000000) (h34:0≤us2∧us2<4000000) (h41:0≤wa∧wa<18446744073709551616): ∃ρ,BtD ρ r nb us h ct us2 wa uw2 give wrb P S vc vb t3 t31:=by
 obtain ⟨⟨b1,b2⟩,⟨q1,q2⟩,⟨q3,q4⟩,q5,q6⟩:=hr.nums
 exact ⟨zKs r nb us h ct us2 wa uw2 give wrb P S vc vb t3 t31,zdz b1 b2,zaG q1 q2,zaG q3 q4,zaG q5 q6,zat h5.1 (by show nb<_;omega),zat h24.1 (by show us<_;omega),zbD h27.1 h27.2,zat h28.1 (by show ct<_;omega),zat h34.1 (by show us2<_;omega),zaG h41.1 h41.2,rfl,rfl,rfl,rfl,rfl,rfl,rfl,rfl,rfl⟩
section
variable {ρ:Val} {w0:World} {K:Nat→Prop} {X:Nat→Prop} {bX:Nat} {S P L Bs B M N:Nat} {r:Tryz.Rg} {b2:Nat} {sk:Nat→Tryz.PS×(Nat→Int)} {rows:Nat→List Tryz.LwR} {k k' q:Nat}
theorem Tryz.zwr {h wr c:Int} (hv2:ρ.v 2= .pointer (some ⟨S,0,none⟩)) (d27:(u16v 27).den ρ=h) (hw:0≤wr∧wr<4294967296) (hp:(zc7 (sk k).1 h wr).1=c) (hs:sk k'=((zc7 (sk k).1 h wr).2,(sk k).2)) (hlen: ∀e∈(sk k).1.tk,e.2.sg.length≤64) (hbX:bX≤w0.heap.size) (hlt:S<b2∧M<b2∧B<b2) (hK:K S∧K M∧K B) (hrows: ∀e∈rows k',e∈rows k):
  zaQ prog ρ w0 K (obG (pwO S P L Bs B M N r) X bX b2 sk rows) (zCg wr c k k'):=
 zss (Dw.enters_of (by kernel_rfl)) rfl hbX [.pointer (some ⟨S,0,none⟩),.int .i64 h,.int .u32 wr] (.int .i64 c) (fun j=>zab (za5 hv2 rfl) (zab (zac d27) (zab (zac rfl) RL.nil))) (fun j=>zac rfl) hlt hK hrows fun A w hsw=>by
  rw [hs,←hp];exact zDv hsw h wr hw fun e he=>by have:=hlen e he;omega
theorem Tryz.zCh {a:Nat} (hv0:ρ.v 0= .pointer (some ⟨P,0,none⟩)) (hpl:btPl.den ρ=a) (hN:N≤1048576) (hin:a+16≤N) (hbX:bX≤w0.heap.size) (hb2:b2≤w0.heap.size) (hrows: ∀e∈rows 3,e=⟨some q,undef,1,16,row (sk 2).2 a 16⟩∨e∈rows 2) (hs:sk 3=sk 2):
  zaQ prog ρ w0 K (obG (pwO S P L Bs B M N r) X bX b2 sk rows) (zCi q):=
 zAZ (z:=fun u=> .tuple #[u,.int .i64 0]) (e0:=⟨some q,undef,1,16,row (sk 2).2 a 16⟩) (Dw.enters_of (by kernel_rfl)) (show AV.exactL [.cst 0 none,.int .u64 btPl,.int .i64 (.lit 16)]=true by decide) hbX [.pointer (some ⟨P,0,none⟩),.int .u64 a,.int .i64 (16:Nat)] (fun j=>zab (za5 hv0 rfl) (zab (zac hpl) (zab (zac rfl) RL.nil))) hb2
  (fun j u hj ho _=>zcC (zab ⟨⟨_,hj,rfl⟩,ho,fun _ h=>by cases h⟩ (zab (zac rfl) RL.nil))) hrows rfl hs
  fun F0 w hsw=>Calls.mono (zzv P L Bs B N a 16 (sk 2).2 w hsw.sw.mem hN (by decide) hin) fun e w' ⟨v,h1,h2,h3⟩=>⟨v,_,h1,h2,h3⟩
theorem Tryz.zIM {a:Nat} {wr h f wa:Int} {g:Nat→Int} (hg: ∀j,0≤g j∧g j<256) (e1:zah g a 8=wa) (e2:zah g (a+8) 4=wr) (e3:zah g (a+12) 2=h) (e4:zah g (a+14) 2=f) (d41:(u64v 41).den ρ=wa) (d27:(u16v 27).den ρ=h) (hrow:(⟨some q,undef,1,16,row g a 16⟩:LwR)∈rows 3):
  zaQ prog ρ w0 K (obG (pwO S P L Bs B M N r) X bX b2 sk rows) (zKg q wr f):=by
 refine ⟨Dw.enters_of (by kernel_rfl),fun j w vals F n0 hv hnone _ hF hsz hf hold=> ?_⟩
 obtain ⟨x0,_,rfl,y0,hv⟩:=hv
 have hv:_= []:=hv
 subst hv
 have hf0:=hf
 obtain ⟨hXF,F0,hF0,h1,h2⟩:=hf
 obtain ⟨u,t,q1,q2,q3⟩:=h2 _ hrow
 have y0:x0=u:=by
  obtain ⟨⟨Lq,hj,hu⟩,_⟩:=y0
  unfold LwR.is at q1
  simp only at q1
  unfold opqs at q1
  rw [hj] at q1
  simp only [Option.bind_some] at q1
  rw [hu] at q1
  injection q1
 subst y0
 obtain ⟨sa,c,hsl,hr⟩:=OwnR.row q2
 rcases hr with hr|⟨G,rfl,_,hr⟩
 ·have:=congrArg List.length hr
  simp [zly] at this
 rw [hsl]
 have hc:=zi8 hg a G 0 c w hr
 unfold znt at hc
 rw [e1,e2,e3,e4] at hc
 refine Calls.mono hc fun en w' hh=> ?_
 obtain ⟨rfl,hbl⟩:=hh
 refine ⟨_,[],F,rfl,rfl,zcC (zab (zbg (zab (zac d41) (zab (zac rfl) (zab (zac d27) (zab (zac rfl) RL.nil))))) (zab (zac rfl) RL.nil)),?_,fun b hb=>⟨Nat.lt_of_lt_of_le (hF b hb) hbl.size,.inl hb⟩,Dw.Mv.of_below hbl⟩
 exact (obG (pwO S P L Bs B M N r) X bX b2 sk rows).loc 3 _ _ F w w' hf0 (fun m v hm=>zdo (zkp hnone) hm) (fun b hb=>hbl.block b (hF b hb)) hbl.size
end
def Tryz.btK (S M B X16 b:Nat):Prop:=b=S∨b=M∨b=B∨b=X16
set_option maxRecDepth 10000 in
theorem Tryz.ztB {wv fv:Int} {asm:List (SB×Bool)} {give wrb:Bool}
    (hrun:(evL prog (zau (zrM wv fv 5)) (zaF zgW) (zaE zgX) 100000 (.code (zaK prog [1,1,1,0,1,0,0,0,1,1,1,1,1,1,1,1,1,1,1,1,1,3]) [1,1,1,0,1,0,0,0,1,1,1,1,1,1,1,1,1,1,1,1,1,3] 361 (envS 361 zdi zn4) (zas 0 zn3) (zaJ zwp 0))).ways asm=some zCf)
    (hok:(zai zn3&&zaf (zrM wv fv 5)&&zam zgW&&zan zgX&&zaq zdi&&zak zwp&&zaH 361 zdi&&Nat.ble 361 zaP&&zaC zn4)=true)
    (hwf:(wv=0∨wv=1)∧fv=(if 0<wv then 2 else 0)+32896) (htold: ∀ρ:Val,ρ.b 14=give→ρ.b 15=wrb→(SB.cmp .lss (u16v 27) (lnv 5)).den ρ=true→Dw.Told ρ asm)
    {A:Nat→Prop} {X13 X16 S P L Bs B M H4:Nat} {r:Rg} {s:PS×(Nat→Int)} {bs:List (List Sg)} {left:List Int} {k:Nat} {a:Act} {w:World} {t3 t31 vc vb:Value}
    (hsz:a.tmps.size=361) (hdf:a.defers= []) (h0:a.tmps.getD 0 undef= .int .i64 r.n) (h4:a.tmps.getD 4 undef= .bool give) (h11:a.tmps.getD 11 undef= .pointer (some ⟨P,0,none⟩)) (h12:a.tmps.getD 12 undef= .pointer (some ⟨S,0,none⟩)) (h13:a.tmps.getD 13 undef= .pointer (some ⟨X13,0,none⟩)) (h16:a.tmps.getD 16 undef= .pointer (some ⟨X16,0,none⟩)) (h18:a.tmps.getD 18 undef=vc) (h19:a.tmps.getD 19 undef=vb)
    (hk:k<left.length) (h33:a.tmps.getD 33 undef= .int .i64 left[k]) (h3:a.tmps.getD 3 undef=t3) (h31:a.tmps.getD 31 undef=t31) (o3:t3.oneCell'=true) (o31:t31.oneCell'=true)
    (row:Row w ⟨X13,0,0,none⟩ [.bool true,.int .i64 r.n,.int .u64 r.d,.int .u64 r.v,.int .u64 r.c]) (usd:Dw.Own w X16 [.int .i64 s.1.us,.bool s.1.uw])
    (hc: ∃t,OwnR t 1 w H4 vc (zax bs).length (zax bs)) (hb: ∃t,OwnR t 1 w H4 vb (zaI bs).length (zaI bs)) (hH:S<H4∧M<H4∧B<H4∧X16<H4)
    (hX13:A X13∧X13≠S∧X13≠M∧X13≠B) (hX16:A X16∧X16≠S∧X16≠M∧X16≠B) (hxx:X13≠X16) (hAv: ∀b,(vc.ownBlock=some b∨vb.ownBlock=some b)→A b) (hA: ¬A P∧ ¬A L∧ ¬A Bs)
    (hsw:PW A w S P L Bs B M 20000 r s.1 s.2) (hbp:BpI r s.1 bs left) (hn16:bs.length≤16)
    (hgw: ∀(i:Nat) (hi:i<bs.length),left[k]=i→wrb=zes bs[i]) (hw1:wv=1→wrb=true):
    (zaK prog [1,1,1,0,1,0,0,0,1,1,1,1,1,1,1,1,1,1,1,1,1,3]).wp prog (fun ex a' w'=>ex= .normal∧a'.tmps.size=361∧a'.defers= []∧
      ([0,4,11,12,13,16,18,19,3,31].map fun t=>a'.tmps.getD t undef)= [.int .i64 r.n,.bool give,.pointer (some ⟨P,0,none⟩),.pointer (some ⟨S,0,none⟩),.pointer (some ⟨X13,0,none⟩),.pointer (some ⟨X16,0,none⟩),vc,vb,t3,t31]∧
      Dw.Mv (btK S M B X16) w w'∧ ∃s':PS×(Nat→Int),PW A w' S P L Bs B M 20000 r s'.1 s'.2∧BpI r s'.1 bs (left.take k++left.drop (k+1))∧Dw.Own w' X16 [.int .i64 s'.1.us,.bool s'.1.uw]) a w:=by
  obtain ⟨hw01,hf⟩:=hwf
  have hrg:=hsw.rg
  have hbnd:=hrg.bnd
  have hd4:=hrg.d
  have hfit:=hsw.fit
  obtain ⟨i,hi,e1,p1,s',p2,p3,p3',p4,p5,p6,p7,p8⟩:=hbp.give (N:=20000) (g:=s.2) hk (w:=wv) (by
    rcases hw01 with h|h
    · exact .inl h
    · exact .inr ⟨h,fun i hi e=>(hgw i hi e).symm.trans (hw1 h)⟩)
  have hgw:=hgw i hi e1
  have hlen:=hbp.len
  have hlen':=p8.len
  have hsum:=hbp.sum.1
  generalize left[k]=hh at h33 e1 p1 p2 p3 p3'
  obtain ⟨a0,ha0⟩: ∃a0:Nat,a0=(4096+16*s.1.us).toNat:=⟨_,rfl⟩
  obtain ⟨r1,r2,r3⟩:=zx4 (us:=s.1.us) (h:=hh) (wr:=wv) (uw:=true) (g:=s.2) hsum ⟨by omega,by omega⟩ ⟨by omega,by omega⟩
  rw [←ha0] at r1 r2 r3
  simp only [if_true] at r3
  obtain ⟨g',hg'⟩: ∃g',g'=zlb s.1.us hh wv true s.2:=⟨_,rfl⟩
  rw [←hg'] at p2 r1 r2 r3
  have hs'us:=p8.sum
  have hps:0≤zcc s'.tk:=p8.sum0
  have hgo:0≤s'.us∧s'.us≤r.n:=⟨hs'us.1,by omega⟩
  have hby: ∀j,0≤g' j∧g' j<256:=by rw [hg'];exact zx5 hsw.mem.byte
  have hwb:=zbt g' hby a0 8
  have hp8:(256:Int)^8=18446744073709551616:=by decide
  obtain ⟨tc,hc⟩:=hc
  obtain ⟨tb,hb⟩:=hb
  obtain ⟨su,cu,hsu,hcr⟩:=OwnR.row hc
  obtain ⟨su2,cu2,hsu2,hbr⟩:=OwnR.row hb
  have hltc:=OwnR.lt hc
  have hltb:=OwnR.lt hb
  have n2:(zax bs).length=bs.length:=by simp [zax]
  have n3:(zaI bs).length=bs.length:=by simp [zaI]
  rw [n2] at hsu
  rw [n3] at hsu2
  have gc:(zax bs)[i]? =some (.int .i64 bs[i].length):=by simp [zax,hi]
  have gb:(zaI bs)[i]? =some (.bool (zes bs[i])):=by simp [zaI,hi]
  rcases hcr with hcr|⟨G1,rfl,hG1,hcr⟩
  · rw [hcr] at gc;cases gc
  rcases hbr with hbr|⟨G2,rfl,hG2,hbr⟩
  · rw [hbr] at gb;cases gb
  have hl1:=hltc G1 hG1
  have hl2:=hltb G2 hG2
  obtain ⟨h7,h8,h9,h10⟩:=hH
  have hr1:=zm3 hcr i gc
  have hr2:=zm3 hbr i gb
  rw [←hgw] at hr2
  have k1:=hsw.ltS
  have k2:=hsw.ltM
  have k3:=hsw.mem.bl
  have k16:=own_lt usd
  rw [p7] at usd
  obtain ⟨ρ,D⟩:=btD (r:=r) (nb:=bs.length) (us:=s.1.us) (h:=hh) (ct:=bs[i].length) (us2:=s'.us) (wa:=zah g' a0 8) (uw2:=s'.uw) (give:=give) (wrb:=wrb) (P:=P) (S:=S) (vc:=vc) (vb:=vb) (t3:=t3) (t31:=t31) hrg (by omega) (by omega) (by omega) (by omega) (by omega) ⟨hwb.1,by omega⟩
  have hpl:btPl.den ρ=a0:=by
    have w1:IntKind.wrap .u64 (16*s.1.us)=16*s.1.us:=zbE (by omega) (by omega)
    show (SE.bin .add .u64 (u64v 1) (.bin .mul .u64 (.lit 16) (lnv 24))).den ρ=a0
    rw [den_add,den_mul,zad,D.us,D.d,w1,hd4,zbE (by omega) (by omega),ha0]
    omega
  have hj1:jOf [(X13,0),(X16,0),(G1,i),(G2,i)] 1=some ⟨X13,0,0,none⟩:=rfl
  have hj2:jOf [(X13,0),(X16,0),(G1,i),(G2,i)] 2=some ⟨X16,0,0,none⟩:=rfl
  have hj3:jOf [(X13,0),(X16,0),(G1,i),(G2,i)] 3=some ⟨G1,i,0,none⟩:=rfl
  have hj4:jOf [(X13,0),(X16,0),(G1,i),(G2,i)] 4=some ⟨G2,i,0,none⟩:=rfl
  have hrow: ∀j,RL ρ j zfL [.bool true,.int .i64 r.n,.int .u64 r.d,.int .u64 r.v,.int .u64 r.c]:=fun j=>zab (zap rfl) (zab (zac D.n) (zab (zac D.d) (zab (zac D.v) (zab (zac D.c) RL.nil))))
  have hlts:S<w.heap.size∧M<w.heap.size∧B<w.heap.size:=⟨k1,k2,k3⟩
  have hKs:btK S M B X16 S∧btK S M B X16 M∧btK S M B X16 B:=⟨.inl rfl,.inr (.inl rfl),.inr (.inr (.inl rfl))⟩
  have hnK: ∀b,H4≤b→ ¬btK S M B X16 b:=fun b hb hk=>by rcases hk with e|e|e|e<;>omega
  refine wp_mono (zaz (ρ:=ρ) (K:=btK S M B X16) (g:=obG (pwO S P L Bs B M 20000 r) (pwX A S P L Bs B M) w.heap.size w.heap.size (fun m=>match m with|0=>s|1=>((zc7 s.1 hh wv).2,s.2)|_=>(s',g')) (fun m=>match m with|3=> [⟨some 5,undef,1,16,Tryz.row g' a0 16⟩]|_=> [])) (bl:= [(X13,0),(X16,0),(G1,i),(G2,i)]) mixed hrun hok (fun b hb=>by rcases hb with rfl|rfl|rfl|rfl<;>assumption)
    ⟨zf7 row (by simp) (hrow _) (by rintro (e|e|e|e);exact hX13.2.1 e;exact hX13.2.2.1 e;exact hX13.2.2.2 e;exact hxx e),za6 usd (zab (zac D.us) (zab (zap rfl) RL.nil)) (.inr (.inr (.inr rfl))),zba hr1 (by simp) (zab (zac D.ct) RL.nil) (hnK _ hl1.1),zba hr2 (by simp) (zab (zap D.wrb) RL.nil) (hnK _ hl2.1),trivial⟩
    ⟨fun hh=>(by cases hh),fun _ k b' s' e1 e2 e3=>(by
      match k,e2 with
      | 0,e2=>cases e2;cases e3
      | 1,e2=>cases e2;cases e3
      | k+2,e2=>cases e2),fun hh=>(by cases hh),fun hh=>(by cases hh),trivial⟩
    (zuI hsw hA rfl rfl (fun x hx=>by
      simp only [List.mem_cons,List.not_mem_nil,or_false] at hx
      rcases hx with rfl|rfl|rfl|rfl
      · exact hX13
      · exact hX16
      · exact ⟨hAv _ (.inl hG1),by show G1≠S;omega,by show G1≠M;omega,by show G1≠B;omega⟩
      · exact ⟨hAv _ (.inr hG2),by show G2≠S;omega,by show G2≠M;omega,by show G2≠B;omega⟩))
    ⟨zwr D.v2 D.h (by omega) p1 rfl hlen (Nat.le_refl _) hlts hKs (fun e he=>he),
     zt3 D.v2 rfl p2 (Nat.le_refl _) hlts hKs (fun e he=>he),
     zwr D.v2 D.h (by omega) p3 (congrArg (fun x=>(x,g')) p3') hlen' (Nat.le_refl _) hlts hKs (fun e he=>he),
     zCh D.v0 hpl (by decide) (by omega) (Nat.le_refl _) (Nat.le_refl _) (fun e he=> .inl (List.mem_singleton.1 he)) rfl,
     zIM hby rfl r1 r2 (r3.trans hf.symm) D.wa D.h (List.mem_cons_self ..),
     zaw (Dw.enters_of (by kernel_rfl)) (by decide) [posV s.1.us true,.int .i64 bs[i].length,.int .i64 r.n] (.tuple #[posV s'.us s'.uw,.int .i64 0]) (fun j=>zab (zbg (zab (zac D.us) (zab (zap rfl) RL.nil))) (zab (zac D.ct) (zab (zac D.n) RL.nil))) (fun j=>zcC (zab (zbg (zab (zac D.us2) (zab (zap D.uw2) RL.nil))) (zab (zac rfl) RL.nil))) (fun w F q hf=>by
       have:=zsn (n:=r.n) (a:=s.1.us) (c:=bs[i].length) (x:=true) ⟨hbnd.1,by omega⟩ ⟨hsum,p4⟩ ⟨by omega,p5⟩ w
       rw [p7] at p6
       rw [p6] at this
       exact this),trivial⟩
    trivial trivial hsz hdf ?_ (htold ρ D.give D.wrb (by rw [zaY,D.h,D.nb];exact decide_eq_true (by omega)))) fun ex a2 w2 hh2=> ?_
  · intro t ht
    simp only [zdi,zn5,zmb,List.map_cons,List.map_nil,List.cons_append,List.nil_append,List.mem_cons,List.not_mem_nil,or_false] at ht
    rcases ht with rfl|rfl|rfl|rfl|rfl|rfl|rfl|rfl|rfl|rfl|rfl
    · rw [h0];exact zac D.n
    · rw [h4];exact zap D.give
    · rw [h11];exact za5 D.v0 rfl
    · rw [h12];exact za5 D.v2 rfl
    · rw [h13];exact ⟨_,hj1,rfl⟩
    · rw [h16];exact ⟨_,hj2,rfl⟩
    · rw [h18];exact ⟨D.v6.symm,_,_,_,hsu,D.nb.symm,⟨G1,0,_,i,rfl,hj3,by simp,D.h.trans e1,hi,by simp⟩,trivial⟩
    · rw [h19];exact ⟨D.v7.symm,_,_,_,hsu2,D.nb.symm,⟨G2,0,_,i,rfl,hj4,by simp,D.h.trans e1,hi,by simp⟩,trivial⟩
    · rw [h33];exact zac D.h
    · rw [h3];exact za5 D.v103 o3
    · rw [h31];exact za5 D.v131 o31
  · obtain ⟨q,hq,hto,lf,hlf,rfl,hsz2,j2,hdf2,he⟩:=hh2
    have hmv:Dw.Mv (btK S M B X16) w w2:=he.mv
    have lc1:=zag (he.sub _ _ hj1)
    have lc2:=zag (he.sub _ _ hj2)
    unfold zCf at hq
    simp only [List.mem_cons,List.not_mem_nil,or_false] at hq
    subst hq
    cases hlf
    obtain ⟨F2,z1,z2,F0,z3,z4,_⟩:=he.gho
    have hs2:=zaB he.ret
    have hO:=(he.rows.2.1 _ (he.sub _ _ hj2)).2 (.inr (.inr (.inr (.inr rfl)))) rfl
    simp only [AV.valL,AV.val,D.us2,D.uw2,zaA] at hO
    simp only [AV.valL,AV.val,D.n,D.v0,D.v2,D.v6,D.v7,D.v103,D.v131,zaA,D.give,lc1,lc2] at hs2
    exact ⟨rfl,hsz2,hdf2,hs2,hmv,(s',g'),zuJ hsw hmv.size z2 z3 z4,p8,hO⟩
end Go.Proofs
namespace Go.Proofs
open Go.Dw Go.RowKit Go.Maps Go.Sort
section
variable {W0:World} {H4 X11 S P L Bs B M:Nat} {r:Tryz.Rg} {av ov:Value} {ls:List (List Tryz.Sg)} {s:Tryz.SS} {g:Nat→Int} {hs:List Int} {bs:List (List Tryz.Sg)} {next:Int} {vh:Value} {i:Nat} {a:Act} {w:World}
end
end Go.Proofs
namespace Go.Proofs
open Go.Dw Go.RowKit Go.Maps Go.Sort Go.Deep
theorem Tryz.zue {P0:Program} {w:World} {ops:Array Oper} {o:Oper} {a:Act} {K:Act→World→Prop} {Q:Exit→Act→World→Prop} {E:Prop} (hgd:o.guard=none) (s x:Operand) (t:TypeId)
  (ho:o.op= .call { callee:= .builtin .append,args:= #[s,x],argTypes:= #[t,t] })
  (base:Nat) (e t0:TypeId) (i:TypeInfo) (z:Value) (size bytes:Nat) (ht:P0.underlying t=some (.slice e)) (hi:P0.info? e=some i) (hz:i.zero=some z)
  (hsize:i.size=size) (hby:i.bytes=bytes) (hzs:z.cells.size=size) (hsz:0<size)
  (v:Value) (n:Nat) (xs:List Value) (hs:a.eval s=v) (hown:w.ownsRow base t0 size v n xs)
  (sa:Option Addr) (ad:Addr) (hsa:sa=some ad) (m c:Nat) (news:List Value) (hx:a.eval x= .slice sa m c) (hl:news.length=m*size) (hnews: ∀j u,news[j]? =some u→w.cell? (ad.add j)=some u) (h1: ∀u∈news,u.oneCell'=true)
  (h63:n+m≤maxLen) (hbytes:(n+m)*bytes≤140737488355328) (hbase:base≤w.heap.size)
  (h: ∀v' w' t',w'.ownsRow base t' size v' (n+m) (xs++news)→w.grownBy w' v.ownBlock→(v'.ownBlock=v.ownBlock∨v'.ownBlock=some w.heap.size)→K (a.put o.dst v') w'):
  if Region.wanted o (yielded ops a.tmps)=true then Oper.wp P0 o a w K Q else E:=by
 subst hsa
 have hw:Region.wanted o (yielded ops a.tmps)=true:=by simp [Region.wanted,hgd]
 rw [if_pos hw]
 obtain ⟨v',w',t',hr,h2,h3,h4⟩:=zhv (P0:=P0) w base t o.type e t0 i z size bytes ht hi hz hsize hby hzs hsz v n xs hown ad m c news hl hnews h1 h63 hbytes hbase
 unfold Oper.wp execOp
 simp only [ho,resolve,invoke,builtin,Sem.run_bind,Sem.run_pure,Result.andThen_ok,List.map_toArray,List.map_cons,List.map_nil,hs,hx,hr]
 exact h v' w' t' h2 h3 h4
theorem Tryz.OwnR.cap {t:TypeId} {sz n:Nat} {w:World} {b2:Nat} {sa:Option Addr} {c:Nat} {cs:List Value} (h:OwnR t sz w b2 (.slice sa n c) n cs) (hn:0<n):n≤c:=by
 obtain ⟨h1,h2⟩:=h
 rcases h2 with ⟨h2,h3⟩|⟨G,cap,cur,e,h3,h4,h5,_⟩
 ·omega
 ·cases e;exact h5
theorem Tryz.zjc {w w':World} {G o:Nat} {cs:List Value} {row:Option Nat} (h:w.rangeAt G o cs) (hg:w.grownBy w' row) (hl:G<w.heap.size) (hn:some G≠row):w'.rangeAt G o cs:=zaV h (hg.block G hl hn)
theorem Tryz.zx6 {w:World} {G:Nat} {cs:List Value} (h:w.rangeAt G 0 cs) (k:Nat): ∀j u,(cs.take k)[j]? =some u→w.cell? ((⟨G,0,none⟩:Addr).add j)=some u:=fun j u hu=>by
 rw [Dw.addr_add]
 rw [List.getElem?_take] at hu
 split at hu
 ·have:=h j u hu
  rwa [Nat.zero_add] at this ⊢
 ·cases hu
theorem Tryz.zx7 {w:World} {G:Nat} {cs:List Value} (h:w.rangeAt G 0 cs) (k:Nat): ∀j u,(cs.drop k)[j]? =some u→w.cell? ((⟨G,k,none⟩:Addr).add j)=some u:=fun j u hu=>by
 rw [Dw.addr_add]
 rw [List.getElem?_drop] at hu
 have:=h (k+j) u hu
 rwa [Nat.zero_add] at this
theorem Tryz.ztz {w:World} {G:Nat} {cs:List Value} (h:w.rangeAt G 0 cs) {k c:Nat} (hc:cs.length≤c): ∀j u,(cs.drop k)[j]? =some u→w.cell? ((if c=k then (⟨G,0,none⟩:Addr) else ⟨G,k,none⟩).add j)=some u:=fun j u hu=>by
 by_cases hk:c=k
 ·subst hk
  rw [List.drop_eq_nil_of_le hc] at hu
  cases hu
 ·rw [if_neg hk]
  exact zx7 h k j u hu
theorem Tryz.zAX (w:World) (t:TypeId):((w.alloc (Obj.cells #[] t)).drew).ownsRow w.heap.size t 1 (.slice (some ⟨w.heap.size,0,none⟩) 0 0) 0 []:=
 ⟨rfl,.inr ⟨_,0,_,rfl,Nat.le_refl _,heap_alloc_new w _,Nat.le_refl _,Nat.zero_le _,rfl,rfl⟩⟩
theorem Tryz.OwnR.mv {t:TypeId} {sz n:Nat} {w w':World} {S M B:Nat} {b2:Nat} {v:Value} {cs:List Value} (h:OwnR t sz w b2 v n cs) (hm:Dw.Mv (sK S M B) w w') (hl:S<b2∧M<b2∧B<b2):OwnR t sz w' b2 v n cs:=
 h.kept fun b e=>hm.block b (h.lt b e).2 fun hh=>by have:=(h.lt b e).1;rcases hh with rfl|rfl|rfl<;>omega
end Go.Proofs
namespace Go.Proofs
open Go.Dw Go.RowKit Go.Maps Go.Sort
theorem Tryz.zIK {give:Bool} {A:Nat→Prop} {X13 X16 S P L Bs B M H4:Nat} {r:Rg} {s:PS×(Nat→Int)} {bs:List (List Sg)} {left:List Int} {k:Nat} {a:Act} {w:World} {t3 t31 vc vb:Value}
    (hsz:a.tmps.size=361) (hdf:a.defers= []) (h0:a.tmps.getD 0 undef= .int .i64 r.n) (h4:a.tmps.getD 4 undef= .bool give) (h11:a.tmps.getD 11 undef= .pointer (some ⟨P,0,none⟩)) (h12:a.tmps.getD 12 undef= .pointer (some ⟨S,0,none⟩)) (h13:a.tmps.getD 13 undef= .pointer (some ⟨X13,0,none⟩)) (h16:a.tmps.getD 16 undef= .pointer (some ⟨X16,0,none⟩)) (h18:a.tmps.getD 18 undef=vc) (h19:a.tmps.getD 19 undef=vb)
    (hk:k<left.length) (h33:a.tmps.getD 33 undef= .int .i64 left[k]) (h3:a.tmps.getD 3 undef=t3) (h31:a.tmps.getD 31 undef=t31) (o3:t3.oneCell'=true) (o31:t31.oneCell'=true)
    (row:Row w ⟨X13,0,0,none⟩ [.bool true,.int .i64 r.n,.int .u64 r.d,.int .u64 r.v,.int .u64 r.c]) (usd:Dw.Own w X16 [.int .i64 s.1.us,.bool s.1.uw])
    (hc: ∃t,OwnR t 1 w H4 vc (zax bs).length (zax bs)) (hb: ∃t,OwnR t 1 w H4 vb (zaI bs).length (zaI bs)) (hH:S<H4∧M<H4∧B<H4∧X16<H4)
    (hX13:A X13∧X13≠S∧X13≠M∧X13≠B) (hX16:A X16∧X16≠S∧X16≠M∧X16≠B) (hxx:X13≠X16) (hAv: ∀b,(vc.ownBlock=some b∨vb.ownBlock=some b)→A b) (hA: ¬A P∧ ¬A L∧ ¬A Bs)
    (hsw:PW A w S P L Bs B M 20000 r s.1 s.2) (hbp:BpI r s.1 bs left) (hn16:bs.length≤16):
    (zaK prog [1,1,1,0,1,0,0,0,1,1,1,1,1,1,1,1,1,1,1,1,1,3]).wp prog (fun ex a' w'=>ex= .normal∧a'.tmps.size=361∧a'.defers= []∧
      ([0,4,11,12,13,16,18,19,3,31].map fun t=>a'.tmps.getD t undef)= [.int .i64 r.n,.bool give,.pointer (some ⟨P,0,none⟩),.pointer (some ⟨S,0,none⟩),.pointer (some ⟨X13,0,none⟩),.pointer (some ⟨X16,0,none⟩),vc,vb,t3,t31]∧
      Dw.Mv (btK S M B X16) w w'∧ ∃s':PS×(Nat→Int),PW A w' S P L Bs B M 20000 r s'.1 s'.2∧BpI r s'.1 bs (left.take k++left.drop (k+1))∧Dw.Own w' X16 [.int .i64 s'.1.us,.bool s'.1.uw]) a w:=by
  obtain ⟨i,hi,e1,_⟩:=hbp.has left[k] (List.getElem_mem hk)
  have huni: ∀(i':Nat) (hi':i'<bs.length),left[k]=i'→zes bs[i]=zes bs[i']:=fun i' hi' e=>by
    have:i'=i:=by omega
    subst this;rfl
  cases hg:give with
  | false=>
    subst hg
    exact ztB (wv:=0) (fv:=32896) (wrb:=zes bs[i]) zII zKf ⟨.inl rfl,rfl⟩ (fun ρ q1 q2 q3=>zaa.2 ⟨by rw [zaA];exact q1,zaa.2 ⟨q3,zae.2 trivial⟩⟩) hsz hdf h0 h4 h11 h12 h13 h16 h18 h19 hk h33 h3 h31 o3 o31 row usd hc hb hH hX13 hX16 hxx hAv hA hsw hbp hn16 huni (fun h=>absurd h (by decide))
  | true=>
    subst hg
    cases hw:zes bs[i] with
    | false=>exact ztB (wv:=0) (fv:=32896) (wrb:=false) zIG zKe ⟨.inl rfl,rfl⟩ (fun ρ q1 q2 q3=>zaa.2 ⟨by rw [zaA];exact q1,zaa.2 ⟨q3,zaa.2 ⟨by rw [zaA];exact q2,zae.2 trivial⟩⟩⟩) hsz hdf h0 h4 h11 h12 h13 h16 h18 h19 hk h33 h3 h31 o3 o31 row usd hc hb hH hX13 hX16 hxx hAv hA hsw hbp hn16 (fun i' hi' e=>hw▸huni i' hi' e) (fun h=>absurd h (by decide))
    | true=>exact ztB (wv:=1) (fv:=32898) (wrb:=true) zIE zKc ⟨.inr rfl,rfl⟩ (fun ρ q1 q2 q3=>zaa.2 ⟨by rw [zaA];exact q1,zaa.2 ⟨q3,zaa.2 ⟨by rw [zaA];exact q2,zae.2 trivial⟩⟩⟩) hsz hdf h0 h4 h11 h12 h13 h16 h18 h19 hk h33 h3 h31 o3 o31 row usd hc hb hH hX13 hX16 hxx hAv hA hsw hbp hn16 (fun i' hi' e=>hw▸huni i' hi' e) (fun _=>rfl)
theorem Tryz.zI2 {W0:World} {H4 X13 X15 X16 S P L Bs B M:Nat} {r:Rg} {av ov gv:Value} {ls:List (List Sg)} {s:PS×(Nat→Int)} {bs:List (List Sg)} {spare:Int} {vh vc vb:Value} {i:Nat} {a:Act} {w:World} (h:TqL W0 H4 X13 X15 X16 S P L Bs B M r av ov gv ls s bs spare vh vc vb i a w) (hi:i=ls.length):
  (zaK prog [0,0,1,0,1,1,1,1,1,1,1,1,1,1,3]).wp prog (fun ex a' w'=>ex= .exit 0∧a'.tmps.size=361∧a'.defers= []∧([0,3,4,11,12,13,15,16,17,18,19,20].map fun t=>a'.tmps.getD t undef)= [.int .i64 r.n,ov,gv,.pointer (some ⟨P,0,none⟩),.pointer (some ⟨S,0,none⟩),.pointer (some ⟨X13,0,none⟩),.pointer (some ⟨X15,0,none⟩),.pointer (some ⟨X16,0,none⟩),vh,vc,vb,.int .i64 spare]∧Below w.heap.size w w') a w:=by
 obtain ⟨sa0,c0,hav,_⟩:=h.aok.val
 have hb:=h.sw.rg.bnd
 have D:=h.den undef 0 (by decide) 0 false ⟨by omega,by omega⟩ 0 0 0 (by omega) (by omega) false false
 generalize (tpV r P S X16 av ov gv vh vc vb undef 0 ls.length bs.length i spare s.1.nx s.1.nw 0 false 0 0 0 false false).rho=ρ at D
 have hj1:jOf [(X13,0),(X15,0)] 1=some ⟨X13,0,0,none⟩:=rfl
 have hj2:jOf [(X13,0),(X15,0)] 2=some ⟨X15,0,0,none⟩:=rfl
 have hsl:=h.slots D ⟨rfl,rfl,rfl,rfl⟩ ⟨rfl,rfl,rfl,rfl,rfl,rfl,rfl,rfl⟩ (bufs:= .sx 4 (lnv 7) 1 []) hj1 hj2 ⟨D.v4.symm,_,_,_,hav,D.d7.symm,trivial⟩
 have hrx:Row w ⟨X15,0,0,none⟩ [.int .i64 s.1.nx,.bool s.1.nw]:=by
  obtain ⟨arr,e,q1,q2⟩:=h.nxt
  exact ⟨arr,e,_,q1,fun i y hy=>by rw [Nat.zero_add];exact q2 i y hy⟩
 refine wp_mono (zaz (ρ:=ρ) (K:=fun _=>False) (g:=Gho.none) (bl:= [(X13,0),(X15,0)]) mixed zGu zI7 (fun b h=>h.elim) ⟨zf7 h.row (by simp) (D.rg _) (fun h=>h),zf7 hrx (by simp) (D.pos _) (fun h=>h),trivial⟩ ⟨fun h=>(by cases h),fun h=>(by cases h),trivial⟩ zaO trivial trivial trivial h.size h.dfr hsl (zaa.2 ⟨by rw [zaY,D.d6,D.d7];exact decide_eq_false (by show¬(i:Int)<ls.length;omega),zae.2 trivial⟩)) fun ex a2 w2 hh=> ?_
 obtain ⟨q,hq,hto,lf,hlf,rfl,hsz2,j2,hdf2,he⟩:=hh
 have hb3:=zar he (fun _ h=>h)
 have lc1:=zag (he.sub _ _ hj1)
 have lc2:=zag (he.sub _ _ hj2)
 unfold zE8 at hq
 simp only [List.mem_cons,List.not_mem_nil,or_false] at hq
 subst hq
 cases hlf
 have hs2:=zaB he.ret
 simp only [AV.valL,AV.val,D.sz,D.v103,D.v104,D.v116,D.v0,D.v2,D.v5,D.v6,D.v7,D.d13,lc1,lc2] at hs2
 exact ⟨rfl,hsz2,hdf2,hs2,hb3⟩
structure Tryz.BtL (W0:World) (A:Nat→Prop) (H4 X13 X16 S P L Bs B M:Nat) (r:Rg) (order:Int) (give:Bool) (vc vb:Value) (bs:List (List Sg)) (s:PS×(Nat→Int)) (left:List Int) (vl:Value) (a:Act) (w:World):Prop where
 size:a.tmps.size=361
 dfr:a.defers= []
 t0:a.tmps.getD 0 undef= .int .i64 r.n
 t3:a.tmps.getD 3 undef= .int .i64 order
 t4:a.tmps.getD 4 undef= .bool give
 t11:a.tmps.getD 11 undef= .pointer (some ⟨P,0,none⟩)
 t12:a.tmps.getD 12 undef= .pointer (some ⟨S,0,none⟩)
 t13:a.tmps.getD 13 undef= .pointer (some ⟨X13,0,none⟩)
 t16:a.tmps.getD 16 undef= .pointer (some ⟨X16,0,none⟩)
 t18:a.tmps.getD 18 undef=vc
 t19:a.tmps.getD 19 undef=vb
 t31:a.tmps.getD 31 undef=vl
 row:Row w ⟨X13,0,0,none⟩ [.bool true,.int .i64 r.n,.int .u64 r.d,.int .u64 r.v,.int .u64 r.c]
 usd:Dw.Own w X16 [.int .i64 s.1.us,.bool s.1.uw]
 sw:PW A w S P L Bs B M 20000 r s.1 s.2
 inv:BpI r s.1 bs left
 lf: ∃t,OwnR t 1 w H4 vl left.length (zbe left)
 ct: ∃t,OwnR t 1 w H4 vc (zax bs).length (zax bs)
 wb: ∃t,OwnR t 1 w H4 vb (zaI bs).length (zaI bs)
 old:Below W0.heap.size W0 w
 x13:A X13∧X13≠S∧X13≠M∧X13≠B
 x16:A X16∧X16≠S∧X16≠M∧X16≠B
 xx:X13≠X16
 aV: ∀b,(vc.ownBlock=some b∨vb.ownBlock=some b)→A b
 aN: ¬A P∧ ¬A L∧ ¬A Bs
 lo:W0.heap.size≤S∧W0.heap.size≤M∧W0.heap.size≤B∧W0.heap.size≤X16
 hi:S<H4∧M<H4∧B<H4∧X16<H4
 h4:H4≤w.heap.size
 n16:left.length≤16∧bs.length≤16
end Go.Proofs
namespace Go.Proofs
theorem Tryz.zrl {n:Nat} (l:List Value) (h:l.length=n):(⟨l⟩:Array Value)=((List.range n).map fun i=>(⟨l⟩:Array Value).getD i undef).toArray:=by
 refine Array.ext' ?_
 refine List.ext_getElem? fun i=> ?_
 simp only [List.getElem?_map]
 by_cases hi:i<n
 ·rw [List.getElem?_eq_getElem (by omega:i<l.length),List.getElem?_range hi]
  simp [Array.getD_eq_getD_getElem?,h,hi]
 ·rw [List.getElem?_eq_none (by omega),List.getElem?_eq_none (by simp;omega)]
  rfl
set_option maxRecDepth 100000 in
theorem Tryz.zId {t:Array Value} (h:t.size=361) {v0 v3 v4 v11 v12 v13 v16 v18 v19 v31:Value} (h0:t.getD 0 undef=v0) (h3:t.getD 3 undef=v3) (h4:t.getD 4 undef=v4) (h11:t.getD 11 undef=v11) (h12:t.getD 12 undef=v12) (h13:t.getD 13 undef=v13) (h16:t.getD 16 undef=v16) (h18:t.getD 18 undef=v18) (h19:t.getD 19 undef=v19) (h31:t.getD 31 undef=v31):
  ∃ j:Nat→Value,t= #[v0,j 1,j 2,v3,v4,j 5,j 6,j 7,j 8,j 9,j 10,v11,v12,v13,j 14,j 15,v16,j 17,v18,v19,j 20,j 21,j 22,j 23,j 24,j 25,j 26,j 27,j 28,j 29,j 30,v31,j 32,j 33,j 34,j 35,j 36,j 37,j 38,j 39,j 40,j 41,j 42,j 43,j 44,j 45,j 46,j 47,j 48,j 49,j 50,j 51,j 52,j 53,j 54,j 55,j 56,j 57,j 58,j 59,j 60,j 61,j 62,j 63,j 64,j 65,j 66,j 67,j 68,j 69,j 70,j 71,j 72,j 73,j 74,j 75,j 76,j 77,j 78,j 79,j 80,j 81,j 82,j 83,j 84,j 85,j 86,j 87,j 88,j 89,j 90,j 91,j 92,j 93,j 94,j 95,j 96,j 97,j 98,j 99,j 100,j 101,j 102,j 103,j 104,j 105,j 106,j 107,j 108,j 109,j 110,j 111,j 112,j 113,j 114,j 115,j 116,j 117,j 118,j 119,j 120,j 121,j 122,j 123,j 124,j 125,j 126,j 127,j 128,j 129,j 130,j 131,j 132,j 133,j 134,j 135,j 136,j 137,j 138,j 139,j 140,j 141,j 142,j 143,j 144,j 145,j 146,j 147,j 148,j 149,j 150,j 151,j 152,j 153,j 154,j 155,j 156,j 157,j 158,j 159,j 160,j 161,j 162,j 163,j 164,j 165,j 166,j 167,j 168,j 169,j 170,j 171,j 172,j 173,j 174,j 175,j 176,j 177,j 178,j 179,j 180,j 181,j 182,j 183,j 184,j 185,j 186,j 187,j 188,j 189,j 190,j 191,j 192,j 193,j 194,j 195,j 196,j 197,j 198,j 199,j 200,j 201,j 202,j 203,j 204,j 205,j 206,j 207,j 208,j 209,j 210,j 211,j 212,j 213,j 214,j 215,j 216,j 217,j 218,j 219,j 220,j 221,j 222,j 223,j 224,j 225,j 226,j 227,j 228,j 229,j 230,j 231,j 232,j 233,j 234,j 235,j 236,j 237,j 238,j 239,j 240,j 241,j 242,j 243,j 244,j 245,j 246,j 247,j 248,j 249,j 250,j 251,j 252,j 253,j 254,j 255,j 256,j 257,j 258,j 259,j 260,j 261,j 262,j 263,j 264,j 265,j 266,j 267,j 268,j 269,j 270,j 271,j 272,j 273,j 274,j 275,j 276,j 277,j 278,j 279,j 280,j 281,j 282,j 283,j 284,j 285,j 286,j 287,j 288,j 289,j 290,j 291,j 292,j 293,j 294,j 295,j 296,j 297,j 298,j 299,j 300,j 301,j 302,j 303,j 304,j 305,j 306,j 307,j 308,j 309,j 310,j 311,j 312,j 313,j 314,j 315,j 316,j 317,j 318,j 319,j 320,j 321,j 322,j 323,j 324,j 325,j 326,j 327,j 328,j 329,j 330,j 331,j 332,j 333,j 334,j 335,j 336,j 337,j 338,j 339,j 340,j 341,j 342,j 343,j 344,j 345,j 346,j 347,j 348,j 349,j 350,j 351,j 352,j 353,j 354,j 355,j 356,j 357,j 358,j 359,j 360]:=by
 subst h0 h3 h4 h11 h12 h13 h16 h18 h19 h31
 obtain ⟨l⟩:=t
 exact ⟨fun i=>(⟨l⟩:Array Value).getD i undef,zrl l h⟩
set_option maxRecDepth 100000 in
theorem Tryz.zBG {t:Array Value} (h:t.size=361) {v0 v3 v4 v11 v12 v13 v15 v16 v17 v18 v19 v20:Value} (h0:t.getD 0 undef=v0) (h3:t.getD 3 undef=v3) (h4:t.getD 4 undef=v4) (h11:t.getD 11 undef=v11) (h12:t.getD 12 undef=v12) (h13:t.getD 13 undef=v13) (h15:t.getD 15 undef=v15) (h16:t.getD 16 undef=v16) (h17:t.getD 17 undef=v17) (h18:t.getD 18 undef=v18) (h19:t.getD 19 undef=v19) (h20:t.getD 20 undef=v20):
  ∃ j:Nat→Value,t= #[v0,j 1,j 2,v3,v4,j 5,j 6,j 7,j 8,j 9,j 10,v11,v12,v13,j 14,v15,v16,v17,v18,v19,v20,j 21,j 22,j 23,j 24,j 25,j 26,j 27,j 28,j 29,j 30,j 31,j 32,j 33,j 34,j 35,j 36,j 37,j 38,j 39,j 40,j 41,j 42,j 43,j 44,j 45,j 46,j 47,j 48,j 49,j 50,j 51,j 52,j 53,j 54,j 55,j 56,j 57,j 58,j 59,j 60,j 61,j 62,j 63,j 64,j 65,j 66,j 67,j 68,j 69,j 70,j 71,j 72,j 73,j 74,j 75,j 76,j 77,j 78,j 79,j 80,j 81,j 82,j 83,j 84,j 85,j 86,j 87,j 88,j 89,j 90,j 91,j 92,j 93,j 94,j 95,j 96,j 97,j 98,j 99,j 100,j 101,j 102,j 103,j 104,j 105,j 106,j 107,j 108,j 109,j 110,j 111,j 112,j 113,j 114,j 115,j 116,j 117,j 118,j 119,j 120,j 121,j 122,j 123,j 124,j 125,j 126,j 127,j 128,j 129,j 130,j 131,j 132,j 133,j 134,j 135,j 136,j 137,j 138,j 139,j 140,j 141,j 142,j 143,j 144,j 145,j 146,j 147,j 148,j 149,j 150,j 151,j 152,j 153,j 154,j 155,j 156,j 157,j 158,j 159,j 160,j 161,j 162,j 163,j 164,j 165,j 166,j 167,j 168,j 169,j 170,j 171,j 172,j 173,j 174,j 175,j 176,j 177,j 178,j 179,j 180,j 181,j 182,j 183,j 184,j 185,j 186,j 187,j 188,j 189,j 190,j 191,j 192,j 193,j 194,j 195,j 196,j 197,j 198,j 199,j 200,j 201,j 202,j 203,j 204,j 205,j 206,j 207,j 208,j 209,j 210,j 211,j 212,j 213,j 214,j 215,j 216,j 217,j 218,j 219,j 220,j 221,j 222,j 223,j 224,j 225,j 226,j 227,j 228,j 229,j 230,j 231,j 232,j 233,j 234,j 235,j 236,j 237,j 238,j 239,j 240,j 241,j 242,j 243,j 244,j 245,j 246,j 247,j 248,j 249,j 250,j 251,j 252,j 253,j 254,j 255,j 256,j 257,j 258,j 259,j 260,j 261,j 262,j 263,j 264,j 265,j 266,j 267,j 268,j 269,j 270,j 271,j 272,j 273,j 274,j 275,j 276,j 277,j 278,j 279,j 280,j 281,j 282,j 283,j 284,j 285,j 286,j 287,j 288,j 289,j 290,j 291,j 292,j 293,j 294,j 295,j 296,j 297,j 298,j 299,j 300,j 301,j 302,j 303,j 304,j 305,j 306,j 307,j 308,j 309,j 310,j 311,j 312,j 313,j 314,j 315,j 316,j 317,j 318,j 319,j 320,j 321,j 322,j 323,j 324,j 325,j 326,j 327,j 328,j 329,j 330,j 331,j 332,j 333,j 334,j 335,j 336,j 337,j 338,j 339,j 340,j 341,j 342,j 343,j 344,j 345,j 346,j 347,j 348,j 349,j 350,j 351,j 352,j 353,j 354,j 355,j 356,j 357,j 358,j 359,j 360]:=by
 subst h0 h3 h4 h11 h12 h13 h15 h16 h17 h18 h19 h20
 obtain ⟨l⟩:=t
 exact ⟨fun i=>(⟨l⟩:Array Value).getD i undef,zrl l h⟩
open Go.Dw Go.RowKit Go.Maps Go.Sort Go.Deep
theorem Tryz.zxC (w:World) (t:TypeId):(w.alloc (Obj.cells #[] t)).ownsRow w.heap.size t 1 (.slice (some ⟨w.heap.size,0,none⟩) 0 0) 0 []:=
 ⟨rfl,.inr ⟨_,0,_,rfl,Nat.le_refl _,heap_alloc_last w _,Nat.le_refl _,Nat.zero_le _,rfl,rfl⟩⟩
theorem Tryz.zEx (w:World) {t:TypeId} {b2 n:Nat} {vh:Value} {cs:List Value} (h:OwnR t 1 w b2 vh n cs) (h1: ∀u∈cs,u.oneCell'=true) (hn:n≤1000000):
  ∃ v' w' t',(Builtin.append_ #[37,37] 37 #[.slice (some ⟨w.heap.size,0,none⟩) 0 0,vh]).run prog (w.alloc (Obj.cells #[] 3))= .ok v' w'∧OwnR t' 1 w' w.heap.size v' n cs∧Below w.heap.size w w':=by
 have hinfo:=zIa
 obtain ⟨i0,hi0⟩: ∃i0,prog.info? 3=some i0:=by
  cases hi:prog.info? 3 with
  | none=>rw [hi] at hinfo;cases hinfo
  | some i=>exact ⟨i,rfl⟩
 rw [hi0] at hinfo
 simp only [Option.map_some,Option.some.injEq,Prod.mk.injEq] at hinfo
 obtain ⟨j1,j2,j3⟩:=hinfo
 have hU:prog.underlying 37=some (.slice 3):=by kernel_rfl
 have e1:Below w.heap.size w (w.alloc (Obj.cells #[] 3)):=Below.alloc (Below.refl _ w) (Nat.le_refl _) _
 have hoe:=zxC w 3
 obtain ⟨q1,q2⟩:=h
 rcases q2 with ⟨rfl,rfl⟩|⟨g,cap,cur,rfl,hbg,hg,hnc,hcm,hcs,htake⟩
 ·have hc:cs= []:=List.length_eq_zero_iff.1 (by rw [q1])
  subst hc
  refine ⟨.slice (some ⟨w.heap.size,0,none⟩) 0 0,_,3,?_,hoe,e1⟩
  simp [Builtin.append_,run_underlying hU,sizeOf,typeInfo,hi0,Builtin.lenOf,Builtin.firstCells,storeCells]
 ·have q:OwnR t 1 w b2 (.slice (some ⟨g,0,none⟩) n cap) n cs:=⟨q1,.inr ⟨g,cap,cur,rfl,hbg,hg,hnc,hcm,hcs,htake⟩⟩
  have hgl:g<w.heap.size:=(q.lt g rfl).2
  have hr:(w.alloc (Obj.cells #[] 3)).rangeAt g 0 cs:=by
   have q':=q.kept (w':=w.alloc (Obj.cells #[] 3)) fun b e=>e1.block b (by cases e;exact hgl)
   obtain ⟨sa,c,e,hr⟩:=OwnR.row q'
   rcases hr with hr|⟨G,e2,e3,hr⟩
   ·subst hr;intro i u hu;simp at hu
   ·cases e;cases e2;exact hr
  have hcells: ∀(j:Nat) (u:Value),cs[j]? =some u→(w.alloc (Obj.cells #[] 3)).cell? ((⟨g,0,none⟩:Addr).add j)=some u:=fun j u hu=>by
   have:=hr j u hu
   rw [Nat.zero_add] at this
   rw [Addr.add_lit,Nat.zero_add]
   exact this
  obtain ⟨v',w',t',r1,r2,r3,r4⟩:=zhv (P0:=prog) (w.alloc (Obj.cells #[] 3)) w.heap.size 37 37 3 3 i0 _ 1 8 hU hi0 j1 j2 j3 rfl (by decide) (.slice (some ⟨w.heap.size,0,none⟩) 0 0) 0 [] hoe ⟨g,0,none⟩ n cap cs q1 hcells h1 (by unfold maxLen;omega) (by omega) (by simp)
  rw [Nat.zero_add] at r2
  refine ⟨v',w',t',r1,r2,e1.trans ⟨r3.os,r3.tape,r3.output,r3.size,fun b hb=>r3.block b (by simp;omega) (fun e=>by simp [Value.ownBlock] at e;omega)⟩⟩
theorem Tryz.zwK {P0:Program} {w:World} {ops:Array Oper} {o:Oper} {a:Act} {K:Act→World→Prop} {Q:Exit→Act→World→Prop} {E:Prop} (hgd:o.guard=none) (s x:Operand) (t:TypeId)
  (ho:o.op= .call { callee:= .builtin .append,args:= #[s,x],argTypes:= #[t,t] }) (v vx:Value) (hs:a.eval s=v) (hx:a.eval x=vx) {v':Value} {w':World}
  (hr:(Builtin.append_ #[t,t] o.type #[v,vx]).run P0 w= .ok v' w') (h:K (a.put o.dst v') w'):
  if Region.wanted o (yielded ops a.tmps)=true then Oper.wp P0 o a w K Q else E:=by
 have hw:Region.wanted o (yielded ops a.tmps)=true:=by simp [Region.wanted,hgd]
 rw [if_pos hw]
 unfold Oper.wp execOp
 simp only [ho,resolve,invoke,builtin,Sem.run_bind,Sem.run_pure,Result.andThen_ok,List.map_toArray,List.map_cons,List.map_nil,hs,hx,hr]
 exact h
set_option maxRecDepth 100000 in
theorem Tryz.ptakes_walk (hlives: ∀w,Calls prog 6 #[] w fun e w'=>e= .returned (.bool true)∧Below w.heap.size w w') {w:World} {av:Value} {ls:List (List Sg)} (hA:BufV w av ls) (size order:Int) (ev tb pk give:Bool):
    Calls prog 3 #[.int .i64 size,.agg #[.bool ev,.bool tb,.bool pk],av,.int .i64 order,.bool give] w fun e w'=>e= .returned (.bool true)∧Below w.heap.size w w':=by
  obtain ⟨k,hk1,hk2⟩: ∃k:Nat,size%16=k∧k<16:=by
    have h0:0≤size%16:=Int.emod_nonneg _ (by decide)
    have h1:size%16<16:=Int.emod_lt_of_pos _ (by decide)
    exact ⟨(size%16).toNat,by omega,by omega⟩
  have hn:1≤k+1∧k+1≤16:=by omega
  have hA0:=hA
  obtain ⟨sa0,c0,rfl,_⟩:=hA0.val
  clear hA0
  obtain ⟨bl,hbl⟩: ∃bl:Nat,bl=ls.length:=⟨_,rfl⟩
  have Hbl:(fun _:Unit=>bl)=fun _=>ls.length:=by rw [hbl]
  rw [←hbl]
  clear hbl
  go_enter func3,ntmps3
  have hwk:IntKind.wrap .i64 (1+(k:Int))=((k+1:Nat):Int):=by rw [zbL (by omega) (by omega)];omega
  have hstart:=zlT 9 (.inr rfl)
  have hstd:=zpA hn ev tb pk
  generalize hm:k+1=n at hwk hstd hn
  clear hm
  unfold Rg.pval zbl at hstd
  simp only at hstd
  go_wp2_with (first
    | (go_at_call 6;refine (hlives _).mono ?_;rintro e w1 ⟨rfl,hb1⟩
       have ka:=(Cl.new w _ _).below hb1 (by simp)
       have x0:=ka.cell 0 _ rfl;have x1:=ka.cell 1 _ rfl;have x2:=ka.cell 2 _ rfl)
    | (go_at_call 7;refine (zvo size 16 (by decide) _).mono ?_;rintro e w3 ⟨rfl,rfl⟩
       rw [hk1])
    | (go_at_call 8;refine (hstd _).mono ?_;rintro e w4 ⟨S,P,L,Bs,B,M,rfl,hsw,hb4,hS,hM,hB,hP,hL,hBs⟩
       have kb:=Cl.new w4 #[.bool false,.int .i64 0,.int .u64 0,.int .u64 0,.int .u64 0] 31
       have y0:=kb.cell 0 _ rfl;have y1:=kb.cell 1 _ rfl;have y2:=kb.cell 2 _ rfl;have y3:=kb.cell 3 _ rfl;have y4:=kb.cell 4 _ rfl
       have g0:=kb.free 0;have g1:=kb.free 1;have g2:=kb.free 2;have g3:=kb.free 3;have g4:=kb.free 4)
    | (go_at_call 9;refine (hstart _).mono ?_;rintro e w7 ⟨rfl,hb7⟩)
    | go_in)
  · have hbl:=(Below.alloc (Below.refl w.heap.size w) (Nat.le_refl _) (Obj.cells #[Value.bool ev,Value.bool tb,Value.bool pk] 23)).trans (hb1.mono (by simp))
    exact zdb (fn:=f3) (Post:=fun e w'=>e= .returned (.bool true)∧RowKit.Below w.heap.size w w') rfl rfl rfl ⟨rfl,hbl⟩
  · rename_i w5 hb5 K hK
    have hbe:bl=ls.length:=congrFun Hbl ()
    have hbl3:Below w.heap.size w w3:=(Below.alloc (Below.refl w.heap.size w) (Nat.le_refl _) (Obj.cells #[Value.bool ev,Value.bool tb,Value.bool pk] 23)).trans (hb1.mono (by simp))
    have hs3:=hbl3.size
    have hs4:=hb4.size
    have hbl5:=hbl3.trans (hb4.mono hs3)
    generalize hw6:w4.alloc (Obj.cells #[Value.bool true,Value.int IntKind.i64 n,Value.int IntKind.u64 4096,Value.int IntKind.u64 (4096+16*n),Value.int IntKind.u64 (4100+16*n)] 31)=w6 at hb5
    have hbl6:Below w4.heap.size w4 w6:=hw6▸Below.alloc (Below.refl _ w4) (Nat.le_refl _) _
    have hs6:=hbl6.size
    have e6:w6.heap.size=w4.heap.size+1:=by rw [←hw6];simp
    have hs5:=hb5.size
    have hs7:=hb7.size
    have hrow7:Row w7 ⟨w4.heap.size,0,0,none⟩ [.bool true,.int .i64 n,.int .u64 4096,.int .u64 (4096+16*n),.int .u64 (4100+16*n)]:=by
      refine ⟨_,_,_,(hb7.block w4.heap.size (by omega)).trans ((hb5.block w4.heap.size (by omega)).trans (hw6▸heap_alloc_last w4 _)),fun i y hy=> ?_⟩
      rw [Nat.zero_add]
      simpa using hy
    generalize hw8a:w7.alloc (Obj.cells #[Value.int IntKind.i64 0,Value.bool true] 35)=w8a
    have e8a:w8a.heap.size=w7.heap.size+1:=by rw [←hw8a];simp
    generalize hw8:w8a.alloc (Obj.cells #[Value.int IntKind.i64 0,Value.bool true] 35)=w8
    have e8:w8.heap.size=w7.heap.size+2:=by rw [←hw8];simp;omega
    have hbl8a:Below w7.heap.size w7 w8a:=hw8a▸Below.alloc (Below.refl _ w7) (Nat.le_refl _) _
    have hbl8b:Below w8a.heap.size w8a w8:=hw8▸Below.alloc (Below.refl _ w8a) (Nat.le_refl _) _
    have hbl8:Below w7.heap.size w7 w8:=hbl8a.trans (hbl8b.mono (by omega))
    have hown:Dw.Own w8 w7.heap.size [.int .i64 0,.bool true]:=⟨_,_,(hbl8b.block w7.heap.size (by omega)).trans (hw8a▸heap_alloc_last w7 _),fun i y hy=>by simpa using hy⟩
    have hown2:Dw.Own w8 (w7.heap.size+1) [.int .i64 0,.bool true]:=⟨_,_,by rw [←e8a,←hw8];exact heap_alloc_last w8a _,fun i y hy=>by simpa using hy⟩
    have hrow:Row w8 ⟨w4.heap.size,0,0,none⟩ [.bool true,.int .i64 n,.int .u64 4096,.int .u64 (4096+16*n),.int .u64 (4100+16*n)]:=hrow7.kept (hbl8.block _ (by show w4.heap.size<_;omega))
    have hb48:Below w4.heap.size w4 w8:=((hbl6.trans (hb5.mono (by omega))).trans (hb7.mono (by omega))).trans (hbl8.mono (by omega))
    have hbl:=hbl5.trans (hb48.mono (by omega))
    have k1:=hsw.ltS
    have k2:=hsw.ltM
    have k3:=hsw.mem.bl
    have k4:=hsw.mem.pl
    have k5:=hsw.mem.ll
    have k6:=hsw.mem.sl
    have hsw8:=(hsw.below hb48).anew (A':=tqA w w4.heap.size w7.heap.size (w7.heap.size+1) S M B (.slice none 0 0) (.slice none 0 0) (.slice none 0 0) w8) rfl rfl ⟨by omega,.inr (.inr (.inr (.inr (.inr (.inl rfl)))))⟩ ⟨by omega,.inr (.inr (.inr (.inr (.inr (.inr (.inl rfl))))))⟩ ⟨by omega,.inr (.inr (.inr (.inr (.inr (.inr (.inr rfl))))))⟩ (fun b hb=>hb.1)
    have hnap:apB (.slice none 0 0) (.slice none 0 0):=fun b hb=>by cases hb
    have hI: ∀tmps:Array Value,tmps.size=361→ls.length≤16→(∀p∈ [(0,Value.int .i64 (zbl n).n),(2,.slice sa0 ls.length c0),(3,.int .i64 order),(4,.bool give),(11,.pointer (some ⟨P,0,none⟩)),(12,.pointer (some ⟨S,0,none⟩)),(13,.pointer (some ⟨w4.heap.size,0,none⟩)),(15,.pointer (some ⟨w7.heap.size,0,none⟩)),(16,.pointer (some ⟨w7.heap.size+1,0,none⟩)),(17,.slice none 0 0),(18,.slice none 0 0),(19,.slice none 0 0),(20,.int .i64 n),(21,.int .i64 (0:Nat))],tmps.getD p.1 undef=p.2)→
        TqL w w8.heap.size w4.heap.size w7.heap.size (w7.heap.size+1) S P L Bs B M (zbl n) (.slice sa0 ls.length c0) (.int .i64 order) (.bool give) ls (PS.fresh ev tb,fun _=>0) [] n (.slice none 0 0) (.slice none 0 0) (.slice none 0 0) 0 ⟨tmps,[]⟩ w8:=fun tmps hz hl16 ht=>
      ⟨hz,rfl,ht (0,_) (by simp),ht (2,_) (by simp),ht (3,_) (by simp),ht (4,_) (by simp),ht (11,_) (by simp),ht (12,_) (by simp),ht (13,_) (by simp),ht (15,_) (by simp),ht (16,_) (by simp),ht (17,_) (by simp),ht (18,_) (by simp),ht (19,_) (by simp),ht (20,_) (by simp),ht (21,_) (by simp),hrow,hown,hown2,hsw8,
        ⟨rfl,rfl,by show (0:Int)+(n:Int)=n;omega,by omega,fun _=>⟨rfl,rfl⟩,⟨rfl,rfl⟩,rfl,rfl,fun _ _ _=>rfl,fun l hl=>by cases hl⟩,
        ⟨3,OwnR.nil 3 1 w8 w8.heap.size⟩,⟨3,OwnR.nil 3 1 w8 w8.heap.size⟩,⟨4,OwnR.nil 4 1 w8 w8.heap.size⟩,⟨hnap,hnap,hnap⟩,hA,hbl,
        ⟨by omega,by omega,by omega,by omega,by omega,by omega,by omega,by omega,by omega⟩,⟨⟨by omega,by omega,by omega⟩,by omega,by omega,by omega,by omega,by omega,by omega⟩,⟨by omega,by omega,by omega,by omega,by omega,by omega⟩,⟨by omega,by omega,by omega,by omega,by omega,by omega⟩,⟨by omega,by omega,by omega,by omega,by omega,by omega⟩,⟨by omega,by omega,by omega⟩,Nat.le_refl _,⟨hl16,Nat.zero_le _,Nat.zero_le _⟩,⟨rfl,rfl⟩⟩
    have hl16:ls.length≤16:=by omega
    refine zby (c':= .loop (zaK prog [0,0,1,0,1,1,1,1,1,1,1,1,1,1,3])) (by kernel_rfl) ?_
    refine zbJ (fun (i:Nat) a' w'=>i≤ls.length∧ ∃s bs spare vh vc vb,TqL w w8.heap.size w4.heap.size w7.heap.size (w7.heap.size+1) S P L Bs B M (zbl n) (.slice sa0 ls.length c0) (.int .i64 order) (.bool give) ls s bs spare vh vc vb i a' w') (fun i=>ls.length-i) (fun i a1 w1 hI=> ?_) 0 _ _ ⟨Nat.zero_le _,_,_,_,_,_,_,hI _ rfl hl16 ?_⟩
    · obtain ⟨hi,s,bs,spare,vh,vc,vb,hL1⟩:=hI
      by_cases hlt2:i<ls.length
      · refine wp_mono (zCH hL1 hlt2) fun ex a2 w2 hh=> ?_
        obtain ⟨rfl,s',bs',spare',vh',vc',vb',h2⟩:=hh
        exact ⟨i+1,by omega,by omega,s',bs',spare',vh',vc',vb',h2⟩
      · refine wp_mono (zI2 hL1 (by omega)) fun ex a2 w2 hh=> ?_
        obtain ⟨rfl,z1,z2,z3,z4⟩:=hh
        show K a2 w2
        refine hK _ _ ?_
        clear hK
        simp only [List.map_cons,List.map_nil,List.cons.injEq,and_true] at z3
        obtain ⟨tmps,dfr⟩:=a2
        have z2:dfr= []:=z2
        have z1:tmps.size=361:=z1
        subst z2
        refine wp_seq_k (fun K2 hK2=> ?_)
        obtain ⟨z0,z3,z4o,z11,z12,z13,z15,z16,z17,z18,z19,z20⟩:=z3
        have z0:tmps.getD 0 undef= .int .i64 (zbl n).n:=z0
        have z3:tmps.getD 3 undef= .int .i64 order:=z3
        have z4o:tmps.getD 4 undef= .bool give:=z4o
        have z11:tmps.getD 11 undef= .pointer (some ⟨P,0,none⟩):=z11
        have z12:tmps.getD 12 undef= .pointer (some ⟨S,0,none⟩):=z12
        have z13:tmps.getD 13 undef= .pointer (some ⟨w4.heap.size,0,none⟩):=z13
        have z15:tmps.getD 15 undef= .pointer (some ⟨w7.heap.size,0,none⟩):=z15
        have z16:tmps.getD 16 undef= .pointer (some ⟨w7.heap.size+1,0,none⟩):=z16
        have z17:tmps.getD 17 undef=vh:=z17
        have z18:tmps.getD 18 undef=vc:=z18
        have z19:tmps.getD 19 undef=vb:=z19
        have z20:tmps.getD 20 undef= .int .i64 spare:=z20
        have hrest: ∀(tm:Array Value) (w5:World) (s5:PS×(Nat→Int)),tm.size=361→tm.getD 0 undef= .int .i64 (zbl n).n→tm.getD 3 undef= .int .i64 order→tm.getD 4 undef= .bool give→tm.getD 11 undef= .pointer (some ⟨P,0,none⟩)→tm.getD 12 undef= .pointer (some ⟨S,0,none⟩)→tm.getD 13 undef= .pointer (some ⟨w4.heap.size,0,none⟩)→tm.getD 15 undef= .pointer (some ⟨w7.heap.size,0,none⟩)→tm.getD 16 undef= .pointer (some ⟨w7.heap.size+1,0,none⟩)→tm.getD 17 undef=vh→tm.getD 18 undef=vc→tm.getD 19 undef=vb→tm.getD 20 undef= .int .i64 spare→
            Dw.Mv (sK S M B) w2 w5→PW (tqA w w4.heap.size w7.heap.size (w7.heap.size+1) S M B vh vc vb w1) w5 S P L Bs B M 20000 (zbl n) s5.1 s5.2→s5.1.us=s.1.us∧s5.1.uw=s.1.uw→BpI (zbl n) s5.1 bs ((List.range bs.length).map fun (i:Nat)=>(i:Int))→K2 ⟨tm,[]⟩ w5:=by
          intro tm w5 s5 y1 y0 y3 y4 y11 y12 y13 y15 y16 y17 y18 y19 y20 hmv hsw5 hus hbp
          refine hK2 _ _ ?_
          clear hK2
          obtain ⟨jf,hjf⟩:=zBG (t:=tm) y1 y0 y3 y4 y11 y12 y13 y15 y16 y17 y18 y19 y20
          rw [hjf]
          clear hjf
          obtain ⟨th,hrw⟩:=hL1.hd
          have hlo:=hL1.lo
          have hhi:=hL1.hi
          have hh4:=hL1.h4
          have hn16:=hL1.n16
          have hidl:(zaN bs.length).length=bs.length:=by simp [zaN]
          have kp: ∀ {t:TypeId} {v:Value} {n:Nat} {cs:List Value},OwnR t 1 w1 w8.heap.size v n cs→OwnR t 1 w5 w8.heap.size v n cs:=fun h=>(h.kept fun b e=>z4.block b (h.lt b e).2).mv hmv ⟨hhi.2.1,hhi.2.2.1,hhi.2.2.2.1⟩
          have hrw5:=kp hrw
          have hs2:=z4.size
          have hs5:=hmv.size
          have hcopy: ∃(K4:Act→World→Prop),True:=⟨fun _ _=>True,trivial⟩
          clear hcopy
          refine wp_seq_k (fun K4 hK4=> ?_)
          refine wp_region_lit ?_
          refine wpList_step fun K hK=> ?_
          go_simp
          refine hK _ _ ?_
          clear hK
          refine wpList_step fun K hK=> ?_
          go_simp
          refine hK _ _ ?_
          clear hK
          obtain ⟨v6,w6,t6,hrun,hown6,hb6⟩:=zEx w5 hrw5 (fun u hu=>by simp only [zaN,List.mem_map] at hu;obtain ⟨x,_,rfl⟩:=hu;rfl) (by rw [hidl];omega)
          refine wpList_step fun K hK=> ?_
          refine zwK (by rfl) _ _ 37 (by rfl) _ _ (by rfl) (by rfl) hrun ?_
          refine hK _ _ ?_
          clear hK
          refine wpList_step fun K hK=> ?_
          go_simp
          refine hK _ _ ?_
          clear hK
          refine wpList_nil ?_
          show K4 _ _
          refine hK4 _ _ ?_
          clear hK4
          have hsw6:=hsw5.below hb6
          have hs6':=hb6.size
          obtain ⟨left0,hleft0⟩: ∃left0:List Int,left0=(List.range bs.length).map fun (i:Nat)=>(i:Int):=⟨_,rfl⟩
          have hll:left0.length=bs.length:=by rw [hleft0];simp
          have hcl:zaN bs.length=zbe left0:=by rw [hleft0];simp [zaN,zbe]
          rw [←hleft0] at hbp
          rw [hidl,hcl,←hll] at hown6
          clear hleft0 hcl
          have hrow6:Row w6 ⟨w4.heap.size,0,0,none⟩ [.bool true,.int .i64 (zbl n).n,.int .u64 (zbl n).d,.int .u64 (zbl n).v,.int .u64 (zbl n).c]:=by
            have q1:=zi9 hL1.row
            have q2:=hL1.x13
            exact ((hL1.row.kept (z4.block _ q1)).kept (hmv.block _ (Nat.lt_of_lt_of_le q1 hs2) fun hh=>by
              rcases hh with h|h|h
              · exact q2.1 h
              · exact q2.2.1 h
              · exact q2.2.2.1 h)).kept (hb6.block _ (Nat.lt_of_lt_of_le (Nat.lt_of_lt_of_le q1 hs2) hs5))
          have husd6:Dw.Own w6 (w7.heap.size+1) [.int .i64 s5.1.us,.bool s5.1.uw]:=by
            have q1:=own_lt hL1.usd
            have q2:=hL1.x16
            rw [hus.1,hus.2,hL1.inv.us.1,hL1.inv.us.2]
            exact ((hL1.usd.kept (z4.block _ q1)).kept (hmv.block _ (Nat.lt_of_lt_of_le q1 hs2) fun hh=>by
              rcases hh with h|h|h
              · exact q2.1 h
              · exact q2.2.1 h
              · exact q2.2.2.1 h)).kept (hb6.block _ (Nat.lt_of_lt_of_le (Nat.lt_of_lt_of_le q1 hs2) hs5))
          have hold6:Below w.heap.size w w6:=by
            have q1:=hL1.old.trans (z4.mono hL1.old.size)
            have q2:Below w.heap.size w w5:=⟨hmv.os.trans q1.os,hmv.tape.trans q1.tape,hmv.output.trans q1.output,Nat.le_trans q1.size hmv.size,fun b hb=>(hmv.block b (Nat.lt_of_lt_of_le hb q1.size) fun hh=>by rcases hh with h|h|h<;>omega).trans (q1.block b hb)⟩
            exact q2.trans (hb6.mono q2.size)
          have hct6: ∃t,OwnR t 1 w6 w8.heap.size vc (zax bs).length (zax bs):=by
            obtain ⟨t,h⟩:=hL1.ct
            have:=kp h
            exact ⟨t,this.kept fun b e=>hb6.block b (this.lt b e).2⟩
          have hwb6: ∃t,OwnR t 1 w6 w8.heap.size vb (zaI bs).length (zaI bs):=by
            obtain ⟨t,h⟩:=hL1.wb
            have:=kp h
            exact ⟨t,this.kept fun b e=>hb6.block b (this.lt b e).2⟩
          obtain ⟨A0,hA0⟩: ∃A0,A0=tqA w w4.heap.size w7.heap.size (w7.heap.size+1) S M B vh vc vb w1:=⟨_,rfl⟩
          have hx13:A0 w4.heap.size∧w4.heap.size≠S∧w4.heap.size≠M∧w4.heap.size≠B:=by
            have q2:=hL1.x13
            exact ⟨by rw [hA0];exact ⟨zi9 hL1.row,.inr (.inl rfl)⟩,q2.1,q2.2.1,q2.2.2.1⟩
          have hx16:A0 (w7.heap.size+1)∧w7.heap.size+1≠S∧w7.heap.size+1≠M∧w7.heap.size+1≠B:=by
            have q2:=hL1.x16
            exact ⟨by rw [hA0];exact ⟨own_lt hL1.usd,.inr (.inr (.inr (.inl rfl)))⟩,q2.1,q2.2.1,q2.2.2.1⟩
          have haV: ∀b,(vc.ownBlock=some b∨vb.ownBlock=some b)→A0 b:=fun b hb=>by
            rw [hA0]
            obtain ⟨_,hc⟩:=hL1.ct
            obtain ⟨_,hb'⟩:=hL1.wb
            rcases hb with h|h
            · exact ⟨(OwnR.lt hc b h).2,.inr (.inr (.inr (.inr (.inl (.inr (.inl h))))))⟩
            · exact ⟨(OwnR.lt hb' b h).2,.inr (.inr (.inr (.inr (.inl (.inr (.inr h))))))⟩
          have haN: ¬A0 P∧ ¬A0 L∧ ¬A0 Bs:=by
            rw [hA0]
            have q1:=hL1.x13
            have q2:=hL1.x15
            have q3:=hL1.x16
            obtain ⟨_,hc⟩:=hL1.ct
            obtain ⟨_,hb'⟩:=hL1.wb
            have l1:=OwnR.lt hrw
            have l2:=OwnR.lt hc
            have l3:=OwnR.lt hb'
            have q5:=hL1.sw.sd
            have q6:=hL1.sw.md
            refine ⟨?_,?_,?_⟩
            · rintro ⟨_,h|h|h|h|(h|h|h)|h|h|h⟩
              · omega
              · omega
              · omega
              · omega
              · have:=(l1 _ h).1;omega
              · have:=(l2 _ h).1;omega
              · have:=(l3 _ h).1;omega
              · exact q5.1 h.symm
              · exact q6.1 h.symm
              · exact hL1.sw.mem.pb h
            · rintro ⟨_,h|h|h|h|(h|h|h)|h|h|h⟩
              · omega
              · omega
              · omega
              · omega
              · have:=(l1 _ h).1;omega
              · have:=(l2 _ h).1;omega
              · have:=(l3 _ h).1;omega
              · exact q5.2.1 h.symm
              · exact q6.2.1 h.symm
              · exact hL1.sw.mem.lb h
            · rintro ⟨_,h|h|h|h|(h|h|h)|h|h|h⟩
              · omega
              · omega
              · omega
              · omega
              · have:=(l1 _ h).1;omega
              · have:=(l2 _ h).1;omega
              · have:=(l3 _ h).1;omega
              · exact q5.2.2.1 h.symm
              · exact q6.2.2.1 h.symm
              · exact hL1.sw.mem.sb h
          rw [←hA0] at hsw6
          clear hA0
          go_wp2_with fail
          have hI3: ∀tm:Array Value,tm.size=361→(∀p∈ [(0,Value.int .i64 (zbl n).n),(3,.int .i64 order),(4,.bool give),(11,.pointer (some ⟨P,0,none⟩)),(12,.pointer (some ⟨S,0,none⟩)),(13,.pointer (some ⟨w4.heap.size,0,none⟩)),(16,.pointer (some ⟨w7.heap.size+1,0,none⟩)),(18,vc),(19,vb),(31,v6)],tm.getD p.1 undef=p.2)→
              BtL w A0 w8.heap.size w4.heap.size (w7.heap.size+1) S P L Bs B M (zbl n) order give vc vb bs s5 left0 v6 ⟨tm,[]⟩ w6:=fun tm hz ht=>
            ⟨hz,rfl,ht (0,_) (by simp),ht (3,_) (by simp),ht (4,_) (by simp),ht (11,_) (by simp),ht (12,_) (by simp),ht (13,_) (by simp),ht (16,_) (by simp),ht (18,_) (by simp),ht (19,_) (by simp),ht (31,_) (by simp),hrow6,husd6,hsw6,hbp,⟨t6,OwnR.mono hown6 (by omega)⟩,hct6,hwb6,hold6,hx13,hx16,by omega,haV,haN,⟨by omega,by omega,by omega,by omega⟩,⟨by omega,by omega,by omega,by omega⟩,by omega,⟨by omega,by omega⟩⟩
          refine zbJ (fun (left:List Int) a' w'=> ∃s vl,BtL w A0 w8.heap.size w4.heap.size (w7.heap.size+1) S P L Bs B M (zbl n) order give vc vb bs s left vl a' w') (fun left=>left.length) (fun left a1 w1 hI=> ?_) left0 _ _ ⟨_,_,hI3 _ rfl ?_⟩
          · obtain ⟨s,vl,hB⟩:=hI
            obtain ⟨tm,dfr⟩:=a1
            have hd0:dfr= []:=hB.dfr
            subst hd0
            obtain ⟨tb,hrb⟩:=hB.lf
            obtain ⟨ba,bc,hve,hbr⟩:=OwnR.row hrb
            subst hve
            obtain ⟨jf,hjf⟩:=zId (t:=tm) hB.size hB.t0 hB.t3 hB.t4 hB.t11 hB.t12 hB.t13 hB.t16 hB.t18 hB.t19 hB.t31
            rw [hjf]
            clear hjf
            by_cases h0:left.length=0
            · have htk2:s.1.tk= []:=by
                have e1:=congrArg List.length hB.inv.keys
                rw [List.length_map,h0] at e1
                exact List.length_eq_zero_iff.1 e1
              have hle:s.1.tk.length≤1000000:=by rw [htk2];exact Nat.zero_le _
              have hhz:(left.length:Int)=0:=by omega
              go_wp2_with (first
                | (go_at_call 21;refine (zx0 hB.sw hle).mono ?_;rintro e w3 ⟨v3,t3,rfl,hr3,hb3⟩
                   rw [htk2] at hr3
                   obtain ⟨sa3,c3,hv3,_⟩:=OwnR.row hr3
                   subst hv3)
                | go_in)
              refine zdb (fn:=f3) (Post:=fun e w'=>e= .returned (.bool true)∧RowKit.Below w.heap.size w w') rfl rfl rfl ⟨rfl,hB.old.trans (hb3.mono hB.old.size)⟩
            · have hpos:(0:Int)<(left.length:Int):=by omega
              obtain ⟨kk,hkk,hkl⟩: ∃kk:Nat,wrap64 (order+left.length)%(left.length:Int)=kk∧kk<left.length:=by
                have q0:=Int.emod_nonneg (wrap64 (order+left.length)) (show (left.length:Int)≠0 by omega)
                have q1:=Int.emod_lt_of_pos (wrap64 (order+left.length)) (show (0:Int)<left.length by omega)
                exact ⟨_,(Int.toNat_of_nonneg q0).symm,by omega⟩
              have hn16:=hB.n16
              have c1:left.length≤bc:=OwnR.cap hrb (by omega)
              have c2:(0:Int)≤(kk:Int):=by omega
              have c3:(kk:Int)≤(bc:Int):=by omega
              have c4:(kk:Int)+1≤(left.length:Int):=by omega
              have c5:(left.length:Int)≤(bc:Int):=by omega
              have c6:(0:Int)≤(kk:Int)+1:=by omega
              have c8:(kk:Int)<(left.length:Int):=by omega
              have c7:=zeu kk (by omega)
              obtain ⟨G,rfl,hG,hGr⟩: ∃G,ba=some ⟨G,0,none⟩∧(Value.slice ba left.length bc).ownBlock=some G∧w1.rangeAt G 0 (zbe left):=by
                rcases hbr with h|h
                · have:=congrArg List.length h
                  simp [zbe] at this
                  exact absurd this (by intro h;exact h0 (by rw [h];rfl))
                · exact h
              have hGx:w1.cell? ⟨G,kk,none⟩=some (.int .i64 left[kk]):=by
                have:=hGr kk (.int .i64 left[kk]) (by simp [zbe,hkl])
                rwa [Nat.zero_add] at this
              go_wp2_with (first
                | (go_at_call 7;refine (zvo (wrap64 (order+left.length)) left.length (by omega) _).mono ?_;rintro e w3 ⟨rfl,rfl⟩
                   rw [hkk]))
              rename_i K3 hK3
              have hinfo:=zIa
              obtain ⟨i0,hi0⟩: ∃i0,prog.info? 3=some i0:=by
                cases hi:prog.info? 3 with
                | none=>rw [hi] at hinfo;cases hinfo
                | some i=>exact ⟨i,rfl⟩
              rw [hi0] at hinfo
              simp only [Option.map_some,Option.some.injEq,Prod.mk.injEq] at hinfo
              obtain ⟨j1,j2,j3⟩:=hinfo
              have hU:prog.underlying 37=some (.slice 3):=by kernel_rfl
              have hGl:G<w3.heap.size:=World.block_lt_of_cell? w3 _ hGx
              have hGa:((w3.alloc (Obj.cells #[] 3)).drew).rangeAt G 0 (zbe left):=zaV hGr (heap_alloc_old w3 _ (h:=hGl))
              have hGs:G<((w3.alloc (Obj.cells #[] 3)).drew).heap.size:=by simp;omega
              have hoe:=zAX w3 3
              have hn1:((zbe left).take kk).length=kk*1:=by simp [zbe];omega
              have hn2:((zbe left).drop (kk+1)).length=(left.length-(kk+1))*1:=by simp [zbe]
              have hone: ∀u∈zbe left,u.oneCell'=true:=fun u hu=>by
                obtain ⟨x,_,rfl⟩:=List.mem_map.1 hu
                rfl
              clear hI hI3
              go_region_held3 (fun w'=>w'.rangeAt G 0 (zbe left)) (first|go_keep|exact hGa|exact hGb|exact hGc)
                ((first
                  | (refine zue (P0:=prog) (by rfl) _ _ _ (by rfl) w3.heap.size 3 3 i0 _ 1 8 hU hi0 j1 j2 j3 rfl (by decide) (.slice (some ⟨w3.heap.size,0,none⟩) 0 0) 0 [] (by rfl) hoe (some ⟨G,0,none⟩) ⟨G,0,none⟩ rfl kk bc ((zbe left).take kk) (by rfl) hn1
                       (zx6 hGa kk) (fun u hu=>hone u (List.mem_of_mem_take hu)) (by unfold maxLen;omega) (by omega) (by simp) ?_
                     intro v1 wa t1 hown1 hgrow1 hat1
                     have hGb:=zjc hGa hgrow1 hGs (fun e=>by simp [Value.ownBlock] at e;omega))
                  | (refine zue (P0:=prog) (by rfl) _ _ _ (by rfl) w3.heap.size 3 t1 i0 _ 1 8 hU hi0 j1 j2 j3 rfl (by decide) v1 (0+kk) ([]++(zbe left).take kk) (by rfl) hown1 (if bc=kk+1 then some ⟨G,0,none⟩ else some ⟨G,kk+1,none⟩) (if bc=kk+1 then ⟨G,0,none⟩ else ⟨G,kk+1,none⟩) (by split<;>rfl) (left.length-(kk+1)) (bc-(kk+1)) ((zbe left).drop (kk+1)) (by rfl) hn2
                       (ztz hGb (by simp [zbe];omega)) (fun u hu=>hone u (List.mem_of_mem_drop hu)) (by unfold maxLen;omega) (by omega) (by have:=hgrow1.size;simp at this;omega) ?_
                     intro v2 wb t2 hown2 hgrow2 hat2
                     have hGc:wb.rangeAt G 0 (zbe left):=zjc hGb hgrow2 (Nat.lt_of_lt_of_le hGs hgrow1.size) (fun e=>by
                       rcases hat1 with h|h
                       · rw [h] at e;simp [Value.ownBlock] at e;omega
                       · rw [h] at e;simp at e;omega))))
              show K3 _ _
              refine hK3 _ _ ?_
              clear hK3 hGb hGc
              have hvl: ∀b,v2.ownBlock=some b→w3.heap.size≤b:=OwnR.lt hown2|>fun h b e=>(h b e).1
              have hcs: []++List.take kk (zbe left)++List.drop (kk+1) (zbe left)=zbe (left.take kk++left.drop (kk+1)):=by simp [zbe]
              have hcl:0+kk+(left.length-(kk+1))=(left.take kk++left.drop (kk+1)).length:=by simp;omega
              rw [hcs,hcl] at hown2
              have hb3:Below w3.heap.size w3 wb:=by
                have e1:Below w3.heap.size w3 ((w3.alloc (Obj.cells #[] 3)).drew):=⟨rfl,rfl,rfl,by simp,fun b hb=>heap_alloc_old w3 _ (h:=hb)⟩
                have e2:Below w3.heap.size ((w3.alloc (Obj.cells #[] 3)).drew) wa:=⟨hgrow1.os,hgrow1.tape,hgrow1.output,hgrow1.size,fun b hb=>hgrow1.block b (by simp;omega) (fun e=>by simp [Value.ownBlock] at e;omega)⟩
                have hs1:=hgrow1.size
                simp at hs1
                have e3:Below w3.heap.size wa wb:=⟨hgrow2.os,hgrow2.tape,hgrow2.output,hgrow2.size,fun b hb=>hgrow2.block b (by omega) (fun e=>by
                  rcases hat1 with h|h
                  · rw [h] at e;simp [Value.ownBlock] at e;omega
                  · rw [h] at e;simp at e;omega)⟩
                exact (e1.trans e2).trans e3
              have hswb:=hB.sw.below hb3
              refine zby (c':=zaK prog [1,1,1,0,1,0,0,0,1,1,1,1,1,1,1,1,1,1,1,1,1,3]) (by kernel_rfl) ?_
              have hxb:Row wb ⟨w4.heap.size,0,0,none⟩ _:=hB.row.kept (hb3.block _ (zi9 hB.row))
              have hub:=hB.usd.kept (hb3.block _ (own_lt hB.usd))
              obtain ⟨tc3,hc3⟩:=hB.ct
              obtain ⟨tb3,hw3⟩:=hB.wb
              have hc3b:=hc3.kept fun b e=>hb3.block b (hc3.lt b e).2
              have hw3b:=hw3.kept fun b e=>hb3.block b (hw3.lt b e).2
              refine wp_mono (zIK (k:=kk) (t3:= .int .i64 order) (t31:=v2) rfl rfl rfl rfl rfl rfl rfl rfl rfl rfl hkl rfl rfl rfl rfl (OwnR.one hown2) hxb hub ⟨_,hc3b⟩ ⟨_,hw3b⟩ hB.hi hB.x13 hB.x16 hB.xx hB.aV hB.aN hswb hB.inv hB.n16.2) fun ex a2 w2 hh=> ?_
              obtain ⟨rfl,g1,g2,g3,hmt,s3,hsw3,hb3',hu3⟩:=hh
              simp only [List.map_cons,List.map_nil,List.cons.injEq,and_true] at g3
              obtain ⟨u0,u4,u11,u12,u13,u16,u18,u19,u3,u31⟩:=g3
              have hlo:=hB.lo
              have hhi:=hB.hi
              have hh4:=hB.h4
              have hx:=hB.x13
              have holdb:=hB.old.trans (hb3.mono hB.old.size)
              have kpm: ∀ {t:TypeId} {v:Value} {n:Nat} {cs:List Value},OwnR t 1 wb w8.heap.size v n cs→OwnR t 1 w2 w8.heap.size v n cs:=fun h=>h.kept fun b e=>hmt.block b (h.lt b e).2 fun hh=>by
                have:=(h.lt b e).1
                rcases hh with hh|hh|hh|hh<;>omega
              refine ⟨left.take kk++left.drop (kk+1),by simp;omega,s3,v2,g1,g2,u0,u3,u4,u11,u12,u13,u16,u18,u19,u31,hxb.kept (hmt.block _ (zi9 hxb) fun hh=> ?_),hu3,hsw3,hb3',⟨t2,kpm (OwnR.mono hown2 hh4)⟩,⟨tc3,kpm hc3b⟩,⟨tb3,kpm hw3b⟩,
                ⟨hmt.os.trans holdb.os,hmt.tape.trans holdb.tape,hmt.output.trans holdb.output,Nat.le_trans holdb.size hmt.size,fun b hb=>(hmt.block b (Nat.lt_of_lt_of_le hb holdb.size) fun hh=> ?_).trans (holdb.block b hb)⟩,hx,hB.x16,hB.xx,hB.aV,hB.aN,hlo,hhi,by have:=hmt.size;have:=hb3.size;omega,⟨by simp;omega,hB.n16.2⟩⟩
              · have hxx:=hB.xx
                rcases hh with h|h|h|h
                · exact hx.2.1 h
                · exact hx.2.2.1 h
                · exact hx.2.2.2 h
                · exact hxx h
              · rcases hh with h|h|h|h<;>omega
          · intro p hp
            simp only [List.mem_cons,List.not_mem_nil,or_false] at hp
            rcases hp with rfl|rfl|rfl|rfl|rfl|rfl|rfl|rfl|rfl|rfl<;>rfl
        clear hK2
        obtain ⟨A0,hA0⟩: ∃A0,A0=tqA w w4.heap.size w7.heap.size (w7.heap.size+1) S M B vh vc vb w1:=⟨_,rfl⟩
        have haN: ¬A0 P∧ ¬A0 L∧ ¬A0 Bs:=by
          rw [hA0]
          have hlo:=hL1.lo
          have hhi:=hL1.hi
          have q1:=hL1.x13
          have q2:=hL1.x15
          have q3:=hL1.x16
          obtain ⟨_,hrw⟩:=hL1.hd
          obtain ⟨_,hc⟩:=hL1.ct
          obtain ⟨_,hb'⟩:=hL1.wb
          have l1:=OwnR.lt hrw
          have l2:=OwnR.lt hc
          have l3:=OwnR.lt hb'
          have q5:=hL1.sw.sd
          have q6:=hL1.sw.md
          refine ⟨?_,?_,?_⟩
          · rintro ⟨_,h|h|h|h|(h|h|h)|h|h|h⟩
            · omega
            · omega
            · omega
            · omega
            · have:=(l1 _ h).1;omega
            · have:=(l2 _ h).1;omega
            · have:=(l3 _ h).1;omega
            · exact q5.1 h.symm
            · exact q6.1 h.symm
            · exact hL1.sw.mem.pb h
          · rintro ⟨_,h|h|h|h|(h|h|h)|h|h|h⟩
            · omega
            · omega
            · omega
            · omega
            · have:=(l1 _ h).1;omega
            · have:=(l2 _ h).1;omega
            · have:=(l3 _ h).1;omega
            · exact q5.2.1 h.symm
            · exact q6.2.1 h.symm
            · exact hL1.sw.mem.lb h
          · rintro ⟨_,h|h|h|h|(h|h|h)|h|h|h⟩
            · omega
            · omega
            · omega
            · omega
            · have:=(l1 _ h).1;omega
            · have:=(l2 _ h).1;omega
            · have:=(l3 _ h).1;omega
            · exact q5.2.2.1 h.symm
            · exact q6.2.2.1 h.symm
            · exact hL1.sw.mem.sb h
        have hsw2:=hL1.sw.below z4
        rw [←hA0] at hsw2 hrest
        clear hA0
        have hinv:=hL1.inv
        have hrg:=hL1.sw.rg
        obtain ⟨jf,hjf⟩:=zBG (t:=tmps) z1 z0 z3 z4o z11 z12 z13 z15 z16 z17 z18 z19 z20
        rw [hjf]
        clear hjf z0 z3 z4o z11 z12 z13 z15 z16 z17 z18 z19 z20 hI
        by_cases hsp:0<spare
        · have hpos:=hinv.pos hsp
          have hsum:=hinv.sum
          have htn:=zdD bs
          obtain ⟨p1,nn,g9,p3,p2,p4⟩:=zxb (N:=20000) (r:=zbl n) (s:=s.1) (g:=s.2) hrg hinv.ph hinv.br (by rw [hpos.1];omega) (hinv.none hsp)
          obtain ⟨s9,h9⟩: ∃s9:PS,s9= { s.1 with op:=3,nn:=true,hd:=0,sg:= [],wr:=0,it:=false,ph:=0,dn:=true,br:=false }:=⟨_,rfl⟩
          rw [←h9] at p2
          have i1:s9.op=3:=by rw [h9]
          have i2:s9.nn=true:=by rw [h9]
          have i3:s9.ph=0:=by rw [h9]
          have i4:s9.br=false:=by rw [h9]
          have i5:s9.dn=true:=by rw [h9]
          have i6:s9.sg= []:=by rw [h9]
          have i7:s9.us=s.1.us∧s9.uw=s.1.uw:=by rw [h9];exact ⟨rfl,rfl⟩
          have i8:s9.tk=s.1.tk:=by rw [h9]
          clear h9
          have hpoll: ∀w5,PW A0 w5 S P L Bs B M 20000 (zbl n) s.1 s.2→Calls prog 12 #[.pointer (some ⟨S,0,none⟩)] w5 fun e w'=>e= .returned (.int .i64 0)∧PW A0 w' S P L Bs B M 20000 (zbl n) (zck s.1).2 s.2∧Dw.Mv (sK S M B) w5 w':=fun w5 h=>by
            have:=zpI h
            rw [p1] at this
            exact this
          have hfin: ∀w5,PW A0 w5 S P L Bs B M 20000 (zbl n) (zck s.1).2 s.2→Calls prog 13 #[.pointer (some ⟨S,0,none⟩)] w5 fun e w'=>e= .returned (.int .i64 nn)∧PW A0 w' S P L Bs B M 20000 (zbl n) s9 g9∧Dw.Mv (sK S M B) w5 w':=fun w5 h=>by
            have:=zvp h haN
            rw [p2] at this
            exact this
          generalize zck s.1=ps at hpoll hfin
          have n1: ¬nn<1:=by rcases p3 with rfl|rfl<;>decide
          have hbk:=hinv.back i3 i4 i8 i7 hrg
          clear p1 p2 p3 p4
          go_wp2_with (first
            | (go_at_call 12;refine (hpoll _ hsw2).mono ?_;rintro e wa ⟨rfl,hswa,hma⟩)
            | (go_at_call 13;refine (hfin _ hswa).mono ?_;rintro e wb ⟨rfl,hswb,hmb⟩)
            | (go_at_call 14;refine (zru hswb i3 i4 i5 (by rw [i6];exact Nat.zero_le _)).mono ?_;rintro e wc ⟨u,rfl,hou,hbc⟩
               rw [i1,i2]
               rw [i6] at hou
               obtain ⟨ua,uc,hue,_⟩:=hou.segV (fun x hx=>(by cases hx)) (A:=fun _=>False) fun _ _ h=>h
               subst hue)
            | go_in)
          have hbm: ∀ {a b:World},Below a.heap.size a b→Dw.Mv (sK S M B) a b:=fun h=>⟨h.os,h.tape,h.output,h.size,fun b hb _=>h.block b hb⟩
          have hswc:=hswb.below hbc
          have hbd:=Below.alloc (Below.refl wc.heap.size wc) (Nat.le_refl _) (Obj.cells #[Value.int IntKind.i64 3,Value.bool true,Value.int IntKind.i64 s9.hd,Value.slice ua 0 uc,Value.int IntKind.u32 s9.wr,Value.bool s9.it] 50)
          exact hrest _ _ (s9,g9) rfl rfl rfl rfl rfl rfl rfl rfl rfl rfl rfl rfl rfl (((hma.trans hmb).trans (hbm hbc)).trans (hbm hbd)) (hswc.below hbd) i7 hbk
        · go_wp2_with fail
          exact hrest _ _ s rfl rfl rfl rfl rfl rfl rfl rfl rfl rfl rfl rfl rfl ⟨rfl,rfl,rfl,Nat.le_refl _,fun _ _ _=>rfl⟩ hsw2 ⟨rfl,rfl⟩ (hinv.back hinv.ph hinv.br rfl ⟨rfl,rfl⟩ hrg)
    · intro p hp
      simp only [List.mem_cons,List.not_mem_nil,or_false] at hp
      rcases hp with rfl|rfl|rfl|rfl|rfl|rfl|rfl|rfl|rfl|rfl|rfl|rfl|rfl|rfl<;>first|rfl|(rw [←hbe];rfl)
end Go.Proofs
namespace Go.Proofs.YtfoggkodmjnmcaaGreat
theorem zxO:(Dw.ev Tryz.prog (Dw.zf5 64 [90]) 100000000 (.call 6 [] Dw.heap0 Dw.isTrue)).good=true:=by kernel_rfl
theorem lives6:Dw.zF6 Tryz.prog 6:=Dw.zwQ (by kernel_rfl) (fun w=>Tryz.zGN) zxO
theorem zs6:Tryz.pinned.checked.prog.mayEnter=true:=by kernel_rfl
end Go.Proofs.YtfoggkodmjnmcaaGreat
namespace Go.Proofs.YtfoggkodmjnmcaaGreat.pserveTakes
open Go.ChangeShapes Go.WideShapes Go.ChangeAt Go.RowKit
theorem closedFacts:joinedFacts Tryz.pinned.checked.prog 3 Tryz.f3 Rows.pserveTakesSpec Rows.pserveTakesRow=true:=by
 unfold joinedFacts
 rw [zs6]
 kernel_rfl
end Go.Proofs.YtfoggkodmjnmcaaGreat.pserveTakes
end
