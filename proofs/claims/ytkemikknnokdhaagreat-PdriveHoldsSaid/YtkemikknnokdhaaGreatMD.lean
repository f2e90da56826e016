/-
  Proved: laws on the way to 'PdriveHoldsProof' (VdF VeH VeI, the small ones); no condition.
-/
import Derived.Test.YtkemikknnokdhaaGreatM8
set_option linter.unusedSimpArgs false
set_option linter.unusedVariables false
set_option maxHeartbeats 4000000
noncomputable section
namespace Go.Proofs
open Go.Dw Go.RowKit Go.Maps Go.Sort Go.Deep
theorem Tryz.zos (w:World) (t:TypeId) (sz:Nat):(w.alloc (Obj.cells #[] t)).ownsRow w.heap.size t sz (.slice (some ⟨w.heap.size,0,none⟩) 0 0) 0 []:=
 ⟨by simp,.inr ⟨_,0,_,rfl,Nat.le_refl _,heap_alloc_last w _,Nat.le_refl _,Nat.zero_le _,by simp,by simp⟩⟩
set_option maxRecDepth 100000 in
theorem Tryz.zkQ {A:Nat→Prop} {w:World} {v:Value} {l:List Sg} (h:SegV A w v l) (hl:l.length≤1000000):
    Calls prog 14 #[v] w fun e w'=> ∃u,e= .returned u∧OwnSeg w' w.heap.size u l∧Below w.heap.size w w':=by
  obtain ⟨sa,c,rfl,hok,hr⟩:=h;obtain ⟨i0,hi0,hz0,hz1,hzb⟩:=info_parts zmh;have hseg1:=zfZ l;have hoe:=zos w 137 3;have hb0:=(Below.refl w.heap.size w).alloc (Nat.le_refl _) (.cells #[] 137);cases sa with
  | none=>
    have h0:l= []:=by
      rcases hr with h|⟨R,o,h,_⟩
      · exact h
      · cases h
    subst h0;go_enter func14,ntmps14;go_wp2_with fail;go_ret;exact ⟨_,rfl,hoe,hb0⟩
  | some ad=>
    have hnews: ∀j u,(zan l)[j]? =some u→(w.alloc (.cells #[] 137)).cell? (ad.add j)=some u:=fun j u hj=>by
      rcases hr with h|⟨R,o,h,_,hr⟩
      · subst h;cases hj
      · cases h;have hlt:R<w.heap.size:=World.block_lt_of_cell? w _ (hr j u hj);rw [Dw.addr_add];exact (World.cell?_of_block (a:=⟨R,o+j,none⟩) (Below.heap_alloc w _ R hlt)).trans (hr j u hj)
    have hlen:=zbI l;go_enter func14,ntmps14;go_wp2_with (first
      | (at_builtin;go_loud (refine wpList_append_own_at _ rfl _ _ 49 rfl w.heap.size 137 i0 _ 3 16 (by kernel_rfl) hi0 hz0 hz1 hzb rfl (by decide) (.slice (some ⟨w.heap.size,0,none⟩) 0 0) 0 [] rfl hoe ad l.length c (zan l) rfl (by omega) hnews hseg1 (by unfold maxLen;omega) (by omega) (by simp) ?_);intro u wa h2 h3 h4 h5;go_frame)
      | go_in)
    go_ret;have hbA:Below w.heap.size w wa:=⟨h3.os,h3.tape,h3.output,Nat.le_trans hb0.size h3.size,fun b hb=>(h3.block b (by simp;omega) (fun e=>by simp [Value.ownBlock] at e;omega)).trans (hb0.block b hb)⟩;exact ⟨_,rfl,by unfold OwnSeg;simpa using h2,hbA⟩
set_option maxRecDepth 100000 in
theorem Tryz.zok {x:Bool} (w:World):
  Calls prog 21 #[.int .u16 0,.bool x,.bool true] w fun e w'=>e= .returned (.int .u16 (if x then 32896 else 0))∧w'=w:=by
 cases x
 all_goals
  go_enter func21,ntmps21;go_wp2_with fail;go_ret;exact ⟨rfl,rfl⟩
theorem Tryz.znH {N:Nat} {n:Int} {s:DS} {t:Int} {l:List Sg} (h:(za3 N n s t l).1≠0):(za3 N n s t l).2=s:=by
 unfold za3 at h ⊢;split
 ·rfl
 ·split
  ·rfl
  ·split
   ·rfl
   ·split
    ·rfl
    ·split
     ·rfl
     ·rename_i h1 h2 h3 h4 h5;rw [if_neg h1,if_neg h2,if_neg h3,if_neg h4,if_neg h5] at h;simp only at h ⊢;split
      ·rfl
      ·rename_i h6;rw [if_neg h6] at h;exact absurd rfl h
theorem Tryz.zvP {w:World} {b2:Nat} {u:Value} {xs:List Int} (h:OwnR 5 1 w b2 u xs.length (zaf xs)) (hx:xs.length=16): ∃G c,u= .slice (some ⟨G,0,none⟩) 16 c∧16≤c∧(b2≤G∧G<w.heap.size)∧w.rangeAt G 8 (zaf (xs.drop 8)):=by
 obtain ⟨sa,c,e,hr⟩:=OwnR.row h;rcases hr with hr|⟨G,e2,ho,hG⟩
 ·have:=congrArg List.length hr;simp [zaf] at this;rw [this] at hx;cases hx
 ·have hl:=OwnR.lt h G ho;rcases h.2 with ⟨_,h2⟩|⟨G2,c2,cur,e3,h3,h4,h5,h6,h7,h8⟩
  ·omega
  ·rw [e] at e3;cases e3;refine ⟨G,c,by rw [e,e2,hx],by omega,hl,fun i y hy=> ?_⟩;have q2:(zaf xs)[8+i]? =some y→_:=hG (8+i) y;rw [Nat.zero_add] at q2;refine q2 ?_;unfold zaf at hy ⊢;rw [List.map_drop,List.getElem?_drop] at hy;exact hy
structure Tryz.Ho0 (n:Nat) (d:Hd) (av ov:Value) (tk own:Int) (j:Nat) (tm:Array Value):Prop where
 sz:tm.size=314
 t0:tm.getD 0 undef= .int .i64 n
 t2:tm.getD 2 undef=av
 t4:tm.getD 4 undef= .pointer (some ⟨d.X4,0,none⟩)
 t8:tm.getD 8 undef= .pointer (some ⟨d.P,0,none⟩)
 t9:tm.getD 9 undef= .pointer (some ⟨d.S,0,none⟩)
 t10:tm.getD 10 undef= .pointer (some ⟨d.X10,0,none⟩)
 t12:tm.getD 12 undef=ov
 t13:tm.getD 13 undef= .pointer (some ⟨d.X13,0,none⟩)
 t14:tm.getD 14 undef= .pointer (some ⟨d.X14,0,none⟩)
 t15:tm.getD 15 undef= .int .i64 tk
 t16:tm.getD 16 undef= .int .i64 own
 t17:tm.getD 17 undef= .int .i64 j
structure Tryz.HoS (s:DS) (tb:Bool) (tk:Int) (j:Nat):Prop where
 ph:s.ph=0
 br:s.br=false
 tb:s.tb=tb
 di:DI s
 tks: ∀e∈s.L,e.tk<tk
 tk0:0≤tk∧tk≤j
structure Tryz.HoI (W0:World) (n:Nat) (ev tb pk:Bool) (d:Hd) (r:Rg) (av:Value) (j:Nat) (a:Act) (w:World):Prop where
 df:a.defers= []
 ex: ∃(s:DS) (g:Nat→Int) (ov:Value) (tk:Int),Ho0 n d av ov tk s.own j a.tmps∧HoW W0 n ev tb pk d r w s g ov [.int .i64 s.nx,.bool s.nw] [.int .i64 s.sx,.bool s.sw] s.L∧HoS s tb tk j
def Tryz.zn5 (W0:World) (n:Nat) (ev tb pk:Bool) (d:Hd) (r:Rg) (av:Value) (j:Nat):Exit→Act→World→Prop:=fun ex a' w'=>match ex with
 | .normal=>HoI W0 n ev tb pk d r av (j+1) a' w'
 | _=>False
theorem Tryz.HoS.up {s:DS} {tb:Bool} {tk:Int} {j:Nat} (h:HoS s tb tk j):HoS s tb tk (j+1):=⟨h.ph,h.br,h.tb,h.di,h.tks,h.tk0.1,by have:=h.tk0.2;omega⟩
theorem Tryz.znr:(prog.info? 95).map (fun i=>(i.zero,i.size,i.bytes))=some (some (.agg #[.int .i64 0,.int .i64 0,.int .i64 0]),3,24):=by kernel_rfl
theorem Tryz.HoW.out {W0:World} {n:Nat} {ev tb pk:Bool} {d:Hd} {r:Rg} {w:World} {s:DS} {g:Nat→Int} {G cov:Nat} {q13 q14:List Value} {M:List DO} (h:HoW W0 n ev tb pk d r w s g (.slice (some ⟨G,0,none⟩) M.length cov) q13 q14 M):w.rangeAt G 0 (zap M)∧M.length≤cov∧d.X14<G∧G<w.heap.size:=by
 obtain ⟨t,hO⟩:=h.row;have hl:=OwnR.lt hO G rfl;refine ⟨?_,?_,by omega,hl.2⟩
 ·obtain ⟨sa',c',e,hr⟩:=OwnR.row hO;cases e;rcases hr with q|⟨G2,e2,_,q⟩
  ·rw [q];intro j v hv;cases hv
  ·cases e2;exact q
 ·rcases hO.2 with ⟨e,_⟩|⟨g,cap,cur,e,_,_,hh,_⟩
  ·cases e
  ·cases e;exact hh
theorem Tryz.zvi {x:Bool} (w:World):Calls prog 21 #[.int .u16 0,.bool x,.bool true] w fun e w'=>e= .returned (.int .u16 (zcJ x))∧w'=w:=zok w
theorem Tryz.zm3: ∀(n:Nat) (l:List Int),(∀k:Nat,k<n→(k:Int)∈l)→n≤l.length
 | 0,_,_=>Nat.zero_le _
 | n+1,l,h=>by
  have h1:=zm3 n (l.erase (n:Int)) fun k hk=>(List.mem_erase_of_ne (by omega)).2 (h k (by omega));have h2:=List.length_erase_of_mem (h n (Nat.lt_succ_self n));have h3:=List.length_pos_of_mem (h n (Nat.lt_succ_self n));omega
theorem Tryz.zg0: ∀(l:List Sg) (pw:Bool) (q:Int),zax pw q l=0∨zax pw q l=2
 | [], pw,q=>by unfold zax;split<;>simp
 | x::r,pw,q=>by
  unfold zax;split
  ·exact .inr rfl
  ·exact zg0 r _ _
theorem Tryz.zph {N:Nat} {l:List Sg}:zbH N l≠7:=by
 have h:zaU l≠7:=by
  unfold zaU;split
  ·decide
  ·rcases zg0 l false 0 with e|e<;>rw [e]<;>decide
 unfold zbH;split
 ·split<;>decide
 ·exact h
theorem Tryz.zng (s:DS) {l:List Sg} (h:l.length≠0):1≤s.need l:=by
 unfold DS.need;split
 ·decide
 ·omega
theorem Tryz.zsk {N:Nat} {r:Rg} {s:DS} {t:Int} {l:List Sg} (hb:DB r s) (hr:PgOk r) (hs7:zbH N l≠7) (h:(za3 N r.n s t l).1=7):s.own<s.need l:=by
 unfold za3 at h;split at h
 ·cases h
 ·split at h
  ·cases h
  ·split at h
   ·cases h
   ·split at h
    ·exact absurd h hs7
    ·split at h
     ·cases h
     ·rename_i h5;simp only at h;split at h
      ·rename_i h6;rcases h6 with q|q
       ·exact q
       ·have hn:=hr.bnd;obtain ⟨f1,f2,f3,_⟩:=zbz s.L r.n.toNat 0;have hall: ∀k:Nat,k<r.n.toNat→(k:Int)∈s.L.map (·.id):=fun k hk=>by
         obtain ⟨e,he,h2⟩:=zc9.1 (f3 k (Nat.zero_le _) (by omega));exact List.mem_map.2 ⟨e,he,h2⟩
        have h1:=zm3 _ _ hall;rw [List.length_map] at h1;have h2:=zbg fun e he=>(hb.el e he).2.2.1;have h3:=hb.sum;have h4:=zng s h5;omega
      ·cases h
end Go.Proofs
end
