/-
  Proved: laws on the way to 'PdriveHoldsProof' (texts QaI QbE QbA QbB QbC QbD QbF QbG QbH XdK QbI QbJ QbK QbL QbM QbN QbO QbP QbQ QbR QbS QbT QbU QbW QbY VaC VaD RyE VaE VaF VaG VaH VaI VaJ VbA QcA QcB QbV PtH PtI PtJ PtK PtL PtM PtN PuB PvA PvB PuA0 PuA PuC PvC PuD PuE PuF PuG PuH PuI PuI2 PvD PvE QcC QcD PvF PvH PvG PvI PvJ0 PvJ PvK PvL PvM PvN PvO0 PvO PvP PvQ XdK0 PvQ0 PvR1 QcE VbL VdE VdF0 VdD VaK VaL VaM); no condition.
-/
import Derived.Test.YtkemikknnokdhaaGreatM5
import Derived.Deep.CutRange
import Derived.Deep.RegionLaw
import Derived.Deep.QuietTactic
import Derived.BigQuiet
set_option linter.unusedSimpArgs false
set_option linter.unusedVariables false
set_option maxHeartbeats 4000000
noncomputable section
namespace Go.Proofs
open Go.Dw Go.RowKit Go.Maps Go.Sort Go.Deep
theorem Tryz.zf5: ∀(l:List Sg) (i:Nat) (hi:i<l.length),(zan l)[i*3]? =some (.int .u64 l[i].at1)∧(zan l)[i*3+1]? =some (.int .u32 l[i].len)
 | x::r,0,_=>⟨rfl,rfl⟩
 | x::r,i+1,hi=>by
  have h:=zf5 r i (by simp at hi;omega)
  rw [zde,show (i+1)*3=i*3+1+1+1 by omega]
  simpa using h
set_option maxRecDepth 100000 in
theorem Tryz.ztQ {A:Nat→Prop} {w:World} {P L Bs B N:Nat} {g:Nat→Int} {v:Value} {l:List Sg} (st:RMm w P L Bs B N g) (hN:N≤1048576) (h:SegV A w v l) (hl:l.length≤100000):
    Calls prog 74 #[.pointer (some ⟨P,0,none⟩),v] w fun e w'=>e= .returned (.int .i64 (zbH N l))∧Below w.heap.size w w':=by
  have hck:=zmN h
  obtain ⟨sa,c,rfl,hok,hr⟩:=h
  go_enter func74,ntmps74
  go_wp2_with (first
    | (go_at_call 123;refine hck.mono ?_;rintro en w1 ⟨rfl,hb1⟩)
    | go_in)
  go_loopw [5,6] (fun e i w2=>Below w.heap.size w w2∧ ∃(k:Nat) (x:Int),k≤l.length∧i= .int .i64 k∧e= .int .i64 x∧((¬x=0∧x=zbH N l)∨(x=0∧zaU l=0∧ ∀(j:Nat) (hj:j<l.length),j<k→1≤l[j].len∧l[j].at1+l[j].len≤N))) (fun e i _=>if RowKit.intOf e=0 then l.length+1-(RowKit.intOf i).toNat else 0)
  case atStart=>
    refine ⟨hb1,0,zaU l,Nat.zero_le _,rfl,rfl,?_⟩
    by_cases he:zaU l=0
    · exact .inr ⟨he,he,fun j _ hj=>absurd hj (by omega)⟩
    · exact .inl ⟨he,by unfold zbH;rw [if_neg he]⟩
  case round=>
    obtain ⟨hb2,k,x,hk,rfl,rfl,hx⟩:=hrel
    rcases hx with ⟨hx0,hx⟩|⟨rfl,he0,hall⟩
    · have hx':(fun _:Unit=>x)=fun _=>zbH N l:=by rw [hx]
      clear hx
      by_cases hkl:(k:Int)<l.length
      · go_wp2
        go_ret
        exact ⟨by rw [←congrFun hx' ()];rfl,hb2⟩
      · go_wp2
        go_ret
        exact ⟨by rw [←congrFun hx' ()];rfl,hb2⟩
    · by_cases hkl:k<l.length
      · have hkl':(k:Int)<l.length:=by omega
        rcases hr with hr|⟨R,o,rfl,hRA,hr⟩
        · subst hr;simp at hkl
        obtain ⟨d0,d1⟩:=zf5 l k hkl
        have e0:=hr _ _ d0
        have e1:=hr _ _ d1
        have hx1:=hok l[k] (List.getElem_mem hkl)
        have hRl:R<w.heap.size:=World.block_lt_of_cell? w _ e0
        have f0:=(hb2.cell (p:=⟨R,o+k*3,none⟩) hRl).trans e0
        have f1:wr.cell? ⟨R,o+k*3+1,none⟩=some (.int .u32 l[k].len):=(hb2.cell (p:=⟨R,o+(k*3+1),none⟩) hRl).trans e1
        have hRl2:R<wr.heap.size:=World.block_lt_of_cell? wr _ f0
        have hlc:(l.length:Int)≤l.length:=Int.le_refl _
        obtain ⟨q1,q2,q3,q4⟩:=hx1
        have wl:IntKind.wrap .u64 l[k].len=l[k].len:=zaN q3 (by omega)
        have st2:=st.below hb2
        have hhas:=fun w4 (h4:RMm w4 P L Bs B N g)=>zkb P L Bs B N l[k].at1 l[k].len g w4 h4 hN q1 q2 q3 (by omega)
        generalize hat:l[k].at1=a1 at*
        generalize hln:l[k].len=n1 at*
        by_cases hin:1≤n1∧a1+n1≤N
        · rw [decide_eq_true hin] at hhas
          go_wp2_with fail
          go_region_held3 (fun w'=>w'.cell? ⟨R,o+k*3,none⟩=some (.int .u64 a1)∧w'.cell? ⟨R,o+k*3+1,none⟩=some (.int .u32 n1)) (go_keep)
            ((first|(go_at_call 59;refine (hhas wr.drew (st2.kept (w':=wr.drew) (fun _ _ _=>rfl) (Nat.le_refl _))).mono ?_;rintro en w3 ⟨rfl,hb3⟩;have f2:=(hb3.cell (p:=⟨R,o+k*3,none⟩) hRl2).trans f0;have f3:=(hb3.cell (p:=⟨R,o+k*3+1,none⟩) hRl2).trans f1)))
          all_goals go_wp2_with fail
          all_goals
            refine ⟨⟨hb2.drew.trans (hb3.mono hb2.size),k+1,by omega,by push_cast;rfl,fun j hj hlt=> ?_⟩,by simp only [RowKit.intOf];omega⟩
            by_cases hjk:j=k
            · subst hjk
              rw [hat,hln];exact hin
            · exact hall j hj (by omega)
        · rw [decide_eq_false hin] at hhas
          go_wp2_with fail
          go_region_held3 (fun w'=>w'.cell? ⟨R,o+k*3,none⟩=some (.int .u64 a1)∧w'.cell? ⟨R,o+k*3+1,none⟩=some (.int .u32 n1)) (go_keep)
            ((first|(go_at_call 59;refine (hhas wr.drew (st2.kept (w':=wr.drew) (fun _ _ _=>rfl) (Nat.le_refl _))).mono ?_;rintro en w3 ⟨rfl,hb3⟩;have f2:=(hb3.cell (p:=⟨R,o+k*3,none⟩) hRl2).trans f0;have f3:=(hb3.cell (p:=⟨R,o+k*3+1,none⟩) hRl2).trans f1)))
          all_goals go_wp2_with fail
          all_goals
            refine ⟨⟨hb2.drew.trans (hb3.mono hb2.size),k+1,by omega,by push_cast;rfl,?_⟩,by simp only [RowKit.intOf];omega⟩
            unfold zbH
            rw [if_pos he0,if_neg fun h=>hin ?_]
            have:=zcR.1 h l[k] (List.getElem_mem hkl)
            rwa [hat,hln] at this
      · have hkl': ¬(k:Int)<l.length:=by omega
        go_wp2
        go_ret
        refine ⟨?_,hb2⟩
        have hz:zbH N l=0:=by
          unfold zbH
          rw [if_pos he0,if_pos (zcR.2 fun x hx=>by
            obtain ⟨j,hj,rfl⟩:=List.getElem_of_mem hx
            exact hall j hj (by omega))]
        rw [hz]
        rfl
end Go.Proofs
namespace Go.Proofs
open Go.Dw
def Tryz.zm1:List Ent:= []
def Tryz.zpK:List Sh:= []
def Tryz.zm2:List AV:= [.int .u16 (u16v 11),.bool (.var 0)]
def Tryz.ztZ:List (SB×Bool):= []
def Tryz.ztg:List Leaf:= [
 ⟨.bool (.not (.beq (.cmp .neq (.flds [⟨11,0,65535,15,1,15⟩] 0) (.lit 0)) (.var 0))),[],[],0,[]⟩,
 ⟨.bool (.lit false),[],[],0,[]⟩]
def Tryz.ztf:List (List (SB×Bool)×Nat):= [
 ([((.beq (.cmp .neq (.flds [⟨11,0,65535,7,1,7⟩] 0) (.lit 0)) (.var 0)),true)],0),
 ([((.beq (.cmp .neq (.flds [⟨11,0,65535,7,1,7⟩] 0) (.lit 0)) (.var 0)),false)],1)]
theorem Tryz.ztY:(ev prog (zbf zm1) 100000 (.call 45 zm2 (zba 0 zpK) (zb8 ztg 0))).ways ztZ=some ztf:=by kernel_rfl
theorem Tryz.zvn:(zaJ zpK&&zay zm1&&AV.smallL zm2&&zaC ztg)=true:=by kernel_rfl
open Go.RowKit
theorem Tryz.zt0 {f:Int} {b:Bool} (h:0≤f∧f<65536) (w:World):Calls prog 45 #[.int .u16 f,.bool b] w fun e w'=>e= .returned (.bool (zhP f b))∧Below w.heap.size w w':=by
 have e11:(vof [0,0,0,0,0,0,0,0,0,0,0,f] [b] []).i 11=f:=rfl
 have d11:(u16v 11).den (vof [0,0,0,0,0,0,0,0,0,0,0,f] [b] [])=f:=zms h.1 h.2
 have b0:(vof [0,0,0,0,0,0,0,0,0,0,0,f] [b] []).b 0=b:=rfl
 generalize vof [0,0,0,0,0,0,0,0,0,0,0,f] [b] []=ρ at e11 d11 b0
 have q7:=zq8 (s:=7) e11 h
 have q15:=zq8 (s:=15) e11 h
 refine Calls.mono (zbJ (ρ:=ρ) (K:=fun _=>False) (g:=Gho.none) (bl:= []) (vals:= [.int .u16 f,.bool b]) mixed ztY zvn (fun b h=>h.elim) trivial trivial za4 trivial (zav (zaG d11) (zav (zcA b0) RL.nil)) (zaw.2 trivial)) fun e w' hh=> ?_
 obtain ⟨p,hpm,hto,l,hl,j,he⟩:=hh
 have hb:=zaL he (fun _ h=>h)
 have e1:(f/((2^7:Nat):Int)%2*((2^7:Nat):Int) !=0)=decide (f/128%2=1):=by
  have:((2^7:Nat):Int)=128:=rfl
  rw [this]
  by_cases hh:f/128%2=1
  ·rw [hh];rfl
  ·rw [show f/128%2=0 by omega];rfl
 have e2:(f/((2^15:Nat):Int)%2*((2^15:Nat):Int) !=0)=decide (f/32768%2=1):=by
  have:((2^15:Nat):Int)=32768:=rfl
  rw [this]
  by_cases hh:f/32768%2=1
  ·rw [hh];rfl
  ·rw [show f/32768%2=0 by omega];rfl
 unfold ztf at hpm
 simp only [List.mem_cons,List.not_mem_nil,or_false] at hpm
 unfold zhP
 rcases hpm with rfl|rfl
 all_goals
  simp only [zad,zaw,zqQ,zgf,zdB,q7,b0,zal,e1,and_true] at hto
  cases hl
  refine ⟨he.ret.trans ?_,hb⟩
  simp only [AV.val,zqP,zqQ,zgf,zdB,zvC,q15,b0,zal,e2]
  rw [hto]
  simp [bne]
open Go.Maps Go.Sort Go.Deep
section
variable {A:Nat→Prop} {w w':World} {S P L Bs B N b2:Nat} {r:Tryz.Rg} {s s':Tryz.PS} {g g':Nat→Int} {lv:Value}
end
end Go.Proofs
namespace Go.Proofs
open Go.Dw Go.RowKit Go.Maps Go.Sort Go.Deep
theorem Tryz.zaj {K:Nat→Prop} {a w:World} (h:Dw.Mv K a w) (b o:Nat) (v:Value) (hb:K b):Dw.Mv K a (w.setCell ⟨b,o,none⟩ v):=by
 have q:=(Mv.setCell (S:=K) (a:=a) (w:=w) ⟨h.os,h.tape,h.output,h.size,h.block⟩ b o v (.inl hb))
 exact ⟨q.os,q.tape,q.output,q.size,q.block⟩
theorem Tryz.zlQ {w w':World} {G o:Nat} {cs:List Value} {row:Option Nat} (h:w.rangeAt G o cs) (hg:w.grownBy w' row) (hl:G<w.heap.size) (hn:some G≠row):w'.rangeAt G o cs:=zag h (hg.block G hl hn)
theorem Tryz.zoO {w:World} {G:Nat} {cs:List Value} (h:w.rangeAt G 0 cs) (k:Nat): ∀j u,(cs.take k)[j]? =some u→w.cell? ((⟨G,0,none⟩:Addr).add j)=some u:=fun j u hu=>by
 rw [Dw.addr_add]
 rw [List.getElem?_take] at hu
 split at hu
 ·have:=h j u hu
  rwa [Nat.zero_add] at this ⊢
 ·cases hu
theorem Tryz.zai {K:Nat→Prop} {a w:World} (h:Dw.Mv K a w) (b o:Nat) (v:Value) (hb:K b∨a.heap.size≤b):Dw.Mv K a (w.setCell ⟨b,o,none⟩ v):=by
 have q:=(Mv.setCell (S:=K) (a:=a) (w:=w) ⟨h.os,h.tape,h.output,h.size,h.block⟩ b o v hb)
 exact ⟨q.os,q.tape,q.output,q.size,q.block⟩
theorem Tryz.zaa {K:Nat→Prop} {a w:World} (h:Below a.heap.size a w):Dw.Mv K a w:=⟨h.os,h.tape,h.output,h.size,fun b hb _=>h.block b hb⟩
section
variable {A:Nat→Prop} {w w':World} {S P L Bs B N b2:Nat} {r:Tryz.Rg} {s s':Tryz.PS} {g g':Nat→Int} {lv:Value}
end
end Go.Proofs
namespace Go.Proofs
open Go.Dw Go.RowKit Go.Maps Go.Sort Go.Deep
section
variable {A A' K:Nat→Prop} {w w':World} {S P L Bs B N b2:Nat} {r:Tryz.Rg} {s s':Tryz.PS} {g g':Nat→Int} {lv:Value}
theorem Tryz.SegV.setK {A A':Nat→Prop} {w w':World} {v:Value} {l:List Sg} (h:SegV A w v l) (hA: ∀b,b<w.heap.size→A' b→A b) (hk: ∀b,b<w.heap.size→ ¬A b→w'.heap[b]? =w.heap[b]?):SegV A' w' v l:=by
 obtain ⟨sa,c,rfl,hl,hr⟩:=h
 refine ⟨sa,c,rfl,hl,?_⟩
 rcases hr with h0|⟨R,o,rfl,hn,hr⟩
 ·exact .inl h0
 ·by_cases h0:l= []
  ·exact .inl h0
  ·have hR:=zgZ hr h0
   exact .inr ⟨R,o,rfl,fun q=>hn (hA R hR q),zag hr (hk R hR hn)⟩
end
end Go.Proofs
namespace Go.Proofs
open Go.Dw Go.RowKit Go.Maps Go.Sort Go.Deep
def Tryz.DS.row (s:DS) (r:Rg) (P I:Nat) (stv nowv sgv puv:Value):List Value:=
 [.pointer (some ⟨P,0,none⟩),.bool true,.int .i64 r.n,.int .u64 r.d,.int .u64 r.v,.int .u64 r.c,.bool s.ev,.bool s.tb,.bool true,.int .u64 20000,.int .i64 s.nx,.bool s.nw,.int .i64 s.sx,.bool s.sw,.int .i64 s.own,
  .slice (some ⟨I,0,none⟩) r.n.toNat r.n.toNat,stv,nowv,sgv,puv,.int .i64 s.op,.bool s.nn,.int .i64 s.tok,.int .u32 s.wr,.bool s.kk,.bool s.dn,.bool s.br]
def Tryz.dFns (ph:Nat):List Nat:=
 match ph with
 | 1=> [70,71,72,71,73]
 | 2=> [71,72,71,73]
 | 3=> [72,71,73]
 | 4=> [71,73]
 | 5=> [73]
 | 11=> [79]
 | 12=> [127,71,128]
 | 13=> [71,128]
 | 14=> [128]
 | 15=> [71,126]
 | 16=> [126]
 | _=> []
def Tryz.zvD (S fn:Nat):Value:= .func (.func fn) #[.pointer (some ⟨S,0,none⟩)] #[]
def Tryz.StepV (A:Nat→Prop) (w:World) (S:Nat) (v:Value) (l:List Nat):Prop:= ∃sa c,v= .slice sa l.length c∧l.length≤c∧(l= []∨ ∃R o,sa=some ⟨R,o,none⟩∧ ¬A R∧w.rangeAt R o (l.map (zvD S)))
def Tryz.PutV (A:Nat→Prop) (w:World) (v:Value) (l:List Pt):Prop:= ∃sa c,v= .slice sa l.length c∧(l= []∨ ∃R o,sa=some ⟨R,o,none⟩∧ ¬A R∧w.rangeAt R o (zaQ l))
def Tryz.NowV (A:Nat→Prop) (w:World) (v:Value) (e:DO):Prop:= ∃O,v= .pointer (some ⟨O,0,none⟩)∧ ¬A O∧w.rangeAt O 0 e.cells
def Tryz.IdsW (A:Nat→Prop) (w:World) (I n:Nat) (L:List DO):Prop:= ∃vs,Cl w I vs∧vs.length=n∧ ∀(k:Nat) (h:k<vs.length),(zdC L k=false→vs[k]= .pointer none)∧ ∀e,zby L k=some e→NowV A w vs[k] e
structure Tryz.DWf (fns:List Nat) (nw:Prop) (A:Nat→Prop) (w:World) (S P L Bs B I N:Nat) (r:Rg) (s:DS) (g:Nat→Int):Prop where
 obj: ∃stv nowv sgv puv,Cl w S (s.row r P I stv nowv sgv puv)∧StepV A w S stv fns∧nowv.oneCell'=true∧(nw→NowV A w nowv s.c)∧SegV A w sgv s.sg∧PutV A w puv s.pu
 ids:IdsW A w I r.n.toNat s.L
 mem:GM w P L Bs B N g
 ne:S≠I
 aS:A S
 aI:A I
 aB:A B
 lt: ∀b,A b→b<w.heap.size
 rg:PgOk r
 hN:N≤1048576
 fit:40000≤N
 sd:S≠P∧S≠L∧S≠Bs∧S≠B
 md:I≠P∧I≠L∧I≠Bs∧I≠B
structure Tryz.DW (A:Nat→Prop) (w:World) (S P L Bs B I N:Nat) (r:Rg) (s:DS) (g:Nat→Int):Prop where
 f:DWf (dFns s.ph) (1≤s.ph∧s.ph≤5) A w S P L Bs B I N r s g
 pb:DB r s
section
variable {fns fns':List Nat} {nw nw':Prop} {A A':Nat→Prop} {w w':World} {S P L Bs B I N:Nat} {r:Tryz.Rg} {s s':Tryz.DS} {g g':Nat→Int}
theorem Tryz.zaP {R o:Nat} {cs:List Value} (h:w.rangeAt R o cs) (h0:cs≠ []):R<w.heap.size:=by
 match cs,h0 with
 | c::_,_=>exact World.block_lt_of_cell? w _ (h 0 c rfl)
theorem Tryz.StepV.setK {v:Value} {l:List Nat} (h:StepV A w S v l) (hA: ∀b,b<w.heap.size→A' b→A b) (hk: ∀b,b<w.heap.size→ ¬A b→w'.heap[b]? =w.heap[b]?):StepV A' w' S v l:=by
 obtain ⟨sa,c,e,h0,h⟩:=h
 refine ⟨sa,c,e,h0,?_⟩
 rcases h with h|⟨R,o,e1,h1,h2⟩
 ·exact .inl h
 ·by_cases hl:l= []
  ·exact .inl hl
  ·have hR:=zaP h2 (by simpa using hl)
   exact .inr ⟨R,o,e1,fun q=>h1 (hA R hR q),zag h2 (hk R hR h1)⟩
theorem Tryz.zed {l:List Pt} (h:l≠ []):zaQ l≠ []:=by
 match l,h with
 | p::r,_=>simp [zaQ,Pt.cells]
theorem Tryz.PutV.setK {v:Value} {l:List Pt} (h:PutV A w v l) (hA: ∀b,b<w.heap.size→A' b→A b) (hk: ∀b,b<w.heap.size→ ¬A b→w'.heap[b]? =w.heap[b]?):PutV A' w' v l:=by
 obtain ⟨sa,c,e,h⟩:=h
 refine ⟨sa,c,e,?_⟩
 rcases h with h|⟨R,o,e1,h1,h2⟩
 ·exact .inl h
 ·by_cases hl:l= []
  ·exact .inl hl
  ·have hR:=zaP h2 (zed hl)
   exact .inr ⟨R,o,e1,fun q=>h1 (hA R hR q),zag h2 (hk R hR h1)⟩
theorem Tryz.NowV.setK {v:Value} {e:DO} (h:NowV A w v e) (hA: ∀b,b<w.heap.size→A' b→A b) (hk: ∀b,b<w.heap.size→ ¬A b→w'.heap[b]? =w.heap[b]?):NowV A' w' v e:=by
 obtain ⟨O,e1,h1,h2⟩:=h
 have hO:=zaP h2 (by simp [DO.cells])
 exact ⟨O,e1,fun q=>h1 (hA O hO q),zag h2 (hk O hO h1)⟩
theorem Tryz.IdsW.setK {n:Nat} {l:List DO} (h:IdsW A w I n l) (hI:w'.heap[I]? =w.heap[I]?) (hA: ∀b,b<w.heap.size→A' b→A b) (hk: ∀b,b<w.heap.size→ ¬A b→w'.heap[b]? =w.heap[b]?):IdsW A' w' I n l:=by
 obtain ⟨vs,h1,h2,h3⟩:=h
 exact ⟨vs,h1.kept hI,h2,fun k hk'=>⟨(h3 k hk').1,fun e he=>((h3 k hk').2 e he).setK hA hk⟩⟩
theorem Tryz.DWf.keepA (h:DWf fns nw A w S P L Bs B I N r s g) (hA: ∀b,b<w.heap.size→A' b→A b) (aS:A' S) (aI:A' I) (aB:A' B) (hl: ∀b,A' b→b<w'.heap.size) (hk: ∀b,b<w.heap.size→(¬A b∨b=S∨b=I∨b=P∨b=L∨b=Bs∨b=B)→w'.heap[b]? =w.heap[b]?) (hs:w.heap.size≤w'.heap.size):DWf fns nw A' w' S P L Bs B I N r s g:=by
 obtain ⟨stv,nowv,sgv,puv,h1,h2,h3,h4,h5,h6⟩:=h.obj
 have hkk: ∀b,b<w.heap.size→ ¬A b→w'.heap[b]? =w.heap[b]? :=fun b hb hn=>hk b hb (.inl hn)
 exact ⟨⟨stv,nowv,sgv,puv,h1.kept (hk S h1.lt (.inr (.inl rfl))),h2.setK hA hkk,h3,fun q=>(h4 q).setK hA hkk,h5.setK hA hkk,h6.setK hA hkk⟩,h.ids.setK (hk I (h.lt I h.aI) (.inr (.inr (.inl rfl)))) hA hkk,
  h.mem.kept (fun k hk' hq=>hk k hk' (by rcases hq with q|q|q|q<;>simp [q])) hs,h.ne,aS,aI,aB,hl,h.rg,h.hN,h.fit,h.sd,h.md⟩
theorem Tryz.DWf.below (h:DWf fns nw A w S P L Bs B I N r s g) (hb:Below w.heap.size w w'):DWf fns nw A w' S P L Bs B I N r s g:=
 h.keepA (fun b _ q=>q) h.aS h.aI h.aB (fun b q=>Nat.lt_of_lt_of_le (h.lt b q) hb.size) (fun b hb' _=>hb.block b hb') hb.size
theorem Tryz.DW.below (h:DW A w S P L Bs B I N r s g) (hb:Below w.heap.size w w'):DW A w' S P L Bs B I N r s g:=⟨h.f.below hb,h.pb⟩
def Tryz.dK (S I B b:Nat):Prop:=b=S∨b=I∨b=B
theorem Tryz.DWf.setSB (h:DWf fns nw A w S P L Bs B I N r s g) (hm:Dw.Mv (fun b=>b=S∨b=B) w w') (hg:GM w' P L Bs B N g') (ho: ∃stv nowv sgv puv,Cl w' S (s'.row r P I stv nowv sgv puv)∧StepV A w' S stv fns'∧nowv.oneCell'=true∧(nw'→NowV A w' nowv s'.c)∧SegV A w' sgv s'.sg∧PutV A w' puv s'.pu) (hL:s'.L=s.L):DWf fns' nw' A w' S P L Bs B I N r s' g':=by
 have hb: ∀b,b<w.heap.size→b≠S→b≠B→w'.heap[b]? =w.heap[b]? :=fun b hb h1 h2=>hm.block b hb fun e=>e.elim h1 h2
 exact ⟨ho,hL▸h.ids.setK (hb I (h.lt I h.aI) h.ne.symm h.md.2.2.2) (fun b _ q=>q) (fun b hb' hn=>hb b hb' (fun e=>hn (e▸h.aS)) fun e=>hn (e▸h.aB)),hg,h.ne,h.aS,h.aI,h.aB,fun b q=>Nat.lt_of_lt_of_le (h.lt b q) hm.size,h.rg,h.hN,h.fit,h.sd,h.md⟩
theorem Tryz.DWf.gmS (h:DWf fns nw A w S P L Bs B I N r s g) (hm:Dw.Mv (· =S) w w'):GM w' P L Bs B N g:=
 h.mem.kept (fun k hk' hq=>hm.block k hk' (by have:=h.sd;show¬k=S;rcases hq with q|q|q|q<;>(rw [q];simp [this.1.symm,this.2.1.symm,this.2.2.1.symm,this.2.2.2.symm]))) hm.size
theorem Tryz.DWf.ptr (h:DWf fns nw A w S P L Bs B I N r s g) (hk: ∀b,b<w.heap.size→ ¬A b→w'.heap[b]? =w.heap[b]?): ∃stv nowv sgv puv,Cl w S (s.row r P I stv nowv sgv puv)∧StepV A w' S stv fns∧nowv.oneCell'=true∧(nw→NowV A w' nowv s.c)∧SegV A w' sgv s.sg∧PutV A w' puv s.pu:=by
 obtain ⟨stv,nowv,sgv,puv,h1,h2,h3,h4,h5,h6⟩:=h.obj
 exact ⟨stv,nowv,sgv,puv,h1,h2.setK (fun _ _ q=>q) hk,h3,fun q=>(h4 q).setK (fun _ _ q=>q) hk,h5.setK (fun _ _ q=>q) hk,h6.setK (fun _ _ q=>q) hk⟩
end
end Go.Proofs
namespace Go.Proofs
open Go.Dw Go.RowKit Go.Maps Go.Sort Go.Deep
theorem Tryz.zqR {ph:Nat} (h:ph≤5∨(11≤ph∧ph≤16)):(dFns ph).length=0↔ph=0:=by
 have:ph=0∨ph=1∨ph=2∨ph=3∨ph=4∨ph=5∨ph=11∨ph=12∨ph=13∨ph=14∨ph=15∨ph=16:=by omega
 rcases this with rfl|rfl|rfl|rfl|rfl|rfl|rfl|rfl|rfl|rfl|rfl|rfl<;>simp [dFns]
section
variable {A:Nat→Prop} {w:World} {S P L Bs B I N:Nat} {r:Tryz.Rg} {s:Tryz.DS} {g:Nat→Int}
set_option maxRecDepth 100000 in
theorem Tryz.zfd {fns:List Nat} {nw:Prop} (h:DWf fns nw A w S P L Bs B I N r s g):Calls prog 89 #[.pointer (some ⟨S,0,none⟩)] w fun e w'=>e= .returned (.bool true)∧w'=w:=by
 obtain ⟨stv,nowv,sgv,puv,h1,_⟩:=h.obj
 have c15:=h1.cell 15 _ rfl
 go_enter func89,ntmps89
 go_wp2_with fail
 go_ret
 exact ⟨rfl,rfl⟩
set_option maxRecDepth 100000 in
theorem Tryz.zdy (h:DW A w S P L Bs B I N r s g):Calls prog 33 #[.pointer (some ⟨S,0,none⟩)] w fun e w'=>e= .returned (.bool (decide (s.ph≠0)))∧w'=w:=by
  have hm:=zfd h.f
  have hz:=zqR h.pb.ph
  obtain ⟨stv,nowv,sgv,puv,h1,⟨sa,c,rfl,_⟩,_⟩:=h.f.obj
  have c16:=h1.cell 16 _ rfl
  have hd:decide (s.ph≠0)=decide (0<(dFns s.ph).length):=decide_eq_decide.2 (by omega)
  rw [hd]
  generalize (dFns s.ph).length=n at c16
  clear hd hz
  go_enter func33,ntmps33
  go_wp2_with (first
    | (go_at_call 89;refine hm.mono ?_;rintro e w' ⟨rfl,hw⟩;have hw:=hw.symm;subst hw)
    | go_in)
  go_ret
  exact ⟨rfl,rfl⟩
set_option maxRecDepth 100000 in
theorem Tryz.zhz (h:DW A w S P L Bs B I N r s g):Calls prog 34 #[.pointer (some ⟨S,0,none⟩)] w fun e w'=>e= .returned (.int .i64 (if s.br then 4 else 0))∧w'=w:=by
  have hm:=zfd h.f
  obtain ⟨stv,nowv,sgv,puv,h1,_⟩:=h.f.obj
  have c26:=h1.cell 26 _ rfl
  cases hb:s.br
  all_goals
    rw [hb] at c26
    go_enter func34,ntmps34
    go_wp2_with (first
      | (go_at_call 89;refine hm.mono ?_;rintro e w' ⟨rfl,hw⟩;have hw:=hw.symm;subst hw)
      | go_in)
    go_ret
    exact ⟨rfl,rfl⟩
def Tryz.DS.rdy (s:DS):Int:=if s.br then 4 else if s.ph≠0 then 8 else 0
set_option maxRecDepth 100000 in
theorem Tryz.ze5 (h:DW A w S P L Bs B I N r s g):Calls prog 61 #[.pointer (some ⟨S,0,none⟩)] w fun e w'=>e= .returned (.int .i64 s.rdy)∧w'=w:=by
  have he:=zhz h
  have hz:=zdy h
  unfold DS.rdy
  cases hb:s.br<;>rw [hb] at he
  · by_cases hp:s.ph=0
    all_goals
      first|rw [decide_eq_false (by simpa using hp)] at hz|rw [decide_eq_true hp] at hz
      go_enter func61,ntmps61
      go_wp2_with (first
        | (go_at_call 34;refine he.mono ?_;rintro e w' ⟨rfl,hw⟩;have hw:=hw.symm;subst hw)
        | (go_at_call 33;refine hz.mono ?_;rintro e w' ⟨rfl,hw⟩;have hw:=hw.symm;subst hw)
        | go_in)
      go_ret
      first|exact ⟨by simp [hp],rfl⟩|exact ⟨rfl,rfl⟩
  · go_enter func61,ntmps61
    go_wp2_with (first
      | (go_at_call 34;refine he.mono ?_;rintro e w' ⟨rfl,hw⟩;have hw:=hw.symm;subst hw)
      | go_in)
    go_ret
    exact ⟨rfl,rfl⟩
set_option maxRecDepth 100000 in
theorem Tryz.zgT (h:DW A w S P L Bs B I N r s g):Calls prog 32 #[.pointer (some ⟨S,0,none⟩)] w fun e w'=>e= .returned (.int .i64 s.own)∧w'=w:=by
  have hm:=zfd h.f
  obtain ⟨stv,nowv,sgv,puv,h1,_⟩:=h.f.obj
  have c14:=h1.cell 14 _ rfl
  go_enter func32,ntmps32
  go_wp2_with (first
    | (go_at_call 89;refine hm.mono ?_;rintro e w' ⟨rfl,hw⟩;have hw:=hw.symm;subst hw)
    | go_in)
  go_ret
  exact ⟨rfl,rfl⟩
set_option maxRecDepth 100000 in
theorem Tryz.zep (S:Nat) (w:World):Calls prog 71 #[.pointer (some ⟨S,0,none⟩)] w fun e w'=>e= .returned (.tuple #[.agg #[.int .i64 4,.int .i64 0,.int .i64 0],.bool true])∧Below w.heap.size w w':=by
 have hbx:=(Below.refl w.heap.size w).alloc (Nat.le_refl _) (Obj.cells #[.int .i64 4,.int .i64 0,.int .i64 0] 54)
 have k2:=Cl.new w #[.int .i64 4,.int .i64 0,.int .i64 0] 54
 go_enter func71,ntmps71
 go_wp2_with fail
 refine bodyPost_ret (zaB rfl _ _ w.heap.size [.int .i64 4,.int .i64 0,.int .i64 0] _ rfl (fun j y hy=>by rw [Nat.zero_add];exact k2.cell j y hy) underlying54 rfl (by kernel_rfl)) rfl ?_
 exact ⟨rfl,hbx⟩
end
end Go.Proofs
namespace Go.Proofs
open Go.Dw Go.RowKit Go.Maps Go.Sort Go.Deep
theorem Tryz.zn0 (F:Int) (k:Nat) (hk:k≤15) (h0:0≤F) (h1:F<65536):bits .and .u16 F ((2^k:Nat):Int)=F/((2^k:Nat):Int)%2*((2^k:Nat):Int):=by
 obtain ⟨x,rfl⟩:=Int.eq_ofNat_of_zero_le h0
 have hx:x<2^16:=by omega
 have hp:2^k<2^16:=Nat.pow_lt_pow_right (by decide) (by omega)
 unfold bits
 simp only [BitVec.toNat_and]
 have ex:(BitVec.ofInt IntKind.u16.bits (x:Int)).toNat=x:=by
  rw [BitVec.ofInt_natCast,BitVec.toNat_ofNat]
  exact Nat.mod_eq_of_lt hx
 have ey:(BitVec.ofInt IntKind.u16.bits ((2^k:Nat):Int)).toNat=2^k:=by
  rw [BitVec.ofInt_natCast,BitVec.toNat_ofNat]
  exact Nat.mod_eq_of_lt hp
 have e0:x&&&2^k=x/2^k%2*2^k:=by
  have e1:x&&&2^k=if x.testBit k then 2^k else 0:=by
   apply Nat.eq_of_testBit_eq
   intro i
   rw [Nat.testBit_and,Nat.testBit_two_pow]
   by_cases hi:k=i
   ·subst hi
    cases x.testBit k<;>simp [Nat.testBit_two_pow]
   ·cases x.testBit k<;>simp [Nat.testBit_two_pow,hi]
  rw [e1,Nat.testBit_eq_decide_div_mod_eq]
  have:x/2^k%2=0∨x/2^k%2=1:=by omega
  rcases this with h|h<;>simp [h]
 rw [ex,ey,e0]
 have hb:x/2^k%2*2^k≤2^k:=by
  have:x/2^k%2≤1:=by omega
  calc _≤1*2^k:=Nat.mul_le_mul_right _ this
   _=_:=Nat.one_mul _
 have hc:(x:Int)/((2^k:Nat):Int)%2*((2^k:Nat):Int)=((x/2^k%2*2^k:Nat):Int):=by rw [Int.natCast_mul,Int.natCast_emod,Int.natCast_ediv];rfl
 rw [hc]
 generalize x/2^k%2*2^k=y at hb ⊢
 exact zdF (by omega) (by omega)
theorem Tryz.zpx {fn:Func} {p:Tmp} {ty:TypeId} (h:fn.results= #[.cell p ty]) (tmps:Array Value) (w:World) (b:Nat) (cs:List Value) (d:TypeDesc)
  (hp:tmps.getD p undef= .pointer (some ⟨b,0,none⟩)) (hg:w.rangeAt b 0 cs) (hu:prog.underlying ty=some d) (hd:d.isRow=true) (hi:(prog.info? ty).map (·.size)=some cs.length):
  (results fn tmps).run prog w= .ok (.agg cs.toArray) w:=by
 have hp':tmps[p]?.getD undef= .pointer (some ⟨b,0,none⟩):=by simpa using hp
 simp [results,h,hp',asAddr,run_loadVar_mid w b 0 ty cs d hg hu hd hi]
theorem Tryz.zbu {w w':World} (h:Dw.Mv (fun _=>False) w w'):Below w.heap.size w w':=⟨h.os,h.tape,h.output,h.size,fun b hb=>h.block b hb id⟩
set_option maxRecDepth 100000 in
theorem Tryz.zrs {f:Int} {b:Bool} (h:0≤f∧f<65536) (w:World):Calls prog 156 #[.int .u16 f,.bool b] w fun e w'=>e= .returned (.bool (zob f b))∧w'=w:=by
 have b7:bits .and .u16 f 128=f/128%2*128:=by have:=zn0 f 7 (by decide) h.1 h.2;simpa using this
 have b15:bits .and .u16 f 32768=f/32768%2*32768:=by have:=zn0 f 15 (by decide) h.1 h.2;simpa using this
 unfold zob
 have hx:f/128%2=0∨f/128%2=1:=by omega
 have hy:f/32768%2=0∨f/32768%2=1:=by omega
 clear h
 rcases hx with hx|hx<;>rcases hy with hy|hy<;>cases b
 all_goals
  rw [hx] at b7
  rw [hy] at b15
  simp only [hx,hy]
  clear hx hy
  go_enter func156,ntmps156
  go_wp2
  go_ret
  exact ⟨rfl,rfl⟩
theorem Tryz.zvO {f:Int} (h:0≤f∧f<65536):bits .or .u64 f 131072=f+131072:=by
 obtain ⟨x,rfl⟩:=Int.eq_ofNat_of_zero_le h.1
 have hx:x<2^17:=by omega
 unfold bits
 simp only [BitVec.toNat_or]
 have ex:(BitVec.ofInt IntKind.u64.bits (x:Int)).toNat=x:=by
  rw [BitVec.ofInt_natCast,BitVec.toNat_ofNat]
  exact Nat.mod_eq_of_lt (Nat.lt_trans hx (by decide))
 have ey:(BitVec.ofInt IntKind.u64.bits (131072:Int)).toNat=131072:=by decide
 have e0:x|||131072=x+131072:=by
  have:=Nat.two_pow_add_eq_or_of_lt hx 1
  rw [Nat.or_comm,show (131072:Nat)=2^17*1 from rfl,←this]
  omega
 rw [ex,ey,e0]
 exact zaN (by omega) (by omega)
set_option maxRecDepth 100000 in
theorem Tryz.zuA {f:Int} (h:0≤f∧f<65536) (w:World):Calls prog 157 #[.agg #[.int .u16 f,.int .u16 2]] w fun e w'=>e= .returned (.int .u64 (f+131072))∧Below w.heap.size w w':=by
 have ho:=zvO h
 have e1:IntKind.wrap .u64 f=f:=wrap_u64 _ (by omega) (by omega)
 have hb:=(Below.refl w.heap.size w).alloc (Nat.le_refl _) (Obj.cells #[.int .u16 f,.int .u16 2] 192)
 clear h
 go_enter func157,ntmps157
 go_wp2
 go_ret
 exact ⟨rfl,hb⟩
set_option maxRecDepth 100000 in
theorem Tryz.ztT {f:Int} (h:0≤f∧f<4294967296) (w:World):Calls prog 120 #[.int .u64 f] w fun e w'=>e= .returned (.agg #[.int .u16 (f%65536),.int .u16 (f/65536)])∧Below w.heap.size w w':=by
 have e1:IntKind.wrap .u16 f=f%65536:=by unfold IntKind.wrap;simp [IntKind.signed,IntKind.bits]
 have e2:IntKind.wrap .u16 (f/65536)=f/65536:=zdF (by omega) (by omega)
 have e3:f/65536%65536=f/65536:=Int.emod_eq_of_lt (by omega) (by omega)
 have hb:=(Below.refl w.heap.size w).alloc (Nat.le_refl _) (Obj.cells #[.int .u16 (f%65536),.int .u16 (f/65536)] 192)
 have k2:=Cl.new w #[.int .u16 (f%65536),.int .u16 (f/65536)] 192
 go_enter func120,ntmps120
 go_wp2
 refine bodyPost_ret (zpx rfl _ _ w.heap.size [.int .u16 (f%65536),.int .u16 (f/65536)] _ rfl (fun j y hy=>by rw [Nat.zero_add];exact k2.cell j y hy) underlying192 rfl (by kernel_rfl)) rfl ?_
 exact ⟨rfl,hb⟩
set_option maxRecDepth 100000 in
theorem Tryz.zit {n:Int} (hn:1≤n∧n≤32768) (w:World):Calls prog 152 #[.int .i64 n] w fun e w'=>e= .returned (.bool true)∧w'=w:=by
 obtain ⟨h1,h2⟩:=hn
 go_enter func152,ntmps152
 go_wp2
 go_ret
 exact ⟨by simp [h1,h2],rfl⟩
set_option maxRecDepth 100000 in
theorem Tryz.zmt {n a:Int} {x:Bool} (hn:1≤n∧n≤32768) (ha:0≤a) (w:World):Calls prog 109 #[posV a x,.int .i64 n] w fun e w'=>e= .returned (.int .i64 (if a<n then 0 else 2))∧Below w.heap.size w w':=by
  have hs:=fun w'=>zit hn w'
  have hb:=(Below.refl w.heap.size w).alloc (Nat.le_refl _) (Obj.cells #[.int .i64 a,.bool x] 64)
  have h0: ¬a<0:=by omega
  clear hn
  unfold posV
  by_cases h:a<n
  · have h': ¬n≤a:=by omega
    go_enter func109,ntmps109
    go_wp2_with (first
      | (go_at_call 152;refine (hs _).mono ?_;rintro e w' ⟨rfl,hw⟩;have hw:=hw.symm;subst hw)
      | go_in)
    go_ret
    exact ⟨by simp [h],hb⟩
  · have h':n≤a:=by omega
    go_enter func109,ntmps109
    go_wp2_with (first
      | (go_at_call 152;refine (hs _).mono ?_;rintro e w' ⟨rfl,hw⟩;have hw:=hw.symm;subst hw)
      | go_in)
    go_ret
    exact ⟨by simp [h],hb⟩
theorem Tryz.zvH {f:Int} (h:0≤f∧f<65536):bits .and .u16 f 32767=f%32768:=by
 obtain ⟨x,rfl⟩:=Int.eq_ofNat_of_zero_le h.1
 have hx:x<2^16:=by omega
 unfold bits
 simp only [BitVec.toNat_and]
 have ex:(BitVec.ofInt IntKind.u16.bits (x:Int)).toNat=x:=by
  rw [BitVec.ofInt_natCast,BitVec.toNat_ofNat]
  exact Nat.mod_eq_of_lt hx
 have ey:(BitVec.ofInt IntKind.u16.bits (32767:Int)).toNat=32767:=by decide
 have e0:x&&&32767=x%32768:=Nat.and_two_pow_sub_one_eq_mod x 15
 rw [ex,ey,e0]
 exact zdF (by omega) (by omega)
set_option maxRecDepth 100000 in
theorem Tryz.ztB {f n:Int} (h:0≤f∧f<65536) (hn:1≤n∧n≤32768) (w:World):Calls prog 121 #[.int .u16 f,.int .i64 n] w fun e w'=>e= .returned (.tuple #[if f%32768<n then posV (f%32768) (decide (f/32768%2=1)) else posV 0 false,.int .i64 (if f%32768<n then 0 else 4)])∧Below w.heap.size w w':=by
  have hs:=fun w'=>zit hn w'
  have ha:=zvH h
  have hc:=fun x w'=>zmt (n:=n) (a:=f%32768) (x:=x) hn (by omega) w'
  unfold posV at hc ⊢
  have e1:f/32768%65536=f/32768:=Int.emod_eq_of_lt (by omega) (by omega)
  have e2:decide (f/32768%2=1)=decide (f/32768=1):=decide_eq_decide.2 ⟨fun q=>by omega,fun q=>by omega⟩
  have e3:IntKind.wrap .i64 (f%32768)=f%32768:=zaT (by omega) (by omega)
  rw [e2]
  obtain ⟨y,hy⟩: ∃y,y=f%32768:=⟨_,rfl⟩
  rw [←hy] at ha hc e3 ⊢
  clear e2 hn hy
  have hd:(f/32768==1)=decide (f/32768=1):=rfl
  generalize decide (f/32768=1)=b at hd ⊢
  have hbx:=(Below.refl w.heap.size w).alloc (Nat.le_refl _) (Obj.cells #[.int .i64 0,.bool false] 64)
  by_cases hyn:y<n
  · simp only [hyn,if_true] at hc ⊢
    go_enter func121,ntmps121
    go_wp2_with (first
      | (go_at_call 152;refine (hs _).mono ?_;rintro e w' ⟨rfl,hw⟩;have hw:=hw.symm;subst hw)
      | (go_at_call 109;refine (hc b _).mono ?_;rintro e w2 ⟨rfl,hb2⟩
         have ka:=((Cl.new w _ _).alloc _).below hb2 (by simp<;>omega)
         have kb:=(Cl.new (w.alloc _) _ _).below hb2 (by simp<;>omega)
         rw [zas] at kb
         have x0:=ka.cell 0 _ rfl;have x1:=ka.cell 1 _ rfl;have y0:=kb.cell 0 _ rfl;have y1:=kb.cell 1 _ rfl;have f0:=ka.free 0;have f1:=ka.free 1)
      | go_in)
    have hbw:Below w.heap.size w w2:=(hbx.alloc hbx.size _).trans (hb2.mono (by simp<;>omega))
    have kA:=(ka.set 0 (.int .i64 y) (by simp)).set 1 (.bool b) (by simp)
    have hm:=zbu (zai (zai (zaa (K:=fun _=>False) hbw) w.heap.size 0 (.int .i64 y) (.inr (Nat.le_refl _))) w.heap.size 1 (.bool b) (.inr (Nat.le_refl _)))
    refine bodyPost_ret (zaB rfl _ _ w.heap.size [.int .i64 y,.bool b] _ rfl (fun j y hy=>by rw [Nat.zero_add];exact kA.cell j y hy) underlying64 rfl (by kernel_rfl)) rfl ?_
    exact ⟨rfl,hm⟩
  · simp only [hyn,if_false] at hc ⊢
    go_enter func121,ntmps121
    go_wp2_with (first
      | (go_at_call 152;refine (hs _).mono ?_;rintro e w' ⟨rfl,hw⟩;have hw:=hw.symm;subst hw)
      | (go_at_call 109;refine (hc b _).mono ?_;rintro e w2 ⟨rfl,hb2⟩
         have ka:=((Cl.new w _ _).alloc _).below hb2 (by simp<;>omega)
         have x0:=ka.cell 0 _ rfl;have x1:=ka.cell 1 _ rfl;have f0:=ka.free 0;have f1:=ka.free 1)
      | go_in)
    have hbw:Below w.heap.size w w2:=(hbx.alloc hbx.size _).trans (hb2.mono (by simp<;>omega))
    have kA:=(ka.set 0 (.int .i64 0) (by simp)).set 1 (.bool false) (by simp)
    have hm:=zbu (zai (zai (zaa (K:=fun _=>False) hbw) w.heap.size 0 (.int .i64 0) (.inr (Nat.le_refl _))) w.heap.size 1 (.bool false) (.inr (Nat.le_refl _)))
    refine bodyPost_ret (zaB rfl _ _ w.heap.size [.int .i64 0,.bool false] _ rfl (fun j y hy=>by rw [Nat.zero_add];exact kA.cell j y hy) underlying64 rfl (by kernel_rfl)) rfl ?_
    exact ⟨rfl,hm⟩
theorem Tryz.zvk {fn:Func} {t p:Tmp} {ty:TypeId} (h:fn.results= #[.tmp t,.cell p ty]) (tmps:Array Value) (w:World) (b:Nat) (cs:List Value) (d:TypeDesc)
  (hp:tmps.getD p undef= .pointer (some ⟨b,0,none⟩)) (hg:w.rangeAt b 0 cs) (hu:prog.underlying ty=some d) (hd:d.isRow=true) (hi:(prog.info? ty).map (·.size)=some cs.length):
  (results fn tmps).run prog w= .ok (.tuple #[tmps.getD t undef,.agg cs.toArray]) w:=by
 have hp':tmps[p]?.getD undef= .pointer (some ⟨b,0,none⟩):=by simpa using hp
 simp [results,h,hp',asAddr,run_loadVar_mid w b 0 ty cs d hg hu hd hi]
section
variable {fns:List Nat} {nw:Prop} {A:Nat→Prop} {w:World} {S P L Bs B I N:Nat} {r:Tryz.Rg} {s:Tryz.DS} {g:Nat→Int}
set_option maxRecDepth 100000 in
theorem Tryz.zsI (h:DW A w S P L Bs B I N r s g):Calls prog 27 #[.pointer (some ⟨S,0,none⟩)] w fun e w'=>e= .returned (.tuple #[s.out,.bool s.has])∧Below w.heap.size w w':=by
  have hbx:=(Below.refl w.heap.size w).alloc (Nat.le_refl _) (Obj.cells #[.int .i64 0,.bool false,.int .i64 0,.int .u32 0,.bool false] 67)
  have k2:=Cl.new w #[.int .i64 0,.bool false,.int .i64 0,.int .u32 0,.bool false] 67
  have hm:=zfd (h.f.below hbx)
  have hbz:=zdy (h.below hbx)
  obtain ⟨stv,nowv,sgv,puv,h1,_⟩:=h.f.obj
  have kS:=h1.below hbx h1.lt
  have c25:=kS.cell 25 _ rfl
  by_cases hdn:s.ph=0∧s.dn=true
  · have e1:s.out= .agg #[.int .i64 s.op,.bool s.nn,.int .i64 s.tok,.int .u32 s.wr,.bool s.kk]:=if_pos hdn
    have e2:s.has=true:=by unfold DS.has;rw [hdn.1,hdn.2];rfl
    rw [e1,e2]
    rw [hdn.2] at c25
    rw [hdn.1] at hbz
    have c20:=kS.cell 20 _ rfl;have c21:=kS.cell 21 _ rfl;have c22:=kS.cell 22 _ rfl;have c23:=kS.cell 23 _ rfl;have c24:=kS.cell 24 _ rfl
    have f0:=k2.free 0;have f1:=k2.free 1;have f2:=k2.free 2;have f3:=k2.free 3;have f4:=k2.free 4
    have x0:=k2.cell 0 _ rfl;have x1:=k2.cell 1 _ rfl;have x2:=k2.cell 2 _ rfl;have x3:=k2.cell 3 _ rfl;have x4:=k2.cell 4 _ rfl
    clear e1 e2 hdn
    go_enter func27,ntmps27
    go_wp2_with (first
      | (go_at_call 89;refine hm.mono ?_;rintro e w' ⟨rfl,hw⟩;have hw:=hw.symm;subst hw)
      | (go_at_call 33;refine hbz.mono ?_;rintro e w' ⟨rfl,hw⟩;have hw:=hw.symm;subst hw)
      | go_in)
    refine bodyPost_ret (zaB rfl _ _ w.heap.size [.int .i64 s.op,.bool s.nn,.int .i64 s.tok,.int .u32 s.wr,.bool s.kk] _ rfl (fun j y hy=>by rw [Nat.zero_add];first|exact (Cl.new w #[.int .i64 s.op,.bool s.nn,.int .i64 s.tok,.int .u32 s.wr,.bool s.kk] 67).cell j y hy|exact (((((k2.set 0 (.int .i64 s.op) (by simp)).set 1 (.bool s.nn) (by simp)).set 2 (.int .i64 s.tok) (by simp)).set 3 (.int .u32 s.wr) (by simp)).set 4 (.bool s.kk) (by simp)).cell j y hy) underlying67 rfl (by kernel_rfl)) rfl ?_
    refine ⟨rfl,?_⟩
    first
      | exact (Below.refl w.heap.size w).alloc (Nat.le_refl _) _
      | exact zbu (zai (zai (zai (zai (zai (zaa (K:=fun _=>False) hbx) w.heap.size 0 _ (.inr (Nat.le_refl _))) w.heap.size 1 _ (.inr (Nat.le_refl _))) w.heap.size 2 _ (.inr (Nat.le_refl _))) w.heap.size 3 _ (.inr (Nat.le_refl _))) w.heap.size 4 _ (.inr (Nat.le_refl _)))
  · have e1:s.out= .agg #[.int .i64 0,.bool false,.int .i64 0,.int .u32 0,.bool false]:=if_neg hdn
    have e2:s.has=false:=by
      unfold DS.has
      cases q:s.dn with
      | false=>simp
      | true=>simp only [Bool.and_true,decide_eq_false_iff_not];exact fun e=>hdn ⟨e,q⟩
    rw [e1,e2]
    by_cases hp:s.ph=0
    · have hdf:s.dn=false:=by
        cases q:s.dn with
        | false=>rfl
        | true=>exact absurd ⟨hp,q⟩ hdn
      rw [hdf] at c25
      rw [hp] at hbz
      clear hdf hdn e1 e2
      go_enter func27,ntmps27
      go_wp2_with (first
        | (go_at_call 89;refine hm.mono ?_;rintro e w' ⟨rfl,hw⟩;have hw:=hw.symm;subst hw)
        | (go_at_call 33;refine hbz.mono ?_;rintro e w' ⟨rfl,hw⟩;have hw:=hw.symm;subst hw)
        | go_in)
      refine bodyPost_ret (zaB rfl _ _ w.heap.size [.int .i64 0,.bool false,.int .i64 0,.int .u32 0,.bool false] _ rfl (fun j y hy=>by rw [Nat.zero_add];exact k2.cell j y hy) underlying67 rfl (by kernel_rfl)) rfl ?_
      exact ⟨rfl,hbx⟩
    · rw [decide_eq_true hp] at hbz
      clear hdn hp e1 e2
      go_enter func27,ntmps27
      go_wp2_with (first
        | (go_at_call 89;refine hm.mono ?_;rintro e w' ⟨rfl,hw⟩;have hw:=hw.symm;subst hw)
        | (go_at_call 33;refine hbz.mono ?_;rintro e w' ⟨rfl,hw⟩;have hw:=hw.symm;subst hw)
        | go_in)
      refine bodyPost_ret (zaB rfl _ _ w.heap.size [.int .i64 0,.bool false,.int .i64 0,.int .u32 0,.bool false] _ rfl (fun j y hy=>by rw [Nat.zero_add];exact k2.cell j y hy) underlying67 rfl (by kernel_rfl)) rfl ?_
      exact ⟨rfl,hbx⟩
set_option maxRecDepth 100000 in
theorem Tryz.zbs (h:DWf fns nw A w S P L Bs B I N r s g) {i:Int} (hi:0≤i∧i<r.n):Calls prog 57 #[.pointer (some ⟨S,0,none⟩),.int .i64 i] w fun e w'=>e= .returned (.int .u64 (r.d+16*i))∧w'=w:=by
 have hb:=h.rg.bnd
 have hd:=h.rg.d
 have e1:IntKind.wrap .u64 i=i:=wrap_u64 _ (by omega) (by omega)
 have e2:IntKind.wrap .u64 (16*i)=16*i:=wrap_u64 _ (by omega) (by omega)
 have e3:IntKind.wrap .u64 (r.d+16*i)=r.d+16*i:=wrap_u64 _ (by omega) (by omega)
 obtain ⟨stv,nowv,sgv,puv,h1,_⟩:=h.obj
 have c3:=h1.cell 3 _ rfl
 clear hi hb hd
 go_enter func57,ntmps57
 go_wp2_with fail
 go_ret
 exact ⟨rfl,rfl⟩
set_option maxRecDepth 100000 in
theorem Tryz.zmE (h:DWf fns nw A w S P L Bs B I N r s g) (hs:0≤s.sx∧s.sx<r.n):Calls prog 125 #[.pointer (some ⟨S,0,none⟩)] w fun e w'=>e= .returned (.tuple #[.bool (zdD g s),.agg #[.int .i64 2,.int .i64 1,.int .i64 s.sx]])∧Below w.heap.size w w':=by
  have hb:=h.rg.bnd
  have hd:=h.rg.d
  have hbx:=(Below.refl w.heap.size w).alloc (Nat.le_refl _) (Obj.cells #[.int .i64 0,.int .i64 0,.int .i64 0] 54)
  have hX:=h.below hbx.drew
  have hSn:S≠w.heap.size:=by have:=h.lt S h.aS;omega
  have hpl:=zbs hX hs
  have hN:=h.hN
  have hF:=h.fit
  obtain ⟨a,ha,ha2⟩: ∃a:Nat,(a:Int)=r.d+16*s.sx+14∧a+2≤N:=⟨(r.d+16*s.sx+14).toNat,by omega,by omega⟩
  have e3:IntKind.wrap .u64 (r.d+16*s.sx+14)=(a:Int):=by rw [wrap_u64 _ (by omega) (by omega)];omega
  have ea:(4096+16*s.sx+14).toNat=a:=by omega
  have hu:zdD g s=zob (zac g a 2) s.sw:=by unfold zdD;rw [ea]
  have hbd2:=zaq g h.mem.byte a 2
  have hld:=zjh P L Bs B N a 2 g _ hX.mem h.hN (by decide) ha2
  rw [hu]
  generalize zac g a 2=f at hbd2 hld
  have e4:IntKind.wrap .u16 f=f:=zdF (by omega) (by omega)
  have hus:=fun w'=>zrs (b:=s.sw) (f:=f) ⟨hbd2.1,by omega⟩ w'
  have k2:=(Cl.new w #[.int .i64 0,.int .i64 0,.int .i64 0] 54)
  have kd:Cl (w.alloc (Obj.cells #[.int .i64 0,.int .i64 0,.int .i64 0] 54)).drew w.heap.size [.int .i64 0,.int .i64 0,.int .i64 0]:=k2.kept rfl
  obtain ⟨stv,nowv,sgv,puv,h1,_⟩:=hX.obj
  have c0:=h1.cell 0 _ rfl;have c12:=h1.cell 12 _ rfl;have c13:=h1.cell 13 _ rfl
  clear hs hb hd ha ha2 hu ea hbd2 hN hF
  go_enter func125,ntmps125
  go_wp2_with fail
  go_region_held3 (fun w'=>w'.cell? ⟨S,0,none⟩=some (.pointer (some ⟨P,0,none⟩))∧w'.cell? ⟨S,12,none⟩=some (.int .i64 s.sx)) (go_keep)
    ((first
      | (go_at_call 57;refine hpl.mono ?_;rintro en w3 ⟨rfl,hw3⟩;have hw3:=hw3.symm;subst hw3)
      | (go_at_call 119;refine hld.mono ?_;rintro en w4 ⟨rfl,hb4⟩
         have h4:=h1.below hb4 h1.lt;have k4:=kd.below hb4 kd.lt
         have y0:=h4.cell 0 _ rfl;have y12:=h4.cell 12 _ rfl;have y13:=h4.cell 13 _ rfl)))
  all_goals (go_wp2_with fail)
  all_goals
    have hbd4:=(Below.refl w4.heap.size w4).drew
    have h5:=h4.below hbd4 h4.lt
    have k5:=k4.below hbd4 k4.lt
    have v12:=h5.cell 12 _ rfl;have v13:=h5.cell 13 _ rfl;have f0:=k5.free 0;have f1:=k5.free 1;have f2:=k5.free 2
    have u0:=k4.cell 0 _ rfl;have u1:=k4.cell 1 _ rfl;have u2:=k4.cell 2 _ rfl;have g0:=k4.free 0;have g1:=k4.free 1;have g2:=k4.free 2
    clear c0 c12 c13 y0
    go_region_law (first
      | (go_simp;go_at_call 156;refine (hus _).mono ?_;rintro en w6 ⟨rfl,hw6⟩;have hw6:=hw6.symm;subst hw6))
    all_goals (go_wp2_with fail)
  all_goals
    have hbw:=(((hbx.drew).trans (hb4.mono (by simp))).trans (hbd4.mono (by have:=hb4.size;simp at this;omega)))
    have kA:=((k5.set 0 (.int .i64 2) (by simp)).set 1 (.int .i64 1) (by simp)).set 2 (.int .i64 s.sx) (by simp)
    refine bodyPost_ret (zvk rfl _ _ w.heap.size [.int .i64 2,.int .i64 1,.int .i64 s.sx] _ rfl (fun j y hy=>by rw [Nat.zero_add];exact kA.cell j y hy) underlying54 rfl (by kernel_rfl)) rfl ?_
    exact ⟨rfl,zbu (zai (zai (zai (zaa (K:=fun _=>False) hbw) w.heap.size 0 _ (.inr (Nat.le_refl _))) w.heap.size 1 _ (.inr (Nat.le_refl _))) w.heap.size 2 _ (.inr (Nat.le_refl _)))⟩
end
end Go.Proofs
namespace Go.Proofs
open Go.Dw Go.RowKit Go.Maps Go.Sort Go.Deep
section
variable {fns fns':List Nat} {nw nw':Prop} {A A':Nat→Prop} {w w':World} {S P L Bs B I N:Nat} {r:Tryz.Rg} {s s':Tryz.DS} {g g':Nat→Int}
theorem Tryz.DWf.mvNe (h:DWf fns nw A w S P L Bs B I N r s g):S<w.heap.size∧I<w.heap.size∧P<w.heap.size∧L<w.heap.size∧Bs<w.heap.size∧B<w.heap.size:=
 ⟨h.lt S h.aS,h.lt I h.aI,h.mem.pl,h.mem.ll,h.mem.sl,h.lt B h.aB⟩
theorem Tryz.DWf.box (h:DWf fns nw A w S P L Bs B I N r s g) (o:Obj):DWf fns nw (fun b=>A b∨b=w.heap.size) (w.alloc o) S P L Bs B I N r s g:=by
 have hb:=(Below.refl w.heap.size w).alloc (Nat.le_refl _) o
 refine h.keepA (fun b hb' q=>q.elim id fun e=>by omega) (.inl h.aS) (.inl h.aI) (.inl h.aB) (fun b q=> ?_) (fun b hh _=>hb.block b hh) hb.size
 rcases q with q|rfl
 ·exact Nat.lt_of_lt_of_le (h.lt b q) hb.size
 ·simp
theorem Tryz.DWf.fin {X:Nat} (h:DWf fns nw (fun b=>A b∨b=X) w S P L Bs B I N r s g) (aS:A S) (aI:A I) (aB:A B) (hX:X≠S∧X≠I∧X≠P∧X≠L∧X≠Bs∧X≠B) (hm:Dw.Mv (· =X) w w'):DWf fns nw A w' S P L Bs B I N r s g:=by
 obtain ⟨n1,n2,n3,n4,n5,n6⟩:=hX
 refine h.keepA (fun b _ q=> .inl q) aS aI aB (fun b q=>Nat.lt_of_lt_of_le (h.lt b (.inl q)) hm.size) (fun b hb hh=>hm.block b hb ?_) hm.size
 rcases hh with hh|rfl|rfl|rfl|rfl|rfl|rfl
 ·exact fun e=>hh (.inr e)
 ·exact n1.symm
 ·exact n2.symm
 ·exact n3.symm
 ·exact n4.symm
 ·exact n5.symm
 ·exact n6.symm
theorem Tryz.DWf.memB (h:DWf fns nw A w S P L Bs B I N r s g) (hm:Dw.Mv (· =B) w w') (hg:GM w' P L Bs B N g'):DWf fns nw A w' S P L Bs B I N r s g':=by
 obtain ⟨stv,nowv,sgv,puv,h1,h2⟩:=h.ptr (w':=w') fun b hb hn=>hm.block b hb fun e=>hn (by have e:b=B:=e;exact e▸h.aB)
 exact h.setSB (hm.mono fun b e=> .inr e) hg ⟨stv,nowv,sgv,puv,h1.kept (hm.block S h1.lt h.sd.2.2.2),h2⟩ rfl
theorem Tryz.zeu {K:Nat→Prop} {a b:World} (h:Mv K a b):Dw.Mv K a b:=⟨h.os,h.tape,h.output,h.size,h.block⟩
theorem Tryz.zt6 {a:Int} {x:Bool} (h:0≤a∧a<32768):0≤posW a x∧posW a x<65536:=by
 unfold posW
 cases x<;>simp<;>omega
set_option maxRecDepth 100000 in
theorem Tryz.zqL (h:DWf fns nw A w S P L Bs B I N r s g) (hs:0≤s.sx∧s.sx<r.n):Calls prog 127 #[.pointer (some ⟨S,0,none⟩)] w fun e w'=>e= .returned (.tuple #[.agg #[.int .i64 3,.int .i64 10,.int .i64 0],.bool true])∧DWf fns nw A w' S P L Bs B I N r s (putW g r.v.toNat 4 (posW s.sx s.sw+131072))∧Dw.Mv (· =B) w w':=by
  have hb:=h.rg.bnd
  have hv:=h.rg.v
  have hN:=h.hN
  have hF:=h.fit
  have hlt:=h.mvNe
  have hbx:=(Below.refl w.heap.size w).alloc (Nat.le_refl _) (Obj.cells #[.int .i64 0,.int .i64 0,.int .i64 0] 54)
  have k2:=Cl.new w #[.int .i64 0,.int .i64 0,.int .i64 0] 54
  have hX:=h.box (Obj.cells #[.int .i64 0,.int .i64 0,.int .i64 0] 54)
  have hbd:=(Below.refl (w.alloc (Obj.cells #[.int .i64 0,.int .i64 0,.int .i64 0] 54)).heap.size (w.alloc (Obj.cells #[.int .i64 0,.int .i64 0,.int .i64 0] 54))).drew
  have hXd:=hX.below hbd
  have kd:Cl (w.alloc (Obj.cells #[.int .i64 0,.int .i64 0,.int .i64 0] 54)).drew w.heap.size [.int .i64 0,.int .i64 0,.int .i64 0]:=k2.kept rfl
  obtain ⟨a,ha,ha2⟩: ∃a:Nat,r.v=a∧a+4≤N:=⟨r.v.toNat,by omega,by omega⟩
  have ea:r.v.toNat=a:=by omega
  have hpw:=fun w'=>zr8 (a:=s.sx) (x:=s.sw) ⟨hs.1,by omega⟩ w'
  have hpi:=zt6 (a:=s.sx) (x:=s.sw) ⟨hs.1,by omega⟩
  rw [ea]
  generalize posW s.sx s.sw=f at hpw hpi
  unfold posV at hpw
  have hev:=fun w'=>zuA hpi w'
  have hst:=fun w' (hg:GM w' P L Bs B N g)=>zcr P L Bs B N a 4 (f+131072) g w' hg h.hN (by decide) ha2
  have hd1:=hXd.obj
  obtain ⟨stv,nowv,sgv,puv,h1,_⟩:=hd1
  have c0:=h1.cell 0 _ rfl;have c4:=h1.cell 4 _ rfl;have c12:=h1.cell 12 _ rfl;have c13:=h1.cell 13 _ rfl
  have hc4: ∀ {w':World},Cl w' S (s.row r P I stv nowv sgv puv)→w'.cell? ⟨S,4,none⟩=some (.int .u64 a):=fun q=>ha▸q.cell 4 _ rfl
  rw [ha] at c4
  clear hs hb hv ha ha2 ea hpi hN hF
  go_enter func127,ntmps127
  go_wp2_with fail
  go_region_held3 (fun w'=>w'.cell? ⟨S,0,none⟩=some (.pointer (some ⟨P,0,none⟩))∧w'.cell? ⟨S,4,none⟩=some (.int .u64 a)∧w'.cell? ⟨S,12,none⟩=some (.int .i64 s.sx)∧w'.cell? ⟨S,13,none⟩=some (.bool s.sw)) (go_keep)
    ((first
      | (go_at_call 158;refine (hpw _).mono ?_;rintro en w3 ⟨rfl,hb3⟩
         have h3:=hXd.below hb3;have p3:=h1.below hb3 h1.lt;have y0:=p3.cell 0 _ rfl;have y4:=hc4 p3;have y12:=p3.cell 12 _ rfl;have y13:=p3.cell 13 _ rfl)
      | (go_at_call 157;refine (hev _).mono ?_;rintro en w4 ⟨rfl,hb4⟩
         have h4:=h3.below hb4;have p4:=p3.below hb4 p3.lt;have z0:=p4.cell 0 _ rfl;have z4:=hc4 p4;have z12:=p4.cell 12 _ rfl;have z13:=p4.cell 13 _ rfl)
      | (go_at_call 18;refine (hst _ h4.mem).mono ?_;rintro en w5 ⟨rfl,hg5,hm5⟩
         have h5:=h4.memB (zeu hm5) hg5;have p5:=p4.kept (hm5.block S p4.lt h.sd.2.2.2);have v0:=p5.cell 0 _ rfl;have v4:=hc4 p5;have v12:=p5.cell 12 _ rfl;have v13:=p5.cell 13 _ rfl)))
  all_goals
    have k5:=((kd.below hb3 kd.lt).below hb4 (kd.below hb3 kd.lt).lt).kept (hm5.block _ ((kd.below hb3 kd.lt).below hb4 (kd.below hb3 kd.lt).lt).lt (by omega))
    have hmv:=(((zaa (K:=(· =B)) hbx).trans (zaa hbd)).trans ((zaa hb3).trans (zaa hb4))).trans (zeu hm5)
    have b0:=k5.cell 0 _ rfl;have q0:=k5.free 0;have b1:=k5.cell 1 _ rfl;have q1:=k5.free 1;have b2:=k5.cell 2 _ rfl;have q2:=k5.free 2
    go_wp2_with fail
    have kA:=(((k5.set 0 (.int .i64 3) (by simp)).set 1 (.int .i64 10) (by simp)).set 2 (.int .i64 0) (by simp))
    refine bodyPost_ret (zaB rfl _ _ w.heap.size [.int .i64 3,.int .i64 10,.int .i64 0] _ rfl (fun j y hy=>by rw [Nat.zero_add];exact kA.cell j y hy) underlying54 rfl (by kernel_rfl)) rfl ?_
    exact ⟨rfl,h5.fin h.aS h.aI h.aB ⟨by omega,by omega,by omega,by omega,by omega,by omega⟩ (zaj (zaj (zaj (zaa (K:=(· =w.heap.size)) (Below.refl _ _)) w.heap.size 0 _ rfl) w.heap.size 1 _ rfl) w.heap.size 2 _ rfl),zai (zai (zai (hmv) w.heap.size 0 _ (.inr (Nat.le_refl _))) w.heap.size 1 _ (.inr (Nat.le_refl _))) w.heap.size 2 _ (.inr (Nat.le_refl _))⟩
end
end Go.Proofs
namespace Go.Proofs
open Go.Dw Go.RowKit Go.Maps Go.Sort Go.Deep
section
variable {fns fns':List Nat} {nw nw':Prop} {A A':Nat→Prop} {w w':World} {S P L Bs B I N:Nat} {r:Tryz.Rg} {s s':Tryz.DS} {g g':Nat→Int}
theorem Tryz.DWf.setRow (h:DWf fns nw A w S P L Bs B I N r s g) (j:Nat) (v:Value) (hj:j<27) (hr: ∀stv nowv sgv puv,(s.row r P I stv nowv sgv puv).set j v=s'.row r P I stv nowv sgv puv) (hc:s'.c=s.c) (hsg:s'.sg=s.sg) (hpu:s'.pu=s.pu) (hL:s'.L=s.L):DWf fns nw A (w.setCell ⟨S,j,none⟩ v) S P L Bs B I N r s' g:=by
 have hm:Dw.Mv (· =S) w (w.setCell ⟨S,j,none⟩ v):=zaj (zaa (Below.refl _ _)) S j v rfl
 obtain ⟨stv,nowv,sgv,puv,h1,h2,h3,h4,h5,h6⟩:=h.ptr (w':=w.setCell ⟨S,j,none⟩ v) fun b hb hn=>hm.block b hb fun e=>hn (by have e:b=S:=e;exact e▸h.aS)
 exact h.setSB (hm.mono fun b e=> .inl e) (h.gmS hm) ⟨stv,nowv,sgv,puv,hr stv nowv sgv puv▸h1.set j v hj,h2,h3,fun q=>hc▸h4 q,hsg▸h5,hpu▸h6⟩ hL
theorem Tryz.DWf.setStep (h:DWf fns nw A w S P L Bs B I N r s g) {stv':Value} (hs:StepV A w S stv' fns'):DWf fns' nw A (w.setCell ⟨S,16,none⟩ stv') S P L Bs B I N r s g:=by
 have hm:Dw.Mv (· =S) w (w.setCell ⟨S,16,none⟩ stv'):=zaj (zaa (Below.refl _ _)) S 16 _ rfl
 have hk: ∀b,b<w.heap.size→ ¬A b→(w.setCell ⟨S,16,none⟩ stv').heap[b]? =w.heap[b]? :=fun b hb hn=>hm.block b hb fun e=>hn (by have e:b=S:=e;exact e▸h.aS)
 obtain ⟨stv,nowv,sgv,puv,h1,h2,h3,h4,h5,h6⟩:=h.ptr hk
 exact h.setSB (hm.mono fun b e=> .inl e) (h.gmS hm) ⟨stv',nowv,sgv,puv,h1.set 16 stv' (by show 16<27;decide),hs.setK (fun _ _ q=>q) hk,h3,h4,h5,h6⟩ rfl
theorem Tryz.StepV.new {l:List Nat} {cs:Array Value} (hA: ∀b,A b→b<w.heap.size) (t:TypeId) (hcs:cs.toList=l.map (zvD S)):StepV A (w.alloc (Obj.cells cs t)) S (.slice (some ⟨w.heap.size,0,none⟩) l.length l.length) l:=
 ⟨_,_,rfl,Nat.le_refl _,.inr ⟨w.heap.size,0,rfl,fun q=>absurd (hA _ q) (Nat.lt_irrefl _),fun j v hv=>by rw [Nat.zero_add];exact (Cl.new w cs t).cell j v (hcs▸hv)⟩⟩
set_option maxRecDepth 100000 in
theorem Tryz.zjg (h:DWf fns nw A w S P L Bs B I N r s g) (hs:0≤s.sx∧s.sx<r.n) {s1:DS} {fns1:List Nat} (hc:(zdD g s=true∧fns1=dFns 15∧s1=s)∨(zdD g s=false∧s.ev=true∧fns1=dFns 12∧s1=s)∨(zdD g s=false∧s.ev=false∧fns1=fns∧s1= { s with nn:=true })):
    Calls prog 79 #[.pointer (some ⟨S,0,none⟩)] w fun e w'=>e= .returned (.tuple #[.agg #[.int .i64 2,.int .i64 1,.int .i64 s.sx],.bool true])∧DWf fns1 nw A w' S P L Bs B I N r s1 g∧Dw.Mv (· =S) w w':=by
  have hlt:=h.mvNe
  have hbx:=(Below.refl w.heap.size w).alloc (Nat.le_refl _) (Obj.cells #[.int .i64 0,.int .i64 0,.int .i64 0] 54)
  have k2:=Cl.new w #[.int .i64 0,.int .i64 0,.int .i64 0] 54
  have hX:=h.box (Obj.cells #[.int .i64 0,.int .i64 0,.int .i64 0] 54)
  have hus:=zmE hX hs
  generalize zdD g s=is at hus hc
  clear hs
  rcases hc with ⟨rfl,hfn,hs1⟩|⟨rfl,hev,hfn,hs1⟩|⟨rfl,hev,hfn,hs1⟩<;>subst s1 fns1
  · skip
    go_enter func79,ntmps79
    go_wp2_with (first
      | (go_at_call 125;refine hus.mono ?_;rintro en w2 ⟨rfl,hb2⟩
         have h2:=hX.below hb2;have k3:=k2.below hb2 k2.lt
         have hbY:=(Below.refl w2.heap.size w2).alloc (Nat.le_refl _) (Obj.cells #[.int .i64 2,.int .i64 1,.int .i64 s.sx] 54)
         have h3:=h2.below hbY;have k4:=k3.below hbY k3.lt
         have y2:=Cl.new w2 #[.int .i64 2,.int .i64 1,.int .i64 s.sx] 54
         obtain ⟨stv,nowv,sgv,puv,o1,_⟩:=h3.obj
         have c7:=o1.cell 6 _ rfl;have c16:=o1.cell 16 _ rfl;have c21:=o1.cell 21 _ rfl;have r16:=o1.free 16;have r21:=o1.free 21
         have hbR:=(Below.refl (w2.alloc (Obj.cells #[.int .i64 2,.int .i64 1,.int .i64 s.sx] 54)).heap.size (w2.alloc (Obj.cells #[.int .i64 2,.int .i64 1,.int .i64 s.sx] 54))).alloc (Nat.le_refl _) (Obj.cells #[.func (.func 71) #[.pointer (some ⟨S,0,none⟩)] #[],.func (.func 126) #[.pointer (some ⟨S,0,none⟩)] #[]] 155)
         have hst:=StepV.new (S:=S) (w:=w2.alloc (Obj.cells #[.int .i64 2,.int .i64 1,.int .i64 s.sx] 54)) (l:= [71,126]) (cs:= #[.func (.func 71) #[.pointer (some ⟨S,0,none⟩)] #[],.func (.func 126) #[.pointer (some ⟨S,0,none⟩)] #[]]) h3.lt 155 rfl
         have o5:=o1.below hbR o1.lt;have e16:=o5.cell 16 _ rfl;have t16:=o5.free 16
         have hsz:(w2.alloc (Obj.cells #[.int .i64 2,.int .i64 1,.int .i64 s.sx] 54)).heap.size=w2.heap.size+1:=by simp
         rw [hsz] at hst
         have h4:=(h3.below hbR).setStep hst
         have hl2:=hb2.size;simp only [zas] at hl2
         have hm6:Dw.Mv (· =S) ((w2.alloc (Obj.cells #[.int .i64 2,.int .i64 1,.int .i64 s.sx] 54)).alloc (Obj.cells #[.func (.func 71) #[.pointer (some ⟨S,0,none⟩)] #[],.func (.func 126) #[.pointer (some ⟨S,0,none⟩)] #[]] 155)) (((w2.alloc (Obj.cells #[.int .i64 2,.int .i64 1,.int .i64 s.sx] 54)).alloc (Obj.cells #[.func (.func 71) #[.pointer (some ⟨S,0,none⟩)] #[],.func (.func 126) #[.pointer (some ⟨S,0,none⟩)] #[]] 155)).setCell ⟨S,16,none⟩ (.slice (some ⟨w2.heap.size+1,0,none⟩) 2 2)):=zaj (zaa (Below.refl _ _)) S 16 _ rfl
         have k5:=(k4.below hbR k4.lt).kept (hm6.block _ (k4.below hbR k4.lt).lt (by omega));have y3:=(y2.below hbR y2.lt).kept (hm6.block _ (y2.below hbR y2.lt).lt (by omega))
         have z0:=y3.cell 0 _ rfl;have z1:=y3.cell 1 _ rfl;have z2:=y3.cell 2 _ rfl
         have b0:=k5.cell 0 _ rfl;have b1:=k5.cell 1 _ rfl;have b2:=k5.cell 2 _ rfl;have q0:=k5.free 0;have q1:=k5.free 1;have q2:=k5.free 2
         have hmv:=(((zaa (K:=(· =S)) hbx).trans (zaa hb2)).trans (zaa hbY)).trans ((zaa hbR).trans hm6))
      | go_in)
    have kA:=(((k5.set 0 (.int .i64 2) (by simp)).set 1 (.int .i64 1) (by simp)).set 2 (.int .i64 s.sx) (by simp))
    refine bodyPost_ret (zaB rfl _ _ w.heap.size [.int .i64 2,.int .i64 1,.int .i64 s.sx] _ rfl (fun j y hy=>by rw [Nat.zero_add];exact kA.cell j y hy) underlying54 rfl (by kernel_rfl)) rfl ?_
    exact ⟨rfl,h4.fin h.aS h.aI h.aB ⟨by omega,by omega,by omega,by omega,by omega,by omega⟩ (zaj (zaj (zaj (zaa (K:=(· =w.heap.size)) (Below.refl _ _)) w.heap.size 0 _ rfl) w.heap.size 1 _ rfl) w.heap.size 2 _ rfl),zai (zai (zai (hmv) w.heap.size 0 _ (.inr (Nat.le_refl _))) w.heap.size 1 _ (.inr (Nat.le_refl _))) w.heap.size 2 _ (.inr (Nat.le_refl _))⟩
  · skip
    go_enter func79,ntmps79
    go_wp2_with (first
      | (go_at_call 125;refine hus.mono ?_;rintro en w2 ⟨rfl,hb2⟩
         have h2:=hX.below hb2;have k3:=k2.below hb2 k2.lt
         have hbY:=(Below.refl w2.heap.size w2).alloc (Nat.le_refl _) (Obj.cells #[.int .i64 2,.int .i64 1,.int .i64 s.sx] 54)
         have h3:=h2.below hbY;have k4:=k3.below hbY k3.lt
         have y2:=Cl.new w2 #[.int .i64 2,.int .i64 1,.int .i64 s.sx] 54
         obtain ⟨stv,nowv,sgv,puv,o1,_⟩:=h3.obj
         have c7:=o1.cell 6 _ rfl;have c16:=o1.cell 16 _ rfl;have c21:=o1.cell 21 _ rfl;have r16:=o1.free 16;have r21:=o1.free 21
         have hbR:=(Below.refl (w2.alloc (Obj.cells #[.int .i64 2,.int .i64 1,.int .i64 s.sx] 54)).heap.size (w2.alloc (Obj.cells #[.int .i64 2,.int .i64 1,.int .i64 s.sx] 54))).alloc (Nat.le_refl _) (Obj.cells #[.func (.func 127) #[.pointer (some ⟨S,0,none⟩)] #[],.func (.func 71) #[.pointer (some ⟨S,0,none⟩)] #[],.func (.func 128) #[.pointer (some ⟨S,0,none⟩)] #[]] 155)
         have hst:=StepV.new (S:=S) (w:=w2.alloc (Obj.cells #[.int .i64 2,.int .i64 1,.int .i64 s.sx] 54)) (l:= [127,71,128]) (cs:= #[.func (.func 127) #[.pointer (some ⟨S,0,none⟩)] #[],.func (.func 71) #[.pointer (some ⟨S,0,none⟩)] #[],.func (.func 128) #[.pointer (some ⟨S,0,none⟩)] #[]]) h3.lt 155 rfl
         have o5:=o1.below hbR o1.lt;have e16:=o5.cell 16 _ rfl;have t16:=o5.free 16
         have hsz:(w2.alloc (Obj.cells #[.int .i64 2,.int .i64 1,.int .i64 s.sx] 54)).heap.size=w2.heap.size+1:=by simp
         rw [hsz] at hst
         have h4:=(h3.below hbR).setStep hst
         have hl2:=hb2.size;simp only [zas] at hl2
         have hm6:Dw.Mv (· =S) ((w2.alloc (Obj.cells #[.int .i64 2,.int .i64 1,.int .i64 s.sx] 54)).alloc (Obj.cells #[.func (.func 127) #[.pointer (some ⟨S,0,none⟩)] #[],.func (.func 71) #[.pointer (some ⟨S,0,none⟩)] #[],.func (.func 128) #[.pointer (some ⟨S,0,none⟩)] #[]] 155)) (((w2.alloc (Obj.cells #[.int .i64 2,.int .i64 1,.int .i64 s.sx] 54)).alloc (Obj.cells #[.func (.func 127) #[.pointer (some ⟨S,0,none⟩)] #[],.func (.func 71) #[.pointer (some ⟨S,0,none⟩)] #[],.func (.func 128) #[.pointer (some ⟨S,0,none⟩)] #[]] 155)).setCell ⟨S,16,none⟩ (.slice (some ⟨w2.heap.size+1,0,none⟩) 3 3)):=zaj (zaa (Below.refl _ _)) S 16 _ rfl
         have k5:=(k4.below hbR k4.lt).kept (hm6.block _ (k4.below hbR k4.lt).lt (by omega));have y3:=(y2.below hbR y2.lt).kept (hm6.block _ (y2.below hbR y2.lt).lt (by omega))
         have z0:=y3.cell 0 _ rfl;have z1:=y3.cell 1 _ rfl;have z2:=y3.cell 2 _ rfl
         have b0:=k5.cell 0 _ rfl;have b1:=k5.cell 1 _ rfl;have b2:=k5.cell 2 _ rfl;have q0:=k5.free 0;have q1:=k5.free 1;have q2:=k5.free 2
         have hmv:=(((zaa (K:=(· =S)) hbx).trans (zaa hb2)).trans (zaa hbY)).trans ((zaa hbR).trans hm6)
         rw [hev] at c7)
      | go_in)
    have kA:=(((k5.set 0 (.int .i64 2) (by simp)).set 1 (.int .i64 1) (by simp)).set 2 (.int .i64 s.sx) (by simp))
    refine bodyPost_ret (zaB rfl _ _ w.heap.size [.int .i64 2,.int .i64 1,.int .i64 s.sx] _ rfl (fun j y hy=>by rw [Nat.zero_add];exact kA.cell j y hy) underlying54 rfl (by kernel_rfl)) rfl ?_
    exact ⟨rfl,h4.fin h.aS h.aI h.aB ⟨by omega,by omega,by omega,by omega,by omega,by omega⟩ (zaj (zaj (zaj (zaa (K:=(· =w.heap.size)) (Below.refl _ _)) w.heap.size 0 _ rfl) w.heap.size 1 _ rfl) w.heap.size 2 _ rfl),zai (zai (zai (hmv) w.heap.size 0 _ (.inr (Nat.le_refl _))) w.heap.size 1 _ (.inr (Nat.le_refl _))) w.heap.size 2 _ (.inr (Nat.le_refl _))⟩
  · skip
    go_enter func79,ntmps79
    go_wp2_with (first
      | (go_at_call 125;refine hus.mono ?_;rintro en w2 ⟨rfl,hb2⟩
         have h2:=hX.below hb2;have k3:=k2.below hb2 k2.lt
         have hbY:=(Below.refl w2.heap.size w2).alloc (Nat.le_refl _) (Obj.cells #[.int .i64 2,.int .i64 1,.int .i64 s.sx] 54)
         have h3:=h2.below hbY;have k4:=k3.below hbY k3.lt
         have y2:=Cl.new w2 #[.int .i64 2,.int .i64 1,.int .i64 s.sx] 54
         obtain ⟨stv,nowv,sgv,puv,o1,_⟩:=h3.obj
         have c7:=o1.cell 6 _ rfl;have c16:=o1.cell 16 _ rfl;have c21:=o1.cell 21 _ rfl;have r16:=o1.free 16;have r21:=o1.free 21
         have h4:=h3.setRow (s':= { s with nn:=true }) 21 (.bool true) (by decide) (fun _ _ _ _=>rfl) rfl rfl rfl rfl
         have hl2:=hb2.size;simp only [zas] at hl2
         have hm6:Dw.Mv (· =S) (w2.alloc (Obj.cells #[.int .i64 2,.int .i64 1,.int .i64 s.sx] 54)) ((w2.alloc (Obj.cells #[.int .i64 2,.int .i64 1,.int .i64 s.sx] 54)).setCell ⟨S,21,none⟩ (.bool true)):=zaj (zaa (Below.refl _ _)) S 21 _ rfl
         have k5:=k4.kept (hm6.block _ k4.lt (by omega));have y3:=y2.kept (hm6.block _ y2.lt (by omega))
         have z0:=y3.cell 0 _ rfl;have z1:=y3.cell 1 _ rfl;have z2:=y3.cell 2 _ rfl
         have b0:=k5.cell 0 _ rfl;have b1:=k5.cell 1 _ rfl;have b2:=k5.cell 2 _ rfl;have q0:=k5.free 0;have q1:=k5.free 1;have q2:=k5.free 2
         have hmv:=(((zaa (K:=(· =S)) hbx).trans (zaa hb2)).trans (zaa hbY)).trans hm6
         rw [hev] at c7)
      | go_in)
    have kA:=(((k5.set 0 (.int .i64 2) (by simp)).set 1 (.int .i64 1) (by simp)).set 2 (.int .i64 s.sx) (by simp))
    refine bodyPost_ret (zaB rfl _ _ w.heap.size [.int .i64 2,.int .i64 1,.int .i64 s.sx] _ rfl (fun j y hy=>by rw [Nat.zero_add];exact kA.cell j y hy) underlying54 rfl (by kernel_rfl)) rfl ?_
    exact ⟨rfl,h4.fin h.aS h.aI h.aB ⟨by omega,by omega,by omega,by omega,by omega,by omega⟩ (zaj (zaj (zaj (zaa (K:=(· =w.heap.size)) (Below.refl _ _)) w.heap.size 0 _ rfl) w.heap.size 1 _ rfl) w.heap.size 2 _ rfl),zai (zai (zai (hmv) w.heap.size 0 _ (.inr (Nat.le_refl _))) w.heap.size 1 _ (.inr (Nat.le_refl _))) w.heap.size 2 _ (.inr (Nat.le_refl _))⟩
set_option maxRecDepth 100000 in
theorem Tryz.zlp (h:DWf fns nw A w S P L Bs B I N r s g) (hs:0≤s.sx∧s.sx<r.n) {s1:DS} {fns1:List Nat} (hc:(zdD g s=true∧fns1=dFns 15∧s1=s)∨(zdD g s=false∧fns1=fns∧s1= { s with nn:=true })):
    Calls prog 128 #[.pointer (some ⟨S,0,none⟩)] w fun e w'=>e= .returned (.tuple #[.agg #[.int .i64 2,.int .i64 1,.int .i64 s.sx],.bool true])∧DWf fns1 nw A w' S P L Bs B I N r s1 g∧Dw.Mv (· =S) w w':=by
  have hlt:=h.mvNe
  have hbx:=(Below.refl w.heap.size w).alloc (Nat.le_refl _) (Obj.cells #[.int .i64 0,.int .i64 0,.int .i64 0] 54)
  have k2:=Cl.new w #[.int .i64 0,.int .i64 0,.int .i64 0] 54
  have hX:=h.box (Obj.cells #[.int .i64 0,.int .i64 0,.int .i64 0] 54)
  have hus:=zmE hX hs
  generalize zdD g s=is at hus hc
  clear hs
  rcases hc with ⟨rfl,hfn,hs1⟩|⟨rfl,hfn,hs1⟩<;>subst s1 fns1
  · skip
    go_enter func128,ntmps128
    go_wp2_with (first
      | (go_at_call 125;refine hus.mono ?_;rintro en w2 ⟨rfl,hb2⟩
         have h2:=hX.below hb2;have k3:=k2.below hb2 k2.lt
         have hbY:=(Below.refl w2.heap.size w2).alloc (Nat.le_refl _) (Obj.cells #[.int .i64 2,.int .i64 1,.int .i64 s.sx] 54)
         have h3:=h2.below hbY;have k4:=k3.below hbY k3.lt
         have y2:=Cl.new w2 #[.int .i64 2,.int .i64 1,.int .i64 s.sx] 54
         obtain ⟨stv,nowv,sgv,puv,o1,_⟩:=h3.obj
         have c7:=o1.cell 6 _ rfl;have c16:=o1.cell 16 _ rfl;have c21:=o1.cell 21 _ rfl;have r16:=o1.free 16;have r21:=o1.free 21
         have hbR:=(Below.refl (w2.alloc (Obj.cells #[.int .i64 2,.int .i64 1,.int .i64 s.sx] 54)).heap.size (w2.alloc (Obj.cells #[.int .i64 2,.int .i64 1,.int .i64 s.sx] 54))).alloc (Nat.le_refl _) (Obj.cells #[.func (.func 71) #[.pointer (some ⟨S,0,none⟩)] #[],.func (.func 126) #[.pointer (some ⟨S,0,none⟩)] #[]] 155)
         have hst:=StepV.new (S:=S) (w:=w2.alloc (Obj.cells #[.int .i64 2,.int .i64 1,.int .i64 s.sx] 54)) (l:= [71,126]) (cs:= #[.func (.func 71) #[.pointer (some ⟨S,0,none⟩)] #[],.func (.func 126) #[.pointer (some ⟨S,0,none⟩)] #[]]) h3.lt 155 rfl
         have o5:=o1.below hbR o1.lt;have e16:=o5.cell 16 _ rfl;have t16:=o5.free 16
         have hsz:(w2.alloc (Obj.cells #[.int .i64 2,.int .i64 1,.int .i64 s.sx] 54)).heap.size=w2.heap.size+1:=by simp
         rw [hsz] at hst
         have h4:=(h3.below hbR).setStep hst
         have hl2:=hb2.size;simp only [zas] at hl2
         have hm6:Dw.Mv (· =S) ((w2.alloc (Obj.cells #[.int .i64 2,.int .i64 1,.int .i64 s.sx] 54)).alloc (Obj.cells #[.func (.func 71) #[.pointer (some ⟨S,0,none⟩)] #[],.func (.func 126) #[.pointer (some ⟨S,0,none⟩)] #[]] 155)) (((w2.alloc (Obj.cells #[.int .i64 2,.int .i64 1,.int .i64 s.sx] 54)).alloc (Obj.cells #[.func (.func 71) #[.pointer (some ⟨S,0,none⟩)] #[],.func (.func 126) #[.pointer (some ⟨S,0,none⟩)] #[]] 155)).setCell ⟨S,16,none⟩ (.slice (some ⟨w2.heap.size+1,0,none⟩) 2 2)):=zaj (zaa (Below.refl _ _)) S 16 _ rfl
         have k5:=(k4.below hbR k4.lt).kept (hm6.block _ (k4.below hbR k4.lt).lt (by omega));have y3:=(y2.below hbR y2.lt).kept (hm6.block _ (y2.below hbR y2.lt).lt (by omega))
         have z0:=y3.cell 0 _ rfl;have z1:=y3.cell 1 _ rfl;have z2:=y3.cell 2 _ rfl
         have b0:=k5.cell 0 _ rfl;have b1:=k5.cell 1 _ rfl;have b2:=k5.cell 2 _ rfl;have q0:=k5.free 0;have q1:=k5.free 1;have q2:=k5.free 2
         have hmv:=(((zaa (K:=(· =S)) hbx).trans (zaa hb2)).trans (zaa hbY)).trans ((zaa hbR).trans hm6))
      | go_in)
    have kA:=(((k5.set 0 (.int .i64 2) (by simp)).set 1 (.int .i64 1) (by simp)).set 2 (.int .i64 s.sx) (by simp))
    refine bodyPost_ret (zaB rfl _ _ w.heap.size [.int .i64 2,.int .i64 1,.int .i64 s.sx] _ rfl (fun j y hy=>by rw [Nat.zero_add];exact kA.cell j y hy) underlying54 rfl (by kernel_rfl)) rfl ?_
    exact ⟨rfl,h4.fin h.aS h.aI h.aB ⟨by omega,by omega,by omega,by omega,by omega,by omega⟩ (zaj (zaj (zaj (zaa (K:=(· =w.heap.size)) (Below.refl _ _)) w.heap.size 0 _ rfl) w.heap.size 1 _ rfl) w.heap.size 2 _ rfl),zai (zai (zai (hmv) w.heap.size 0 _ (.inr (Nat.le_refl _))) w.heap.size 1 _ (.inr (Nat.le_refl _))) w.heap.size 2 _ (.inr (Nat.le_refl _))⟩
  · skip
    go_enter func128,ntmps128
    go_wp2_with (first
      | (go_at_call 125;refine hus.mono ?_;rintro en w2 ⟨rfl,hb2⟩
         have h2:=hX.below hb2;have k3:=k2.below hb2 k2.lt
         have hbY:=(Below.refl w2.heap.size w2).alloc (Nat.le_refl _) (Obj.cells #[.int .i64 2,.int .i64 1,.int .i64 s.sx] 54)
         have h3:=h2.below hbY;have k4:=k3.below hbY k3.lt
         have y2:=Cl.new w2 #[.int .i64 2,.int .i64 1,.int .i64 s.sx] 54
         obtain ⟨stv,nowv,sgv,puv,o1,_⟩:=h3.obj
         have c7:=o1.cell 6 _ rfl;have c16:=o1.cell 16 _ rfl;have c21:=o1.cell 21 _ rfl;have r16:=o1.free 16;have r21:=o1.free 21
         have h4:=h3.setRow (s':= { s with nn:=true }) 21 (.bool true) (by decide) (fun _ _ _ _=>rfl) rfl rfl rfl rfl
         have hl2:=hb2.size;simp only [zas] at hl2
         have hm6:Dw.Mv (· =S) (w2.alloc (Obj.cells #[.int .i64 2,.int .i64 1,.int .i64 s.sx] 54)) ((w2.alloc (Obj.cells #[.int .i64 2,.int .i64 1,.int .i64 s.sx] 54)).setCell ⟨S,21,none⟩ (.bool true)):=zaj (zaa (Below.refl _ _)) S 21 _ rfl
         have k5:=k4.kept (hm6.block _ k4.lt (by omega));have y3:=y2.kept (hm6.block _ y2.lt (by omega))
         have z0:=y3.cell 0 _ rfl;have z1:=y3.cell 1 _ rfl;have z2:=y3.cell 2 _ rfl
         have b0:=k5.cell 0 _ rfl;have b1:=k5.cell 1 _ rfl;have b2:=k5.cell 2 _ rfl;have q0:=k5.free 0;have q1:=k5.free 1;have q2:=k5.free 2
         have hmv:=(((zaa (K:=(· =S)) hbx).trans (zaa hb2)).trans (zaa hbY)).trans hm6)
      | go_in)
    have kA:=(((k5.set 0 (.int .i64 2) (by simp)).set 1 (.int .i64 1) (by simp)).set 2 (.int .i64 s.sx) (by simp))
    refine bodyPost_ret (zaB rfl _ _ w.heap.size [.int .i64 2,.int .i64 1,.int .i64 s.sx] _ rfl (fun j y hy=>by rw [Nat.zero_add];exact kA.cell j y hy) underlying54 rfl (by kernel_rfl)) rfl ?_
    exact ⟨rfl,h4.fin h.aS h.aI h.aB ⟨by omega,by omega,by omega,by omega,by omega,by omega⟩ (zaj (zaj (zaj (zaa (K:=(· =w.heap.size)) (Below.refl _ _)) w.heap.size 0 _ rfl) w.heap.size 1 _ rfl) w.heap.size 2 _ rfl),zai (zai (zai (hmv) w.heap.size 0 _ (.inr (Nat.le_refl _))) w.heap.size 1 _ (.inr (Nat.le_refl _))) w.heap.size 2 _ (.inr (Nat.le_refl _))⟩
end
end Go.Proofs
namespace Go.Proofs
open Go.Dw Go.RowKit Go.Maps Go.Sort Go.Deep
theorem Tryz.znx: ∀(l:List Pt) (h:0<l.length) (d:Pt),l[0]=l.headD d
 | _::_,_,_=>rfl
 | [], h,_=>absurd h (by decide)
section
variable {fns fns':List Nat} {nw nw':Prop} {A A':Nat→Prop} {w w':World} {S P L Bs B I N:Nat} {r:Tryz.Rg} {s s':Tryz.DS} {g g':Nat→Int}
set_option maxRecDepth 100000 in
theorem Tryz.zsF {x:Int} (h:0≤x∧x<65536) (w:World):Calls prog 118 #[.int .u16 0,.int .u16 x,.bool true] w fun e w'=>e= .returned (.int .u16 x)∧w'=w:=by
 have hx:bits .xor .u16 0 x=x:=by
  obtain ⟨y,rfl⟩:=Int.eq_ofNat_of_zero_le h.1
  have hy:y<2^16:=by omega
  unfold bits
  simp only [BitVec.toNat_xor]
  have ex:(BitVec.ofInt IntKind.u16.bits (y:Int)).toNat=y:=by
   rw [BitVec.ofInt_natCast,BitVec.toNat_ofNat]
   exact Nat.mod_eq_of_lt hy
  rw [ex,show (BitVec.ofInt IntKind.u16.bits 0).toNat=0 from by decide,Nat.zero_xor]
  exact zdF (by omega) (by omega)
 clear h
 go_enter func118,ntmps118
 go_wp2_with fail
 go_ret
 exact ⟨rfl,rfl⟩
set_option maxRecDepth 100000 in
theorem Tryz.zqH (h:DWf fns nw A w S P L Bs B I N r s g) (hp:0<s.pu.length) (hps:s.pu0.ok∧0≤s.pu0.at0∧s.pu0.at0<r.n):
    Calls prog 72 #[.pointer (some ⟨S,0,none⟩)] w fun e w'=>e= .returned (.tuple #[.agg #[.int .i64 3,.int .i64 1,.int .i64 s.pu0.at0],.bool true])∧DWf fns nw A w' S P L Bs B I N r s (putW g (4096+16*s.pu0.at0+14).toNat 2 s.pu0.nx)∧Dw.Mv (· =B) w w':=by
  have hlt:=h.mvNe
  have hb:=h.rg.bnd
  have hd:=h.rg.d
  have hN:=h.hN
  have hF:=h.fit
  obtain ⟨p,hpp⟩: ∃p,p=s.pu0:=⟨_,rfl⟩
  have hcell: ∀ {w1:World} {puv:Value},PutV (fun b=>A b∨b=w.heap.size) w1 puv s.pu→ ∃R o c,puv= .slice (some ⟨R,o,none⟩) s.pu.length c∧w1.rangeAt R o p.cells:=fun {w1 puv} q=>by
    obtain ⟨sa,c,e,hr⟩:=q
    rcases hr with hr|⟨R,o,e1,_,h2⟩
    · rw [hr] at hp;exact absurd hp (by decide)
    · refine ⟨R,o,c,by rw [e,e1],?_⟩
      have:=zgD h2 0 hp
      rw [Nat.mul_zero,Nat.add_zero] at this
      have e0:s.pu[0]=p:=by rw [hpp];exact znx s.pu hp _
      rwa [e0] at this
  rw [←hpp] at hps ⊢
  obtain ⟨hok,hat⟩:=hps
  have hnx:=hok.nx
  have hbx:=(Below.refl w.heap.size w).alloc (Nat.le_refl _) (Obj.cells #[.int .i64 0,.int .i64 0,.int .i64 0] 54)
  have k2:=Cl.new w #[.int .i64 0,.int .i64 0,.int .i64 0] 54
  have hX:=h.box (Obj.cells #[.int .i64 0,.int .i64 0,.int .i64 0] 54)
  obtain ⟨a,ha,ha2⟩: ∃a:Nat,(a:Int)=r.d+16*p.at0+14∧a+2≤N:=⟨(r.d+16*p.at0+14).toNat,by omega,by omega⟩
  have e3:IntKind.wrap .u64 (r.d+16*p.at0+14)=(a:Int):=by rw [wrap_u64 _ (by omega) (by omega)];omega
  have ea:(4096+16*p.at0+14).toNat=a:=by omega
  have e4:IntKind.wrap .u64 p.nx=p.nx:=wrap_u64 _ (by omega) (by omega)
  rw [ea]
  have hfl:=fun w'=>zsF hnx w'
  have hpl:=fun {w':World} {A':Nat→Prop} (q:DWf fns nw A' w' S P L Bs B I N r s g)=>zbs q hat
  have hst:=fun w' (hg:GM w' P L Bs B N g)=>zcr P L Bs B N a 2 p.nx g w' hg h.hN (by decide) ha2
  obtain ⟨stv,nowv,sgv,puv,h1,_,_,_,_,hpu⟩:=hX.obj
  obtain ⟨R,o,cp,rfl,hR⟩:=hcell hpu
  have hp0:(0:Int)<s.pu.length:=by omega
  have c19:=h1.cell 19 _ rfl
  have r0:=hR 0 _ rfl;have r1:=hR 1 _ rfl;have r2:=hR 2 _ rfl;have r3:=hR 3 _ rfl;have r4:=hR 4 _ rfl
  rw [Nat.add_zero] at r0
  have hbY:=(Below.refl (w.alloc (Obj.cells #[.int .i64 0,.int .i64 0,.int .i64 0] 54)).heap.size (w.alloc (Obj.cells #[.int .i64 0,.int .i64 0,.int .i64 0] 54))).alloc (Nat.le_refl _) (Obj.cells #[.int .i64 p.at0,.int .u64 p.a,.int .u32 p.ln,.int .u16 p.f,.int .u16 p.nx] 139)
  have hY:=hX.below hbY
  have kY:=k2.below hbY k2.lt
  have y2:=Cl.new (w.alloc (Obj.cells #[.int .i64 0,.int .i64 0,.int .i64 0] 54)) #[.int .i64 p.at0,.int .u64 p.a,.int .u32 p.ln,.int .u16 p.f,.int .u16 p.nx] 139
  rw [zas] at y2
  have oY:=h1.below hbY h1.lt
  have hbd:=(Below.refl ((w.alloc (Obj.cells #[.int .i64 0,.int .i64 0,.int .i64 0] 54)).alloc (Obj.cells #[.int .i64 p.at0,.int .u64 p.a,.int .u32 p.ln,.int .u16 p.f,.int .u16 p.nx] 139)).heap.size ((w.alloc (Obj.cells #[.int .i64 0,.int .i64 0,.int .i64 0] 54)).alloc (Obj.cells #[.int .i64 p.at0,.int .u64 p.a,.int .u32 p.ln,.int .u16 p.f,.int .u16 p.nx] 139))).drew
  have hYd:=hY.below hbd
  have kYd:=kY.below hbd kY.lt
  have yd:=y2.below hbd y2.lt
  have od:=oY.below hbd oY.lt
  have d0:=od.cell 0 _ rfl
  have w0:=yd.cell 0 _ rfl;have w4:=yd.cell 4 _ rfl
  have v0:=oY.cell 0 _ rfl;have u0:=y2.cell 0 _ rfl;have u4:=y2.cell 4 _ rfl
  clear hcell hpp hp hok hat hb hd hN hF ha ha2 ea hnx hR hpu
  go_enter func72,ntmps72
  go_wp2_with fail
  go_region_held3 (fun w'=>w'.cell? ⟨S,0,none⟩=some (.pointer (some ⟨P,0,none⟩))∧w'.cell? ⟨w.heap.size+1,0,none⟩=some (.int .i64 p.at0)∧w'.cell? ⟨w.heap.size+1,4,none⟩=some (.int .u16 p.nx)) (go_keep)
    ((first
      | (go_at_call 57;refine (hpl hYd).mono ?_;rintro en w3 ⟨rfl,hw3⟩;have hw3:=hw3.symm;subst hw3)
      | (go_at_call 118;refine (hfl _).mono ?_;rintro en w4 ⟨rfl,hw4⟩;have hw4:=hw4.symm;subst hw4)
      | (go_at_call 18;refine (hst _ hYd.mem).mono ?_;rintro en w5 ⟨rfl,hg5,hm5⟩
         have h5:=hYd.memB (zeu hm5) hg5;have p5:=od.kept (hm5.block S od.lt h.sd.2.2.2);have k5:=kYd.kept (hm5.block _ kYd.lt (by omega));have y5:=yd.kept (hm5.block _ yd.lt (by omega))
         have x0:=p5.cell 0 _ rfl;have x1:=y5.cell 0 _ rfl;have x4:=y5.cell 4 _ rfl)))
  all_goals
    have hmv:=(((zaa (K:=(· =B)) hbx).trans (zaa hbY)).trans (zaa hbd)).trans (zeu hm5)
    have b0:=k5.cell 0 _ rfl;have q0:=k5.free 0;have b1:=k5.cell 1 _ rfl;have q1:=k5.free 1;have b2:=k5.cell 2 _ rfl;have q2:=k5.free 2
    go_wp2_with fail
    have kA:=(((k5.set 0 (.int .i64 3) (by simp)).set 1 (.int .i64 1) (by simp)).set 2 (.int .i64 p.at0) (by simp))
    refine bodyPost_ret (zaB rfl _ _ w.heap.size [.int .i64 3,.int .i64 1,.int .i64 p.at0] _ rfl (fun j y hy=>by rw [Nat.zero_add];exact kA.cell j y hy) underlying54 rfl (by kernel_rfl)) rfl ?_
    exact ⟨rfl,h5.fin h.aS h.aI h.aB ⟨by omega,by omega,by omega,by omega,by omega,by omega⟩ (zaj (zaj (zaj (zaa (K:=(· =w.heap.size)) (Below.refl _ _)) w.heap.size 0 _ rfl) w.heap.size 1 _ rfl) w.heap.size 2 _ rfl),zai (zai (zai (hmv) w.heap.size 0 _ (.inr (Nat.le_refl _))) w.heap.size 1 _ (.inr (Nat.le_refl _))) w.heap.size 2 _ (.inr (Nat.le_refl _))⟩
end
end Go.Proofs
namespace Go.Proofs
open Go.Dw Go.RowKit Go.Maps Go.Sort Go.Deep
structure Tryz.HidP (p:Prop):Prop where
 out:p
theorem Tryz.and_3 {f:Int} (h:0≤f∧f<65536):bits .and .u16 f 3=f%4:=by
 obtain ⟨x,rfl⟩:=Int.eq_ofNat_of_zero_le h.1
 have hx:x<2^16:=by omega
 unfold bits
 simp only [BitVec.toNat_and]
 have ex:(BitVec.ofInt IntKind.u16.bits (x:Int)).toNat=x:=by
  rw [BitVec.ofInt_natCast,BitVec.toNat_ofNat]
  exact Nat.mod_eq_of_lt hx
 have ey:(BitVec.ofInt IntKind.u16.bits (3:Int)).toNat=3:=by decide
 have e0:x&&&3=x%4:=Nat.and_two_pow_sub_one_eq_mod x 2
 rw [ex,ey,e0]
 exact zdF (by omega) (by omega)
section
variable {fns fns':List Nat} {nw nw':Prop} {A A':Nat→Prop} {w w':World} {S P L Bs B I N:Nat} {r:Tryz.Rg} {s s':Tryz.DS} {g g':Nat→Int}
set_option maxRecDepth 100000 in
theorem Tryz.zsw (h:DWf fns nw A w S P L Bs B I N r s g) (hnw:nw) (hnx:0≤s.nx∧s.nx<r.n) (hct:1≤s.c.ct∧s.c.ct≤r.n) (hkk:s.kk=false):
    Calls prog 73 #[.pointer (some ⟨S,0,none⟩)] w fun e w'=>e= .returned (.tuple #[.agg #[.int .i64 2,.int .i64 11,.int .i64 0],.bool true])∧DWf fns nw A w' S P L Bs B I N r { s with nx:=(zaH r.n s.nx s.nw s.c.ct).1,nw:=(zaH r.n s.nx s.nw s.c.ct).2,kk:=zfV r.n (zaH r.n s.nx s.nw s.c.ct).1 (zaH r.n s.nx s.nw s.c.ct).2 s.c.ct (zac g r.c.toNat 4) false } g∧Dw.Mv (· =S) w w':=by
  have hlt:=h.mvNe
  have hb:=h.rg.bnd
  have hcc:=h.rg.c
  have hN:=h.hN
  have hF:=h.fit
  have hbx:=(Below.refl w.heap.size w).alloc (Nat.le_refl _) (Obj.cells #[.int .i64 0,.int .i64 0,.int .i64 0] 54)
  have k2:=Cl.new w #[.int .i64 0,.int .i64 0,.int .i64 0] 54
  have hX:=h.box (Obj.cells #[.int .i64 0,.int .i64 0,.int .i64 0] 54)
  have hbd:=(Below.refl (w.alloc (Obj.cells #[.int .i64 0,.int .i64 0,.int .i64 0] 54)).heap.size (w.alloc (Obj.cells #[.int .i64 0,.int .i64 0,.int .i64 0] 54))).drew
  have hXd:=hX.below hbd
  have kd:Cl (w.alloc (Obj.cells #[.int .i64 0,.int .i64 0,.int .i64 0] 54)).drew w.heap.size [.int .i64 0,.int .i64 0,.int .i64 0]:=k2.kept rfl
  obtain ⟨a,ha,ha2⟩: ∃a:Nat,r.c=a∧a+4≤N:=⟨r.c.toNat,by omega,by omega⟩
  have ea:r.c.toNat=a:=by omega
  rw [ea]
  have hwb:=zaq g h.mem.byte a 4
  have hld:=zjh P L Bs B N a 4 g _ hXd.mem h.hN (by decide) ha2
  generalize zac g a 4=wv at hwb hld ⊢
  have hwb2:0≤wv∧wv<4294967296:=⟨hwb.1,by omega⟩
  have hgo:=fun w'=>zqA (n:=r.n) (a:=s.nx) (c:=s.c.ct) (x:=s.nw) ⟨hb.1,by omega⟩ hnx ⟨by omega,hct.2⟩ w'
  have hu0:=ze8 (n:=r.n) (a:=s.nx) (x:=s.nw) (c:=s.c.ct) hnx ⟨by omega,hct.2⟩
  obtain ⟨u1,hu1⟩: ∃u1,u1=(zaH r.n s.nx s.nw s.c.ct).1:=⟨_,rfl⟩
  obtain ⟨u2,hu2⟩: ∃u2,u2=(zaH r.n s.nx s.nw s.c.ct).2:=⟨_,rfl⟩
  rw [←hu1] at hgo hu0
  rw [←hu2] at hgo
  rw [←hu1,←hu2]
  obtain ⟨it,hit⟩: ∃it,it=zfV r.n u1 u2 s.c.ct wv false:=⟨_,rfl⟩
  rw [←hit]
  replace hit:HidP (it=zfV r.n u1 u2 s.c.ct wv false):=⟨hit⟩
  have hrv:=fun w'=>ztT (f:=wv) hwb2 w'
  have hand:bits .and .u16 (wv/65536) 3=wv/65536%4:=and_3 ⟨by omega,by omega⟩
  have hneed:=fun {ea:Int} {ew:Bool} (hh:0≤ea∧ea<r.n) w'=>zsq (n:=r.n) (a:=ea) (b:=u1) (c:=s.c.ct) (x:=ew) (y:=u2) ⟨hb.1,by omega⟩ hh hu0 ⟨by omega,hct.2⟩ w'
  have hsrd:=fun w'=>ztB (f:=wv%65536) (n:=r.n) ⟨by omega,by omega⟩ ⟨hb.1,by omega⟩ w'
  have hmod:wv%65536%32768=wv%32768:=by omega
  have hmod2:wv%65536/32768%2=wv/32768%2:=by omega
  rw [hmod,hmod2] at hsrd
  have hpos:0≤wv%32768:=by omega
  unfold posV at hgo hneed hsrd
  obtain ⟨stv,nowv,sgv,puv,h1,_,_,hnw1,_,_⟩:=hXd.obj
  obtain ⟨O,rfl,hO1,hO2⟩:=hnw1 hnw
  have hOA: ¬A O:=fun q=>hO1 (.inl q)
  have hOX:O≠w.heap.size:=fun q=>hO1 (.inr q)
  have hOS:O≠S:=fun q=>hOA (q▸h.aS)
  have c0:=h1.cell 0 _ rfl;have c5:=h1.cell 5 _ rfl
  have hc5: ∀ {w':World},Cl w' S (s.row r P I stv (.pointer (some ⟨O,0,none⟩)) sgv puv)→w'.cell? ⟨S,5,none⟩=some (.int .u64 a):=fun q=>ha▸q.cell 5 _ rfl
  rw [ha] at c5
  clear hb hcc hN hF ha ha2 ea hwb hwb2 hu1 hu2 hnx hct hmod hmod2
  go_enter func73,ntmps73
  go_wp2_with fail
  go_region_held3 (fun w'=>w'.cell? ⟨S,0,none⟩=some (.pointer (some ⟨P,0,none⟩))∧w'.cell? ⟨S,5,none⟩=some (.int .u64 a)) (go_keep)
    ((first
      | (go_at_call 119;refine hld.mono ?_;rintro en w4 ⟨rfl,hb4⟩
         have h4:=hXd.below hb4;have o4:=h1.below hb4 h1.lt;have k4:=kd.below hb4 kd.lt;have n4:=zag hO2 (hb4.block O (zaP hO2 (by simp [DO.cells])))
         have y0:=o4.cell 0 _ rfl;have y5:=hc5 o4)))
  have hOl:O<w4.heap.size:=zaP n4 (by simp [DO.cells])
  have z10:=o4.cell 10 _ rfl;have z11:=o4.cell 11 _ rfl;have z17:=o4.cell 17 _ rfl;have z2:=o4.cell 2 _ rfl;have m2:=n4 2 _ rfl
  go_wp2_with fail
  go_cut [] from 22 to 44 (fun wx=>DWf fns nw (fun b=>A b∨b=w.heap.size) wx S P L Bs B I N r { s with nx:=u1,nw:=u2 } g∧Cl wx S (({ s with nx:=u1,nw:=u2 }:DS).row r P I stv (.pointer (some ⟨O,0,none⟩)) sgv puv)∧Cl wx w.heap.size [.int .i64 0,.int .i64 0,.int .i64 0]∧wx.rangeAt O 0 s.c.cells∧Dw.Mv (· =S) w4 wx)
  case first=>
    go_region_law (first
      | (go_simp;go_at_call 113;refine (hgo w4.drew).mono ?_;rintro en w5 ⟨rfl,hb5⟩;have p5:=(o4.kept (w':=w4.drew) rfl).below hb5 o4.lt;have y10:=p5.cell 10 _ rfl;have y11:=p5.cell 11 _ rfl;have f10:=p5.free 10;have f11:=p5.free 11))
    all_goals
      go_wp2_with fail
      go_meet
      have hb45:Below w4.heap.size w4 w5:=((Below.refl w4.heap.size w4).drew).trans hb5
      have h5:=((h4.below hb45).setRow (s':= { s with nx:=u1 }) 10 (.int .i64 u1) (by decide) (fun _ _ _ _=>rfl) rfl rfl rfl rfl).setRow (s':= { s with nx:=u1,nw:=u2 }) 11 (.bool u2) (by decide) (fun _ _ _ _=>rfl) rfl rfl rfl rfl
      have hmS:Dw.Mv (· =S) w4 ((w5.setCell ⟨S,10,none⟩ (.int .i64 u1)).setCell ⟨S,11,none⟩ (.bool u2)):=zaj (K:=(· =S)) (zaj (K:=(· =S)) (zaa hb45) S 10 _ rfl) S 11 _ rfl
      exact ⟨h5,(p5.set 10 (.int .i64 u1) (by show 10<27;decide)).set 11 (.bool u2) (by show 11<27;decide),k4.kept (hmS.block _ k4.lt (by omega)),zag n4 (hmS.block O hOl hOS),hmS⟩
  case rest=>
    obtain ⟨hc1,hc2,hc3,hc4,hc5'⟩:=hcut
    have hOc:O<wc.heap.size:=zaP hc4 (by simp [DO.cells])
    clear z10 z11 z17 z2 m2 y0 y5 c0 c5 hc5
    have hall:=((((zaa (K:=(· =S)) hbx).trans (zaa hbd)).trans (zaa hb4))).trans hc5'
    have hsz1:=hbx.size;have hsz2:=hb4.size;have hsz3:=hc5'.size
    simp only [zas] at hsz1
    have hsz4:w.heap.size<wc.heap.size:=hc3.lt
    have hcs:wv/65536%4=0∨wv/65536%4=2∨(wv/65536%4=1∨wv/65536%4=3):=by omega
    rcases hcs with hm|hm|hm
    · have ht:it=true:=by rw [hit.out];unfold zfV;rw [if_pos hm]
      clear hit
      subst ht
      rw [hm] at hand
      clear hm
      go_wp2_with (first
      | (go_at_call 120;refine (hrv _).mono ?_;rintro en w6 ⟨rfl,hb6⟩
         have hbY:=(Below.refl w6.heap.size w6).alloc (Nat.le_refl _) (Obj.cells #[.int .u16 (wv%65536),.int .u16 (wv/65536)] 192)
         have hb67:=hb6.trans (hbY.mono hb6.size)
         have h7:=hc1.below hb67;have o7:=hc2.below hb67 hc2.lt;have k7:=hc3.below hb67 hc3.lt;have n7:=zag hc4 (hb67.block O hOc)
         have y7:=Cl.new w6 #[.int .u16 (wv%65536),.int .u16 (wv/65536)] 192
         have x1:=y7.cell 1 _ rfl;have x0:=y7.cell 0 _ rfl;have x24:=o7.cell 24 _ rfl;have f24:=o7.free 24
         have b0:=k7.cell 0 _ rfl;have b1:=k7.cell 1 _ rfl;have b2:=k7.cell 2 _ rfl;have q0:=k7.free 0;have q1:=k7.free 1;have q2:=k7.free 2
         have h8:=h7.setRow (s':= { s with nx:=u1,nw:=u2,kk:=true }) 24 (.bool true) (by decide) (fun _ _ _ _=>rfl) rfl rfl rfl rfl
         have hm8:Dw.Mv (· =S) (w6.alloc (Obj.cells #[.int .u16 (wv%65536),.int .u16 (wv/65536)] 192)) ((w6.alloc (Obj.cells #[.int .u16 (wv%65536),.int .u16 (wv/65536)] 192)).setCell ⟨S,24,none⟩ (.bool true)):=zaj (zaa (Below.refl _ _)) S 24 _ rfl
         have k8:=k7.kept (hm8.block _ k7.lt (by omega));have o8:=o7.set 24 (.bool true) (by show 24<27;decide)
         have d0:=k8.cell 0 _ rfl;have d1:=k8.cell 1 _ rfl;have d2:=k8.cell 2 _ rfl;have g0:=k8.free 0;have g1:=k8.free 1;have g2:=k8.free 2)
      | go_in)
      have kA:=(((k8.set 0 (.int .i64 2) (by simp)).set 1 (.int .i64 11) (by simp)).set 2 (.int .i64 0) (by simp))
      refine bodyPost_ret (zaB rfl _ _ w.heap.size [.int .i64 2,.int .i64 11,.int .i64 0] _ rfl (fun j y hy=>by rw [Nat.zero_add];exact kA.cell j y hy) underlying54 rfl (by kernel_rfl)) rfl ?_
      exact ⟨rfl,h8.fin h.aS h.aI h.aB ⟨by omega,by omega,by omega,by omega,by omega,by omega⟩ (zaj (zaj (zaj (zaa (K:=(· =w.heap.size)) (Below.refl _ _)) w.heap.size 0 _ rfl) w.heap.size 1 _ rfl) w.heap.size 2 _ rfl),zai (zai (zai ((hall.trans (zaa hb67)).trans hm8) w.heap.size 0 _ (.inr (Nat.le_refl _))) w.heap.size 1 _ (.inr (Nat.le_refl _))) w.heap.size 2 _ (.inr (Nat.le_refl _))⟩
    · rw [hm] at hand
      go_wp2_with (first
      | (go_at_call 120;refine (hrv _).mono ?_;rintro en w6 ⟨rfl,hb6⟩
         have hbY:=(Below.refl w6.heap.size w6).alloc (Nat.le_refl _) (Obj.cells #[.int .u16 (wv%65536),.int .u16 (wv/65536)] 192)
         have hb67:=hb6.trans (hbY.mono hb6.size)
         have h7:=hc1.below hb67;have o7:=hc2.below hb67 hc2.lt;have k7:=hc3.below hb67 hc3.lt;have n7:=zag hc4 (hb67.block O hOc)
         have y7:=Cl.new w6 #[.int .u16 (wv%65536),.int .u16 (wv/65536)] 192
         have x1:=y7.cell 1 _ rfl;have x0:=y7.cell 0 _ rfl;have x24:=o7.cell 24 _ rfl;have f24:=o7.free 24
         have b0:=k7.cell 0 _ rfl;have b1:=k7.cell 1 _ rfl;have b2:=k7.cell 2 _ rfl;have q0:=k7.free 0;have q1:=k7.free 1;have q2:=k7.free 2
         have hsz6:=hb6.size
         have h8:=h7.setRow (s':= { s with nx:=u1,nw:=u2,kk:=true }) 24 (.bool true) (by decide) (fun _ _ _ _=>rfl) rfl rfl rfl rfl
         have hm8:Dw.Mv (· =S) (w6.alloc (Obj.cells #[.int .u16 (wv%65536),.int .u16 (wv/65536)] 192)) ((w6.alloc (Obj.cells #[.int .u16 (wv%65536),.int .u16 (wv/65536)] 192)).setCell ⟨S,24,none⟩ (.bool true)):=zaj (zaa (Below.refl _ _)) S 24 _ rfl
         have k8:=k7.kept (hm8.block _ k7.lt (by omega));have o8:=o7.set 24 (.bool true) (by show 24<27;decide)
         have d0:=k8.cell 0 _ rfl;have d1:=k8.cell 1 _ rfl;have d2:=k8.cell 2 _ rfl;have g0:=k8.free 0;have g1:=k8.free 1;have g2:=k8.free 2
         have y8:=y7.kept (hm8.block _ y7.lt (by omega));have e0:=y8.cell 0 _ rfl;have e2:=o8.cell 2 _ rfl;have e10:=o8.cell 10 _ rfl;have e11:=o8.cell 11 _ rfl;have e17:=o8.cell 17 _ rfl;have e24:=o8.cell 24 _ rfl;have p24:=o8.free 24
         have n8:=zag n7 (hm8.block O (Nat.lt_of_lt_of_le hOc hb67.size) hOS))
      | go_in)
      have hO8:O<((w6.alloc (Obj.cells #[.int .u16 (wv%65536),.int .u16 (wv/65536)] 192)).setCell ⟨S,24,none⟩ (.bool true)).heap.size:=by have:=hb67.size;have:=hm8.size;omega
      generalize hW8:((w6.alloc (Obj.cells #[.int .u16 (wv%65536),.int .u16 (wv/65536)] 192)).setCell ⟨S,24,none⟩ (.bool true))=W8 at h8 hm8 k8 o8 d0 d1 d2 g0 g1 g2 y8 e0 e2 e10 e11 e17 e24 p24 n8 hO8 ⊢
      clear hW8
      have hy8:=y8.lt
      by_cases hlt2:wv%32768<r.n
      · have ht:it=zp9 r.n (wv%32768) (decide (wv/32768%2=1)) u1 u2 s.c.ct:=by rw [hit.out];unfold zfV;rw [if_neg (by omega),if_pos hm,if_pos hlt2]
        clear hit
        rw [if_pos hlt2,if_pos hlt2] at hsrd
        have hn2:=fun w'=>hneed (ea:=wv%32768) (ew:=decide (wv/32768%2=1)) ⟨hpos,hlt2⟩ w'
        rw [←ht] at hn2
        clear ht hlt2 hm hneed hpos
        generalize decide (wv/32768%2=1)=eb at hsrd hn2
        generalize wv%32768=ea at hsrd hn2
        go_cut [7,8] from 62 to 72 (fun z e8 wx=> ∃Zb,z= .pointer (some ⟨Zb,0,none⟩)∧e8= .int .i64 0∧Cl wx Zb [.int .i64 ea,.bool eb]∧DWf fns nw (fun b=>A b∨b=w.heap.size) wx S P L Bs B I N r ({ s with nx:=u1,nw:=u2,kk:=true }:DS) g∧Cl wx S (({ s with nx:=u1,nw:=u2,kk:=true }:DS).row r P I stv (.pointer (some ⟨O,0,none⟩)) sgv puv)∧Cl wx w.heap.size [.int .i64 0,.int .i64 0,.int .i64 0]∧wx.rangeAt O 0 s.c.cells∧Dw.Mv (· =S) W8 wx∧Zb≠S)
        case first=>
          have hbz0:=(Below.refl W8.heap.size W8).alloc (Nat.le_refl _) (Obj.cells #[.int .i64 0,.bool false] 64)
          have ez0:=(y8.below hbz0 y8.lt).cell 0 _ rfl;have ez2:=(o8.below hbz0 o8.lt).cell 2 _ rfl
          go_region_law (first
            | (go_simp;go_at_call 121;refine (hsrd (W8.drew)).mono ?_;rintro en w9 ⟨rfl,hb9⟩;have hd9:=((Below.refl W8.heap.size W8).drew).trans (hb9.mono (Nat.le_refl _)))
            | (go_simp;go_at_call 121;refine (hsrd ((W8.alloc (Obj.cells #[.int .i64 0,.bool false] 64)).drew)).mono ?_;rintro en w9 ⟨rfl,hb9⟩
               have hd9a:=((Below.refl (W8.alloc (Obj.cells #[.int .i64 0,.bool false] 64)).heap.size (W8.alloc (Obj.cells #[.int .i64 0,.bool false] 64))).drew).trans (hb9.mono (Nat.le_refl _))
               have hd9:=((Below.refl W8.heap.size W8).alloc (Nat.le_refl _) (Obj.cells #[.int .i64 0,.bool false] 64)).trans (hd9a.mono (by simp))
               have zc:=(Cl.new W8 #[.int .i64 0,.bool false] 64).below hd9a (by simp)
               have zc0:=zc.cell 0 _ rfl;have zc1:=zc.cell 1 _ rfl;have zf0:=zc.free 0;have zf1:=zc.free 1))
          all_goals
            go_wp2_with fail
            go_meet
            first
              | exact (fun (hfin:Below W8.heap.size W8 (w9.alloc (Obj.cells #[.int .i64 ea,.bool eb] 64)))=>⟨w9.heap.size,rfl,rfl,Cl.new w9 _ _,h8.below hfin,o8.below hfin o8.lt,k8.below hfin k8.lt,zag n8 (hfin.block O hO8),zaa hfin,by have h1:=hd9.size;omega⟩) (hd9.alloc hd9.size _)
              | exact (fun (hfin:Below W8.heap.size W8 ((w9.setCell ⟨W8.heap.size,0,none⟩ (.int .i64 ea)).setCell ⟨W8.heap.size,1,none⟩ (.bool eb)))=>⟨W8.heap.size,rfl,rfl,(zc.set 0 (.int .i64 ea) (by simp)).set 1 (.bool eb) (by simp),h8.below hfin,o8.below hfin o8.lt,k8.below hfin k8.lt,zag n8 (hfin.block O hO8),zaa hfin,by omega⟩) (zbu (zai (zai (zaa (K:=fun _=>False) hd9) W8.heap.size 0 _ (.inr (Nat.le_refl _))) W8.heap.size 1 _ (.inr (Nat.le_refl _))))
        case rest=>
          obtain ⟨Zb,rfl,rfl,zZ,h10,o10,k10,n10,hm10,hZS⟩:=hcut
          have l0:=zZ.cell 0 _ rfl;have l1:=zZ.cell 1 _ rfl;have l10:=o10.cell 10 _ rfl;have l11:=o10.cell 11 _ rfl;have l17:=o10.cell 17 _ rfl;have l2:=o10.cell 2 _ rfl;have l02:=n10 2 _ rfl;have l24:=o10.cell 24 _ rfl;have lf24:=o10.free 24
          have d0:=k10.cell 0 _ rfl;have d1:=k10.cell 1 _ rfl;have d2:=k10.cell 2 _ rfl;have g0:=k10.free 0;have g1:=k10.free 1;have g2:=k10.free 2
          have hmv10:=((hall.trans (zaa hb67)).trans hm8).trans hm10
          clear e0 e2 e10 e11 e17 e24 p24
          go_wp2_with fail
          go_region_held3 (fun w'=>w'.cell? ⟨Zb,0,none⟩=some (.int .i64 ea)∧w'.cell? ⟨Zb,1,none⟩=some (.bool eb)∧w'.cell? ⟨S,10,none⟩=some (.int .i64 u1)∧w'.cell? ⟨S,11,none⟩=some (.bool u2)∧w'.cell? ⟨S,17,none⟩=some (.pointer (some ⟨O,0,none⟩))∧w'.cell? ⟨O,2,none⟩=some (.int .i64 s.c.ct)∧w'.cell? ⟨S,2,none⟩=some (.int .i64 r.n)) (go_keep)
            ((first
              | (go_at_call 122;refine (hn2 _).mono ?_;rintro en w12 ⟨rfl,hb12⟩
                 have hb12:=hb12
                 have h12:=h10.below ((Below.refl _ _).drew.trans (hb12.mono (Nat.le_refl _)));have o12:=o10.below ((Below.refl _ _).drew.trans (hb12.mono (Nat.le_refl _))) o10.lt;have k12:=k10.below ((Below.refl _ _).drew.trans (hb12.mono (Nat.le_refl _))) k10.lt;have n12:=zag n10 (((Below.refl _ _).drew.trans (hb12.mono (Nat.le_refl _))).block O (zaP n10 (by simp [DO.cells])))
                 have m12:=zZ.below ((Below.refl _ _).drew.trans (hb12.mono (Nat.le_refl _))) zZ.lt
                 have v0:=m12.cell 0 _ rfl;have v1:=m12.cell 1 _ rfl;have v10:=o12.cell 10 _ rfl;have v11:=o12.cell 11 _ rfl;have v17:=o12.cell 17 _ rfl;have v2:=o12.cell 2 _ rfl;have v02:=n12 2 _ rfl;have v24:=o12.cell 24 _ rfl;have vf24:=o12.free 24
                 have h13:=h12.setRow (s':= { s with nx:=u1,nw:=u2,kk:=it }) 24 (.bool it) (by decide) (fun _ _ _ _=>rfl) rfl rfl rfl rfl
                 have hm13:Dw.Mv (· =S) w12 (w12.setCell ⟨S,24,none⟩ (.bool it)):=zaj (K:=(· =S)) (zaa (Below.refl _ _)) S 24 _ rfl
                 have k13:=k12.kept (hm13.block _ k12.lt (by omega));have o13:=o12.set 24 (.bool it) (by show 24<27;decide);have m13:=m12.kept (hm13.block _ m12.lt hZS);have n13:=zag n12 (hm13.block O (zaP n12 (by simp [DO.cells])) hOS)
                 have i0:=m13.cell 0 _ rfl;have i1:=m13.cell 1 _ rfl;have i10:=o13.cell 10 _ rfl;have i11:=o13.cell 11 _ rfl;have i17:=o13.cell 17 _ rfl;have i2:=o13.cell 2 _ rfl;have i02:=n13 2 _ rfl
                 have s0:=k13.cell 0 _ rfl;have s1:=k13.cell 1 _ rfl;have s2:=k13.cell 2 _ rfl;have t0:=k13.free 0;have t1:=k13.free 1;have t2:=k13.free 2
                 have hmv13:=(hmv10.trans (zaa ((Below.refl _ _).drew.trans (hb12.mono (Nat.le_refl _))))).trans hm13)))
          all_goals
            go_wp2_with fail
            have kA:=(((k13.set 0 (.int .i64 2) (by simp)).set 1 (.int .i64 11) (by simp)).set 2 (.int .i64 0) (by simp))
            refine bodyPost_ret (zaB rfl _ _ w.heap.size [.int .i64 2,.int .i64 11,.int .i64 0] _ rfl (fun j y hy=>by rw [Nat.zero_add];exact kA.cell j y hy) underlying54 rfl (by kernel_rfl)) rfl ?_
            exact ⟨rfl,h13.fin h.aS h.aI h.aB ⟨by omega,by omega,by omega,by omega,by omega,by omega⟩ (zaj (zaj (zaj (zaa (K:=(· =w.heap.size)) (Below.refl _ _)) w.heap.size 0 _ rfl) w.heap.size 1 _ rfl) w.heap.size 2 _ rfl),zai (zai (zai (hmv13) w.heap.size 0 _ (.inr (Nat.le_refl _))) w.heap.size 1 _ (.inr (Nat.le_refl _))) w.heap.size 2 _ (.inr (Nat.le_refl _))⟩
      · have ht:it=true:=by rw [hit.out];unfold zfV;rw [if_neg (by omega),if_pos hm,if_neg hlt2]
        clear hit
        subst ht
        rw [if_neg hlt2,if_neg hlt2] at hsrd
        clear hm hneed hpos hlt2
        go_cut [7,8] from 62 to 72 (fun z e8 wx=> ∃Zb,z= .pointer (some ⟨Zb,0,none⟩)∧e8= .int .i64 4∧Cl wx Zb [.int .i64 0,.bool false]∧DWf fns nw (fun b=>A b∨b=w.heap.size) wx S P L Bs B I N r ({ s with nx:=u1,nw:=u2,kk:=true }:DS) g∧Cl wx S (({ s with nx:=u1,nw:=u2,kk:=true }:DS).row r P I stv (.pointer (some ⟨O,0,none⟩)) sgv puv)∧Cl wx w.heap.size [.int .i64 0,.int .i64 0,.int .i64 0]∧wx.rangeAt O 0 s.c.cells∧Dw.Mv (· =S) W8 wx∧Zb≠S)
        case first=>
          have hbz0:=(Below.refl W8.heap.size W8).alloc (Nat.le_refl _) (Obj.cells #[.int .i64 0,.bool false] 64)
          have ez0:=(y8.below hbz0 y8.lt).cell 0 _ rfl;have ez2:=(o8.below hbz0 o8.lt).cell 2 _ rfl
          go_region_law (first
            | (go_simp;go_at_call 121;refine (hsrd (W8.drew)).mono ?_;rintro en w9 ⟨rfl,hb9⟩;have hd9:=((Below.refl W8.heap.size W8).drew).trans (hb9.mono (Nat.le_refl _)))
            | (go_simp;go_at_call 121;refine (hsrd ((W8.alloc (Obj.cells #[.int .i64 0,.bool false] 64)).drew)).mono ?_;rintro en w9 ⟨rfl,hb9⟩
               have hd9a:=((Below.refl (W8.alloc (Obj.cells #[.int .i64 0,.bool false] 64)).heap.size (W8.alloc (Obj.cells #[.int .i64 0,.bool false] 64))).drew).trans (hb9.mono (Nat.le_refl _))
               have hd9:=((Below.refl W8.heap.size W8).alloc (Nat.le_refl _) (Obj.cells #[.int .i64 0,.bool false] 64)).trans (hd9a.mono (by simp))
               have zc:=(Cl.new W8 #[.int .i64 0,.bool false] 64).below hd9a (by simp)
               have zc0:=zc.cell 0 _ rfl;have zc1:=zc.cell 1 _ rfl;have zf0:=zc.free 0;have zf1:=zc.free 1))
          all_goals
            go_wp2_with fail
            go_meet
            first
              | exact (fun (hfin:Below W8.heap.size W8 (w9.alloc (Obj.cells #[.int .i64 0,.bool false] 64)))=>⟨w9.heap.size,rfl,rfl,Cl.new w9 _ _,h8.below hfin,o8.below hfin o8.lt,k8.below hfin k8.lt,zag n8 (hfin.block O hO8),zaa hfin,by have h1:=hd9.size;omega⟩) (hd9.alloc hd9.size _)
              | exact (fun (hfin:Below W8.heap.size W8 ((w9.setCell ⟨W8.heap.size,0,none⟩ (.int .i64 0)).setCell ⟨W8.heap.size,1,none⟩ (.bool false)))=>⟨W8.heap.size,rfl,rfl,(zc.set 0 (.int .i64 0) (by simp)).set 1 (.bool false) (by simp),h8.below hfin,o8.below hfin o8.lt,k8.below hfin k8.lt,zag n8 (hfin.block O hO8),zaa hfin,by omega⟩) (zbu (zai (zai (zaa (K:=fun _=>False) hd9) W8.heap.size 0 _ (.inr (Nat.le_refl _))) W8.heap.size 1 _ (.inr (Nat.le_refl _))))
        case rest=>
          obtain ⟨Zb,rfl,rfl,zZ,h10,o10,k10,n10,hm10,hZS⟩:=hcut
          have l0:=zZ.cell 0 _ rfl;have l1:=zZ.cell 1 _ rfl;have l10:=o10.cell 10 _ rfl;have l11:=o10.cell 11 _ rfl;have l17:=o10.cell 17 _ rfl;have l2:=o10.cell 2 _ rfl;have l02:=n10 2 _ rfl;have l24:=o10.cell 24 _ rfl;have lf24:=o10.free 24
          have d0:=k10.cell 0 _ rfl;have d1:=k10.cell 1 _ rfl;have d2:=k10.cell 2 _ rfl;have g0:=k10.free 0;have g1:=k10.free 1;have g2:=k10.free 2
          have hmv10:=((hall.trans (zaa hb67)).trans hm8).trans hm10
          clear e0 e2 e10 e11 e17 e24 p24
          go_wp2_with fail
          have kA:=(((k10.set 0 (.int .i64 2) (by simp)).set 1 (.int .i64 11) (by simp)).set 2 (.int .i64 0) (by simp))
          refine bodyPost_ret (zaB rfl _ _ w.heap.size [.int .i64 2,.int .i64 11,.int .i64 0] _ rfl (fun j y hy=>by rw [Nat.zero_add];exact kA.cell j y hy) underlying54 rfl (by kernel_rfl)) rfl ?_
          exact ⟨rfl,h10.fin h.aS h.aI h.aB ⟨by omega,by omega,by omega,by omega,by omega,by omega⟩ (zaj (zaj (zaj (zaa (K:=(· =w.heap.size)) (Below.refl _ _)) w.heap.size 0 _ rfl) w.heap.size 1 _ rfl) w.heap.size 2 _ rfl),zai (zai (zai (hmv10) w.heap.size 0 _ (.inr (Nat.le_refl _))) w.heap.size 1 _ (.inr (Nat.le_refl _))) w.heap.size 2 _ (.inr (Nat.le_refl _))⟩
    · have ht:it=false:=by rw [hit.out];unfold zfV;rw [if_neg (by omega),if_neg (by omega)]
      clear hit
      subst ht
      rcases hm with hm|hm
      all_goals
        rw [hm] at hand
        go_wp2_with (first
      | (go_at_call 120;refine (hrv _).mono ?_;rintro en w6 ⟨rfl,hb6⟩
         have hbY:=(Below.refl w6.heap.size w6).alloc (Nat.le_refl _) (Obj.cells #[.int .u16 (wv%65536),.int .u16 (wv/65536)] 192)
         have hb67:=hb6.trans (hbY.mono hb6.size)
         have h7:=hc1.below hb67;have o7:=hc2.below hb67 hc2.lt;have k7:=hc3.below hb67 hc3.lt;have n7:=zag hc4 (hb67.block O hOc)
         have y7:=Cl.new w6 #[.int .u16 (wv%65536),.int .u16 (wv/65536)] 192
         have x1:=y7.cell 1 _ rfl;have x0:=y7.cell 0 _ rfl;have x24:=o7.cell 24 _ rfl;have f24:=o7.free 24
         have b0:=k7.cell 0 _ rfl;have b1:=k7.cell 1 _ rfl;have b2:=k7.cell 2 _ rfl;have q0:=k7.free 0;have q1:=k7.free 1;have q2:=k7.free 2
         skip)
      | go_in)
        have kA:=(((k7.set 0 (.int .i64 2) (by simp)).set 1 (.int .i64 11) (by simp)).set 2 (.int .i64 0) (by simp))
        refine bodyPost_ret (zaB rfl _ _ w.heap.size [.int .i64 2,.int .i64 11,.int .i64 0] _ rfl (fun j y hy=>by rw [Nat.zero_add];exact kA.cell j y hy) underlying54 rfl (by kernel_rfl)) rfl ?_
        exact ⟨rfl,(show DWf fns nw (fun b=>A b∨b=w.heap.size) _ S P L Bs B I N r { s with nx:=u1,nw:=u2,kk:=false } g from hkk▸h7).fin h.aS h.aI h.aB ⟨by omega,by omega,by omega,by omega,by omega,by omega⟩ (zaj (zaj (zaj (zaa (K:=(· =w.heap.size)) (Below.refl _ _)) w.heap.size 0 _ rfl) w.heap.size 1 _ rfl) w.heap.size 2 _ rfl),zai (zai (zai (hall.trans (zaa hb67)) w.heap.size 0 _ (.inr (Nat.le_refl _))) w.heap.size 1 _ (.inr (Nat.le_refl _))) w.heap.size 2 _ (.inr (Nat.le_refl _))⟩
end
end Go.Proofs
namespace Go.Proofs
open Go.Dw Go.RowKit Go.Maps Go.Sort Go.Deep
theorem Tryz.DB.goto {r:Rg} {s:DS} (h:DB r s) {k:Nat} (hk:(k≤5∧1≤s.ph∧s.ph≤5)∨(11≤k∧k≤16)):DB r (s.goto k):=
 ⟨h.nx,h.sx,h.wr,h.el,h.nd,h.sum,h.own,fun q1 q2=>(by
  have q1:1≤k:=q1
  have q2:k≤5:=q2
  exact h.c (by omega) (by omega)),fun q1 q2=>(by
  have q1:1≤k:=q1
  have q2:k≤5:=q2
  exact h.pu (by omega) (by omega)),h.ps,h.sg,(by show k≤5∨(11≤k∧k≤16);omega),fun _=>rfl⟩
theorem Tryz.DB.stopN {r:Rg} {s:DS} (h:DB r s) (hb:s.br=false):DB r ({ s with nn:=true }:DS).stop:=
 ⟨h.nx,h.sx,h.wr,h.el,h.nd,h.sum,h.own,fun q=>absurd q (by show¬1≤0;decide),fun q=>absurd q (by show¬1≤0;decide),h.ps,h.sg,.inl (Nat.zero_le _),fun q=>by
  rcases q with q|q
  ·exact absurd rfl q
  ·have q:s.br=true:=q;rw [hb] at q;cases q⟩
theorem Tryz.DB.step {r:Rg} {s:DS} {g:Nat→Int} (h:DB r s) (hg: ∀j,0≤g j∧g j<256) (hn:1≤r.n∧r.n≤32768):DB r (zaO r s g).2.2.1:=by
 unfold zaO
 split
 ·exact h
 ·split
  ·exact h
  ·rename_i hb hp
   have hbr:s.br=false:=by simpa using hb
   have hph:=h.ph
   have hcs:s.ph=1∨s.ph=2∨s.ph=3∨s.ph=4∨s.ph=5∨s.ph=11∨s.ph=12∨s.ph=13∨s.ph=14∨s.ph=15∨s.ph=16:=by omega
   rcases hcs with q|q|q|q|q|q|q|q|q|q|q<;>rw [q]<;>unfold zgd<;>simp only
   ·exact h.goto (.inl ⟨by decide,by omega,by omega⟩)
   ·exact h.goto (.inl ⟨by decide,by omega,by omega⟩)
   ·exact h.goto (.inl ⟨by decide,by omega,by omega⟩)
   ·exact h.goto (.inl ⟨by decide,by omega,by omega⟩)
   ·have hc:=(h.el _ (h.c (by omega) (by omega))).2.2
    exact ⟨ze8 h.nx ⟨by omega,hc.2⟩,h.sx,h.wr,h.el,h.nd,h.sum,h.own,fun q=>absurd q (by show¬1≤0;decide),fun q=>absurd q (by show¬1≤0;decide),h.ps,h.sg,.inl (Nat.zero_le _),fun q=>by
     rcases q with q|q
     ·exact absurd rfl q
     ·have q:s.br=true:=q;rw [hbr] at q;cases q⟩
   ·split
    ·exact h.goto (.inr (by decide))
    ·split
     ·exact h.goto (.inr (by decide))
     ·exact h.stopN hbr
   ·exact h.goto (.inr (by decide))
   ·exact h.goto (.inr (by decide))
   ·split
    ·exact h.goto (.inr (by decide))
    ·exact h.stopN hbr
   ·exact h.goto (.inr (by decide))
   ·split
    ·exact ⟨h.nx,h.sx,⟨Int.le_refl _,by show (0:Int)<4294967296;decide⟩,h.el,h.nd,h.sum,h.own,fun q=>absurd q (by show¬1≤0;decide),fun q=>absurd q (by show¬1≤0;decide),h.ps,h.sg,.inl (Nat.zero_le _),fun _=>rfl⟩
    ·rename_i e he
     obtain ⟨hm,hid⟩:=zce he
     have hel:=h.el e hm
     have hs:=zlb hm h.nd
     have hsum:=h.sum
     have hown:=h.own
     refine ⟨h.nx,ze8 h.sx ⟨by omega,hel.2.2.2⟩,⟨Int.emod_nonneg _ (by decide),Int.emod_lt_of_pos _ (by decide)⟩,fun x hx=>h.el x ((zfo _ _).subset hx),h.nd.sublist ((zfo _ _).map _),?_,by show 0≤s.own+e.ct;omega,fun q=>absurd q (by show¬1≤0;decide),fun q=>absurd q (by show¬1≤0;decide),h.ps,h.sg,.inl (Nat.zero_le _),fun q=> ?_⟩
     ·show s.own+e.ct+((za8 s.L e.id).map (·.ct)).sum=r.n
      omega
     ·rcases q with q|q
      ·exact absurd rfl q
      ·have q:s.br=true:=q;rw [hbr] at q;cases q
def Tryz.zap (L:List DO):List Value:=L.flatMap DO.cells
theorem Tryz.zaY: ∀L:List DO,(zap L).length=L.length*3
 | [] => rfl
 | e::r=>by
  have:=zaY r
  unfold zap at this ⊢
  rw [List.flatMap_cons,List.length_append,this,List.length_cons,show (DO.cells e).length=3 from rfl]
  omega
theorem Tryz.zch: ∀(L:List DO) (i:Nat) (hi:i<L.length),(zap L)[i*3]? =some (.int .i64 L[i].id)∧(zap L)[i*3+1]? =some (.int .i64 L[i].tk)∧(zap L)[i*3+2]? =some (.int .i64 L[i].ct)
 | e::r,0,_=>⟨rfl,rfl,rfl⟩
 | e::r,i+1,hi=>by
  have q:=zch r i (by simpa using hi)
  have e1:zap (e::r)= .int .i64 e.id:: .int .i64 e.tk:: .int .i64 e.ct::zap r:=rfl
  rw [e1,show (i+1)*3=i*3+1+1+1 by omega]
  simpa using q
section
variable {A A':Nat→Prop} {w w':World} {S P L Bs B N b2:Nat} {r:Tryz.Rg} {s s':Tryz.DS} {g g':Nat→Int} {lv lv':Value}
end
end Go.Proofs
namespace Go.Proofs
open Go.Dw Go.RowKit Go.Maps Go.Sort
structure Tryz.Ob (σ:Type) where
 L:σ→(Nat→Prop)→World→Prop
 T:Nat→Prop
 kept: ∀ {s F w w'},L s F w→(∀b,F b→w'.heap[b]? =w.heap[b]?)→w.heap.size≤w'.heap.size→L s F w'
 leans: ∀ {s F w},L s F w→ ∀b,T b→F b
section
variable {σ:Type} {O:Tryz.Ob σ} {X:Nat→Prop} {bX:Nat} {ρ:Val} {w0:World} {K:Nat→Prop} {b2:Nat} {sk:Nat→σ} {rows:Nat→List Tryz.LwR} {f:FuncId} {args:List AV} {res:AV} {k k':Nat}
end
section
variable {S P L Bs B M N:Nat} {r:Tryz.Rg} {s s':Tryz.PS×(Nat→Int)} {F F':Nat→Prop} {w w':World}
end
section
variable {X:Nat→Prop} {bX:Nat} {ρ:Val} {w0:World} {K:Nat→Prop} {S P L Bs B M N:Nat} {r:Tryz.Rg} {b2:Nat} {sk:Nat→Tryz.PS×(Nat→Int)} {rows:Nat→List Tryz.LwR} {f:FuncId} {args:List AV} {res:AV} {k k':Nat}
end
end Go.Proofs
namespace Go.Proofs
open Go.Dw Go.RowKit Go.Maps Go.Sort
section
variable {ρ:Val} {w0:World} {K:Nat→Prop} {X:Nat→Prop} {bX:Nat} {S P L Bs B M N:Nat} {r:Tryz.Rg} {b2:Nat} {sk:Nat→Tryz.PS×(Nat→Int)} {rows:Nat→List Tryz.LwR} {k k' q:Nat}
end
end Go.Proofs
namespace Go.Proofs
open Go.Dw Go.RowKit Go.Maps Go.Sort
structure Tryz.Pc where
 k:Int
 n:Int
 v:Int
 a:Int
 l:Int
 f:Int
 x:Int
 gd:Bool
 sv:Value
 sl:List Sg
structure Tryz.PmV where
 r:Rg
 c:Pc
 nacts:Int
 i:Int
 steps:Int
 na:Int
 nw:Bool
 h1:Int
 h2:Int
 pick:Int
 code:Int
 err:Int
 x:Int
 y:Int
 z:Int
 cnt:Int
 na2:Int
 nw2:Bool
 busy0:Bool
 busy1:Bool
 off:Bool
 ret:Bool
 busy:Bool
 mem:Value
 srv:Value
 acts:Value
section
variable {ρ:Val} {m:Tryz.PmV}
end
section
variable {W0:World} {X9 X15 S P L Bs B M:Nat} {r:Tryz.Rg} {av:Value} {acts:List Tryz.Pc} {s:Tryz.PS×(Nat→Int)} {i steps:Nat} {na:Int} {nw:Bool} {a:Act} {w:World}
end
end Go.Proofs
namespace Go.Proofs
open Go.Dw Go.RowKit Go.Maps Go.Sort Go.Deep
section
variable {A:Nat→Prop} {w:World} {S P L Bs B M N:Nat} {r:Tryz.Rg} {s:Tryz.PS} {g:Nat→Int}
end
end Go.Proofs
namespace Go.Proofs
open Go.Dw Go.RowKit Go.Maps Go.Sort Go.Deep
theorem Tryz.zmD (g:Nat→Int) (a:Nat): ∀k,zac g a (k+1)=g a+256*zac g (a+1) k
 | 0=>by simp [zac]
 | k+1=>by
  have ih:=zmD g a k
  rw [show zac g a (k+1+1)=zac g a (k+1)+g (a+(k+1))*256^(k+1) from rfl,ih,
   show zac g (a+1) (k+1)=zac g (a+1) k+g (a+1+k)*256^k from rfl,show a+(k+1)=a+1+k by omega]
  rw [Int.pow_succ,Int.mul_add,Int.add_assoc]
  congr 2
  rw [←Int.mul_assoc,Int.mul_comm _ 256]
set_option maxRecDepth 100000 in
theorem Tryz.zgA {g:Nat→Int} (hg: ∀j,0≤g j∧g j<256) (a X o c off n:Nat) (w:World) (h:w.rangeAt X o (row g a 16)) (hn:off+n≤16) (h8:1≤n∧n≤8):
  Calls prog 142 #[.slice (some ⟨X,o,none⟩) 16 c,.int .i64 off,.int .i64 n] w fun e w'=>e= .returned (.int .u64 (zac g (a+off) n))∧w'=w:=by
 obtain ⟨m0,rfl⟩: ∃m0,n=m0+1:=⟨n-1,by omega⟩
 have hn1:IntKind.wrap .i64 (((m0+1:Nat):Int)-1)=m0:=by rw [zaT (by omega) (by omega)];omega
 have hcell: ∀i,i<m0+1→w.cell? ⟨X,o+(off+i),none⟩=some (.int .u8 (g (a+off+i))):=fun i hi=>by
  have:=h (off+i) (.int .u8 (g (a+(off+i)))) (by unfold row;rw [List.getElem?_map,List.getElem?_range (by omega)];rfl)
  rw [this,Nat.add_assoc]
 go_enter func142,ntmps142
 go_wp2_with fail
 go_loopw [7,8] (fun v i wr=>wr=w∧((i= .int .i64 (-1)∧v= .int .u64 (zac g (a+off) (m0+1)))∨ ∃m:Nat,m≤m0∧i= .int .i64 m∧v= .int .u64 (zac g (a+off+(m+1)) (m0-m)))) (fun _ i _=>(RowKit.intOf i+1).toNat)
 case atStart=>exact ⟨rfl,.inr ⟨m0,Nat.le_refl _,rfl,by rw [Nat.sub_self];rfl⟩⟩
 case round=>
  obtain ⟨rfl,⟨rfl,rfl⟩|⟨m,hm,rfl,rfl⟩⟩:=hrel
  ·go_wp2_with fail
   go_ret
   exact ⟨rfl,rfl⟩
  ·have hc:=hcell m (by omega)
   have hgb:=hg (a+off+m)
   have hwb:=zaq g hg (a+off+(m+1)) (m0-m)
   have hpw:(256:Int)^(m0-m)≤256^7:=by
    exact_mod_cast Nat.pow_le_pow_right (by decide) (by omega:m0-m≤7)
   have h7:(256:Int)^7=72057594037927936:=by decide
   have hnext:zac g (a+off+m) (m0-m+1)=g (a+off+m)+256*zac g (a+off+(m+1)) (m0-m):=zmD g (a+off+m) (m0-m)
   generalize zac g (a+off+(m+1)) (m0-m)=V at hwb hnext ⊢
   generalize hB:g (a+off+m)=Bt at hc hgb hnext
   have e1:IntKind.wrap .u64 (256*V)=256*V:=zaN (by omega) (by omega)
   have e2:IntKind.wrap .u64 (256*V+Bt)=256*V+Bt:=zaN (by omega) (by omega)
   have e3:IntKind.wrap .u64 Bt=Bt:=zaN (by omega) (by omega)
   have e4:IntKind.wrap .i64 ((off:Int)+(m:Int))=((off+m:Nat):Int):=by rw [zaT (by omega) (by omega)];omega
   by_cases hm0:m=0
   ·have e5:IntKind.wrap .i64 ((m:Int)-1)= -1:=by rw [zaT (by omega) (by omega)];omega
    have hz:(fun _:Unit=>m)=fun _=>0:=by rw [hm0]
    clear hm0
    go_wp2_with fail
    have hm0:m=0:=congrFun hz ()
    refine ⟨⟨trivial,.inl ⟨rfl,?_⟩⟩,?_⟩
    ·have:zac g (a+off) (m0+1)=Bt+256*V:=by rw [←hnext,hm0];rfl
     rw [this,Int.add_comm]
    ·simp only [RowKit.intOf];omega
   ·have e5:IntKind.wrap .i64 ((m:Int)-1)=((m-1:Nat):Int):=by rw [zaT (by omega) (by omega)];omega
    have hpos:1≤m:=by omega
    clear hm0
    go_wp2_with fail
    refine ⟨⟨trivial,.inr ⟨m-1,by omega,rfl,?_⟩⟩,?_⟩
    ·rw [show m-1+1=m by omega,show m0-(m-1)=m0-m+1 by omega,hnext,Int.add_comm]
    ·simp only [RowKit.intOf];omega
end Go.Proofs
namespace Go.Proofs
open Go.Dw Go.RowKit Go.Maps Go.Sort
section
variable {σ:Type} {O:Tryz.Ob σ} {X:Nat→Prop} {bX:Nat} {ρ:Val} {w0:World} {K:Nat→Prop} {b2:Nat} {sk:Nat→σ} {rows ap:Nat→List Tryz.LwR}
end
end Go.Proofs
namespace Go.Proofs
open Go.Dw Go.RowKit Go.Maps Go.Sort
section
variable {σ:Type} {O:Tryz.Ob σ} {X:Nat→Prop} {bX:Nat} {ρ:Val} {w0:World} {K:Nat→Prop} {b2:Nat} {sk:Nat→σ} {rows:Nat→List Tryz.LwR} {f:FuncId} {args:List AV} {res:AV} {k k':Nat}
end
section
variable {ρ:Val} {w0:World} {K:Nat→Prop} {X:Nat→Prop} {bX:Nat} {S P L Bs B M N:Nat} {r:Tryz.Rg} {b2:Nat} {sk:Nat→Tryz.PS×(Nat→Int)} {rows:Nat→List Tryz.LwR} {k k' q:Nat}
end
end Go.Proofs
namespace Go.Proofs
open Go.Dw Go.RowKit Go.Maps Go.Sort
structure Tryz.TpV where
 r:Rg
 nl:Int
 nh:Int
 i:Int
 nb:Int
 spare:Int
 na:Int
 nw:Bool
 na2:Int
 nw2:Bool
 need:Int
 la:Int
 ll:Int
 lw:Bool
 good:Bool
 mem:Value
 sv:Value
 srv:Value
 bufs:Value
 hds:Value
 cts:Value
 wrs:Value
 ord:Value
 giv:Value
 usd:Value
section
variable {ρ:Val} {m:Tryz.TpV}
end
section
variable {W0:World} {H4 X13 X15 X16 S P L Bs B M:Nat} {r:Tryz.Rg} {av ov gv:Value} {ls:List (List Tryz.Sg)} {s:Tryz.PS×(Nat→Int)} {bs:List (List Tryz.Sg)} {spare:Int} {vh vc vb:Value} {i:Nat} {a:Act} {w:World}
end
end Go.Proofs
namespace Go.Proofs
open Go.Dw Go.RowKit Go.Maps Go.Sort
section
variable {W0:World} {H4 X13 X15 X16 S P L Bs B M:Nat} {r:Tryz.Rg} {av ov gv:Value} {ls:List (List Tryz.Sg)} {s:Tryz.PS×(Nat→Int)} {bs:List (List Tryz.Sg)} {spare:Int} {vh vc vb:Value} {i:Nat} {a:Act} {w:World}
end
end Go.Proofs
namespace Go.Proofs
open Go.Dw Go.RowKit Go.Maps Go.Sort Go.Deep
set_option maxRecDepth 100000 in
theorem Tryz.zdL {g:Nat→Int} (hg: ∀j,0≤g j∧g j<256) (a X o c:Nat) (w:World) (h:w.rangeAt X o (row g a 16)):
    Calls prog 96 #[.slice (some ⟨X,o,none⟩) 16 c] w fun e w'=>e= .returned (.tuple #[zi4 g a,.int .i64 0])∧Below w.heap.size w w':=by
  have hX:X<w.heap.size:=World.block_lt_of_cell? w _ (h 0 (.int .u8 (g (a+0))) (by unfold row;rw [List.getElem?_map,List.getElem?_range (by omega)];rfl))
  have hk: ∀w1,Below w.heap.size w w1→w1.rangeAt X o (row g a 16):=fun w1 hb=>zag h (hb.block X hX)
  have q0:=fun w1 hb=>zgA hg a X o c 0 8 w1 (hk w1 hb) (by omega) (by omega)
  have q1:=fun w1 hb=>zgA hg a X o c 8 4 w1 (hk w1 hb) (by omega) (by omega)
  have q2:=fun w1 hb=>zgA hg a X o c 12 2 w1 (hk w1 hb) (by omega) (by omega)
  have q3:=fun w1 hb=>zgA hg a X o c 14 2 w1 (hk w1 hb) (by omega) (by omega)
  have b1:=zaq g hg (a+8) 4
  have b2:=zaq g hg (a+12) 2
  have b3:=zaq g hg (a+14) 2
  have p4:(256:Int)^4=4294967296:=by decide
  have p2:(256:Int)^2=65536:=by decide
  have e1:IntKind.wrap .u32 (zac g (a+8) 4)=zac g (a+8) 4:=zs3 (by omega) (by omega)
  have e2:IntKind.wrap .u16 (zac g (a+12) 2)=zac g (a+12) 2:=zdF (by omega) (by omega)
  have e3:IntKind.wrap .u16 (zac g (a+14) 2)=zac g (a+14) 2:=zdF (by omega) (by omega)
  simp only [Nat.add_zero,Int.cast_ofNat_Int,Int.natCast_zero] at q0 q1 q2 q3
  unfold zi4
  generalize zac g a 8=W0 at q0 ⊢
  generalize zac g (a+8) 4=W1 at q1 e1 ⊢
  generalize zac g (a+12) 2=W2 at q2 e2 ⊢
  generalize zac g (a+14) 2=W3 at q3 e3 ⊢
  clear b1 b2 b3 p4 p2
  have hA:=(Below.refl w.heap.size w).alloc (Nat.le_refl _)
  go_enter func96,ntmps96
  go_wp2_with (first
    | (go_at_call_has 142 (Value.int IntKind.i64 0);refine (q0 _ (hA _)).mono ?_;rintro e w' ⟨rfl,hw⟩;have hw:=hw.symm;subst hw)
    | (go_at_call_has 142 (Value.int IntKind.i64 4);refine (q1 _ (hA _)).mono ?_;rintro e w' ⟨rfl,hw⟩;have hw:=hw.symm;subst hw)
    | (go_at_call_has 142 (Value.int IntKind.i64 12);refine (q2 _ (hA _)).mono ?_;rintro e w' ⟨rfl,hw⟩;have hw:=hw.symm;subst hw)
    | (go_at_call_has 142 (Value.int IntKind.i64 14);refine (q3 _ (hA _)).mono ?_;rintro e w' ⟨rfl,hw⟩;have hw:=hw.symm;subst hw)
    | go_in)
  refine bodyPost_ret (zaB rfl _ _ w.heap.size [.int .u64 W0,.int .u32 W1,.int .u16 W2,.int .u16 W3] _ rfl (fun j v hv=>by rw [Nat.zero_add];exact (Cl.new w _ _).cell j v hv) underlying74 rfl (by kernel_rfl)) rfl ?_
  exact ⟨rfl,hA _⟩
end Go.Proofs
namespace Go.Proofs
open Go.Dw Go.RowKit Go.Maps Go.Sort
section
variable {ρ:Val} {w0:World} {K:Nat→Prop} {X:Nat→Prop} {bX:Nat} {S P L Bs B M N:Nat} {r:Tryz.Rg} {b2:Nat} {sk:Nat→Tryz.PS×(Nat→Int)} {rows:Nat→List Tryz.LwR} {k k' q:Nat}
end
end Go.Proofs
namespace Go.Proofs
theorem Tryz.zkY {n:Nat} (l:List Value) (h:l.length=n):(⟨l⟩:Array Value)=((List.range n).map fun i=>(⟨l⟩:Array Value).getD i undef).toArray:=by
 refine Array.ext' ?_
 refine List.ext_getElem? fun i=> ?_
 simp only [List.getElem?_map]
 by_cases hi:i<n
 ·rw [List.getElem?_eq_getElem (by omega:i<l.length),List.getElem?_range hi]
  simp [Array.getD_eq_getD_getElem?,h,hi]
 ·rw [List.getElem?_eq_none (by omega),List.getElem?_eq_none (by simp;omega)]
  rfl
open Go.Dw Go.RowKit Go.Maps Go.Sort Go.Deep
def Tryz.DS.outs (s:DS):List Int:=(s.L.map (·.tk)).mergeSort leI
section
variable {A A' K:Nat→Prop} {w w':World} {S P L Bs B I N b2:Nat} {r:Tryz.Rg} {s s':Tryz.DS} {g g':Nat→Int} {lv lv':Value}
theorem Tryz.DW.keepA (h:DW A w S P L Bs B I N r s g) (hA: ∀b,b<w.heap.size→A' b→A b) (aS:A' S) (aI:A' I) (aB:A' B) (hl: ∀b,A' b→b<w'.heap.size) (hm:Dw.Mv K w w') (hK: ∀b,K b→A b) (hn: ¬K S∧ ¬K I∧ ¬K P∧ ¬K L∧ ¬K Bs∧ ¬K B):DW A' w' S P L Bs B I N r s g:=by
 obtain ⟨n1,n2,n3,n4,n5,n6⟩:=hn
 refine ⟨h.f.keepA hA aS aI aB hl (fun b hb q=>hm.block b hb ?_) hm.size,h.pb⟩
 rcases q with q|rfl|rfl|rfl|rfl|rfl|rfl
 ·exact fun k=>q (hK b k)
 all_goals assumption
end
structure Tryz.Ids where
 X7:Nat
 S:Nat
 P:Nat
 L:Nat
 Bs:Nat
 B:Nat
 M:Nat
 S2:Nat
 P2:Nat
 L2:Nat
 Bs2:Nat
 B2:Nat
 b2:Nat
section
variable {n0:Nat} {Z Z':Nat→Prop} {w w':World} {d:Tryz.Ids} {r:Tryz.Rg} {s1 s1':Tryz.DS} {g1 g1':Nat→Int} {s2 s2':Tryz.DS} {g2 g2':Nat→Int}
end
end Go.Proofs
namespace Go.Proofs
open Go.Dw Go.RowKit Go.Maps Go.Sort Go.Deep Go.ChangeShapes Go.WideShapes
structure Tryz.Dc where
 k:Int
 tk:Int
 sv:Value
 sl:List Sg
 n:Int
 v:Int
 gd:Bool
section
variable {H:Type} {enc:TypeId×Value→H} {W:World} {sp:Nat→Bool} {held:Bool} {fuel:Nat}
end
end Go.Proofs
namespace Go.Proofs
open Go.Dw Go.RowKit Go.Maps Go.Sort Go.Deep
theorem Tryz.zd2 {j k:Int} (hj:j≠k): ∀L:List DO,zby (za8 L k) j=zby L j
 | [] => rfl
 | e::r=>by
  unfold za8
  by_cases he:e.id=k
  ·rw [List.eraseP_cons_of_pos (by simpa using he)]
   have: ¬e.id=j:=fun q=>hj (q.symm.trans he)
   simp [zby,this]
  ·rw [List.eraseP_cons_of_neg (by simpa using he)]
   have ih:=zd2 hj r
   unfold za8 zby at ih
   unfold zby
   rw [List.find?_cons,List.find?_cons,ih]
theorem Tryz.zk8 {j k:Int} (hj:j≠k) (L:List DO):zdC (za8 L k) j=zdC L j:=by rw [←zbt,←zbt,zd2 hj]
theorem Tryz.zge {k:Int}: ∀ {L:List DO},(L.map (·.id)).Nodup→zdC (za8 L k) k=false
 | [], _=>rfl
 | e::r,h=>by
  rw [List.map_cons,List.nodup_cons] at h
  unfold za8
  by_cases he:e.id=k
  ·rw [List.eraseP_cons_of_pos (by simpa using he)]
   cases hq:zdC r k with
   | false=>rfl
   | true=>
    obtain ⟨x,hx,hxe⟩:=zc9.1 hq
    exact absurd (List.mem_map.2 ⟨x,hx,hxe.trans he.symm⟩) h.1
  ·rw [List.eraseP_cons_of_neg (by simpa using he)]
   have ih:=zge (k:=k) h.2
   unfold za8 zdC at ih
   unfold zdC
   rw [List.any_cons,ih]
   simpa using he
section
variable {fns fns':List Nat} {nw nw':Prop} {A A':Nat→Prop} {w w':World} {S P L Bs B I N:Nat} {r:Tryz.Rg} {s s':Tryz.DS} {g g':Nat→Int}
theorem Tryz.IdsW.del {n:Nat} {l:List DO} {k:Nat} (h:IdsW A w I n l) (hnd:(l.map (·.id)).Nodup) (aI:A I) (hk:k<n):IdsW A (w.setCell ⟨I,k,none⟩ (.pointer none)) I n (za8 l k):=by
 obtain ⟨vs,h1,h2,h3⟩:=h
 have hm:Dw.Mv (· =I) w (w.setCell ⟨I,k,none⟩ (.pointer none)):=zaj (K:=(· =I)) (zaa (Below.refl _ _)) I k _ rfl
 refine ⟨vs.set k (.pointer none),h1.set k _ (by omega),by rw [List.length_set];exact h2,fun j hj=> ?_⟩
 rw [List.length_set] at hj
 by_cases hjk:j=k
 ·subst hjk
  refine ⟨fun _=>by simp,fun e he=> ?_⟩
  have:=zge (k:=j) hnd
  rw [←zbt,he] at this
  cases this
 ·have hne:(j:Int)≠k:=by omega
  rw [zk8 hne,zd2 hne,List.getElem_set_ne (fun e=>hjk e.symm)]
  exact ⟨(h3 j hj).1,fun e he=>((h3 j hj).2 e he).setK (fun _ _ q=>q) fun b hb hn=>hm.block b hb fun q=>hn (by have q:b=I:=q;exact q▸aI)⟩
theorem Tryz.DWf.setIds (h:DWf fns nw A w S P L Bs B I N r s g) (hm:Dw.Mv (· =I) w w') {l':List DO} (hi:IdsW A w' I r.n.toNat l'):DWf fns nw A w' S P L Bs B I N r { s with L:=l' } g:=by
 have hk: ∀b,b<w.heap.size→ ¬A b→w'.heap[b]? =w.heap[b]? :=fun b hb hn=>hm.block b hb fun e=>hn (by have e:b=I:=e;exact e▸h.aI)
 obtain ⟨stv,nowv,sgv,puv,h1,h2,h3,h4,h5,h6⟩:=h.ptr hk
 have hM:=h.md
 exact ⟨⟨stv,nowv,sgv,puv,h1.kept (hm.block S h1.lt h.ne),h2,h3,h4,h5,h6⟩,hi,h.mem.kept (fun k hk' hq=>hm.block k hk' (by show¬k=I;rcases hq with q|q|q|q<;>(rw [q];simp [hM.1.symm,hM.2.1.symm,hM.2.2.1.symm,hM.2.2.2.symm]))) hm.size,h.ne,h.aS,h.aI,h.aB,fun b q=>Nat.lt_of_lt_of_le (h.lt b q) hm.size,h.rg,h.hN,h.fit,h.sd,h.md⟩
set_option maxRecDepth 100000 in
theorem Tryz.zk7 (h:DWf fns nw A w S P L Bs B I N r s g) (hs:0≤s.sx∧s.sx<r.n) (hel: ∀e∈s.L,e.id<r.n) (hget:zby s.L (zac g (4096+16*s.sx+8).toNat 8/4294967296%65536)=none):
    Calls prog 126 #[.pointer (some ⟨S,0,none⟩)] w fun e w'=>e= .returned (.tuple #[.agg #[.int .i64 2,.int .i64 1,.int .i64 s.sx],.bool false])∧DWf fns nw A w' S P L Bs B I N r s g∧Dw.Mv (· =S) w w':=by
  have hlt:=h.mvNe
  have hb:=h.rg.bnd
  have hd:=h.rg.d
  have hN:=h.hN
  have hF:=h.fit
  have hbx:=(Below.refl w.heap.size w).alloc (Nat.le_refl _) (Obj.cells #[.int .i64 0,.int .i64 0,.int .i64 0] 54)
  have k2:=Cl.new w #[.int .i64 0,.int .i64 0,.int .i64 0] 54
  have hX:=h.box (Obj.cells #[.int .i64 0,.int .i64 0,.int .i64 0] 54)
  obtain ⟨stv,nowv,sgv,puv,h1,h1b⟩:=hX.obj
  have c12:=h1.cell 12 _ rfl
  have hbY:=(Below.refl (w.alloc (Obj.cells #[.int .i64 0,.int .i64 0,.int .i64 0] 54)).heap.size (w.alloc (Obj.cells #[.int .i64 0,.int .i64 0,.int .i64 0] 54))).alloc (Nat.le_refl _) (Obj.cells #[.int .i64 2,.int .i64 1,.int .i64 s.sx] 54)
  have hY:=hX.below hbY
  have kY:=k2.below hbY k2.lt
  have y2:=Cl.new (w.alloc (Obj.cells #[.int .i64 0,.int .i64 0,.int .i64 0] 54)) #[.int .i64 2,.int .i64 1,.int .i64 s.sx] 54
  rw [zas] at y2
  have oY:=h1.below hbY h1.lt
  have hbd:=(Below.refl ((w.alloc (Obj.cells #[.int .i64 0,.int .i64 0,.int .i64 0] 54)).alloc (Obj.cells #[.int .i64 2,.int .i64 1,.int .i64 s.sx] 54)).heap.size ((w.alloc (Obj.cells #[.int .i64 0,.int .i64 0,.int .i64 0] 54)).alloc (Obj.cells #[.int .i64 2,.int .i64 1,.int .i64 s.sx] 54))).drew
  have hYd:=hY.below hbd
  have kYd:=kY.below hbd kY.lt
  have yd:=y2.below hbd y2.lt
  have od:=oY.below hbd oY.lt
  have hpl:=zbs hYd hs
  obtain ⟨a,ha,ha2⟩: ∃a:Nat,(a:Int)=r.d+16*s.sx+8∧a+8≤N:=⟨(r.d+16*s.sx+8).toNat,by omega,by omega⟩
  have e3:IntKind.wrap .u64 (r.d+16*s.sx+8)=(a:Int):=by rw [wrap_u64 _ (by omega) (by omega)];omega
  have ea:(4096+16*s.sx+8).toNat=a:=by omega
  rw [ea] at hget
  have hwb:=zaq g h.mem.byte a 8
  have hld:=zjh P L Bs B N a 8 g _ hYd.mem h.hN (by decide) ha2
  generalize zac g a 8=wv at hwb hld hget
  have hwb2:0≤wv∧wv<18446744073709551616:=⟨hwb.1,by omega⟩
  obtain ⟨id,hid,hid2⟩: ∃id:Nat,wv/4294967296%65536=id∧id<65536:=⟨(wv/4294967296%65536).toNat,by omega,by omega⟩
  have hid3:IntKind.wrap .u16 (wv/4294967296)=id:=by rw [←hid];unfold IntKind.wrap;simp [IntKind.signed,IntKind.bits]
  rw [hid] at hget
  have hn0:((r.n.toNat:Nat):Int)=r.n:=by omega
  have d0:=od.cell 0 _ rfl;have d12:=od.cell 12 _ rfl;have v0:=oY.cell 0 _ rfl;have v12:=oY.cell 12 _ rfl
  have hno:zdC s.L id=false:=by rw [←zbt,hget];rfl
  clear hs hb hd hN hF ha ha2 ea hwb hget hel
  go_enter func126,ntmps126
  go_wp2_with fail
  go_region_held3 (fun w'=>w'.cell? ⟨S,0,none⟩=some (.pointer (some ⟨P,0,none⟩))∧w'.cell? ⟨S,12,none⟩=some (.int .i64 s.sx)) (go_keep)
    ((first
      | (go_at_call 57;refine hpl.mono ?_;rintro en w3 ⟨rfl,hw3⟩;have hw3:=hw3.symm;subst hw3)
      | (go_at_call 119;refine hld.mono ?_;rintro en w4 ⟨rfl,hb4⟩
         have h4:=hYd.below hb4;have o4:=od.below hb4 od.lt;have k4:=kYd.below hb4 kYd.lt;have y4:=yd.below hb4 yd.lt
         have x0:=o4.cell 0 _ rfl;have x12:=o4.cell 12 _ rfl)))
  all_goals
    obtain ⟨vs,i1,i2,i3⟩:=h4.ids
    have o15:=o4.cell 15 _ rfl
    have u0:=y4.cell 0 _ rfl;have u1:=y4.cell 1 _ rfl;have u2:=y4.cell 2 _ rfl
    have b0:=k4.cell 0 _ rfl;have b1:=k4.cell 1 _ rfl;have b2:=k4.cell 2 _ rfl;have q0:=k4.free 0;have q1:=k4.free 1;have q2:=k4.free 2
    have hmv:=(((zaa (K:=(· =S)) hbx).trans (zaa hbY)).trans (zaa hbd)).trans (zaa hb4)
    by_cases hin:id<r.n.toNat
    · have hin':(id:Int)<r.n.toNat:=by omega
      have hin2: ¬(r.n.toNat:Int)≤id:=by omega
      have hcell:=i1.cell id _ (List.getElem?_eq_getElem (by omega))
      rw [(i3 id (by omega)).1 hno] at hcell
      clear i3
      go_wp2_with fail
      have kA:=(((k4.set 0 (.int .i64 2) (by simp)).set 1 (.int .i64 1) (by simp)).set 2 (.int .i64 s.sx) (by simp))
      refine bodyPost_ret (zaB rfl _ _ w.heap.size [.int .i64 2,.int .i64 1,.int .i64 s.sx] _ rfl (fun j y hy=>by rw [Nat.zero_add];exact kA.cell j y hy) underlying54 rfl (by kernel_rfl)) rfl ?_
      exact ⟨rfl,h4.fin h.aS h.aI h.aB ⟨by omega,by omega,by omega,by omega,by omega,by omega⟩ (zaj (zaj (zaj (zaa (K:=(· =w.heap.size)) (Below.refl _ _)) w.heap.size 0 _ rfl) w.heap.size 1 _ rfl) w.heap.size 2 _ rfl),zai (zai (zai (hmv) w.heap.size 0 _ (.inr (Nat.le_refl _))) w.heap.size 1 _ (.inr (Nat.le_refl _))) w.heap.size 2 _ (.inr (Nat.le_refl _))⟩
    · have hin':(r.n.toNat:Int)≤id:=by omega
      clear i3
      go_wp2_with fail
      have kA:=(((k4.set 0 (.int .i64 2) (by simp)).set 1 (.int .i64 1) (by simp)).set 2 (.int .i64 s.sx) (by simp))
      refine bodyPost_ret (zaB rfl _ _ w.heap.size [.int .i64 2,.int .i64 1,.int .i64 s.sx] _ rfl (fun j y hy=>by rw [Nat.zero_add];exact kA.cell j y hy) underlying54 rfl (by kernel_rfl)) rfl ?_
      exact ⟨rfl,h4.fin h.aS h.aI h.aB ⟨by omega,by omega,by omega,by omega,by omega,by omega⟩ (zaj (zaj (zaj (zaa (K:=(· =w.heap.size)) (Below.refl _ _)) w.heap.size 0 _ rfl) w.heap.size 1 _ rfl) w.heap.size 2 _ rfl),zai (zai (zai (hmv) w.heap.size 0 _ (.inr (Nat.le_refl _))) w.heap.size 1 _ (.inr (Nat.le_refl _))) w.heap.size 2 _ (.inr (Nat.le_refl _))⟩
end
end Go.Proofs
namespace Go.Proofs
open Go.Dw Go.RowKit Go.Maps Go.Sort Go.Deep
section
variable {fns fns':List Nat} {nw nw':Prop} {A A':Nat→Prop} {w w':World} {S P L Bs B I N:Nat} {r:Tryz.Rg} {s s':Tryz.DS} {g g':Nat→Int}
set_option maxRecDepth 100000 in
theorem Tryz.zk6 (h:DWf fns nw A w S P L Bs B I N r s g) (hs:0≤s.sx∧s.sx<r.n) (hnd:(s.L.map (·.id)).Nodup) {e:DO} (hel:(0≤e.id∧e.id<r.n)∧(1≤e.ct∧e.ct≤r.n)) (how:0≤s.own∧s.own+e.ct≤r.n) (hget:zby s.L (zac g (4096+16*s.sx+8).toNat 8/4294967296%65536)=some e)
    {s1:DS} (hs1:s1= { s with tok:=e.tk,wr:=zac g (4096+16*s.sx+8).toNat 8%4294967296,own:=s.own+e.ct,L:=za8 s.L e.id,sx:=(zaH r.n s.sx s.sw e.ct).1,sw:=(zaH r.n s.sx s.sw e.ct).2 }):
    Calls prog 126 #[.pointer (some ⟨S,0,none⟩)] w fun e w'=>e= .returned (.tuple #[.agg #[.int .i64 2,.int .i64 1,.int .i64 s.sx],.bool true])∧DWf fns nw A w' S P L Bs B I N r s1 g∧Dw.Mv (fun b=>b=S∨b=I) w w':=by
  have hlt:=h.mvNe
  have hb:=h.rg.bnd
  have hd:=h.rg.d
  have hN:=h.hN
  have hF:=h.fit
  have hbx:=(Below.refl w.heap.size w).alloc (Nat.le_refl _) (Obj.cells #[.int .i64 0,.int .i64 0,.int .i64 0] 54)
  have k2:=Cl.new w #[.int .i64 0,.int .i64 0,.int .i64 0] 54
  have hX:=h.box (Obj.cells #[.int .i64 0,.int .i64 0,.int .i64 0] 54)
  obtain ⟨stv,nowv,sgv,puv,h1,h1b⟩:=hX.obj
  have c12:=h1.cell 12 _ rfl
  have hbY:=(Below.refl (w.alloc (Obj.cells #[.int .i64 0,.int .i64 0,.int .i64 0] 54)).heap.size (w.alloc (Obj.cells #[.int .i64 0,.int .i64 0,.int .i64 0] 54))).alloc (Nat.le_refl _) (Obj.cells #[.int .i64 2,.int .i64 1,.int .i64 s.sx] 54)
  have hY:=hX.below hbY
  have kY:=k2.below hbY k2.lt
  have y2:=Cl.new (w.alloc (Obj.cells #[.int .i64 0,.int .i64 0,.int .i64 0] 54)) #[.int .i64 2,.int .i64 1,.int .i64 s.sx] 54
  rw [zas] at y2
  have oY:=h1.below hbY h1.lt
  have hbd:=(Below.refl ((w.alloc (Obj.cells #[.int .i64 0,.int .i64 0,.int .i64 0] 54)).alloc (Obj.cells #[.int .i64 2,.int .i64 1,.int .i64 s.sx] 54)).heap.size ((w.alloc (Obj.cells #[.int .i64 0,.int .i64 0,.int .i64 0] 54)).alloc (Obj.cells #[.int .i64 2,.int .i64 1,.int .i64 s.sx] 54))).drew
  have hYd:=hY.below hbd
  have kYd:=kY.below hbd kY.lt
  have yd:=y2.below hbd y2.lt
  have od:=oY.below hbd oY.lt
  have hpl:=zbs hYd hs
  obtain ⟨a,ha,ha2⟩: ∃a:Nat,(a:Int)=r.d+16*s.sx+8∧a+8≤N:=⟨(r.d+16*s.sx+8).toNat,by omega,by omega⟩
  have e3:IntKind.wrap .u64 (r.d+16*s.sx+8)=(a:Int):=by rw [wrap_u64 _ (by omega) (by omega)];omega
  have ea:(4096+16*s.sx+8).toNat=a:=by omega
  rw [ea] at hget hs1
  have hwb:=zaq g h.mem.byte a 8
  have hld:=zjh P L Bs B N a 8 g _ hYd.mem h.hN (by decide) ha2
  generalize zac g a 8=wv at hwb hld hget hs1
  have hwb2:0≤wv∧wv<18446744073709551616:=⟨hwb.1,by omega⟩
  obtain ⟨id,hid,hid2⟩: ∃id:Nat,wv/4294967296%65536=id∧id<65536:=⟨(wv/4294967296%65536).toNat,by omega,by omega⟩
  have hid3:IntKind.wrap .u16 (wv/4294967296)=id:=by rw [←hid];unfold IntKind.wrap;simp [IntKind.signed,IntKind.bits]
  rw [hid] at hget
  have hn0:((r.n.toNat:Nat):Int)=r.n:=by omega
  have d0:=od.cell 0 _ rfl;have d12:=od.cell 12 _ rfl;have v0:=oY.cell 0 _ rfl;have v12:=oY.cell 12 _ rfl
  have heid:e.id=id:=(zce hget).2
  rw [heid] at hs1 hel
  have hgo:=fun w'=>zqA (n:=r.n) (a:=s.sx) (c:=e.ct) (x:=s.sw) ⟨hb.1,by omega⟩ hs ⟨by omega,hel.2.2⟩ w'
  have hu0:=ze8 (n:=r.n) (a:=s.sx) (x:=s.sw) (c:=e.ct) hs ⟨by omega,hel.2.2⟩
  obtain ⟨u1,hu1⟩: ∃u1,u1=(zaH r.n s.sx s.sw e.ct).1:=⟨_,rfl⟩
  obtain ⟨u2,hu2⟩: ∃u2,u2=(zaH r.n s.sx s.sw e.ct).2:=⟨_,rfl⟩
  rw [←hu1] at hgo hu0 hs1
  rw [←hu2] at hgo hs1
  unfold posV at hgo
  have ew1:IntKind.wrap .i64 (s.own+e.ct)=s.own+e.ct:=zaT (by omega) (by omega)
  have ew2:IntKind.wrap .u32 wv=wv%4294967296:=by unfold IntKind.wrap;simp [IntKind.signed,IntKind.bits]
  have hin:id<r.n.toNat:=by omega
  have hin':(id:Int)<r.n.toNat:=by omega
  have hin2: ¬(r.n.toNat:Int)≤id:=by omega
  clear hs hb hd hN hF ha ha2 ea hwb hu1 hu2 hel hu0 how
  go_enter func126,ntmps126
  go_wp2_with fail
  go_region_held3 (fun w'=>w'.cell? ⟨S,0,none⟩=some (.pointer (some ⟨P,0,none⟩))∧w'.cell? ⟨S,12,none⟩=some (.int .i64 s.sx)) (go_keep)
    ((first
      | (go_at_call 57;refine hpl.mono ?_;rintro en w3 ⟨rfl,hw3⟩;have hw3:=hw3.symm;subst hw3)
      | (go_at_call 119;refine hld.mono ?_;rintro en w4 ⟨rfl,hb4⟩
         have h4:=hYd.below hb4;have o4:=od.below hb4 od.lt;have k4:=kYd.below hb4 kYd.lt;have y4:=yd.below hb4 yd.lt
         have x0:=o4.cell 0 _ rfl;have x12:=o4.cell 12 _ rfl)))
  obtain ⟨vs,i1,i2,i3⟩:=h4.ids
  have hids:=IdsW.del ⟨vs,i1,i2,i3⟩ hnd h4.aI hin
  obtain ⟨O,hOe,hOA,hO4⟩:=(i3 id (by omega)).2 e hget
  have hcell:=i1.cell id _ (List.getElem?_eq_getElem (by omega))
  rw [hOe] at hcell
  have hIf:=i1.free id
  have hOS:O≠S:=fun q=>hOA (q▸h4.aS)
  have hOI:O≠I:=fun q=>hOA (q▸h4.aI)
  have hOX:O≠w.heap.size:=fun q=>hOA (.inr q)
  have hSI:S≠I:=h.ne
  have hm5:Dw.Mv (· =I) w4 (w4.setCell ⟨I,id,none⟩ (.pointer none)):=zaj (K:=(· =I)) (zaa (Below.refl _ _)) I id _ rfl
  have hO5:=zag hO4 (hm5.block O (zaP hO4 (by simp [DO.cells])) hOI)
  have h5:=h4.setIds hm5 hids
  have o5:Cl (w4.setCell ⟨I,id,none⟩ (.pointer none)) S (({ s with L:=za8 s.L id }:DS).row r P I stv nowv sgv puv):=o4.kept (hm5.block S o4.lt hSI)
  have o6:=o5.set 22 (.int .i64 e.tk) (by show 22<27;decide)
  have o6b:=o5.set 23 (.int .u32 (wv%4294967296)) (by show 23<27;decide)
  have x15:=o4.cell 15 _ rfl;have x22c:=o5.cell 22 _ rfl;have x23c:=o6.cell 23 _ rfl;have x23d:=o5.cell 23 _ rfl;have x22d:=o6b.cell 22 _ rfl;have x22:=o5.free 22;have x23:=o6.free 23;have x23b:=o5.free 23;have x22b:=o6b.free 22;have m1:=hO5 1 _ rfl;have z15:=o5.cell 15 _ rfl
  have hXI:w.heap.size≠I:=by omega
  have hXS:w.heap.size≠S:=by omega
  have k5:=k4.kept (hm5.block _ k4.lt hXI)
  have hYI:w.heap.size+1≠I:=by omega
  have hYS:w.heap.size+1≠S:=by omega
  have y5:=y4.kept (hm5.block _ y4.lt hYI)
  have hF: ∀w7,Dw.Mv (· =S) (w4.setCell ⟨I,id,none⟩ (.pointer none)) w7→DWf fns nw (fun b=>A b∨b=w.heap.size) w7 S P L Bs B I N r ({ s with L:=za8 s.L id,tok:=e.tk,wr:=wv%4294967296 }:DS) g→Cl w7 S (({ s with L:=za8 s.L id,tok:=e.tk,wr:=wv%4294967296 }:DS).row r P I stv nowv sgv puv)→DWf fns nw (fun b=>A b∨b=w.heap.size) w7 S P L Bs B I N r ({ s with L:=za8 s.L id,tok:=e.tk,wr:=wv%4294967296 }:DS) g∧Cl w7 S (({ s with L:=za8 s.L id,tok:=e.tk,wr:=wv%4294967296 }:DS).row r P I stv nowv sgv puv)∧Dw.Mv (· =S) (w4.setCell ⟨I,id,none⟩ (.pointer none)) w7∧w7.rangeAt O 0 e.cells∧Cl w7 w.heap.size [.int .i64 0,.int .i64 0,.int .i64 0]∧Cl w7 (w.heap.size+1) [.int .i64 2,.int .i64 1,.int .i64 s.sx]:=fun w7 hm a b=>⟨a,b,hm,zag hO5 (hm.block O (zaP hO5 (by simp [DO.cells])) hOS),k5.kept (hm.block _ k5.lt hXS),y5.kept (hm.block _ y5.lt hYS)⟩
  have hA:=hF (((w4.setCell ⟨I,id,none⟩ (.pointer none)).setCell ⟨S,22,none⟩ (.int .i64 e.tk)).setCell ⟨S,23,none⟩ (.int .u32 (wv%4294967296))) (zaj (K:=(· =S)) (zaj (K:=(· =S)) (zaa (Below.refl _ _)) S 22 _ rfl) S 23 _ rfl) ((h5.setRow (s':=({ s with L:=za8 s.L id,tok:=e.tk }:DS)) 22 (.int .i64 e.tk) (by decide) (fun _ _ _ _=>rfl) rfl rfl rfl rfl).setRow (s':=({ s with L:=za8 s.L id,tok:=e.tk,wr:=wv%4294967296 }:DS)) 23 (.int .u32 (wv%4294967296)) (by decide) (fun _ _ _ _=>rfl) rfl rfl rfl rfl) (o6.set 23 (.int .u32 (wv%4294967296)) (by show 23<27;decide))
  have hB:=hF (((w4.setCell ⟨I,id,none⟩ (.pointer none)).setCell ⟨S,23,none⟩ (.int .u32 (wv%4294967296))).setCell ⟨S,22,none⟩ (.int .i64 e.tk)) (zaj (K:=(· =S)) (zaj (K:=(· =S)) (zaa (Below.refl _ _)) S 23 _ rfl) S 22 _ rfl) ((h5.setRow (s':=({ s with L:=za8 s.L id,wr:=wv%4294967296 }:DS)) 23 (.int .u32 (wv%4294967296)) (by decide) (fun _ _ _ _=>rfl) rfl rfl rfl rfl).setRow (s':=({ s with L:=za8 s.L id,tok:=e.tk,wr:=wv%4294967296 }:DS)) 22 (.int .i64 e.tk) (by decide) (fun _ _ _ _=>rfl) rfl rfl rfl rfl) (o6b.set 22 (.int .i64 e.tk) (by show 22<27;decide))
  clear hF
  have hIS:I≠S:=fun q=>hSI q.symm
  have hSO:S≠O:=fun q=>hOS q.symm
  have hIO:I≠O:=fun q=>hOI q.symm
  clear i3 hids hget
  go_wp2_with fail
  all_goals
    first
      | (rw [show (((w4.setCell ⟨I,id,none⟩ (.pointer none)).setCell ⟨S,22,none⟩ (.int .i64 e.tk)).setCell ⟨S,23,none⟩ (.int .u32 (wv%4294967296)))=(((w4.setCell ⟨I,id,none⟩ (.pointer none)).setCell ⟨S,22,none⟩ (.int .i64 e.tk)).setCell ⟨S,23,none⟩ (.int .u32 (wv%4294967296))) from rfl];generalize (((w4.setCell ⟨I,id,none⟩ (.pointer none)).setCell ⟨S,22,none⟩ (.int .i64 e.tk)).setCell ⟨S,23,none⟩ (.int .u32 (wv%4294967296)))=w7 at hA ⊢;obtain ⟨h7,o7,hm7,hO7,k7,y7⟩:=hA;clear hB)
      | (rw [show (((w4.setCell ⟨I,id,none⟩ (.pointer none)).setCell ⟨S,23,none⟩ (.int .u32 (wv%4294967296))).setCell ⟨S,22,none⟩ (.int .i64 e.tk))=(((w4.setCell ⟨I,id,none⟩ (.pointer none)).setCell ⟨S,23,none⟩ (.int .u32 (wv%4294967296))).setCell ⟨S,22,none⟩ (.int .i64 e.tk)) from rfl];generalize (((w4.setCell ⟨I,id,none⟩ (.pointer none)).setCell ⟨S,23,none⟩ (.int .u32 (wv%4294967296))).setCell ⟨S,22,none⟩ (.int .i64 e.tk))=w7 at hB ⊢;obtain ⟨h7,o7,hm7,hO7,k7,y7⟩:=hB;clear hA)
    have hOl7:O<w7.heap.size:=zaP hO7 (by simp [DO.cells])
    have n14:=o7.cell 14 _ rfl;have n2:=hO7 2 _ rfl;have f14:=o7.free 14
    go_cut [] from 80 to 90 (fun wx=>DWf fns nw (fun b=>A b∨b=w.heap.size) wx S P L Bs B I N r ({ s with L:=za8 s.L id,tok:=e.tk,wr:=wv%4294967296,own:=s.own+e.ct }:DS) g∧Cl wx S (({ s with L:=za8 s.L id,tok:=e.tk,wr:=wv%4294967296,own:=s.own+e.ct }:DS).row r P I stv nowv sgv puv)∧Cl wx w.heap.size [.int .i64 0,.int .i64 0,.int .i64 0]∧Cl wx (w.heap.size+1) [.int .i64 2,.int .i64 1,.int .i64 s.sx]∧wx.rangeAt O 0 e.cells∧Dw.Mv (· =S) w7 wx)
    case first=>
      go_region_law fail
      all_goals
        go_wp2_with fail
        go_meet
        have hm8:Dw.Mv (· =S) w7 (w7.setCell ⟨S,14,none⟩ (.int .i64 (s.own+e.ct))).drew:=(zaj (K:=(· =S)) (zaa (Below.refl w7.heap.size w7)) S 14 _ rfl).trans (zaa (Below.refl _ _).drew)
        exact ⟨(h7.setRow (s':=({ s with L:=za8 s.L id,tok:=e.tk,wr:=wv%4294967296,own:=s.own+e.ct }:DS)) 14 (.int .i64 (s.own+e.ct)) (by decide) (fun _ _ _ _=>rfl) rfl rfl rfl rfl).below (Below.refl _ _).drew,(o7.set 14 (.int .i64 (s.own+e.ct)) (by show 14<27;decide)).kept (w':=(w7.setCell ⟨S,14,none⟩ (.int .i64 (s.own+e.ct))).drew) rfl,k7.kept (hm8.block _ k7.lt hXS),y7.kept (hm8.block _ y7.lt hYS),zag hO7 (hm8.block O hOl7 hOS),hm8⟩
    case rest=>
      obtain ⟨h8,o8,k8,y8,hO8,hm8⟩:=hcut
      have hOl8:O<wc.heap.size:=zaP hO8 (by simp [DO.cells])
      clear n14 n2 f14
      have j12:=o8.cell 12 _ rfl;have j13:=o8.cell 13 _ rfl;have j2:=o8.cell 2 _ rfl;have jO:=hO8 2 _ rfl;have jf12:=o8.free 12;have jf13:=o8.free 13
      have hall:=((((((zaa (K:=fun b=>b=S∨b=I) hbx).trans (zaa hbY)).trans (zaa hbd)).trans (zaa hb4)).trans (hm5.mono fun b q=> .inr q)).trans (hm7.mono fun b q=> .inl q)).trans (hm8.mono fun b q=> .inl q)
      go_wp2_with fail
      go_cut [] from 91 to 110 (fun wx=>DWf fns nw (fun b=>A b∨b=w.heap.size) wx S P L Bs B I N r ({ s with L:=za8 s.L id,tok:=e.tk,wr:=wv%4294967296,own:=s.own+e.ct,sx:=u1,sw:=u2 }:DS) g∧Cl wx w.heap.size [.int .i64 0,.int .i64 0,.int .i64 0]∧Cl wx (w.heap.size+1) [.int .i64 2,.int .i64 1,.int .i64 s.sx]∧Dw.Mv (· =S) wc wx)
      case first=>
        go_region_law (first
          | (go_simp;go_at_call 113;refine (hgo wc.drew).mono ?_;rintro en w9 ⟨rfl,hb9⟩;have p9:=(o8.kept (w':=wc.drew) rfl).below hb9 o8.lt;have y12:=p9.cell 12 _ rfl;have y13:=p9.cell 13 _ rfl;have f12:=p9.free 12;have f13:=p9.free 13))
        all_goals
          go_wp2_with fail
          go_meet
          have hb89:Below wc.heap.size wc w9:=((Below.refl wc.heap.size wc).drew).trans hb9
          have h9:=((h8.below hb89).setRow (s':=({ s with L:=za8 s.L id,tok:=e.tk,wr:=wv%4294967296,own:=s.own+e.ct,sx:=u1 }:DS)) 12 (.int .i64 u1) (by decide) (fun _ _ _ _=>rfl) rfl rfl rfl rfl).setRow (s':=({ s with L:=za8 s.L id,tok:=e.tk,wr:=wv%4294967296,own:=s.own+e.ct,sx:=u1,sw:=u2 }:DS)) 13 (.bool u2) (by decide) (fun _ _ _ _=>rfl) rfl rfl rfl rfl
          have hmS:Dw.Mv (· =S) wc ((w9.setCell ⟨S,12,none⟩ (.int .i64 u1)).setCell ⟨S,13,none⟩ (.bool u2)):=zaj (K:=(· =S)) (zaj (K:=(· =S)) (zaa hb89) S 12 _ rfl) S 13 _ rfl
          exact ⟨h9,k8.kept (hmS.block _ k8.lt hXS),y8.kept (hmS.block _ y8.lt hYS),hmS⟩
      case rest=>
        obtain ⟨h10,k10,y10,hm10⟩:=hcut
        clear j12 j13 j2 jO jf12 jf13
        have u0:=y10.cell 0 _ rfl;have u1':=y10.cell 1 _ rfl;have u2':=y10.cell 2 _ rfl
        have b0:=k10.cell 0 _ rfl;have b1:=k10.cell 1 _ rfl;have b2:=k10.cell 2 _ rfl;have q0:=k10.free 0;have q1:=k10.free 1;have q2:=k10.free 2
        have hmv:=hall.trans (hm10.mono fun b q=> .inl q)
        go_wp2_with fail
        subst hs1
        have kA:=(((k10.set 0 (.int .i64 2) (by simp)).set 1 (.int .i64 1) (by simp)).set 2 (.int .i64 s.sx) (by simp))
        refine bodyPost_ret (zaB rfl _ _ w.heap.size [.int .i64 2,.int .i64 1,.int .i64 s.sx] _ rfl (fun j y hy=>by rw [Nat.zero_add];exact kA.cell j y hy) underlying54 rfl (by kernel_rfl)) rfl ?_
        exact ⟨rfl,h10.fin h.aS h.aI h.aB ⟨by omega,by omega,by omega,by omega,by omega,by omega⟩ (zaj (zaj (zaj (zaa (K:=(· =w.heap.size)) (Below.refl _ _)) w.heap.size 0 _ rfl) w.heap.size 1 _ rfl) w.heap.size 2 _ rfl),zai (zai (zai (hmv) w.heap.size 0 _ (.inr (Nat.le_refl _))) w.heap.size 1 _ (.inr (Nat.le_refl _))) w.heap.size 2 _ (.inr (Nat.le_refl _))⟩
end
end Go.Proofs
namespace Go.Proofs
open Go.Dw Go.RowKit Go.Maps Go.Sort Go.Deep
theorem Tryz.zup {α:Type} (l:List α) (b:List α) (x:α) (k:Nat) (h:k+b.length<l.length):(l.take k++b++l.drop (k+b.length)).set (k+b.length) x=l.take k++(b++ [x])++l.drop (k+b.length+1):=by
 have hk:(l.take k++b).length=k+b.length:=by rw [List.length_append,List.length_take];omega
 rw [List.set_append,if_neg (by omega),hk,Nat.sub_self,List.drop_eq_getElem_cons h,List.set_cons_zero]
 simp
set_option maxRecDepth 100000 in
theorem Tryz.zon {w:World} {X:Nat} {l:List Value} (h:Cl w X l) (hl:l.length=16) {at0 n:Nat} (v:Int) (hn:at0+n≤16) (hn8:n≤8):
  Calls prog 154 #[.pointer (some ⟨X,0,none⟩),.int .i64 at0,.int .i64 n,.int .u64 v] w fun e w'=>e= .returned (.tuple #[])∧Cl w' X (l.take at0++zaf (bytesOf v n)++l.drop (at0+n))∧Dw.Mv (· =X) w w':=by
 go_enter func154,ntmps154
 go_wp2
 go_loopw [10] (fun c wr=> ∃i:Nat,i≤n∧c= .int .i64 i∧Cl wr X (l.take at0++zaf (bytesOf v i)++l.drop (at0+i))∧Dw.Mv (· =X) w wr) (fun c _=>n-(RowKit.intOf c).toNat)
 case atStart=>exact ⟨0,Nat.zero_le _,rfl,by simpa [bytesOf,zaf] using h,Dw.Mv.refl _ _⟩
 case round=>
  obtain ⟨i,hi,rfl,st',mv⟩:=hrel
  by_cases hik:i<n
  ·have hlen:(zaf (bytesOf v i)).length=i:=by rw [zaf,List.length_map,zaF]
   have hll:(l.take at0++zaf (bytesOf v i)++l.drop (at0+i)).length=16:=by
    simp only [List.length_append,List.length_take,List.length_drop,hlen]
    omega
   have hc:=st'.cell (at0+i) _ (List.getElem?_eq_getElem (by omega))
   have hf:=st'.free (at0+i)
   have hw8:=wrap_u8 (v/2^(8*i))
   have hset:=st'.set (at0+i) (.int .u8 (v/2^(8*i)%256)) (by omega)
   have e1:zaf (bytesOf v (i+1))=zaf (bytesOf v i)++ [.int .u8 (v/2^(8*i)%256)]:=by rw [zgh,zaf,zaf,List.map_append];rfl
   have e2:=zup l (zaf (bytesOf v i)) (.int .u8 (v/2^(8*i)%256)) at0 (by omega)
   rw [hlen] at e2
   rw [e2,←e1] at hset
   obtain ⟨cv,hcv⟩: ∃cv,wr.cell? ⟨X,at0+i,none⟩=some cv:=⟨_,hc⟩
   clear hc e1 e2 hlen hll
   go_wp2
   have hm2:=(zaj (K:=(· =X)) mv X (at0+i) (.int .u8 (v/2^(8*i)%256)) rfl).trans (zaa (K:=(· =X)) (Below.refl _ _).drew)
   have e8:IntKind.wrap .i64 (8*(i:Int))=8*(i:Int):=zaT (by omega) (by omega)
   have eA:IntKind.wrap .i64 ((at0:Int)+(i:Int))=(at0:Int)+(i:Int):=zaT (by omega) (by omega)
   have y0:0≤8*(i:Int):=by omega
   have y1:8*(i:Int)≤64:=by omega
   have e9:(8*(i:Int)).toNat=8*i:=by omega
   have y2:0≤(at0:Int)+(i:Int)∧(at0:Int)+(i:Int)<16:=by omega
   have e7:((at0:Int)+(i:Int)).toNat=at0+i:=by omega
   go_region_law fail
   all_goals
    go_wp2
    exact ⟨⟨i+1,by omega,by push_cast;rfl,hset.kept rfl,hm2⟩,by simp only [RowKit.intOf];omega⟩
  ·have hik':i=n:=by omega
   subst hik'
   go_wp2
   go_end0
   exact ⟨rfl,st',mv⟩
theorem Tryz.ze7 {w:World} {X:Nat} {pre rest:List Value} (h:Cl w X (pre++rest)) (hl:pre.length+rest.length=16) {at0 n:Nat} (ha:at0=pre.length) (v:Int) (hn:at0+n≤16) (hn8:n≤8):
  Calls prog 154 #[.pointer (some ⟨X,0,none⟩),.int .i64 at0,.int .i64 n,.int .u64 v] w fun e w'=>e= .returned (.tuple #[])∧Cl w' X ((pre++zaf (bytesOf v n))++rest.drop n)∧Dw.Mv (· =X) w w':=by
 subst ha
 refine (zon h (by rw [List.length_append];exact hl) v hn hn8).mono ?_
 rintro e w' ⟨h1,h2,h3⟩
 refine ⟨h1,?_,h3⟩
 rw [List.take_left,List.drop_append,List.drop_of_length_le (by omega),Nat.add_sub_cancel_left,List.nil_append] at h2
 exact h2
theorem Tryz.zbF (v:Int) (n:Nat):(zaf (bytesOf v n)).length=n:=by rw [zaf,List.length_map,zaF]
set_option maxRecDepth 100000 in
theorem Tryz.zee (p:Pt) (hp:p.ok) (w:World):
    Calls prog 117 #[.agg #[.int .u64 p.a,.int .u32 p.ln,.int .u16 p.f,.int .u16 p.nx]] w fun e w'=> ∃X,w.heap.size≤X∧e= .returned (.slice (some ⟨X,0,none⟩) 16 16)∧Cl w' X (zaf p.bytes)∧Below w.heap.size w w':=by
  have hbx:=(Below.refl w.heap.size w).alloc (Nat.le_refl _) (Obj.cells #[.int .u64 p.a,.int .u32 p.ln,.int .u16 p.f,.int .u16 p.nx] 74)
  have hbz:=hbx.alloc (by simp) (Obj.cells #[.int .u8 0,.int .u8 0,.int .u8 0,.int .u8 0,.int .u8 0,.int .u8 0,.int .u8 0,.int .u8 0,.int .u8 0,.int .u8 0,.int .u8 0,.int .u8 0,.int .u8 0,.int .u8 0,.int .u8 0,.int .u8 0] 217)
  have kb:=(Cl.new w #[.int .u64 p.a,.int .u32 p.ln,.int .u16 p.f,.int .u16 p.nx] 74).alloc (Obj.cells #[.int .u8 0,.int .u8 0,.int .u8 0,.int .u8 0,.int .u8 0,.int .u8 0,.int .u8 0,.int .u8 0,.int .u8 0,.int .u8 0,.int .u8 0,.int .u8 0,.int .u8 0,.int .u8 0,.int .u8 0,.int .u8 0] 217)
  have kz:Cl ((w.alloc (Obj.cells #[.int .u64 p.a,.int .u32 p.ln,.int .u16 p.f,.int .u16 p.nx] 74)).alloc (Obj.cells #[.int .u8 0,.int .u8 0,.int .u8 0,.int .u8 0,.int .u8 0,.int .u8 0,.int .u8 0,.int .u8 0,.int .u8 0,.int .u8 0,.int .u8 0,.int .u8 0,.int .u8 0,.int .u8 0,.int .u8 0,.int .u8 0] 217)) (w.heap.size+1) ([]++List.replicate 16 (.int .u8 0)):=by
    have:=Cl.new (w.alloc (Obj.cells #[.int .u64 p.a,.int .u32 p.ln,.int .u16 p.f,.int .u16 p.nx] 74)) #[.int .u8 0,.int .u8 0,.int .u8 0,.int .u8 0,.int .u8 0,.int .u8 0,.int .u8 0,.int .u8 0,.int .u8 0,.int .u8 0,.int .u8 0,.int .u8 0,.int .u8 0,.int .u8 0,.int .u8 0,.int .u8 0] 217
    rw [zas] at this
    exact this
  have hne:w.heap.size≠w.heap.size+1:=by omega
  have e1:IntKind.wrap .u64 p.ln=p.ln:=wrap_u64 _ hp.ln.1 (by have:=hp.ln.2;omega)
  have e2:IntKind.wrap .u64 p.f=p.f:=wrap_u64 _ hp.f.1 (by have:=hp.f.2;omega)
  have e3:IntKind.wrap .u64 p.nx=p.nx:=wrap_u64 _ hp.nx.1 (by have:=hp.nx.2;omega)
  have q1:Calls prog 154 #[.pointer (some ⟨w.heap.size+1,0,none⟩),.int .i64 0,.int .i64 8,.int .u64 p.a] ((w.alloc (Obj.cells #[.int .u64 p.a,.int .u32 p.ln,.int .u16 p.f,.int .u16 p.nx] 74)).alloc (Obj.cells #[.int .u8 0,.int .u8 0,.int .u8 0,.int .u8 0,.int .u8 0,.int .u8 0,.int .u8 0,.int .u8 0,.int .u8 0,.int .u8 0,.int .u8 0,.int .u8 0,.int .u8 0,.int .u8 0,.int .u8 0,.int .u8 0] 217)) _:=ze7 kz (by simp) (at0:=0) (n:=8) rfl p.a (by decide) (by decide)
  have c0:=kb.cell 0 _ rfl
  go_enter func117,ntmps117
  go_wp2_with (first
    | (have zz:=k4;fail)
    | (go_at_call 154;have zz:=k3
       refine (ze7 k3 (by simp [zbF]) (at0:=14) (n:=2) (by simp [zbF]) p.nx (by decide) (by decide)).mono ?_;rintro en w4 ⟨rfl,k4,m4⟩
       have b4:=b3.kept (m4.block _ b3.lt hne))
    | (go_at_call 154;have zz:=k2
       refine (ze7 k2 (by simp [zbF]) (at0:=12) (n:=2) (by simp [zbF]) p.f (by decide) (by decide)).mono ?_;rintro en w3 ⟨rfl,k3,m3⟩
       have b3:=b2.kept (m3.block _ b2.lt hne);have d3:=b3.cell 3 _ rfl)
    | (go_at_call 154;have zz:=k1
       refine (ze7 k1 (by simp [zbF]) (at0:=8) (n:=4) (by simp [zbF]) p.ln (by decide) (by decide)).mono ?_;rintro en w2 ⟨rfl,k2,m2⟩
       have b2:=b1.kept (m2.block _ b1.lt hne);have d2:=b2.cell 2 _ rfl)
    | (go_at_call 154;refine q1.mono ?_;rintro en w1 ⟨rfl,k1,m1⟩
       have b1:=kb.kept (m1.block _ kb.lt hne);have d1:=b1.cell 1 _ rfl)
    | go_in)
  go_ret
  have hm:=(((m1.mono (S':=fun b=>w.heap.size≤b) fun b q=>by omega).trans (m2.mono fun b q=>by omega)).trans (m3.mono fun b q=>by omega)).trans (m4.mono fun b q=>by omega)
  refine ⟨w.heap.size+1,by omega,rfl,?_,?_⟩
  · simpa [Pt.bytes,zaf] using k4
  · exact hbz.trans ⟨hm.os,hm.tape,hm.output,hm.size,fun b hb=>hm.block b (Nat.lt_of_lt_of_le hb hbz.size) (by omega)⟩
end Go.Proofs
end
